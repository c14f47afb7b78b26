/- Part 3 of 19 of the proof. -/
import Derived.Test.YtljchnfgjdjobaaGreatUab
set_option linter.unusedVariables false
set_option linter.unusedSimpArgs false
set_option linter.defProp false
set_option linter.unusedSectionVars false
section
namespace Go.aI
open Go
inductive RX where
 | t (s:Nat)
 | c (s:Nat) (sz:Option Nat)
 deriving Inhabited
def Kw (P:Program):ResultVar→Option RX
 | .tmp t=>some (.t t)
 | .cell a t=>(JU P t).map (.c a)
def iu (P:Program):List ResultVar→Option (List RX)
 | []=>some []
 | r::rs=>match Kw P r,iu P rs with
   | some x,some xs=>some (x::xs)
   | _,_=>none
def sM:List RX→Env→List aa→(List AV→Prop)→Prop
 | [],_,_,φ=>φ []
 | .t s::r,env,H,φ=>sM r env H fun xs=>φ (get env s::xs)
 | .c s sz::r,env,H,φ=>aU sz (get env s) H fun x=>sM r env H fun xs=>φ (x::xs)
def b8 (n0:Nat) (rs:List RX) (env:Env) (H:List aa) (R:AV→List aa→Prop):Prop:=
 sM rs env H fun xs=>∃ m,n0≤m∧match xs with
  | [x]=>∃ r,x.le r∧r.a9 m=true∧R r (H.take m)
  | xs=>∃ ys,yY (xs.map AV.ab) ys∧aj m ys=true∧R (.tuple ys) (H.take m)
def ji (C:List aa→Nat→List aa→Prop) (n0:Nat) (rs:List RX) (env:Env) (H:List aa) (R:AV→List aa→Prop):Prop:=
 sM rs env H fun xs=>∃ m H',n0≤m∧C H m H'∧match xs with
  | [x]=>∃ r,x.le r∧r.a9 m=true∧R r H'
  | xs=>∃ ys,yY (xs.map AV.ab) ys∧aj m ys=true∧R (.tuple ys) H'
theorem sN:∀ {rs:List RX} {env:Env} {H:List aa} {φ ψ:List AV→Prop},(∀ xs,φ xs→ψ xs)→sM rs env H φ→sM rs env H ψ
 | [],env,H,φ,ψ,hm,h=>hm _ h
 | .t s::r,env,H,φ,ψ,hm,h=>sN (rs:=r) (fun xs hx=>hm _ hx) h
 | .c s sz::r,env,H,φ,ψ,hm,h=>kr (fun x hx=>sN (rs:=r) (fun xs hx=>hm _ hx) hx) h
theorem SR {n0:Nat} {rs:List RX} {env:Env} {H:List aa} {R:AV→List aa→Prop} (h:b8 n0 rs env H R):ji (fun H m H'=>H'=H.take m) n0 rs env H R:=
 sN (fun xs ⟨m,h1,h2⟩=>⟨m,H.take m,h1,rfl,h2⟩) h
def bV:Nat→List AV→Env
 | _,[]=>[]
 | k,x::xs=>(k,x)::bV (k + 1) xs
theorem mL:∀ (xs:List AV) (k t:Nat),get (bV k xs) t=if k≤t then xs.getD (t - k) .any else .any
 | [],k,t=>by simp [bV,get]
 | x::xs,k,t=>by
   simp only [bV,get]
   split
   ·rename_i e;subst e;simp
   ·rename_i e
    rw [mL xs (k + 1) t]
    by_cases h:k + 1≤t
    ·have:t - k=(t - (k + 1)) + 1:=by omega
     rw [if_pos h,if_pos (by omega),this];simp
    ·rw [if_neg h,if_neg (by omega)]
section
variable {P:Program} {A:Perm} {n:Nat} {M:Mem} {L:List Nat} {w:World} {H:List aa} {env:Env} {O:Pos→Option Nat} {a:Act}
def AW (tmps:Array Value):ResultVar→Sem Value:=fun
 | .tmp t=>pure (tmps.getD t undef)
 | .cell a t=>do loadVar t (← asAddr (tmps.getD a undef))
theorem CU {fn:Func} {tmps:Array Value} {vs:List Value} (h:(fn.results.toList.mapM (AW tmps)).run P w=.ok vs w) :
 (results fn tmps).run P w=.ok (if h:vs.toArray.size=1 then vs.toArray[0] else .tuple vs.toArray) w:=by
 have e:(results fn tmps)=(do
  let vs ← fn.results.mapM (AW tmps)
  pure (if h:vs.size=1 then vs[0] else .tuple vs)):=rfl
 rw [e,Array.mapM_eq_mapM_toList]
 simp only [Sem.run_bind,Sem.run_map,h]
 rfl
theorem AX (hf:Fr A n M L w H env O a):∀ (rs:List ResultVar) (is:List RX),iu P rs=some is→∀ {φ:List AV→Prop},sM is env H φ→
 ∃ vs xs,(rs.mapM (AW a.tmps)).run P w=.ok vs w∧φ xs∧aN M L vs xs∧(∀ s,is=[.t s]→xs=[get env s]∧vs=[a.tmps.getD s undef])∧(∀ s sz,is=[.c s sz]→∀ x,xs=[x]→∀ own ys,x=.ap own ys→own=0)
 | [],is,hc,φ,h=>by
   simp only [iu] at hc;cases hc
   exact ⟨[],[],by simp,h,.nil,(by intro s e;cases e),(by intro s sz e;cases e)⟩
 | r::rs,is,hc,φ,h=>by
   unfold iu at hc
   split at hc <;> cases hc
   rename_i x xs hx fS
   cases r with
   | tmp t=>
     simp only [Kw] at hx;cases hx
     simp only [sM] at h
     obtain ⟨vs,ys,h1,h2,h3,_⟩:=AX hf rs xs fS h
     refine ⟨a.tmps.getD t undef::vs,get env t::ys,?_,h2,.cons _ _ _ _ (hf.st.env t) h3,?_,?_⟩
     ·simp only [List.mapM_cons,Sem.run_bind,AW,Sem.run_pure,Result.andThen_ok,h1]
     ·intro s e
      cases e
      cases rs with
      | nil=>
        cases h3 with
        | nil=>exact ⟨rfl,rfl⟩
        | cons v x vs xs hh tt=>
          simp at h1
      | cons r rs=>
        unfold iu at fS
        split at fS <;> cases fS
     ·intro s sz e;cases e
   | cell p t=>
     simp only [Kw,tM] at hx
     obtain ⟨sz,db,rfl⟩:=hx
     simp only [sM] at h
     obtain ⟨r,z,k1,k2,k3,k4⟩:=sy (P:=P) db hf.st h (hf.st.env p)
     obtain ⟨vs,ys,h1,h2,h3,_⟩:=AX hf rs xs fS k3
     refine ⟨r::vs,z::ys,?_,h2,.cons _ _ _ _ k2 h3,?_,?_⟩
     ·have hl:(do loadVar t (← asAddr (a.tmps.getD p undef)):Sem Value).run P w=.ok r w:=by
       have fR:=hf.st.env p
       revert k1 fR
       generalize a.tmps.getD p undef=u
       intro k1 fR
       unfold aU at h
       split at h
       ·rename_i id off e
        rw [e] at fR
        cases fR
        exact k1
       ·rename_i y e
        rw [e] at fR
        cases fR
        exact k1
       ·exact h.elim
      have h1':(List.mapM (AW a.tmps) rs).run P w=.ok vs w:=h1
      simp only [List.mapM_cons,Sem.run_bind,AW] at hl ⊢
      rw [hl]
      simp only [Result.andThen_ok,h1']
      rfl
     ·intro s e;cases e
     ·intro s sz e x hx
      cases hx
      exact k4
theorem St.bc {ev:Nat→Value} {ea:Nat→AV} (h:St A M L w H ev ea O) {v:Value} {x:AV} (hr:aT M L v x) (ob:Option Nat) (hs:bj M w v x ob)
 (h1:∀ id j b,ob=some b→O (.c id j)≠some b) (h2:∀ b,ob=some b→b∉L∧b < w.heap.size∧A b) :
 ∃ O',St A M L w H (fJ (fun _=>undef) 0 v) (fJ (fun _=>.any) 0 x) O':=by
 have k1:=h.rf (fun _=>undef) (fun _=>.any) (fun _=>.any _) (fun _ _ _ e=>by cases e)
 exact ⟨_,k1.put 0 hr ob hs (fun p b hob hp=>by
  cases p with
  | t t=>cases hp
  | c id j=>exact absurd hp (h1 id j b hob)) h2⟩
theorem Hc {x:AV} {m:Nat} (hb:x.a9 m=true) (t:Nat):(fJ (fun _=>AV.any) 0 x t).a9 m=true:=by
 simp only [fJ]
 split
 ·exact hb
 ·rfl
theorem St.Kx {ev:Nat→Value} {ea:Nat→AV} (h:St A M L w H ev ea O) (A2:Perm) (hwr:A2.wr=A.wr) (n:Nat) {H':List aa} (hlen:H'.length=min n H.length)
 (hc:∀ (id:Nat) (o:aa),H'[id]?=some o→o=.dead∨(H[id]?=some o∧o.a9 (A2.iH H'.length id)=true)) (hb:∀ t,(ea t).a9 n=true):∃ O',St A2 M (L.take n) w H' ev ea O':=by
 let O':Pos→Option Nat:=fun p=>match p with | .t t=>O (.t t) | .c id j=>match H'[id]? with | some .dead=>none | some _=>O (.c id j) | none=>none
 have hO:∀ p b,O' p=some b→O p=some b:=by
  intro p b hp
  cases p with
  | t t=>exact hp
  | c id j=>
    simp only [O'] at hp
    split at hp <;> first | exact hp | cases hp
 have j5:∀ {α:Type} {l:List α} {i:Nat} {a:α},(l.take n)[i]?=some a→i < n∧l[i]?=some a:=by
  intro α l i a hi
  rw [aax] at hi
  split at hi
  ·exact ⟨by assumption,hi⟩
  ·cases hi
 have jv:∀ b,b∈L.take n→b∈L:=fun b hb=>abA hb
 refine ⟨O',{ len:=by simp [h.len,hlen],nodup:=(List.take_sublist n L).nodup h.nodup,env:=fun t=>(h.env t).gL (hb t),mem:=h.mem,obj:=?_,bG:=?_,lt:=fun b hb=>h.lt b (jv b hb),iL:=h.iL,iI:=?_,cj:=fun p q b hp hq=>h.cj p q b (hO p b hp) (hO q b hq),cv:=fun p b hp hm=>h.cv p b (hO p b hp) (jv b hm),fy:=fun p b hp=>h.fy p b (hO p b hp),La:=fun b hb=>by rw [hwr];exact h.La b (jv b hb),Oa:=fun p b hp=>by rw [hwr];exact h.Oa p b (hO p b hp),fresh:=fun b hb=>by rw [hwr];exact h.fresh b hb }⟩
 ·intro id o b ho dU
  obtain ⟨hn,dU⟩:=j5 dU
  rcases hc id o ho with rfl | ⟨h1,h2⟩
  ·trivial
  ·refine (h.obj id o b h1 dU).gL (aa.cC ?_ o h2)
   have:=A2.vQ H'.length id
   omega
 ·intro id o ho
  rcases hc id o ho with rfl | ⟨h1,h2⟩
  ·rfl
  ·exact h2
 ·intro id j
  have dead:∀ x:Option aa,H'[id]?=x→(x=none∨x=some .dead)→bj M w (bQ (L.take n) w id j) (bC H' id j) (O' (.c id j)):=by
   intro x hx Q6
   have e2:bC H' id j=.any:=by
    unfold bC
    rw [hx]
    rcases Q6 with rfl | rfl <;> rfl
   have e3:O' (.c id j)=none:=by
    simp only [O',hx]
    rcases Q6 with rfl | rfl <;> rfl
   rw [e2,e3]
   rfl
  cases hx:H'[id]? with
  | none=>exact dead none hx (.inl rfl)
  | some o=>
    by_cases ed:o=.dead
    ·subst ed;exact dead _ hx (.inr rfl)
    ·rcases hc id o hx with h' | ⟨h1,h2⟩
     ·exact absurd h' ed
     have hl:=aO hx
     have e1:bQ (L.take n) w id j=bQ L w id j:=by
      unfold bQ
      rw [aax,if_pos (by omega)]
     have e2:bC H' id j=bC H id j:=by
      unfold bC
      rw [hx,h1]
     have e3:O' (.c id j)=O (.c id j):=by
      simp only [O',hx]
     rw [e1,e2,e3]
     exact h.iI id j
theorem Hd:∀ {vs:List Value} {xs ys:List AV},aN M L vs xs→yY (xs.map AV.ab) ys→aN M L vs ys
 | _,_,[],.nil,h=>.nil
 | _,_,y::ys,.nil,h=>by simp [yY] at h
 | _,_,[],.cons _ _ _ _ _ _,h=>by simp [yY] at h
 | _,_,y::ys,.cons _ _ _ _ h1 h2,h=>by
   simp only [List.map_cons,yY] at h
   exact .cons _ _ _ _ (h1.ab.le h.1) (Hd h2 h.2)
def Marks (A:Perm) (w w2:World):Prop:=w2.heap.size=w.heap.size∧w2.os=w.os∧w2.tape=w.tape∧w2.output=w.output∧
 ∀ b,w2.heap[b]?=w.heap[b]?∨(A.base≤b∧¬ A b∧(∃ x,w.heap[b]?=some (.deferred x))∧∃ x,w2.heap[b]?=some (.deferred x))
theorem Marks.refl (A:Perm) (w:World):Marks A w w:=⟨rfl,rfl,rfl,rfl,fun b=>.inl rfl⟩
theorem Marks.trans {A:Perm} {w w1 w2:World} (h:Marks A w w1) (k:Marks A w1 w2):Marks A w w2:=by
 refine ⟨k.1.trans h.1,k.2.1.trans h.2.1,k.2.2.1.trans h.2.2.1,k.2.2.2.1.trans h.2.2.2.1,fun b=>?_⟩
 rcases h.2.2.2.2 b with h1 | ⟨h1,h2,h3,x,h4⟩ <;> rcases k.2.2.2.2 b with k1 | ⟨k1,k2,⟨y,k3⟩,k4⟩
 ·exact .inl (k1.trans h1)
 ·exact .inr ⟨k1,k2,⟨y,by rw [← h1];exact k3⟩,k4⟩
 ·exact .inr ⟨h1,h2,h3,x,by rw [k1];exact h4⟩
 ·exact .inr ⟨h1,h2,h3,k4⟩
theorem rq {A:Perm} {F:Fence} {m:Nat} {fn:Func} {tmps:Array Value} {R:Ending→World→Prop}:∀ (ds:List Deferred) {w:World},QX A w ds→(∀ w2,Marks A w w2→LeavesIn F m P fn tmps R [] .returning w2)→LeavesInM F m P fn tmps R ds .returning w
 | [],w,_,h=>h w (.refl A w)
 | d::ds,w,hd,h=>by
   obtain ⟨D,rfl,h2,h3,h4⟩:=hd.2.2 _ aaB
   have hm:Marks A w (w.putObj D (.deferred none)):=⟨World.putObj_size,rfl,rfl,rfl,fun b=>by
    by_cases e:b=D
    ·subst e
     exact .inr ⟨h4,h3,⟨_,h2⟩,_,World.putObj_heap_same (aaX.1 h2).1⟩
    ·exact .inl (World.putObj_heap_other e)⟩
   refine ⟨by simp,.inl ⟨D,_,rfl,run_takeDeferred h2,rq ds ⟨by rw [World.putObj_size];exact hd.1,(List.nodup_cons.1 hd.2.1).2,fun d' hd'=>?_⟩ fun w2 hm2=>h w2 (hm.trans hm2)⟩⟩
   obtain ⟨D',e',k2,k3⟩:=hd.2.2 d' (aay _ hd')
   refine ⟨D',e',?_,k3⟩
   rw [World.putObj_heap_other]
   ·exact k2
   ·rintro rfl
    exact (List.nodup_cons.1 hd.2.1).1 (e' ▸ hd')
theorem St.marks {ev:Nat→Value} {ea:Nat→AV} (h:St A M L w H ev ea O) {w2:World} (hm:Marks A w w2):St A M L w2 H ev ea O:=by
 obtain ⟨h1,_,_,_,h5⟩:=hm
 have same:∀ b,A b→w2.heap[b]?=w.heap[b]?:=fun b hb=>by
  rcases h5 b with h | ⟨_,h,_⟩
  ·exact h
  ·exact absurd hb h
 exact { len:=h.len,nodup:=h.nodup,env:=h.env,bG:=h.bG,cj:=h.cj,cv:=h.cv,La:=h.La,Oa:=h.Oa
         mem:=fun b o v hv=>by
          have hc:=h.mem b o v hv
          rcases h5 b with e | ⟨_,_,⟨x,e⟩,_⟩
          ·simp only [World.cell?] at hc ⊢;rw [e];exact hc
          ·simp [World.cell?,e] at hc
         obj:=fun id o b ho hb=>(h.obj id o b ho hb).mono (Mem.bT M) (aau L) (same b (h.La b (aaI hb))) (fun _=>rfl)
         lt:=fun b hb=>by rw [h1];exact h.lt b hb
         iL:=fun t=>(h.iL t).mono fun b hb=>⟨same b (h.Oa _ b hb),fun _=>rfl⟩
         iI:=fun id j=>by
          have e:bQ L w2 id j=bQ L w id j:=by
           unfold bQ
           split
           ·rename_i b hb
            simp only [World.cell?]
            rw [same b (h.La b (aaI hb))]
           ·rfl
          rw [e]
          exact (h.iI id j).mono fun b hb=>⟨same b (h.Oa _ b hb),fun _=>rfl⟩
         fy:=fun p b hp=>by rw [h1];exact h.fy p b hp
         fresh:=fun b hb=>h.fresh b (by rw [← h1];exact hb) }
theorem Ext.marks {A A':Perm} {M M':Mem} {w w' w2:World} (h:Ext A M w M' w') (hm:Marks A' w' w2) (hb:w.heap.size≤A'.base):Ext A M w M' w2:=by
 obtain ⟨h1,h2,h3,h4,h5⟩:=hm
 refine ⟨h.lH,by rw [h1];exact h.size,h2.trans h.os,h3.trans h.tape,h4.trans h.output,fun b aX hA=>?_,fun b r hr=>?_⟩
 ·obtain ⟨k1,k2⟩:=h.j4 b aX hA
  refine ⟨?_,k2⟩
  rcases h5 b with e | ⟨e,_⟩
  ·exact e.trans k1
  ·omega
 ·obtain ⟨r',k1,k2⟩:=h.loops b r hr
  rcases h5 b with e | ⟨_,_,⟨x,e⟩,_⟩
  ·exact ⟨r',e.trans k1,k2⟩
  ·rw [k1] at e;cases e
theorem qh {lo:Option Nat} {b:Bool} (A1:Perm→Perm) (C:List aa→Nat→List aa→Prop) {f:FuncId} {fn:Func} {c:Code} {an:B9} {lv:lF} {pl:lG} {ir:IR} {rs:List RX} {args:List AV} {R:AV→List aa→Prop}
 (hf:P.funcs[f]?=some fn) (hcall:∀ (as:Array Value) (w:World),(callFunc f as).run P w=.ok (.enter f as) w) (hb:fn.body=some c) (hc:comp P an lv pl fn.ntmps c=some ir) (uS:iu P fn.results.toList=some rs)
 (h1:∀ A:Perm,A.entry b H.length→fM lo H.length (A1 A)) (h2:∀ A:Perm,(A1 A).wr=A.wr) (h3:∀ (A:Perm) {M:Mem} {L:List Nat} {w:World} {ev:Nat→Value} {ea:Nat→AV} {O:Pos→Option Nat},A.entry b H.length→St A M L w H ev ea O→St (A1 A) M L w H ev ea O)
 (h4:∀ (A:Perm) {M:Mem} {L:List Nat} {w:World} {H':List aa} {ev:Nat→Value} {ea:Nat→AV} {O:Pos→Option Nat} {m:Nat} {H'':List aa},A.entry b H.length→H.length≤m→H.length≤H'.length→C H' m H''→St (A1 A) M L w H' ev ea O→(∀ t,(ea t).a9 m=true)→∃ O',St A M (L.take m) w H'' ev ea O')
 (hn:args.length≤fn.ntmps) (Rt:Env→List aa→Prop) (hRt:∀ env H',Rt env H'→ji C H.length rs env H' R) (h:mn ⟨P,lo⟩ H.length ir (bV 0 args) H fun e env H'=>(e=.normal∨e=.ret)∧Rt env H'):lh b P f args H R:=by
 refine fun A M L w vs O hA hs WG=>.inl ⟨hcall _ _,callsIn_wide.1 (callsIn_of_wp_marks (F:=Fence.wide) (n:=0) hf hb trivial ?_ rfl)⟩
 obtain ⟨A2,Fj⟩:∃ A2:Perm,A2={ A1 A with base:=w.heap.size }:=⟨_,rfl⟩
 have a2w:A2.wr=A.wr:=by rw [Fj];exact h2 A
 have st12:∀ {M:Mem} {L:List Nat} {w:World} {H:List aa} {ev:Nat→Value} {ea:Nat→AV} {O:Pos→Option Nat},St (A1 A) M L w H ev ea O→St A2 M L w H ev ea O:=by
  intro M L w H ev ea O h;subst Fj
  exact { len:=h.len,nodup:=h.nodup,env:=h.env,mem:=h.mem,obj:=h.obj,bG:=h.bG,lt:=h.lt,iL:=h.iL,iI:=h.iI,cj:=h.cj,cv:=h.cv,fy:=h.fy,La:=h.La,Oa:=h.Oa,fresh:=h.fresh }
 have st21:∀ {M:Mem} {L:List Nat} {w:World} {H:List aa} {ev:Nat→Value} {ea:Nat→AV} {O:Pos→Option Nat},St A2 M L w H ev ea O→St (A1 A) M L w H ev ea O:=by
  intro M L w H ev ea O h;subst Fj
  exact { len:=h.len,nodup:=h.nodup,env:=h.env,mem:=h.mem,obj:=h.obj,bG:=h.bG,lt:=h.lt,iL:=h.iL,iI:=h.iI,cj:=h.cj,cv:=h.cv,fy:=h.fy,La:=h.La,Oa:=h.Oa,fresh:=h.fresh }
 have bS:=st12 (h3 A hA WG)
 have hfits:fM lo H.length A2:=by rw [Fj];exact h1 A hA
 have IB:L.length=H.length:=WG.len
 have EF:Fr A2 fn.ntmps M L w H (bV 0 args) O { tmps:=vs++Array.replicate (fn.ntmps - vs.size) undef,defers:=[] }:=by
  refine ⟨bS.congr ?_ ?_,by simp;omega,⟨by rw [Fj];exact oN _,List.nodup_nil,fun d h=>by cases h⟩⟩
  ·intro t
   simp only [aaL]
   by_cases ht:t < vs.size
   ·rw [Array.getElem?_append_left ht]
   ·rw [Array.getElem?_append_right (by omega),Array.getElem?_eq_none (xs:=vs) (by omega),aex]
    split <;> rfl
  ·intro t
   rw [mL];simp
 rw [← bS.len] at h hfits
 refine Go.wpIn_mono (Fi (ro:=none) (L0:=L) c ir hc hfits (fun l e=>by cases e) h EF (aau L)) ?_
 rintro e a w1 ⟨A',M',L',H',env,O',hle,⟨he,IJ⟩,N9,hext1,hL⟩
 have base:A'.base=w.heap.size:=by rw [hle.2.2,Fj]
 have done:(∀ w',Marks A' w1 w'→LeavesIn Fence.wide 0 P fn a.tmps (fun e w'=>∃ v r H' M' L' O',e=.returned v∧R r H'∧St A M' L' w' H' (fJ (fun _=>undef) 0 v) (fJ (fun _=>.any) 0 r) O'∧Ext A M w M' w'∧L <+: L') [] .returning w')→
  bodyPostM Fence.wide 0 P fn (fun e w'=>∃ v r H' M' L' O',e=.returned v∧R r H'∧St A M' L' w' H' (fJ (fun _=>undef) 0 v) (fJ (fun _=>.any) 0 r) O'∧Ext A M w M' w'∧L <+: L') e a w1:=by
  intro hd
  rcases he with rfl | rfl <;> exact rq _ N9.defers hd
 refine done fun w' hm=>?_
 have AY:Fr A2 fn.ntmps M' L' w' H' env O' { a with defers:=[] }:=
  ⟨(N9.st.marks hm).le hle,N9.size,⟨by rw [hm.1,← hle.2.2];exact N9.defers.1,List.nodup_nil,fun d h=>by cases h⟩⟩
 have cF:Ext A M w M' w':=by
  have:=hext1.marks hm (Nat.le_of_eq base.symm)
  exact ⟨this.lH,this.size,this.os,this.tape,this.output,fun b hb hA=>this.j4 b hb (by rw [a2w];exact hA),this.loops⟩
 have hlen2:H.length≤H'.length:=by have:=hL.length_le;rw [IB,AY.st.len] at this;exact this
 have goal:∃ v,(results fn a.tmps).run P w'=.ok v w'∧∃ v' r H'' M'' L'' O'',Ending.returned v=.returned v'∧R r H''∧St A M'' L'' w' H'' (fJ (fun _=>undef) 0 v') (fJ (fun _=>.any) 0 r) O''∧Ext A M w M'' w'∧L <+: L'':=by
  replace IJ:=hRt _ _ IJ
  unfold ji at IJ
  obtain ⟨us,xs,k1,⟨m,H2,hm,hC,k2⟩,k3,k4,k5⟩:=AX (P:=P) AY _ _ uS IJ
  have mr:L <+: L'.take m:=by
   obtain ⟨r,rfl⟩:=hL
   exact ⟨r.take (m - L.length),by rw [aeD,aaw (show L.length≤m by omega)]⟩
  have bL:=CU k1
  split at k2
  ·rename_i x
   obtain ⟨r,hle,hb,hR⟩:=k2
   cases k3 with
   | cons v _ _ _ hv ht=>
   cases ht
   refine ⟨v,by simpa using bL,v,r,H2,M',L'.take m,?_⟩
   have uP:∃ ob,bj M' w' v x ob∧(∀ id j b,ob=some b→O' (.c id j)≠some b)∧(∀ b,ob=some b→b∉L'∧b < w'.heap.size∧A2 b):=by
    match rs,uS,k4,k5 with
    | [],uS,_,_=>
      unfold iu at uS
      split at uS
      ·rename_i e
       rw [e] at k1
       simp at k1
      ·split at uS <;> cases uS
    | [.t s],_,k4,_=>
      obtain ⟨e1,e2⟩:=k4 s rfl
      cases e1;cases e2
      refine ⟨O' (.t s),AY.st.iL s,fun id j b hb hc=>?_,fun b hb=>⟨AY.st.cv _ b hb,AY.st.fy _ b hb,AY.st.Oa _ b hb⟩⟩
      exact absurd (AY.st.cj _ _ b hb hc) (by intro e;cases e)
    | [.c s sz],_,_,k5=>
      exact ⟨none,bj.free (k5 s sz rfl x rfl),(fun _ _ _ e=>by cases e),(fun _ e=>by cases e)⟩
    | r1::r2::rs,uS,_,_=>
      unfold iu at uS
      split at uS
      ·cases uS
      ·split at uS <;> cases uS
       rename_i h1 h2
       unfold iu at h2
       split at h2
       ·cases h2
       ·rename_i e
        rw [e] at k1
        simp only [List.mapM_cons,Sem.run_bind] at k1
        revert k1
        generalize JX:(AW a.tmps _).run P w'=g1
        cases g1 <;> simp
        generalize hg2:(AW a.tmps _).run P _=g2
        cases g2 <;> simp
        generalize hg3:(List.mapM (AW a.tmps) _).run P _=g3
        cases g3 <;> simp
   obtain ⟨ob,o1,o2,o3⟩:=uP
   obtain ⟨ob',p1,p2⟩:=o1.le hv hle
   obtain ⟨O'',mC⟩:=AY.st.bc (hv.le hle) ob' p1 (fun id j b hb=>by
    rcases p2 with rfl | rfl
    ·cases hb
    ·exact o2 id j b hb) (fun b hb=>by
    rcases p2 with rfl | rfl
    ·cases hb
    ·exact o3 b hb)
   obtain ⟨O3,Ky⟩:=h4 A hA (by omega) hlen2 hC (st21 mC) (Hc hb)
   exact ⟨O3,rfl,hR,Ky,cF,mr⟩
  ·rename_i dG
   obtain ⟨ys,hle,hb,hR⟩:=k2
   have hlen:us.toArray.size≠1:=by
    have:=k3.length
    intro e
    simp at e
    rw [e] at this
    match xs,this with
    | [x],_=>exact dG x rfl
   rw [dif_neg hlen] at bL
   refine ⟨.tuple us.toArray,bL,.tuple us.toArray,.tuple ys,H2,M',L'.take m,?_⟩
   obtain ⟨O'',mC⟩:=AY.st.bc (.tuple _ _ (Hd k3 hle)) none (bj.free (by intro _ _ e;cases e)) (fun _ _ _ e=>by cases e) (fun _ e=>by cases e)
   obtain ⟨O3,Ky⟩:=h4 A hA (by omega) hlen2 hC (st21 mC) (Hc (x:=.tuple ys) hb)
   exact ⟨O3,rfl,hR,Ky,cF,mr⟩
 exact goal
theorem qi {A:Perm} {k:Nat} (h:A.entry false k):fM none k A:=⟨h.1,fun id bm=>by rw [h.2 id bm];rfl⟩
theorem CV {A:Perm} {k:Nat} (h:A.entry true k):fM (some k) k A:=⟨h.1,rfl,fun id bm=>by rw [h.2 id bm];rfl⟩
theorem IK {f:FuncId} {fn:Func} {c:Code} {an:B9} {lv:lF} {pl:lG} {ir:IR} {rs:List RX} {args:List AV} {R:AV→List aa→Prop}
 (hf:P.funcs[f]?=some fn) (hcall:∀ (as:Array Value) (w:World),(callFunc f as).run P w=.ok (.enter f as) w) (hb:fn.body=some c) (hc:comp P an lv pl fn.ntmps c=some ir) (uS:iu P fn.results.toList=some rs)
 (hn:args.length≤fn.ntmps) (h:mn P H.length ir (bV 0 args) H fun e env H'=>(e=.normal∨e=.ret)∧b8 H.length rs env H' R):aw P f args H R:=by
 refine qh (lo:=none) (b:=false) (fun A=>A) (fun H m H'=>H'=H.take m) hf hcall hb hc uS (fun A=>qi) (fun A=>rfl) (fun A _ _ _ _ _ _ _ h=>h) ?_ hn (fun env H'=>b8 H.length rs env H' R) (fun env H'=>SR) h
 intro A M L w H' ev ea O m H'' hA hm hl e bS Ig
 subst e
 exact bS.cut m (fun id o=>(qi hA).closed hm bS id o) Ig
def ot (k:Nat) (A:Perm):Perm where
 wr:=A.wr
 top:=fun id=>if id < k then A.top id else none
 ok:=fun id n h=>by
  split at h
  ·exact A.ok id n h
  ·cases h
theorem CW {A:Perm} {k:Nat} {b:Bool} (h:A.entry b k):fM (some k) k (ot k A):=
 ⟨fun id bm=>by obtain ⟨m,h1,h2⟩:=h.1 id bm;exact ⟨m,h1,by simp only [ot,if_pos bm];exact h2⟩,rfl,fun id bm=>by simp only [ot];rw [if_neg (by omega)]⟩
def nu (n0:Nat) (H:List aa) (m:Nat) (H':List aa):Prop:=
 H'.length=min m H.length∧∀ (id:Nat) (o:aa),H'[id]?=some o→o=.dead∨(H[id]?=some o∧(n0≤id→o.a9 (id + 1)=true))
def wG (n0:Nat) (H:List aa) (m:Nat) (H':List aa):Prop:=
 H'.length=min m H.length∧∀ (id:Nat) (o:aa),H'[id]?=some o→o=.dead∨(H[id]?=some o∧(n0≤id→o.a9 H'.length=true))
theorem Fk {f:FuncId} {fn:Func} {c:Code} {an:B9} {lv:lF} {pl:lG} {ir:IR} {rs:List RX} {args:List AV} {R:AV→List aa→Prop}
 (hf:P.funcs[f]?=some fn) (hcall:∀ (as:Array Value) (w:World),(callFunc f as).run P w=.ok (.enter f as) w) (hb:fn.body=some c) (hc:comp P an lv pl fn.ntmps c=some ir) (uS:iu P fn.results.toList=some rs)
 (hn:args.length≤fn.ntmps) (h:mn ⟨P,some H.length⟩ H.length ir (bV 0 args) H fun e env H'=>(e=.normal∨e=.ret)∧ji (nu H.length) H.length rs env H' R):aw P f args H R:=by
 refine qh (lo:=some H.length) (b:=false) (ot H.length) (nu H.length) hf hcall hb hc uS (fun A hA=>CW hA) (fun A=>rfl) (fun A M L w ev ea O hA bS=>?_) ?_ hn (fun env H'=>ji (nu H.length) H.length rs env H' R) (fun env H' h=>h) h
 ·exact { len:=bS.len,nodup:=bS.nodup,env:=bS.env,mem:=bS.mem,obj:=bS.obj,lt:=bS.lt,iL:=bS.iL,iI:=bS.iI,cj:=bS.cj,cv:=bS.cv,fy:=bS.fy,La:=bS.La,Oa:=bS.Oa,fresh:=bS.fresh
          bG:=fun id o ho=>by
           have:=bS.bG id o ho
           have e:(ot H.length A).iH H.length id=A.iH H.length id:=by unfold Perm.iH;simp only [ot,if_pos (aO ho)]
           rw [e];exact this }
 ·intro A M L w H' ev ea O m H'' hA hm hl hC bS Ig
  obtain ⟨hlen,hC⟩:=hC
  refine bS.Kx A rfl m hlen (fun id o ho=>?_) Ig
  rcases hC id o ho with h' | ⟨h1,h2⟩
  ·exact .inl h'
  ·refine .inr ⟨h1,?_⟩
   by_cases bm:id < H.length
   ·obtain ⟨k,hk,ek⟩:=hA.1 id bm
    have:=bS.bG id o h1
    have e1:(ot H.length A).iH H'.length id=min k H'.length:=by unfold Perm.iH;simp only [ot,if_pos bm,ek]
    have e2:A.iH H''.length id=min k H''.length:=by unfold Perm.iH;simp only [ek]
    rw [e1] at this
    rw [e2]
    exact aa.cC (by omega) o this
   ·have e2:A.iH H''.length id=min (id + 1) H''.length:=by unfold Perm.iH;rw [hA.2 id (by omega)];rfl
    have:=aO ho
    rw [e2]
    exact aa.cC (by omega) o (h2 (by omega))
theorem Fl {f:FuncId} {fn:Func} {c:Code} {an:B9} {lv:lF} {pl:lG} {ir:IR} {rs:List RX} {args:List AV} {R:AV→List aa→Prop}
 (hf:P.funcs[f]?=some fn) (hcall:∀ (as:Array Value) (w:World),(callFunc f as).run P w=.ok (.enter f as) w) (hb:fn.body=some c) (hc:comp P an lv pl fn.ntmps c=some ir) (uS:iu P fn.results.toList=some rs)
 (hn:args.length≤fn.ntmps) (h:mn ⟨P,some H.length⟩ H.length ir (bV 0 args) H fun e env H'=>(e=.normal∨e=.ret)∧ji (wG H.length) H.length rs env H' R):jc P f args H R:=by
 refine qh (lo:=some H.length) (b:=true) (fun A=>A) (wG H.length) hf hcall hb hc uS (fun A hA=>CV hA) (fun A=>rfl) (fun A _ _ _ _ _ _ _ h=>h) ?_ hn (fun env H'=>ji (wG H.length) H.length rs env H' R) (fun env H' h=>h) h
 intro A M L w H' ev ea O m H'' hA hm hl hC bS Ig
 obtain ⟨hlen,hC⟩:=hC
 refine bS.Kx A rfl m hlen (fun id o ho=>?_) Ig
 rcases hC id o ho with h' | ⟨h1,h2⟩
 ·exact .inl h'
 ·refine .inr ⟨h1,?_⟩
  by_cases bm:id < H.length
  ·obtain ⟨k,hk,ek⟩:=hA.1 id bm
   have:=bS.bG id o h1
   have e1:A.iH H'.length id=min k H'.length:=by unfold Perm.iH;simp only [ek]
   have e2:A.iH H''.length id=min k H''.length:=by unfold Perm.iH;simp only [ek]
   rw [e1] at this
   rw [e2]
   exact aa.cC (by omega) o this
  ·have e2:A.iH H''.length id=H''.length:=by unfold Perm.iH;rw [hA.2 id (by omega)];rfl
   rw [e2]
   exact h2 (by omega)
end
end Go.aI
end
section
namespace Go.aI
open Go
section
variable {P:Program}
theorem ru:∀ (l:List (Nat×Value)) (t:Array Value),(l.foldl (fun t p=>t.setIfInBounds p.1 p.2) t).size=t.size
 | [],t=>rfl
 | p::l,t=>by rw [List.foldl_cons,ru l];simp
theorem um {M:Mem} {L:List Nat}:∀ {ps:List Nat} {vs:List Value} {xs:List AV} {t:Array Value} {env:Env},aN M L vs xs→(∀ p∈ps,p < t.size)→(∀ s,aT M L (t.getD s undef) (get env s))→
 ∀ s,aT M L (((ps.zip vs).foldl (fun t p=>t.setIfInBounds p.1 p.2) t).getD s undef) (get ((ps.zip xs).reverse++env) s)
 | [],_,_,t,env,_,_,h,s=>by simpa using h s
 | p::ps,[],[],t,env,_,_,h,s=>by simpa using h s
 | p::ps,v::vs,x::xs,t,env,hr,hp,h,s=>by
   cases hr with
   | cons _ _ _ _ h1 h2=>
   simp only [List.zip_cons_cons,List.foldl_cons,List.reverse_cons,aaD,List.singleton_append]
   refine um (env:=(p,x)::env) h2 (fun q hq=>by simpa using hp q (aay _ hq)) (fun s=>?_) s
   have vi:=hp p aaB
   simp only [aaL,acN,get]
   by_cases e:s=p
   ·subst e;simp [vi,h1]
   ·rw [if_neg (fun e'=>e e'.symm),if_neg e]
    have:=h s
    rwa [aaL] at this
theorem Kz {es:List AV} (h:∀ x∈es,∀ own xs,x=.ap own xs→own=0) {l:List (Nat×AV)} (hl:∀ p∈l,∀ own xs,p.2=.ap own xs→own=0) (s:Nat):∀ own xs,get (l++bV 0 es) s=.ap own xs→own=0:=by
 induction l with
 | nil=>
   intro own xs e
   rw [List.nil_append,mL,if_pos (ab0 _),oM] at e
   cases hx:es[s - 0]? with
   | none=>rw [hx] at e;cases e
   | some x=>rw [hx] at e;exact h x (aaI hx) own xs e
 | cons p l ih=>
   obtain ⟨k,v⟩:=p
   intro own xs e
   simp only [List.cons_append,get] at e
   split at e
   ·exact hl (k,v) (by simp) own xs e
   ·exact ih (fun p hp=>hl p (by simp [hp])) own xs e
def IM (n0:Nat) (b:Bool) (H:List aa) (R:AV→List aa→Prop):Prop:=n0≤H.length∧R (.bool b) (H.take n0)
def rv (n0 id:Nat) (R:AV→List aa→Prop) (e:Exit) (H:List aa):Prop:=
 match H[id]? with
 | some (.loop .busy lc es)=>(match e with
   | .normal=>IM n0 true (H.set id (.loop .ready lc es)) R
   | .ret=>IM n0 false (H.set id (.loop (.jump .ret) lc es)) R
   | .exit k=>IM n0 false (H.set id (.loop (.jump (.exit k)) lc es)) R
   | _=>False)
 | _=>False
def ky (id:Nat) (H:List aa) (K:List aa→Prop):Prop:=
 match H[id]? with
 | some (.loop .ready lc es)=>K (H.set id (.loop .busy lc es))
 | _=>False
def abD (lc:jg) (es:List AV) (args:List AV):Prop:=es.length=lc.n∧args.length=lc.ps.length∧lc.ps.all (· < lc.n)=true∧(∀ x∈es,x.ab=x)∧∀ x∈args,x.ab=x
theorem wH {x:AV} (h:x.ab=x):∀ own xs,x=.ap own xs→own=0:=by
 rintro own xs rfl
 simp only [AV.ab] at h
 cases h;rfl
theorem o6 {id:Nat} {args:List AV} {H:List aa} {lc:jg} {es:List AV} {ia ib:IR} {R:AV→List aa→Prop} (bm:H[id]?=some (.loop .ready lc es))
 (ha:comp P lc.an lc.lv lc.pl lc.n lc.as=some ia) (hb:comp P lc.an lc.lv lc.pl lc.n lc.bd=some ib) (Av:abD lc es args)
 (h:mn P H.length ia ((lc.ps.zip args).reverse++bV 0 es) H fun e env1 H1=>e=.normal∧ky id H1 fun H2=>mn P H.length ib env1 H2 fun e _ H3=>rv H.length id R e H3):ko P id args H R:=by
 intro A M L w vs O b hA hs hL bS
 obtain ⟨r,q1,q2,q3,q4,q5,q6⟩:=bS.obj id _ b bm hL
 obtain ⟨c1,c2,c3,c4,c5⟩:=Av
 have IB:L.length=H.length:=bS.len
 have yP:b∈L:=aaI hL
 refine ⟨r.fn,_,r.assign,r.body,run_yield q1 (by rw [q2];simp;omega),?_⟩
 have htz:(r.params.zip vs).foldl (fun t (p:Nat×Value)=>t.setIfInBounds p.1 p.2) r.tmps=(lc.ps.zip vs.toList).foldl (fun t p=>t.setIfInBounds p.1 p.2) r.tmps:=by
  rw [q2,← aeV]
  simp
 have htm:((r.params.zip vs).foldl (fun tmps (x:Nat×Value)=>match x with | (t,a)=>tmps.setIfInBounds t a) r.tmps)=(lc.ps.zip vs.toList).foldl (fun t p=>t.setIfInBounds p.1 p.2) r.tmps:=htz
 rw [htm,q3,q4]
 obtain ⟨t0,WH⟩:∃ t0,t0=(lc.ps.zip vs.toList).foldl (fun t p=>t.setIfInBounds p.1 p.2) r.tmps:=⟨_,rfl⟩
 rw [← WH]
 have db:r.tmps.size=lc.n:=by have:=q5.length;rw [c1] at this;simpa using this
 have yf:aN M L vs.toList args:=by
  refine aN.An (by simpa using hs) fun j x hx=>?_
  have h1:=bS.env j
  have hj:j < vs.size:=by rw [hs];exact aO hx
  refine ⟨vs[j],by simp [hj],?_⟩
  simp only [aaL,oM,hx,Option.getD_some,adm hj] at h1
  exact h1
 have fR:∀ s,aT M L (t0.getD s undef) (get ((lc.ps.zip args).reverse++bV 0 es) s):=by
  rw [WH]
  refine um yf (fun p hp=>by rw [db];simpa using aaJ.1 c3 p hp) fun s=>?_
  rw [mL,if_pos (ab0 _),aeM]
  have:=q5.getD s
  simpa [aaL,oM] using this
 have hfree:=Kz (fun x hx=>wH (c4 x hx)) (l:=(lc.ps.zip args).reverse) (fun p hp own xs e=>wH (c5 p.2 (List.of_mem_zip (List.mem_reverse.1 hp)).2) own xs e)
 obtain ⟨A2,Fj⟩:∃ A2:Perm,A2={ A with base:=w.heap.size }:=⟨_,rfl⟩
 have st12:∀ {M:Mem} {L:List Nat} {w:World} {H:List aa} {ev:Nat→Value} {ea:Nat→AV} {O:Pos→Option Nat},St A M L w H ev ea O→St A2 M L w H ev ea O:=by
  intro M L w H ev ea O h;subst Fj
  exact { len:=h.len,nodup:=h.nodup,env:=h.env,mem:=h.mem,obj:=h.obj,bG:=h.bG,lt:=h.lt,iL:=h.iL,iI:=h.iI,cj:=h.cj,cv:=h.cv,fy:=h.fy,La:=h.La,Oa:=h.Oa,fresh:=h.fresh }
 have st21:∀ {M:Mem} {L:List Nat} {w:World} {H:List aa} {ev:Nat→Value} {ea:Nat→AV} {O:Pos→Option Nat},St A2 M L w H ev ea O→St A M L w H ev ea O:=by
  intro M L w H ev ea O h;subst Fj
  exact { len:=h.len,nodup:=h.nodup,env:=h.env,mem:=h.mem,obj:=h.obj,bG:=h.bG,lt:=h.lt,iL:=h.iL,iI:=h.iI,cj:=h.cj,cv:=h.cv,fy:=h.fy,La:=h.La,Oa:=h.Oa,fresh:=h.fresh }
 have ex21:∀ {M M':Mem} {w w':World},Ext A2 M w M' w'→Ext A M w M' w':=by
  intro M M' w w' h;subst Fj
  exact ⟨h.lH,h.size,h.os,h.tape,h.output,h.j4,h.loops⟩
 have hfits:fM none L.length A2:=by rw [Fj,IB];exact qi hA
 have EF:Fr A2 lc.n M L w H ((lc.ps.zip args).reverse++bV 0 es) _ { tmps:=t0,defers:=[] }:=
  ⟨st12 (bS.rf (fun t=>t0.getD t undef) (get ((lc.ps.zip args).reverse++bV 0 es)) fR hfree),by rw [WH,ru,db],⟨by rw [Fj];exact oN _,List.nodup_nil,fun d h=>by cases h⟩⟩
 rw [← IB] at h
 refine roundIn_of_wpIn trivial ?_
 have uP:Own (some b) w:=fun l e=>by cases e;exact ⟨r,q1⟩
 refine Go.wpIn_mono (F:=wf (some b)) (Fi (ro:=some b) (L0:=L) lc.as ia ha hfits uP h EF (aau L)) ?_
 rintro e a1 w1 ⟨A',M1,L1,H1,env1,O1,hle,⟨rfl,Ob⟩,EG,ue,Q7⟩
 unfold ky at Ob
 split at Ob <;> try exact Ob.elim
 rename_i lc1 es1 Oe
 have uV:L1[id]?=some b:=gn Q7 hL
 obtain ⟨r1,p1,p2,p3,p4,p5,p6⟩:=EG.st.obj id _ b Oe uV
 obtain ⟨k1,k2⟩:=EG.st.oX (st':=.busy) (r':={ r1 with state:=.busy }) Oe uV (fun r2 sE=>by rw [p1] at sE;cases sE;exact ⟨rfl,rfl,rfl,rfl,rfl,rfl⟩)
 refine ⟨_,run_beginRound p1 p6.1,?_⟩
 have hown1:Own (some b) (w1.putObj b (.loop { r1 with state:=.busy })):=(uP.ext ue).ext k2
 refine Go.wpIn_mono (F:=wf (some b)) (Fi (ro:=some b) (L0:=L) lc.bd ib hb (hfits.le hle) hown1 Ob ⟨k1,EG.size,EG.defers.ext k2⟩ Q7) ?_
 rintro e a2 w2 ⟨A3,M2,L2,H2,cU,O2,yg,ry,ua,Q6,SO⟩
 unfold rv at ry
 split at ry <;> try exact ry.elim
 rename_i lc2 es2 N3
 have oU:L2[id]?=some b:=gn SO hL
 obtain ⟨r2,g1,g2,g3,g4,g5,g6⟩:=ua.st.obj id _ b N3 oU
 have idn:id < H.length:=aO bm
 have fin:∀ (jump:Option Code) (st':VO),st'.ok { r2 with state:=if jump.isNone then .ready else .done,pending:=jump }→IM L.length jump.isNone (H2.set id (.loop st' lc2 es2)) R→
  ∃ v w',(Instr.endRound b jump).run P w2=.ok v w'∧∃ v' r' H' M' L' O',Ending.returned v=.returned v'∧R r' H'∧St A M' L' w' H' (fJ (fun _=>undef) 0 v') (fJ (fun _=>.any) 0 r') O'∧Ext A M w M' w'∧L <+: L':=by
  intro jump st' mC IJ
  obtain ⟨m1,m2⟩:=ua.st.oX (st':=st') (r':={ r2 with state:=if jump.isNone then .ready else .done,pending:=jump }) N3 oU (fun r3 Nv=>by rw [g1] at Nv;cases Nv;exact ⟨rfl,rfl,rfl,rfl,rfl,mC⟩)
  refine ⟨_,_,run_endRound jump g1,?_⟩
  obtain ⟨hlen,hR⟩:=IJ
  have m3:=m1.rf (fJ (fun _=>undef) 0 (.bool jump.isNone)) (fJ (fun _=>.any) 0 (.bool jump.isNone)) (fun t=>by
   simp only [fJ];split
   ·exact .bool _
   ·exact .any _) (fun t own xs e=>by
   simp only [fJ] at e;split at e <;> cases e)
  obtain ⟨O3,m4⟩:=m3.cut L.length (fun id' o WI ho=>(((hfits.le hle).le yg)).closed (oN _) m3 id' o WI ho) (fun t=>by
   simp only [fJ];split <;> rfl)
  have hx:Ext A M w M2 (w2.putObj b (.loop { r2 with state:=if jump.isNone then .ready else .done,pending:=jump })):=
   ex21 ((ue.trans (k2.le hle)).trans ((Q6.le hle).trans (m2.le (yg.trans hle))))
  refine ⟨_,_,_,M2,_,O3,rfl,hR,st21 ((m4.le yg).le hle),hx,?_⟩
  obtain ⟨s,rfl⟩:=SO
  exact ⟨[],by simp⟩
 cases e with
 | normal=>exact fin none .ready ⟨rfl,rfl⟩ ry
 | ret=>exact fin (some .ret) (.jump .ret) ⟨rfl,rfl⟩ ry
 | exit k=>exact fin (some (.exit k)) (.jump (.exit k)) ⟨rfl,rfl⟩ ry
 | _=>exact ry.elim
end
end Go.aI
end
section
namespace Go.aI
open Go
section
variable {P:Program} {A:Perm} {M:Mem} {L:List Nat} {w:World} {H:List aa} {ev:Nat→Value} {ea:Nat→AV} {O:Pos→Option Nat}
def CX (O:Pos→Option Nat) (w:World):Perm:=⟨fun b=>(∃ t,O (.t t)=some b)∨w.heap.size≤b,fun id=>some (id + 1),(fun id n h=>by cases h;omega),0⟩
theorem CY (O:Pos→Option Nat) (w:World):(CX O w).entry false ([]:List aa).length:=⟨fun id h=>absurd h (Nat.not_lt_zero _),fun id _=>rfl⟩
theorem St.bare (h:St A M L w H ev ea O) (hb:∀ t,(ea t).a9 0=true):St (CX O w) M [] w [] ev ea (fun p=>match p with | .t t=>O (.t t) | .c _ _=>none):=by
 have hO:∀ (p:Pos) (b:Nat),(match p with | .t t=>O (.t t) | .c _ _=>none)=some b→O p=some b∧∃ t,p=.t t:=by
  intro p b hp
  cases p with
  | t t=>exact ⟨hp,t,rfl⟩
  | c id j=>cases hp
 exact { len:=rfl,nodup:=by simp,env:=fun t=>(by have:=(h.env t).gL (hb t);simpa using this),mem:=h.mem,obj:=fun id o b ho=>(by simp at ho),bG:=fun id o ho=>(by simp at ho),lt:=fun b hb=>(by cases hb)
         iL:=fun t=>h.iL t,iI:=fun id j=>(by simp [bC,bj]),cj:=fun p q b hp hq=>h.cj p q b (hO p b hp).1 (hO q b hq).1,cv:=fun p b hp hm=>(by cases hm),fy:=fun p b hp=>h.fy p b (hO p b hp).1,
         La:=fun b hb=>(by cases hb),Oa:=fun p b hp=>(by obtain ⟨h1,t,rfl⟩:=hO p b hp;exact .inl ⟨t,h1⟩),fresh:=fun b hb=>.inr hb }
theorem St.KA (h:St A M L w H ev ea O) {M':Mem} {w':World} {v:Value} {r:AV} {L':List Nat} {O':Pos→Option Nat}
 (h':St (CX O w) M' L' w' [] (fJ (fun _=>undef) 0 v) (fJ (fun _=>.any) 0 r) O')
 (cF:Ext (CX O w) M w M' w') :
 ∃ O3,St A M' L w' H (fJ (fun _=>undef) 0 v) (fJ (fun _=>.any) 0 r) O3∧Ext A M w M' w':=by
 have WB:L'=[]:=by have:=h'.len;simpa using this
 subst WB
 have hAA:∀ b,((∃ t,O (.t t)=some b)∨w.heap.size≤b)→A b:=by
  rintro b (⟨t,ht⟩ | hb)
  ·exact h.Oa _ b ht
  ·exact h.fresh b hb
 have keepL:∀ b∈L,w'.heap[b]?=w.heap[b]?∧∀ o,M' b o=M b o:=fun b hb=>cF.j4 b (h.lt b hb) (by
  rintro (⟨t,ht⟩ | hs)
  ·exact h.cv _ b ht hb
  ·exact absurd (h.lt b hb) (by omega))
 have keepC:∀ id j b,O (.c id j)=some b→w'.heap[b]?=w.heap[b]?∧∀ o,M' b o=M b o:=fun id j b hb=>cF.j4 b (h.fy _ b hb) (by
  rintro (⟨t,ht⟩ | hs)
  ·cases h.cj _ _ b ht hb
  ·exact absurd (h.fy _ b hb) (by omega))
 let O3:Pos→Option Nat:=fun p=>match p with | .t t=>if t=0 then O' (.t 0) else none | .c id j=>O (.c id j)
 have SS:∀ b,O' (.t 0)=some b→b∉L∧(∀ id j,O (.c id j)≠some b):=by
  intro b hb
  rcases h'.Oa _ b hb with ⟨t,ht⟩ | hs
  ·exact ⟨h.cv _ b ht,fun id j hc=>by cases h.cj _ _ b ht hc⟩
  ·exact ⟨fun hm=>absurd (h.lt b hm) (by omega),fun id j hc=>absurd (h.fy _ b hc) (by omega)⟩
 refine ⟨O3,?_,⟨cF.lH,cF.size,cF.os,cF.tape,cF.output,fun b hb hA=>cF.j4 b hb (fun hx=>hA (hAA b hx)),cF.loops⟩⟩
 exact { len:=h.len,nodup:=h.nodup
         env:=fun t=>(h'.env t).mono (Mem.bT _) (List.nil_prefix)
         mem:=h'.mem
         obj:=fun id o b ho hb=>(h.obj id o b ho hb).mono cF.lH (aau _) (keepL b (aaI hb)).1 (keepL b (aaI hb)).2
         bG:=h.bG
         lt:=fun b hb=>acO (h.lt b hb) cF.size
         iL:=fun t=>by
          by_cases e:t=0
          ·subst e;simpa [O3] using h'.iL 0
          ·simp [O3,e,fJ,bj]
         iI:=fun id j=>by
          have e1:bQ L w' id j=bQ L w id j:=by
           unfold bQ
           cases hl:L[id]? with
           | none=>rfl
           | some b=>simp only [World.cell?,(keepL b (aaI hl)).1]
          rw [e1]
          exact (h.iI id j).mono fun b hb=>keepC id j b hb
         cj:=fun p q b hp hq=>by
          cases p with
          | t t=>
            simp only [O3] at hp
            split at hp
            ·rename_i e;subst e
             cases q with
             | t t'=>
               simp only [O3] at hq
               split at hq
               ·rename_i e;subst e;rfl
               ·cases hq
             | c id j=>exact absurd hq ((SS b hp).2 id j)
            ·cases hp
          | c id j=>
            cases q with
            | t t'=>
              simp only [O3] at hq
              split at hq
              ·exact absurd hp ((SS b hq).2 id j)
              ·cases hq
            | c id' j'=>exact h.cj _ _ b hp hq
         cv:=fun p b hp=>by
          cases p with
          | t t=>
            simp only [O3] at hp
            split at hp
            ·exact (SS b hp).1
            ·cases hp
          | c id j=>exact h.cv _ b hp
         fy:=fun p b hp=>by
          cases p with
          | t t=>
            simp only [O3] at hp
            split at hp
            ·exact h'.fy _ b hp
            ·cases hp
          | c id j=>exact acO (h.fy _ b hp) cF.size
         La:=h.La
         Oa:=fun p b hp=>by
          cases p with
          | t t=>
            simp only [O3] at hp
            split at hp
            ·exact hAA b (h'.Oa _ b hp)
            ·cases hp
          | c id j=>exact h.Oa _ b hp
         fresh:=fun b hb=>h.fresh b (aa1 cF.size hb) }
theorem aw.frame {f:FuncId} {args:List AV} {R:AV→Prop} (ha:∀ x∈args,x.a9 0=true) (h:aw P f args [] fun r H'=>R r∧H'=[]) (H:List aa):aw P f args H fun r H'=>R r∧H'=H:=by
 intro A M L w vs O hA hs bS
 have hb:∀ t,(args.getD t .any).a9 0=true:=by
  intro t
  rw [oM]
  cases hx:args[t]? with
  | none=>rfl
  | some x=>exact ha x (aaI hx)
 rcases h (CX O w) M [] w vs _ (CY O w) hs (bS.bare hb) with ⟨h1,h2⟩ | ⟨v,w',r,H',M',L',O',h1,⟨h2,rfl⟩,h3,h4,_⟩
 ·refine .inl ⟨h1,h2.mono ?_⟩
  rintro e w' ⟨v,r,H',M',L',O',k1,⟨k2,rfl⟩,k3,k4,_⟩
  obtain ⟨O3,g1,g2⟩:=bS.KA k3 k4
  exact ⟨v,r,H,M',L,O3,k1,⟨k2,rfl⟩,g1,g2,aau L⟩
 ·obtain ⟨O3,g1,g2⟩:=bS.KA h3 h4
  exact .inr ⟨v,w',r,H,M',L,O3,h1,⟨h2,rfl⟩,g1,g2,aau L⟩
end
end Go.aI
end
