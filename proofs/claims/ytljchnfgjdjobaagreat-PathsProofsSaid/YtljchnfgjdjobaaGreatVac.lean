/- Part 3 of 20 of the proof. -/
import Derived.Test.YtljchnfgjdjobaaGreatVab
set_option linter.unusedVariables false
set_option linter.unusedSimpArgs false
set_option linter.defProp false
set_option linter.unusedSectionVars false
section
namespace Go.aK
open Go
inductive RX where
 | t (s:Nat)
 | c (s:Nat) (sz:Option Nat)
 deriving Inhabited
def Lu (P:Program):ResultVar→Option RX
 | .tmp t=>some (.t t)
 | .cell a t=>(KN P t).map (.c a)
def iH (P:Program):List ResultVar→Option (List RX)
 | []=>some []
 | r::rs=>match Lu P r,iH P rs with
   | some x,some xs=>some (x::xs)
   | _,_=>none
def tJ:List RX→Env→List aa→(List AV→Prop)→Prop
 | [],_,_,φ=>φ []
 | .t s::r,env,H,φ=>tJ r env H fun xs=>φ (get env s::xs)
 | .c s sz::r,env,H,φ=>aV sz (get env s) H fun x=>tJ r env H fun xs=>φ (x::xs)
def bV (n0:Nat) (rs:List RX) (env:Env) (H:List aa) (R:AV→List aa→Prop):Prop:=
 tJ rs env H fun xs=>∃ m,n0≤m∧match xs with
  | [x]=>∃ r,x.le r∧r.bc m=true∧R r (H.take m)
  | xs=>∃ ys,z5 (xs.map AV.ab) ys∧aj m ys=true∧R (.tuple ys) (H.take m)
def jA (C:List aa→Nat→List aa→Prop) (n0:Nat) (rs:List RX) (env:Env) (H:List aa) (R:AV→List aa→Prop):Prop:=
 tJ rs env H fun xs=>∃ m H',n0≤m∧C H m H'∧match xs with
  | [x]=>∃ r,x.le r∧r.bc m=true∧R r H'
  | xs=>∃ ys,z5 (xs.map AV.ab) ys∧aj m ys=true∧R (.tuple ys) H'
theorem tK:∀ {rs:List RX} {env:Env} {H:List aa} {φ ψ:List AV→Prop},(∀ xs,φ xs→ψ xs)→tJ rs env H φ→tJ rs env H ψ
 | [],env,H,φ,ψ,hm,h=>hm _ h
 | .t s::r,env,H,φ,ψ,hm,h=>tK (rs:=r) (fun xs hx=>hm _ hx) h
 | .c s sz::r,env,H,φ,ψ,hm,h=>kK (fun x hx=>tK (rs:=r) (fun xs hx=>hm _ hx) hx) h
theorem TN {n0:Nat} {rs:List RX} {env:Env} {H:List aa} {R:AV→List aa→Prop} (h:bV n0 rs env H R):jA (fun H m H'=>H'=H.take m) n0 rs env H R:=
 tK (fun xs ⟨m,h1,h2⟩=>⟨m,H.take m,h1,rfl,h2⟩) h
def b7:Nat→List AV→Env
 | _,[]=>[]
 | k,x::xs=>(k,x)::b7 (k + 1) xs
theorem nl:∀ (xs:List AV) (k t:Nat),get (b7 k xs) t=if k≤t then xs.getD (t - k) .any else .any
 | [],k,t=>by simp [b7,get]
 | x::xs,k,t=>by
   simp only [b7,get]
   split
   ·rename_i e;subst e;simp
   ·rename_i e
    rw [nl xs (k + 1) t]
    by_cases h:k + 1≤t
    ·have:t - k=(t - (k + 1)) + 1:=by omega
     rw [if_pos h,if_pos (by omega),this];simp
    ·rw [if_neg h,if_neg (by omega)]
section
variable {P:Program} {A:Perm} {n:Nat} {M:Mem} {L:List Nat} {w:World} {H:List aa} {env:Env} {O:Pos→Option Nat} {a:Act}
def BN (tmps:Array Value):ResultVar→Sem Value:=fun
 | .tmp t=>pure (tmps.getD t undef)
 | .cell a t=>do loadVar t (← asAddr (tmps.getD a undef))
theorem DH {fn:Func} {tmps:Array Value} {vs:List Value} (h:(fn.results.toList.mapM (BN tmps)).run P w=.ok vs w) :
 (results fn tmps).run P w=.ok (if h:vs.toArray.size=1 then vs.toArray[0] else .tuple vs.toArray) w:=by
 have e:(results fn tmps)=(do
  let vs ← fn.results.mapM (BN tmps)
  pure (if h:vs.size=1 then vs[0] else .tuple vs)):=rfl
 rw [e,Array.mapM_eq_mapM_toList]
 simp only [Sem.run_bind,Sem.run_map,h]
 rfl
theorem BO (hf:Fr A n M L w H env O a):∀ (rs:List ResultVar) (is:List RX),iH P rs=some is→∀ {φ:List AV→Prop},tJ is env H φ→
 ∃ vs xs,(rs.mapM (BN a.tmps)).run P w=.ok vs w∧φ xs∧aP M L vs xs∧(∀ s,is=[.t s]→xs=[get env s]∧vs=[a.tmps.getD s undef])∧(∀ s sz,is=[.c s sz]→∀ x,xs=[x]→∀ own ys,x=.al own ys→own=0)
 | [],is,hc,φ,h=>by
   simp only [iH] at hc;cases hc
   exact ⟨[],[],by simp,h,.nil,(by intro s e;cases e),(by intro s sz e;cases e)⟩
 | r::rs,is,hc,φ,h=>by
   unfold iH at hc
   split at hc <;> cases hc
   rename_i x xs hx fx
   cases r with
   | tmp t=>
     simp only [Lu] at hx;cases hx
     simp only [tJ] at h
     obtain ⟨vs,ys,h1,h2,h3,_⟩:=BO hf rs xs fx h
     refine ⟨a.tmps.getD t undef::vs,get env t::ys,?_,h2,.cons _ _ _ _ (hf.st.env t) h3,?_,?_⟩
     ·simp only [List.mapM_cons,Sem.run_bind,BN,Sem.run_pure,Result.andThen_ok,h1]
     ·intro s e
      cases e
      cases rs with
      | nil=>
        cases h3 with
        | nil=>exact ⟨rfl,rfl⟩
        | cons v x vs xs hh tt=>
          simp at h1
      | cons r rs=>
        unfold iH at fx
        split at fx <;> cases fx
     ·intro s sz e;cases e
   | cell p t=>
     simp only [Lu,yR] at hx
     obtain ⟨sz,di,rfl⟩:=hx
     simp only [tJ] at h
     obtain ⟨r,z,k1,k2,k3,k4⟩:=tq (P:=P) di hf.st h (hf.st.env p)
     obtain ⟨vs,ys,h1,h2,h3,_⟩:=BO hf rs xs fx k3
     refine ⟨r::vs,z::ys,?_,h2,.cons _ _ _ _ k2 h3,?_,?_⟩
     ·have hl:(do loadVar t (← asAddr (a.tmps.getD p undef)):Sem Value).run P w=.ok r w:=by
       have gk:=hf.st.env p
       revert k1 gk
       generalize a.tmps.getD p undef=u
       intro k1 gk
       unfold aV at h
       split at h
       ·rename_i id off e
        rw [e] at gk
        cases gk
        exact k1
       ·rename_i y e
        rw [e] at gk
        cases gk
        exact k1
       ·exact h.elim
      have h1':(List.mapM (BN a.tmps) rs).run P w=.ok vs w:=h1
      simp only [List.mapM_cons,Sem.run_bind,BN] at hl ⊢
      rw [hl]
      simp only [Result.andThen_ok,h1']
      rfl
     ·intro s e;cases e
     ·intro s sz e x hx
      cases hx
      exact k4
theorem St.a8 {ev:Nat→Value} {ea:Nat→AV} (h:St A M L w H ev ea O) {v:Value} {x:AV} (hr:aW M L v x) (ob:Option Nat) (hs:bj M w v x ob)
 (h1:∀ id j b,ob=some b→O (.c id j)≠some b) (h2:∀ b,ob=some b→b∉L∧b < w.heap.size∧A b) :
 ∃ O',St A M L w H (fW (fun _=>undef) 0 v) (fW (fun _=>.any) 0 x) O':=by
 have k1:=h.rT (fun _=>undef) (fun _=>.any) (fun _=>.any _) (fun _ _ _ e=>by cases e)
 exact ⟨_,k1.put 0 hr ob hs (fun p b hob hp=>by
  cases p with
  | t t=>cases hp
  | c id j=>exact absurd hp (h1 id j b hob)) h2⟩
theorem Ib {x:AV} {m:Nat} (hb:x.bc m=true) (t:Nat):(fW (fun _=>AV.any) 0 x t).bc m=true:=by
 simp only [fW]
 split
 ·exact hb
 ·rfl
theorem St.Lv {ev:Nat→Value} {ea:Nat→AV} (h:St A M L w H ev ea O) (A2:Perm) (hwr:A2.wr=A.wr) (n:Nat) {H':List aa} (hlen:H'.length=min n H.length)
 (hc:∀ (id:Nat) (o:aa),H'[id]?=some o→o=.dead∨(H[id]?=some o∧o.bc (A2.iS H'.length id)=true)) (hb:∀ t,(ea t).bc n=true):∃ O',St A2 M (L.take n) w H' ev ea O':=by
 let O':Pos→Option Nat:=fun p=>match p with | .t t=>O (.t t) | .c id j=>match H'[id]? with | some .dead=>none | some _=>O (.c id j) | none=>none
 have hO:∀ p b,O' p=some b→O p=some b:=by
  intro p b hp
  cases p with
  | t t=>exact hp
  | c id j=>
    simp only [O'] at hp
    split at hp <;> first | exact hp | cases hp
 have jv:∀ {α:Type} {l:List α} {i:Nat} {a:α},(l.take n)[i]?=some a→i < n∧l[i]?=some a:=by
  intro α l i a hi
  rw [aax] at hi
  split at hi
  ·exact ⟨by assumption,hi⟩
  ·cases hi
 have jO:∀ b,b∈L.take n→b∈L:=fun b hb=>acg hb
 refine ⟨O',{ len:=by simp [h.len,hlen],nodup:=(List.take_sublist n L).nodup h.nodup,env:=fun t=>(h.env t).gX (hb t),mem:=h.mem,obj:=?_,bI:=?_,lt:=fun b hb=>h.lt b (jO b hb),iX:=h.iX,iT:=?_,cz:=fun p q b hp hq=>h.cz p q b (hO p b hp) (hO q b hq),cG:=fun p b hp hm=>h.cG p b (hO p b hp) (jO b hm),fP:=fun p b hp=>h.fP p b (hO p b hp),La:=fun b hb=>by rw [hwr];exact h.La b (jO b hb),Oa:=fun p b hp=>by rw [hwr];exact h.Oa p b (hO p b hp),fresh:=fun b hb=>by rw [hwr];exact h.fresh b hb }⟩
 ·intro id o b ho ey
  obtain ⟨hn,ey⟩:=jv ey
  rcases hc id o ho with rfl | ⟨h1,h2⟩
  ·trivial
  ·refine (h.obj id o b h1 ey).gX (aa.cM ?_ o h2)
   have:=A2.wM H'.length id
   omega
 ·intro id o ho
  rcases hc id o ho with rfl | ⟨h1,h2⟩
  ·rfl
  ·exact h2
 ·intro id j
  have dead:∀ x:Option aa,H'[id]?=x→(x=none∨x=some .dead)→bj M w (bT (L.take n) w id j) (bD H' id j) (O' (.c id j)):=by
   intro x hx R8
   have e2:bD H' id j=.any:=by
    unfold bD
    rw [hx]
    rcases R8 with rfl | rfl <;> rfl
   have e3:O' (.c id j)=none:=by
    simp only [O',hx]
    rcases R8 with rfl | rfl <;> rfl
   rw [e2,e3]
   rfl
  cases hx:H'[id]? with
  | none=>exact dead none hx (.inl rfl)
  | some o=>
    by_cases ed:o=.dead
    ·subst ed;exact dead _ hx (.inr rfl)
    ·rcases hc id o hx with h' | ⟨h1,h2⟩
     ·exact absurd h' ed
     have hl:=aR hx
     have e1:bT (L.take n) w id j=bT L w id j:=by
      unfold bT
      rw [aax,if_pos (by omega)]
     have e2:bD H' id j=bD H id j:=by
      unfold bD
      rw [hx,h1]
     have e3:O' (.c id j)=O (.c id j):=by
      simp only [O',hx]
     rw [e1,e2,e3]
     exact h.iT id j
theorem Ic:∀ {vs:List Value} {xs ys:List AV},aP M L vs xs→z5 (xs.map AV.ab) ys→aP M L vs ys
 | _,_,[],.nil,h=>.nil
 | _,_,y::ys,.nil,h=>by simp [z5] at h
 | _,_,[],.cons _ _ _ _ _ _,h=>by simp [z5] at h
 | _,_,y::ys,.cons _ _ _ _ h1 h2,h=>by
   simp only [List.map_cons,z5] at h
   exact .cons _ _ _ _ (h1.ab.le h.1) (Ic h2 h.2)
def Marks (A:Perm) (w w2:World):Prop:=w2.heap.size=w.heap.size∧w2.os=w.os∧w2.tape=w.tape∧w2.output=w.output∧
 ∀ b,w2.heap[b]?=w.heap[b]?∨(A.base≤b∧¬ A b∧(∃ x,w.heap[b]?=some (.deferred x))∧∃ x,w2.heap[b]?=some (.deferred x))
theorem Marks.refl (A:Perm) (w:World):Marks A w w:=⟨rfl,rfl,rfl,rfl,fun b=>.inl rfl⟩
theorem Marks.trans {A:Perm} {w w1 w2:World} (h:Marks A w w1) (k:Marks A w1 w2):Marks A w w2:=by
 refine ⟨k.1.trans h.1,k.2.1.trans h.2.1,k.2.2.1.trans h.2.2.1,k.2.2.2.1.trans h.2.2.2.1,fun b=>?_⟩
 rcases h.2.2.2.2 b with h1 | ⟨h1,h2,h3,x,h4⟩ <;> rcases k.2.2.2.2 b with k1 | ⟨k1,k2,⟨y,k3⟩,k4⟩
 ·exact .inl (k1.trans h1)
 ·exact .inr ⟨k1,k2,⟨y,by rw [← h1];exact k3⟩,k4⟩
 ·exact .inr ⟨h1,h2,h3,x,by rw [k1];exact h4⟩
 ·exact .inr ⟨h1,h2,h3,k4⟩
theorem sd {A:Perm} {F:Fence} {m:Nat} {fn:Func} {tmps:Array Value} {R:Ending→World→Prop}:∀ (ds:List Deferred) {w:World},R0 A w ds→(∀ w2,Marks A w w2→LeavesIn F m P fn tmps R [] .returning w2)→LeavesInM F m P fn tmps R ds .returning w
 | [],w,_,h=>h w (.refl A w)
 | d::ds,w,hd,h=>by
   obtain ⟨D,rfl,h2,h3,h4⟩:=hd.2.2 _ aaW
   have hm:Marks A w (w.putObj D (.deferred none)):=⟨World.putObj_size,rfl,rfl,rfl,fun b=>by
    by_cases e:b=D
    ·subst e
     exact .inr ⟨h4,h3,⟨_,h2⟩,_,World.putObj_heap_same (abS.1 h2).1⟩
    ·exact .inl (World.putObj_heap_other e)⟩
   refine ⟨by simp,.inl ⟨D,_,rfl,run_takeDeferred h2,sd ds ⟨by rw [World.putObj_size];exact hd.1,(List.nodup_cons.1 hd.2.1).2,fun d' hd'=>?_⟩ fun w2 hm2=>h w2 (hm.trans hm2)⟩⟩
   obtain ⟨D',e',k2,k3⟩:=hd.2.2 d' (aaF _ hd')
   refine ⟨D',e',?_,k3⟩
   rw [World.putObj_heap_other]
   ·exact k2
   ·rintro rfl
    exact (List.nodup_cons.1 hd.2.1).1 (e' ▸ hd')
theorem St.marks {ev:Nat→Value} {ea:Nat→AV} (h:St A M L w H ev ea O) {w2:World} (hm:Marks A w w2):St A M L w2 H ev ea O:=by
 obtain ⟨h1,_,_,_,h5⟩:=hm
 have same:∀ b,A b→w2.heap[b]?=w.heap[b]?:=fun b hb=>by
  rcases h5 b with h | ⟨_,h,_⟩
  ·exact h
  ·exact absurd hb h
 exact { len:=h.len,nodup:=h.nodup,env:=h.env,bI:=h.bI,cz:=h.cz,cG:=h.cG,La:=h.La,Oa:=h.Oa
         mem:=fun b o v hv=>by
          have hc:=h.mem b o v hv
          rcases h5 b with e | ⟨_,_,⟨x,e⟩,_⟩
          ·simp only [World.cell?] at hc ⊢;rw [e];exact hc
          ·simp [World.cell?,e] at hc
         obj:=fun id o b ho hb=>(h.obj id o b ho hb).mono (Mem.bY M) (aav L) (same b (h.La b (abE hb))) (fun _=>rfl)
         lt:=fun b hb=>by rw [h1];exact h.lt b hb
         iX:=fun t=>(h.iX t).mono fun b hb=>⟨same b (h.Oa _ b hb),fun _=>rfl⟩
         iT:=fun id j=>by
          have e:bT L w2 id j=bT L w id j:=by
           unfold bT
           split
           ·rename_i b hb
            simp only [World.cell?]
            rw [same b (h.La b (abE hb))]
           ·rfl
          rw [e]
          exact (h.iT id j).mono fun b hb=>⟨same b (h.Oa _ b hb),fun _=>rfl⟩
         fP:=fun p b hp=>by rw [h1];exact h.fP p b hp
         fresh:=fun b hb=>h.fresh b (by rw [← h1];exact hb) }
theorem Ext.marks {A A':Perm} {M M':Mem} {w w' w2:World} (h:Ext A M w M' w') (hm:Marks A' w' w2) (hb:w.heap.size≤A'.base):Ext A M w M' w2:=by
 obtain ⟨h1,h2,h3,h4,h5⟩:=hm
 refine ⟨h.mc,by rw [h1];exact h.size,h2.trans h.os,h3.trans h.tape,h4.trans h.output,fun b aS hA=>?_,fun b r hr=>?_⟩
 ·obtain ⟨k1,k2⟩:=h.ky b aS hA
  refine ⟨?_,k2⟩
  rcases h5 b with e | ⟨e,_⟩
  ·exact e.trans k1
  ·omega
 ·obtain ⟨r',k1,k2⟩:=h.loops b r hr
  rcases h5 b with e | ⟨_,_,⟨x,e⟩,_⟩
  ·exact ⟨r',e.trans k1,k2⟩
  ·rw [k1] at e;cases e
theorem qP {lo:Option Nat} {b:Bool} (A1:Perm→Perm) (C:List aa→Nat→List aa→Prop) {f:FuncId} {fn:Func} {c:Code} {an:C1} {lv:l8} {pl:l9} {ir:IR} {rs:List RX} {args:List AV} {R:AV→List aa→Prop}
 (hf:P.funcs[f]?=some fn) (hcall:∀ (as:Array Value) (w:World),(callFunc f as).run P w=.ok (.enter f as) w) (hb:fn.body=some c) (hc:comp P an lv pl fn.ntmps c=some ir) (vP:iH P fn.results.toList=some rs)
 (h1:∀ A:Perm,A.entry b H.length→fZ lo H.length (A1 A)) (h2:∀ A:Perm,(A1 A).wr=A.wr) (h3:∀ (A:Perm) {M:Mem} {L:List Nat} {w:World} {ev:Nat→Value} {ea:Nat→AV} {O:Pos→Option Nat},A.entry b H.length→St A M L w H ev ea O→St (A1 A) M L w H ev ea O)
 (h4:∀ (A:Perm) {M:Mem} {L:List Nat} {w:World} {H':List aa} {ev:Nat→Value} {ea:Nat→AV} {O:Pos→Option Nat} {m:Nat} {H'':List aa},A.entry b H.length→H.length≤m→H.length≤H'.length→C H' m H''→St (A1 A) M L w H' ev ea O→(∀ t,(ea t).bc m=true)→∃ O',St A M (L.take m) w H'' ev ea O')
 (hn:args.length≤fn.ntmps) (Rt:Env→List aa→Prop) (hRt:∀ env H',Rt env H'→jA C H.length rs env H' R) (h:mO ⟨P,lo⟩ H.length ir (b7 0 args) H fun e env H'=>(e=.normal∨e=.ret)∧Rt env H'):lO b P f args H R:=by
 refine fun A M L w vs O hA hs XD=>.inl ⟨hcall _ _,callsIn_wide.1 (callsIn_of_wp_marks (F:=Fence.wide) (n:=0) hf hb trivial ?_ rfl)⟩
 obtain ⟨A2,Gh⟩:∃ A2:Perm,A2={ A1 A with base:=w.heap.size }:=⟨_,rfl⟩
 have a2w:A2.wr=A.wr:=by rw [Gh];exact h2 A
 have st12:∀ {M:Mem} {L:List Nat} {w:World} {H:List aa} {ev:Nat→Value} {ea:Nat→AV} {O:Pos→Option Nat},St (A1 A) M L w H ev ea O→St A2 M L w H ev ea O:=by
  intro M L w H ev ea O h;subst Gh
  exact { len:=h.len,nodup:=h.nodup,env:=h.env,mem:=h.mem,obj:=h.obj,bI:=h.bI,lt:=h.lt,iX:=h.iX,iT:=h.iT,cz:=h.cz,cG:=h.cG,fP:=h.fP,La:=h.La,Oa:=h.Oa,fresh:=h.fresh }
 have st21:∀ {M:Mem} {L:List Nat} {w:World} {H:List aa} {ev:Nat→Value} {ea:Nat→AV} {O:Pos→Option Nat},St A2 M L w H ev ea O→St (A1 A) M L w H ev ea O:=by
  intro M L w H ev ea O h;subst Gh
  exact { len:=h.len,nodup:=h.nodup,env:=h.env,mem:=h.mem,obj:=h.obj,bI:=h.bI,lt:=h.lt,iX:=h.iX,iT:=h.iT,cz:=h.cz,cG:=h.cG,fP:=h.fP,La:=h.La,Oa:=h.Oa,fresh:=h.fresh }
 have bX:=st12 (h3 A hA XD)
 have hfits:fZ lo H.length A2:=by rw [Gh];exact h1 A hA
 have H7:L.length=H.length:=XD.len
 have zV:Fr A2 fn.ntmps M L w H (b7 0 args) O { tmps:=vs++Array.replicate (fn.ntmps - vs.size) undef,defers:=[] }:=by
  refine ⟨bX.congr ?_ ?_,by simp;omega,⟨by rw [Gh];exact rC _,List.nodup_nil,fun d h=>by cases h⟩⟩
  ·intro t
   simp only [abH]
   by_cases ht:t < vs.size
   ·rw [Array.getElem?_append_left ht]
   ·rw [Array.getElem?_append_right (by omega),Array.getElem?_eq_none (xs:=vs) (by omega),ae9]
    split <;> rfl
  ·intro t
   rw [nl];simp
 rw [← bX.len] at h hfits
 refine Go.wpIn_mono (Gg (ro:=none) (L0:=L) c ir hc hfits (fun l e=>by cases e) h zV (aav L)) ?_
 rintro e a w1 ⟨A',M',L',H',env,O',hle,⟨he,JG⟩,Pc,hext1,hL⟩
 have base:A'.base=w.heap.size:=by rw [hle.2.2,Gh]
 have done:(∀ w',Marks A' w1 w'→LeavesIn Fence.wide 0 P fn a.tmps (fun e w'=>∃ v r H' M' L' O',e=.returned v∧R r H'∧St A M' L' w' H' (fW (fun _=>undef) 0 v) (fW (fun _=>.any) 0 r) O'∧Ext A M w M' w'∧L <+: L') [] .returning w')→
  bodyPostM Fence.wide 0 P fn (fun e w'=>∃ v r H' M' L' O',e=.returned v∧R r H'∧St A M' L' w' H' (fW (fun _=>undef) 0 v) (fW (fun _=>.any) 0 r) O'∧Ext A M w M' w'∧L <+: L') e a w1:=by
  intro hd
  rcases he with rfl | rfl <;> exact sd _ Pc.defers hd
 refine done fun w' hm=>?_
 have BP:Fr A2 fn.ntmps M' L' w' H' env O' { a with defers:=[] }:=
  ⟨(Pc.st.marks hm).le hle,Pc.size,⟨by rw [hm.1,← hle.2.2];exact Pc.defers.1,List.nodup_nil,fun d h=>by cases h⟩⟩
 have cP:Ext A M w M' w':=by
  have:=hext1.marks hm (Nat.le_of_eq base.symm)
  exact ⟨this.mc,this.size,this.os,this.tape,this.output,fun b hb hA=>this.ky b hb (by rw [a2w];exact hA),this.loops⟩
 have hlen2:H.length≤H'.length:=by have:=hL.length_le;rw [H7,BP.st.len] at this;exact this
 have goal:∃ v,(results fn a.tmps).run P w'=.ok v w'∧∃ v' r H'' M'' L'' O'',Ending.returned v=.returned v'∧R r H''∧St A M'' L'' w' H'' (fW (fun _=>undef) 0 v') (fW (fun _=>.any) 0 r) O''∧Ext A M w M'' w'∧L <+: L'':=by
  replace JG:=hRt _ _ JG
  unfold jA at JG
  obtain ⟨us,xs,k1,⟨m,H2,hm,hC,k2⟩,k3,k4,k5⟩:=BO (P:=P) BP _ _ vP JG
  have mQ:L <+: L'.take m:=by
   obtain ⟨r,rfl⟩:=hL
   exact ⟨r.take (m - L.length),by rw [afu,aaw (show L.length≤m by omega)]⟩
  have bO:=DH k1
  split at k2
  ·rename_i x
   obtain ⟨r,hle,hb,hR⟩:=k2
   cases k3 with
   | cons v _ _ _ hv ht=>
   cases ht
   refine ⟨v,by simpa using bO,v,r,H2,M',L'.take m,?_⟩
   have vN:∃ ob,bj M' w' v x ob∧(∀ id j b,ob=some b→O' (.c id j)≠some b)∧(∀ b,ob=some b→b∉L'∧b < w'.heap.size∧A2 b):=by
    match rs,vP,k4,k5 with
    | [],vP,_,_=>
      unfold iH at vP
      split at vP
      ·rename_i e
       rw [e] at k1
       simp at k1
      ·split at vP <;> cases vP
    | [.t s],_,k4,_=>
      obtain ⟨e1,e2⟩:=k4 s rfl
      cases e1;cases e2
      refine ⟨O' (.t s),BP.st.iX s,fun id j b hb hc=>?_,fun b hb=>⟨BP.st.cG _ b hb,BP.st.fP _ b hb,BP.st.Oa _ b hb⟩⟩
      exact absurd (BP.st.cz _ _ b hb hc) (by intro e;cases e)
    | [.c s sz],_,_,k5=>
      exact ⟨none,bj.free (k5 s sz rfl x rfl),(fun _ _ _ e=>by cases e),(fun _ e=>by cases e)⟩
    | r1::r2::rs,vP,_,_=>
      unfold iH at vP
      split at vP
      ·cases vP
      ·split at vP <;> cases vP
       rename_i h1 h2
       unfold iH at h2
       split at h2
       ·cases h2
       ·rename_i e
        rw [e] at k1
        simp only [List.mapM_cons,Sem.run_bind] at k1
        revert k1
        generalize KQ:(BN a.tmps _).run P w'=g1
        cases g1 <;> simp
        generalize hg2:(BN a.tmps _).run P _=g2
        cases g2 <;> simp
        generalize hg3:(List.mapM (BN a.tmps) _).run P _=g3
        cases g3 <;> simp
   obtain ⟨ob,o1,o2,o3⟩:=vN
   obtain ⟨ob',p1,p2⟩:=o1.le hv hle
   obtain ⟨O'',mX⟩:=BP.st.a8 (hv.le hle) ob' p1 (fun id j b hb=>by
    rcases p2 with rfl | rfl
    ·cases hb
    ·exact o2 id j b hb) (fun b hb=>by
    rcases p2 with rfl | rfl
    ·cases hb
    ·exact o3 b hb)
   obtain ⟨O3,Lw⟩:=h4 A hA (by omega) hlen2 hC (st21 mX) (Ib hb)
   exact ⟨O3,rfl,hR,Lw,cP,mQ⟩
  ·rename_i dJ
   obtain ⟨ys,hle,hb,hR⟩:=k2
   have hlen:us.toArray.size≠1:=by
    have:=k3.length
    intro e
    simp at e
    rw [e] at this
    match xs,this with
    | [x],_=>exact dJ x rfl
   rw [dif_neg hlen] at bO
   refine ⟨.tuple us.toArray,bO,.tuple us.toArray,.tuple ys,H2,M',L'.take m,?_⟩
   obtain ⟨O'',mX⟩:=BP.st.a8 (.tuple _ _ (Ic k3 hle)) none (bj.free (by intro _ _ e;cases e)) (fun _ _ _ e=>by cases e) (fun _ e=>by cases e)
   obtain ⟨O3,Lw⟩:=h4 A hA (by omega) hlen2 hC (st21 mX) (Ib (x:=.tuple ys) hb)
   exact ⟨O3,rfl,hR,Lw,cP,mQ⟩
 exact goal
theorem qQ {A:Perm} {k:Nat} (h:A.entry false k):fZ none k A:=⟨h.1,fun id bn=>by rw [h.2 id bn];rfl⟩
theorem DI {A:Perm} {k:Nat} (h:A.entry true k):fZ (some k) k A:=⟨h.1,rfl,fun id bn=>by rw [h.2 id bn];rfl⟩
theorem JH {f:FuncId} {fn:Func} {c:Code} {an:C1} {lv:l8} {pl:l9} {ir:IR} {rs:List RX} {args:List AV} {R:AV→List aa→Prop}
 (hf:P.funcs[f]?=some fn) (hcall:∀ (as:Array Value) (w:World),(callFunc f as).run P w=.ok (.enter f as) w) (hb:fn.body=some c) (hc:comp P an lv pl fn.ntmps c=some ir) (vP:iH P fn.results.toList=some rs)
 (hn:args.length≤fn.ntmps) (h:mO P H.length ir (b7 0 args) H fun e env H'=>(e=.normal∨e=.ret)∧bV H.length rs env H' R):ax P f args H R:=by
 refine qP (lo:=none) (b:=false) (fun A=>A) (fun H m H'=>H'=H.take m) hf hcall hb hc vP (fun A=>qQ) (fun A=>rfl) (fun A _ _ _ _ _ _ _ h=>h) ?_ hn (fun env H'=>bV H.length rs env H' R) (fun env H'=>TN) h
 intro A M L w H' ev ea O m H'' hA hm hl e bX Je
 subst e
 exact bX.cut m (fun id o=>(qQ hA).closed hm bX id o) Je
def oU (k:Nat) (A:Perm):Perm where
 wr:=A.wr
 top:=fun id=>if id < k then A.top id else none
 ok:=fun id n h=>by
  split at h
  ·exact A.ok id n h
  ·cases h
theorem DJ {A:Perm} {k:Nat} {b:Bool} (h:A.entry b k):fZ (some k) k (oU k A):=
 ⟨fun id bn=>by obtain ⟨m,h1,h2⟩:=h.1 id bn;exact ⟨m,h1,by simp only [oU,if_pos bn];exact h2⟩,rfl,fun id bn=>by simp only [oU];rw [if_neg (by omega)]⟩
def nT (n0:Nat) (H:List aa) (m:Nat) (H':List aa):Prop:=
 H'.length=min m H.length∧∀ (id:Nat) (o:aa),H'[id]?=some o→o=.dead∨(H[id]?=some o∧(n0≤id→o.bc (id + 1)=true))
def xn (n0:Nat) (H:List aa) (m:Nat) (H':List aa):Prop:=
 H'.length=min m H.length∧∀ (id:Nat) (o:aa),H'[id]?=some o→o=.dead∨(H[id]?=some o∧(n0≤id→o.bc H'.length=true))
theorem Gi {f:FuncId} {fn:Func} {c:Code} {an:C1} {lv:l8} {pl:l9} {ir:IR} {rs:List RX} {args:List AV} {R:AV→List aa→Prop}
 (hf:P.funcs[f]?=some fn) (hcall:∀ (as:Array Value) (w:World),(callFunc f as).run P w=.ok (.enter f as) w) (hb:fn.body=some c) (hc:comp P an lv pl fn.ntmps c=some ir) (vP:iH P fn.results.toList=some rs)
 (hn:args.length≤fn.ntmps) (h:mO ⟨P,some H.length⟩ H.length ir (b7 0 args) H fun e env H'=>(e=.normal∨e=.ret)∧jA (nT H.length) H.length rs env H' R):ax P f args H R:=by
 refine qP (lo:=some H.length) (b:=false) (oU H.length) (nT H.length) hf hcall hb hc vP (fun A hA=>DJ hA) (fun A=>rfl) (fun A M L w ev ea O hA bX=>?_) ?_ hn (fun env H'=>jA (nT H.length) H.length rs env H' R) (fun env H' h=>h) h
 ·exact { len:=bX.len,nodup:=bX.nodup,env:=bX.env,mem:=bX.mem,obj:=bX.obj,lt:=bX.lt,iX:=bX.iX,iT:=bX.iT,cz:=bX.cz,cG:=bX.cG,fP:=bX.fP,La:=bX.La,Oa:=bX.Oa,fresh:=bX.fresh
          bI:=fun id o ho=>by
           have:=bX.bI id o ho
           have e:(oU H.length A).iS H.length id=A.iS H.length id:=by unfold Perm.iS;simp only [oU,if_pos (aR ho)]
           rw [e];exact this }
 ·intro A M L w H' ev ea O m H'' hA hm hl hC bX Je
  obtain ⟨hlen,hC⟩:=hC
  refine bX.Lv A rfl m hlen (fun id o ho=>?_) Je
  rcases hC id o ho with h' | ⟨h1,h2⟩
  ·exact .inl h'
  ·refine .inr ⟨h1,?_⟩
   by_cases bn:id < H.length
   ·obtain ⟨k,hk,ek⟩:=hA.1 id bn
    have:=bX.bI id o h1
    have e1:(oU H.length A).iS H'.length id=min k H'.length:=by unfold Perm.iS;simp only [oU,if_pos bn,ek]
    have e2:A.iS H''.length id=min k H''.length:=by unfold Perm.iS;simp only [ek]
    rw [e1] at this
    rw [e2]
    exact aa.cM (by omega) o this
   ·have e2:A.iS H''.length id=min (id + 1) H''.length:=by unfold Perm.iS;rw [hA.2 id (by omega)];rfl
    have:=aR ho
    rw [e2]
    exact aa.cM (by omega) o (h2 (by omega))
theorem Gj {f:FuncId} {fn:Func} {c:Code} {an:C1} {lv:l8} {pl:l9} {ir:IR} {rs:List RX} {args:List AV} {R:AV→List aa→Prop}
 (hf:P.funcs[f]?=some fn) (hcall:∀ (as:Array Value) (w:World),(callFunc f as).run P w=.ok (.enter f as) w) (hb:fn.body=some c) (hc:comp P an lv pl fn.ntmps c=some ir) (vP:iH P fn.results.toList=some rs)
 (hn:args.length≤fn.ntmps) (h:mO ⟨P,some H.length⟩ H.length ir (b7 0 args) H fun e env H'=>(e=.normal∨e=.ret)∧jA (xn H.length) H.length rs env H' R):jo P f args H R:=by
 refine qP (lo:=some H.length) (b:=true) (fun A=>A) (xn H.length) hf hcall hb hc vP (fun A hA=>DI hA) (fun A=>rfl) (fun A _ _ _ _ _ _ _ h=>h) ?_ hn (fun env H'=>jA (xn H.length) H.length rs env H' R) (fun env H' h=>h) h
 intro A M L w H' ev ea O m H'' hA hm hl hC bX Je
 obtain ⟨hlen,hC⟩:=hC
 refine bX.Lv A rfl m hlen (fun id o ho=>?_) Je
 rcases hC id o ho with h' | ⟨h1,h2⟩
 ·exact .inl h'
 ·refine .inr ⟨h1,?_⟩
  by_cases bn:id < H.length
  ·obtain ⟨k,hk,ek⟩:=hA.1 id bn
   have:=bX.bI id o h1
   have e1:A.iS H'.length id=min k H'.length:=by unfold Perm.iS;simp only [ek]
   have e2:A.iS H''.length id=min k H''.length:=by unfold Perm.iS;simp only [ek]
   rw [e1] at this
   rw [e2]
   exact aa.cM (by omega) o this
  ·have e2:A.iS H''.length id=H''.length:=by unfold Perm.iS;rw [hA.2 id (by omega)];rfl
   rw [e2]
   exact h2 (by omega)
end
end Go.aK
end
section
namespace Go.aK
open Go
section
variable {P:Program}
theorem sf:∀ (l:List (Nat×Value)) (t:Array Value),(l.foldl (fun t p=>t.setIfInBounds p.1 p.2) t).size=t.size
 | [],t=>rfl
 | p::l,t=>by rw [List.foldl_cons,sf l];simp
theorem vh {M:Mem} {L:List Nat}:∀ {ps:List Nat} {vs:List Value} {xs:List AV} {t:Array Value} {env:Env},aP M L vs xs→(∀ p∈ps,p < t.size)→(∀ s,aW M L (t.getD s undef) (get env s))→
 ∀ s,aW M L (((ps.zip vs).foldl (fun t p=>t.setIfInBounds p.1 p.2) t).getD s undef) (get ((ps.zip xs).reverse++env) s)
 | [],_,_,t,env,_,_,h,s=>by simpa using h s
 | p::ps,[],[],t,env,_,_,h,s=>by simpa using h s
 | p::ps,v::vs,x::xs,t,env,hr,hp,h,s=>by
   cases hr with
   | cons _ _ _ _ h1 h2=>
   simp only [List.zip_cons_cons,List.foldl_cons,af3,abb,List.singleton_append]
   refine vh (env:=(p,x)::env) h2 (fun q hq=>by simpa using hp q (aaF _ hq)) (fun s=>?_) s
   have ta:=hp p aaW
   simp only [abH,ac9,get]
   by_cases e:s=p
   ·subst e;simp [ta,h1]
   ·rw [if_neg (fun e'=>e e'.symm),if_neg e]
    have:=h s
    rwa [abH] at this
theorem Ly {es:List AV} (h:∀ x∈es,∀ own xs,x=.al own xs→own=0) {l:List (Nat×AV)} (hl:∀ p∈l,∀ own xs,p.2=.al own xs→own=0) (s:Nat):∀ own xs,get (l++b7 0 es) s=.al own xs→own=0:=by
 induction l with
 | nil=>
   intro own xs e
   rw [List.nil_append,nl,if_pos (acA _),rB] at e
   cases hx:es[s - 0]? with
   | none=>rw [hx] at e;cases e
   | some x=>rw [hx] at e;exact h x (abE hx) own xs e
 | cons p l ih=>
   obtain ⟨k,v⟩:=p
   intro own xs e
   simp only [List.cons_append,get] at e
   split at e
   ·exact hl (k,v) (by simp) own xs e
   ·exact ih (fun p hp=>hl p (by simp [hp])) own xs e
def JI (n0:Nat) (b:Bool) (H:List aa) (R:AV→List aa→Prop):Prop:=n0≤H.length∧R (.bool b) (H.take n0)
def sg (n0 id:Nat) (R:AV→List aa→Prop) (e:Exit) (H:List aa):Prop:=
 match H[id]? with
 | some (.loop .busy lc es)=>(match e with
   | .normal=>JI n0 true (H.set id (.loop .ready lc es)) R
   | .ret=>JI n0 false (H.set id (.loop (.jump .ret) lc es)) R
   | .exit k=>JI n0 false (H.set id (.loop (.jump (.exit k)) lc es)) R
   | _=>False)
 | _=>False
def kP (id:Nat) (H:List aa) (K:List aa→Prop):Prop:=
 match H[id]? with
 | some (.loop .ready lc es)=>K (H.set id (.loop .busy lc es))
 | _=>False
def acQ (lc:ju) (es:List AV) (args:List AV):Prop:=es.length=lc.n∧args.length=lc.ps.length∧lc.ps.all (· < lc.n)=true∧(∀ x∈es,x.ab=x)∧∀ x∈args,x.ab=x
theorem xo {x:AV} (h:x.ab=x):∀ own xs,x=.al own xs→own=0:=by
 rintro own xs rfl
 simp only [AV.ab] at h
 cases h;rfl
theorem pC {id:Nat} {args:List AV} {H:List aa} {lc:ju} {es:List AV} {ia ib:IR} {R:AV→List aa→Prop} (bn:H[id]?=some (.loop .ready lc es))
 (ha:comp P lc.an lc.lv lc.pl lc.n lc.as=some ia) (hb:comp P lc.an lc.lv lc.pl lc.n lc.bd=some ib) (Bo:acQ lc es args)
 (h:mO P H.length ia ((lc.ps.zip args).reverse++b7 0 es) H fun e env1 H1=>e=.normal∧kP id H1 fun H2=>mO P H.length ib env1 H2 fun e _ H3=>sg H.length id R e H3):kI P id args H R:=by
 intro A M L w vs O b hA hs hL bX
 obtain ⟨r,q1,q2,q3,q4,q5,q6⟩:=bX.obj id _ b bn hL
 obtain ⟨c1,c2,c3,c4,c5⟩:=Bo
 have H7:L.length=H.length:=bX.len
 have zR:b∈L:=abE hL
 refine ⟨r.fn,_,r.assign,r.body,run_yield q1 (by rw [q2];simp;omega),?_⟩
 have htz:(r.params.zip vs).foldl (fun t (p:Nat×Value)=>t.setIfInBounds p.1 p.2) r.tmps=(lc.ps.zip vs.toList).foldl (fun t p=>t.setIfInBounds p.1 p.2) r.tmps:=by
  rw [q2,← afX]
  simp
 have htm:((r.params.zip vs).foldl (fun tmps (x:Nat×Value)=>match x with | (t,a)=>tmps.setIfInBounds t a) r.tmps)=(lc.ps.zip vs.toList).foldl (fun t p=>t.setIfInBounds p.1 p.2) r.tmps:=htz
 rw [htm,q3,q4]
 obtain ⟨t0,XE⟩:∃ t0,t0=(lc.ps.zip vs.toList).foldl (fun t p=>t.setIfInBounds p.1 p.2) r.tmps:=⟨_,rfl⟩
 rw [← XE]
 have di:r.tmps.size=lc.n:=by have:=q5.length;rw [c1] at this;simpa using this
 have zc:aP M L vs.toList args:=by
  refine aP.Bg (by simpa using hs) fun j x hx=>?_
  have h1:=bX.env j
  have hj:j < vs.size:=by rw [hs];exact aR hx
  refine ⟨vs[j],by simp [hj],?_⟩
  simp only [abH,rB,hx,Option.getD_some,ady hj] at h1
  exact h1
 have gk:∀ s,aW M L (t0.getD s undef) (get ((lc.ps.zip args).reverse++b7 0 es) s):=by
  rw [XE]
  refine vh zc (fun p hp=>by rw [di];simpa using abF.1 c3 p hp) fun s=>?_
  rw [nl,if_pos (acA _),afP]
  have:=q5.getD s
  simpa [abH,rB] using this
 have hfree:=Ly (fun x hx=>xo (c4 x hx)) (l:=(lc.ps.zip args).reverse) (fun p hp own xs e=>xo (c5 p.2 (List.of_mem_zip (List.mem_reverse.1 hp)).2) own xs e)
 obtain ⟨A2,Gh⟩:∃ A2:Perm,A2={ A with base:=w.heap.size }:=⟨_,rfl⟩
 have st12:∀ {M:Mem} {L:List Nat} {w:World} {H:List aa} {ev:Nat→Value} {ea:Nat→AV} {O:Pos→Option Nat},St A M L w H ev ea O→St A2 M L w H ev ea O:=by
  intro M L w H ev ea O h;subst Gh
  exact { len:=h.len,nodup:=h.nodup,env:=h.env,mem:=h.mem,obj:=h.obj,bI:=h.bI,lt:=h.lt,iX:=h.iX,iT:=h.iT,cz:=h.cz,cG:=h.cG,fP:=h.fP,La:=h.La,Oa:=h.Oa,fresh:=h.fresh }
 have st21:∀ {M:Mem} {L:List Nat} {w:World} {H:List aa} {ev:Nat→Value} {ea:Nat→AV} {O:Pos→Option Nat},St A2 M L w H ev ea O→St A M L w H ev ea O:=by
  intro M L w H ev ea O h;subst Gh
  exact { len:=h.len,nodup:=h.nodup,env:=h.env,mem:=h.mem,obj:=h.obj,bI:=h.bI,lt:=h.lt,iX:=h.iX,iT:=h.iT,cz:=h.cz,cG:=h.cG,fP:=h.fP,La:=h.La,Oa:=h.Oa,fresh:=h.fresh }
 have ex21:∀ {M M':Mem} {w w':World},Ext A2 M w M' w'→Ext A M w M' w':=by
  intro M M' w w' h;subst Gh
  exact ⟨h.mc,h.size,h.os,h.tape,h.output,h.ky,h.loops⟩
 have hfits:fZ none L.length A2:=by rw [Gh,H7];exact qQ hA
 have zV:Fr A2 lc.n M L w H ((lc.ps.zip args).reverse++b7 0 es) _ { tmps:=t0,defers:=[] }:=
  ⟨st12 (bX.rT (fun t=>t0.getD t undef) (get ((lc.ps.zip args).reverse++b7 0 es)) gk hfree),by rw [XE,sf,di],⟨by rw [Gh];exact rC _,List.nodup_nil,fun d h=>by cases h⟩⟩
 rw [← H7] at h
 refine roundIn_of_wpIn trivial ?_
 have vN:Own (some b) w:=fun l e=>by cases e;exact ⟨r,q1⟩
 refine Go.wpIn_mono (F:=wf (some b)) (Gg (ro:=some b) (L0:=L) lc.as ia ha hfits vN h zV (aav L)) ?_
 rintro e a1 w1 ⟨A',M1,L1,H1,env1,O1,hle,⟨rfl,Pd⟩,FB,uU,R9⟩
 unfold kP at Pd
 split at Pd <;> try exact Pd.elim
 rename_i lc1 es1 Pe
 have vS:L1[id]?=some b:=gL R9 hL
 obtain ⟨r1,p1,p2,p3,p4,p5,p6⟩:=FB.st.obj id _ b Pe vS
 obtain ⟨k1,k2⟩:=FB.st.px (st':=.busy) (r':={ r1 with state:=.busy }) Pe vS (fun r2 oq=>by rw [p1] at oq;cases oq;exact ⟨rfl,rfl,rfl,rfl,rfl,rfl⟩)
 refine ⟨_,run_beginRound p1 p6.1,?_⟩
 have hown1:Own (some b) (w1.putObj b (.loop { r1 with state:=.busy })):=(vN.ext uU).ext k2
 refine Go.wpIn_mono (F:=wf (some b)) (Gg (ro:=some b) (L0:=L) lc.bd ib hb (hfits.le hle) hown1 Pd ⟨k1,FB.size,FB.defers.ext k2⟩ R9) ?_
 rintro e a2 w2 ⟨A3,M2,L2,H2,dc,O2,zd,si,uQ,R8,TK⟩
 unfold sg at si
 split at si <;> try exact si.elim
 rename_i lc2 es2 O6
 have pr:L2[id]?=some b:=gL TK hL
 obtain ⟨r2,g1,g2,g3,g4,g5,g6⟩:=uQ.st.obj id _ b O6 pr
 have idn:id < H.length:=aR bn
 have fin:∀ (jump:Option Code) (st':WK),st'.ok { r2 with state:=if jump.isNone then .ready else .done,pending:=jump }→JI L.length jump.isNone (H2.set id (.loop st' lc2 es2)) R→
  ∃ v w',(Instr.endRound b jump).run P w2=.ok v w'∧∃ v' r' H' M' L' O',Ending.returned v=.returned v'∧R r' H'∧St A M' L' w' H' (fW (fun _=>undef) 0 v') (fW (fun _=>.any) 0 r') O'∧Ext A M w M' w'∧L <+: L':=by
  intro jump st' mX JG
  obtain ⟨m1,m2⟩:=uQ.st.px (st':=st') (r':={ r2 with state:=if jump.isNone then .ready else .done,pending:=jump }) O6 pr (fun r3 DK=>by rw [g1] at DK;cases DK;exact ⟨rfl,rfl,rfl,rfl,rfl,mX⟩)
  refine ⟨_,_,run_endRound jump g1,?_⟩
  obtain ⟨hlen,hR⟩:=JG
  have m3:=m1.rT (fW (fun _=>undef) 0 (.bool jump.isNone)) (fW (fun _=>.any) 0 (.bool jump.isNone)) (fun t=>by
   simp only [fW];split
   ·exact .bool _
   ·exact .any _) (fun t own xs e=>by
   simp only [fW] at e;split at e <;> cases e)
  obtain ⟨O3,m4⟩:=m3.cut L.length (fun id' o XF ho=>(((hfits.le hle).le zd)).closed (rC _) m3 id' o XF ho) (fun t=>by
   simp only [fW];split <;> rfl)
  have hx:Ext A M w M2 (w2.putObj b (.loop { r2 with state:=if jump.isNone then .ready else .done,pending:=jump })):=
   ex21 ((uU.trans (k2.le hle)).trans ((R8.le hle).trans (m2.le (zd.trans hle))))
  refine ⟨_,_,_,M2,_,O3,rfl,hR,st21 ((m4.le zd).le hle),hx,?_⟩
  obtain ⟨s,rfl⟩:=TK
  exact ⟨[],by simp⟩
 cases e with
 | normal=>exact fin none .ready ⟨rfl,rfl⟩ si
 | ret=>exact fin (some .ret) (.jump .ret) ⟨rfl,rfl⟩ si
 | exit k=>exact fin (some (.exit k)) (.jump (.exit k)) ⟨rfl,rfl⟩ si
 | _=>exact si.elim
end
end Go.aK
end
section
namespace Go.aK
open Go
section
variable {P:Program} {A:Perm} {M:Mem} {L:List Nat} {w:World} {H:List aa} {ev:Nat→Value} {ea:Nat→AV} {O:Pos→Option Nat}
def DL (O:Pos→Option Nat) (w:World):Perm:=⟨fun b=>(∃ t,O (.t t)=some b)∨w.heap.size≤b,fun id=>some (id + 1),(fun id n h=>by cases h;omega),0⟩
theorem DM (O:Pos→Option Nat) (w:World):(DL O w).entry false ([]:List aa).length:=⟨fun id h=>absurd h (Nat.not_lt_zero _),fun id _=>rfl⟩
theorem St.bare (h:St A M L w H ev ea O) (hb:∀ t,(ea t).bc 0=true):St (DL O w) M [] w [] ev ea (fun p=>match p with | .t t=>O (.t t) | .c _ _=>none):=by
 have hO:∀ (p:Pos) (b:Nat),(match p with | .t t=>O (.t t) | .c _ _=>none)=some b→O p=some b∧∃ t,p=.t t:=by
  intro p b hp
  cases p with
  | t t=>exact ⟨hp,t,rfl⟩
  | c id j=>cases hp
 exact { len:=rfl,nodup:=by simp,env:=fun t=>(by have:=(h.env t).gX (hb t);simpa using this),mem:=h.mem,obj:=fun id o b ho=>(by simp at ho),bI:=fun id o ho=>(by simp at ho),lt:=fun b hb=>(by cases hb)
         iX:=fun t=>h.iX t,iT:=fun id j=>(by simp [bD,bj]),cz:=fun p q b hp hq=>h.cz p q b (hO p b hp).1 (hO q b hq).1,cG:=fun p b hp hm=>(by cases hm),fP:=fun p b hp=>h.fP p b (hO p b hp).1,
         La:=fun b hb=>(by cases hb),Oa:=fun p b hp=>(by obtain ⟨h1,t,rfl⟩:=hO p b hp;exact .inl ⟨t,h1⟩),fresh:=fun b hb=>.inr hb }
theorem St.Lz (h:St A M L w H ev ea O) {M':Mem} {w':World} {v:Value} {r:AV} {L':List Nat} {O':Pos→Option Nat}
 (h':St (DL O w) M' L' w' [] (fW (fun _=>undef) 0 v) (fW (fun _=>.any) 0 r) O')
 (cP:Ext (DL O w) M w M' w') :
 ∃ O3,St A M' L w' H (fW (fun _=>undef) 0 v) (fW (fun _=>.any) 0 r) O3∧Ext A M w M' w':=by
 have Xz:L'=[]:=by have:=h'.len;simpa using this
 subst Xz
 have hAA:∀ b,((∃ t,O (.t t)=some b)∨w.heap.size≤b)→A b:=by
  rintro b (⟨t,ht⟩ | hb)
  ·exact h.Oa _ b ht
  ·exact h.fresh b hb
 have keepL:∀ b∈L,w'.heap[b]?=w.heap[b]?∧∀ o,M' b o=M b o:=fun b hb=>cP.ky b (h.lt b hb) (by
  rintro (⟨t,ht⟩ | hs)
  ·exact h.cG _ b ht hb
  ·exact absurd (h.lt b hb) (by omega))
 have keepC:∀ id j b,O (.c id j)=some b→w'.heap[b]?=w.heap[b]?∧∀ o,M' b o=M b o:=fun id j b hb=>cP.ky b (h.fP _ b hb) (by
  rintro (⟨t,ht⟩ | hs)
  ·cases h.cz _ _ b ht hb
  ·exact absurd (h.fP _ b hb) (by omega))
 let O3:Pos→Option Nat:=fun p=>match p with | .t t=>if t=0 then O' (.t 0) else none | .c id j=>O (.c id j)
 have TO:∀ b,O' (.t 0)=some b→b∉L∧(∀ id j,O (.c id j)≠some b):=by
  intro b hb
  rcases h'.Oa _ b hb with ⟨t,ht⟩ | hs
  ·exact ⟨h.cG _ b ht,fun id j hc=>by cases h.cz _ _ b ht hc⟩
  ·exact ⟨fun hm=>absurd (h.lt b hm) (by omega),fun id j hc=>absurd (h.fP _ b hc) (by omega)⟩
 refine ⟨O3,?_,⟨cP.mc,cP.size,cP.os,cP.tape,cP.output,fun b hb hA=>cP.ky b hb (fun hx=>hA (hAA b hx)),cP.loops⟩⟩
 exact { len:=h.len,nodup:=h.nodup
         env:=fun t=>(h'.env t).mono (Mem.bY _) (List.nil_prefix)
         mem:=h'.mem
         obj:=fun id o b ho hb=>(h.obj id o b ho hb).mono cP.mc (aav _) (keepL b (abE hb)).1 (keepL b (abE hb)).2
         bI:=h.bI
         lt:=fun b hb=>adf (h.lt b hb) cP.size
         iX:=fun t=>by
          by_cases e:t=0
          ·subst e;simpa [O3] using h'.iX 0
          ·simp [O3,e,fW,bj]
         iT:=fun id j=>by
          have e1:bT L w' id j=bT L w id j:=by
           unfold bT
           cases hl:L[id]? with
           | none=>rfl
           | some b=>simp only [World.cell?,(keepL b (abE hl)).1]
          rw [e1]
          exact (h.iT id j).mono fun b hb=>keepC id j b hb
         cz:=fun p q b hp hq=>by
          cases p with
          | t t=>
            simp only [O3] at hp
            split at hp
            ·rename_i e;subst e
             cases q with
             | t t'=>
               simp only [O3] at hq
               split at hq
               ·rename_i e;subst e;rfl
               ·cases hq
             | c id j=>exact absurd hq ((TO b hp).2 id j)
            ·cases hp
          | c id j=>
            cases q with
            | t t'=>
              simp only [O3] at hq
              split at hq
              ·exact absurd hp ((TO b hq).2 id j)
              ·cases hq
            | c id' j'=>exact h.cz _ _ b hp hq
         cG:=fun p b hp=>by
          cases p with
          | t t=>
            simp only [O3] at hp
            split at hp
            ·exact (TO b hp).1
            ·cases hp
          | c id j=>exact h.cG _ b hp
         fP:=fun p b hp=>by
          cases p with
          | t t=>
            simp only [O3] at hp
            split at hp
            ·exact h'.fP _ b hp
            ·cases hp
          | c id j=>exact adf (h.fP _ b hp) cP.size
         La:=h.La
         Oa:=fun p b hp=>by
          cases p with
          | t t=>
            simp only [O3] at hp
            split at hp
            ·exact hAA b (h'.Oa _ b hp)
            ·cases hp
          | c id j=>exact h.Oa _ b hp
         fresh:=fun b hb=>h.fresh b (abX cP.size hb) }
theorem ax.frame {f:FuncId} {args:List AV} {R:AV→Prop} (ha:∀ x∈args,x.bc 0=true) (h:ax P f args [] fun r H'=>R r∧H'=[]) (H:List aa):ax P f args H fun r H'=>R r∧H'=H:=by
 intro A M L w vs O hA hs bX
 have hb:∀ t,(args.getD t .any).bc 0=true:=by
  intro t
  rw [rB]
  cases hx:args[t]? with
  | none=>rfl
  | some x=>exact ha x (abE hx)
 rcases h (DL O w) M [] w vs _ (DM O w) hs (bX.bare hb) with ⟨h1,h2⟩ | ⟨v,w',r,H',M',L',O',h1,⟨h2,rfl⟩,h3,h4,_⟩
 ·refine .inl ⟨h1,h2.mono ?_⟩
  rintro e w' ⟨v,r,H',M',L',O',k1,⟨k2,rfl⟩,k3,k4,_⟩
  obtain ⟨O3,g1,g2⟩:=bX.Lz k3 k4
  exact ⟨v,r,H,M',L,O3,k1,⟨k2,rfl⟩,g1,g2,aav L⟩
 ·obtain ⟨O3,g1,g2⟩:=bX.Lz h3 h4
  exact .inr ⟨v,w',r,H,M',L,O3,h1,⟨h2,rfl⟩,g1,g2,aav L⟩
end
end Go.aK
end
