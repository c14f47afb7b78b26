/- Part 3 of 20 of the proof. -/
import Derived.Test.YtljchnfgjdjobaaGreatWab
set_option linter.unusedVariables false
set_option linter.unusedSimpArgs false
set_option linter.defProp false
set_option linter.unusedSectionVars false
section
namespace Go.aI
open Go
inductive RX where
 | t (s:Nat)
 | c (s:Nat) (sz:Option Nat)
 deriving Inhabited
def LN (P:Program):ResultVar→Option RX
 | .tmp t=>some (.t t)
 | .cell a t=>(K5 P t).map (.c a)
def iP (P:Program):List ResultVar→Option (List RX)
 | []=>some []
 | r::rs=>match LN P r,iP P rs with
   | some x,some xs=>some (x::xs)
   | _,_=>none
def tS:List RX→Env→List aa→(List AV→Prop)→Prop
 | [],_,_,φ=>φ []
 | .t s::r,env,H,φ=>tS r env H fun xs=>φ (get env s::xs)
 | .c s sz::r,env,H,φ=>aY sz (get env s) H fun x=>tS r env H fun xs=>φ (x::xs)
def bS (n0:Nat) (rs:List RX) (env:Env) (H:List aa) (R:AV→List aa→Prop):Prop:=
 tS rs env H fun xs=>∃ m,n0≤m∧match xs with
  | [x]=>∃ r,x.le r∧r.bb m=true∧R r (H.take m)
  | xs=>∃ ys,ze (xs.map AV.ab) ys∧al m ys=true∧R (.tuple ys) (H.take m)
def jH (C:List aa→Nat→List aa→Prop) (n0:Nat) (rs:List RX) (env:Env) (H:List aa) (R:AV→List aa→Prop):Prop:=
 tS rs env H fun xs=>∃ m H',n0≤m∧C H m H'∧match xs with
  | [x]=>∃ r,x.le r∧r.bb m=true∧R r H'
  | xs=>∃ ys,ze (xs.map AV.ab) ys∧al m ys=true∧R (.tuple ys) H'
theorem tT:∀ {rs:List RX} {env:Env} {H:List aa} {φ ψ:List AV→Prop},(∀ xs,φ xs→ψ xs)→tS rs env H φ→tS rs env H ψ
 | [],env,H,φ,ψ,hm,h=>hm _ h
 | .t s::r,env,H,φ,ψ,hm,h=>tT (rs:=r) (fun xs hx=>hm _ hx) h
 | .c s sz::r,env,H,φ,ψ,hm,h=>kR (fun x hx=>tT (rs:=r) (fun xs hx=>hm _ hx) hx) h
theorem Ul {n0:Nat} {rs:List RX} {env:Env} {H:List aa} {R:AV→List aa→Prop} (h:bS n0 rs env H R):jH (fun H m H'=>H'=H.take m) n0 rs env H R:=
 tT (fun xs ⟨m,h1,h2⟩=>⟨m,H.take m,h1,rfl,h2⟩) h
def bY:Nat→List AV→Env
 | _,[]=>[]
 | k,x::xs=>(k,x)::bY (k + 1) xs
theorem nB:∀ (xs:List AV) (k t:Nat),get (bY k xs) t=if k≤t then xs.getD (t - k) .any else .any
 | [],k,t=>by simp [bY,get]
 | x::xs,k,t=>by
   simp only [bY,get]
   split
   ·rename_i e;subst e;simp
   ·rename_i e
    rw [nB xs (k + 1) t]
    by_cases h:k + 1≤t
    ·have:t - k=(t - (k + 1)) + 1:=by omega
     rw [if_pos h,if_pos (by omega),this];simp
    ·rw [if_neg h,if_neg (by omega)]
section
variable {P:Program} {A:Perm} {n:Nat} {M:Mem} {L:List Nat} {w:World} {H:List aa} {env:Env} {O:Pos→Option Nat} {a:Act}
def BN (tmps:Array Value):ResultVar→Sem Value:=fun
 | .tmp t=>pure (tmps.getD t undef)
 | .cell a t=>do loadVar t (← asAddr (tmps.getD a undef))
theorem DQ {fn:Func} {tmps:Array Value} {vs:List Value} (h:(fn.results.toList.mapM (BN tmps)).run P w=.ok vs w) :
 (results fn tmps).run P w=.ok (if h:vs.toArray.size=1 then vs.toArray[0] else .tuple vs.toArray) w:=by
 have e:(results fn tmps)=(do
  let vs ← fn.results.mapM (BN tmps)
  pure (if h:vs.size=1 then vs[0] else .tuple vs)):=rfl
 rw [e,Array.mapM_eq_mapM_toList]
 simp only [Sem.run_bind,Sem.run_map,h]
 rfl
theorem BO (hf:Fr A n M L w H env O a):∀ (rs:List ResultVar) (is:List RX),iP P rs=some is→∀ {φ:List AV→Prop},tS is env H φ→
 ∃ vs xs,(rs.mapM (BN a.tmps)).run P w=.ok vs w∧φ xs∧aN M L vs xs∧(∀ s,is=[.t s]→xs=[get env s]∧vs=[a.tmps.getD s undef])∧(∀ s sz,is=[.c s sz]→∀ x,xs=[x]→∀ own ys,x=.aj own ys→own=0)
 | [],is,hc,φ,h=>by
   simp only [iP] at hc;cases hc
   exact ⟨[],[],by simp,h,.nil,(by intro s e;cases e),(by intro s sz e;cases e)⟩
 | r::rs,is,hc,φ,h=>by
   unfold iP at hc
   split at hc <;> cases hc
   rename_i x xs hx eR
   cases r with
   | tmp t=>
     simp only [LN] at hx;cases hx
     simp only [tS] at h
     obtain ⟨vs,ys,h1,h2,h3,_⟩:=BO hf rs xs eR h
     refine ⟨a.tmps.getD t undef::vs,get env t::ys,?_,h2,.cons _ _ _ _ (hf.st.env t) h3,?_,?_⟩
     ·simp only [List.mapM_cons,Sem.run_bind,BN,Sem.run_pure,Result.andThen_ok,h1]
     ·intro s e
      cases e
      cases rs with
      | nil=>
        cases h3 with
        | nil=>exact ⟨rfl,rfl⟩
        | cons v x vs xs hh tt=>
          simp at h1
      | cons r rs=>
        unfold iP at eR
        split at eR <;> cases eR
     ·intro s sz e;cases e
   | cell p t=>
     simp only [LN,zW] at hx
     obtain ⟨sz,de,rfl⟩:=hx
     simp only [tS] at h
     obtain ⟨r,z,k1,k2,k3,k4⟩:=tD (P:=P) de hf.st h (hf.st.env p)
     obtain ⟨vs,ys,h1,h2,h3,_⟩:=BO hf rs xs eR k3
     refine ⟨r::vs,z::ys,?_,h2,.cons _ _ _ _ k2 h3,?_,?_⟩
     ·have hl:(do loadVar t (← asAddr (a.tmps.getD p undef)):Sem Value).run P w=.ok r w:=by
       have gr:=hf.st.env p
       revert k1 gr
       generalize a.tmps.getD p undef=u
       intro k1 gr
       unfold aY at h
       split at h
       ·rename_i id off e
        rw [e] at gr
        cases gr
        exact k1
       ·rename_i y e
        rw [e] at gr
        cases gr
        exact k1
       ·exact h.elim
      have h1':(List.mapM (BN a.tmps) rs).run P w=.ok vs w:=h1
      simp only [List.mapM_cons,Sem.run_bind,BN] at hl ⊢
      rw [hl]
      simp only [Result.andThen_ok,h1']
      rfl
     ·intro s e;cases e
     ·intro s sz e x hx
      cases hx
      exact k4
theorem St.aM {ev:Nat→Value} {ea:Nat→AV} (h:St A M L w H ev ea O) {v:Value} {x:AV} (hr:aZ M L v x) (ob:Option Nat) (hs:bj M w v x ob)
 (h1:∀ id j b,ob=some b→O (.c id j)≠some b) (h2:∀ b,ob=some b→b∉L∧b < w.heap.size∧A b) :
 ∃ O',St A M L w H (fZ (fun _=>undef) 0 v) (fZ (fun _=>.any) 0 x) O':=by
 have k1:=h.rY (fun _=>undef) (fun _=>.any) (fun _=>.any _) (fun _ _ _ e=>by cases e)
 exact ⟨_,k1.put 0 hr ob hs (fun p b hob hp=>by
  cases p with
  | t t=>cases hp
  | c id j=>exact absurd hp (h1 id j b hob)) h2⟩
theorem Ik {x:AV} {m:Nat} (hb:x.bb m=true) (t:Nat):(fZ (fun _=>AV.any) 0 x t).bb m=true:=by
 simp only [fZ]
 split
 ·exact hb
 ·rfl
theorem St.LO {ev:Nat→Value} {ea:Nat→AV} (h:St A M L w H ev ea O) (A2:Perm) (hwr:A2.wr=A.wr) (n:Nat) {H':List aa} (hlen:H'.length=min n H.length)
 (hc:∀ (id:Nat) (o:aa),H'[id]?=some o→o=.dead∨(H[id]?=some o∧o.bb (A2.jb H'.length id)=true)) (hb:∀ t,(ea t).bb n=true):∃ O',St A2 M (L.take n) w H' ev ea O':=by
 let O':Pos→Option Nat:=fun p=>match p with | .t t=>O (.t t) | .c id j=>match H'[id]? with | some .dead=>none | some _=>O (.c id j) | none=>none
 have hO:∀ p b,O' p=some b→O p=some b:=by
  intro p b hp
  cases p with
  | t t=>exact hp
  | c id j=>
    simp only [O'] at hp
    split at hp <;> first | exact hp | cases hp
 have kI:∀ {α:Type} {l:List α} {i:Nat} {a:α},(l.take n)[i]?=some a→i < n∧l[i]?=some a:=by
  intro α l i a hi
  rw [aaM] at hi
  split at hi
  ·exact ⟨by assumption,hi⟩
  ·cases hi
 have jS:∀ b,b∈L.take n→b∈L:=fun b hb=>acN hb
 refine ⟨O',{ len:=by simp [h.len,hlen],nodup:=(List.take_sublist n L).nodup h.nodup,env:=fun t=>(h.env t).ij (hb t),mem:=h.mem,obj:=?_,bG:=?_,lt:=fun b hb=>h.lt b (jS b hb),je:=h.je,jc:=?_,cq:=fun p q b hp hq=>h.cq p q b (hO p b hp) (hO q b hq),cC:=fun p b hp hm=>h.cC p b (hO p b hp) (jS b hm),fP:=fun p b hp=>h.fP p b (hO p b hp),La:=fun b hb=>by rw [hwr];exact h.La b (jS b hb),Oa:=fun p b hp=>by rw [hwr];exact h.Oa p b (hO p b hp),fresh:=fun b hb=>by rw [hwr];exact h.fresh b hb }⟩
 ·intro id o b ho ey
  obtain ⟨hn,ey⟩:=kI ey
  rcases hc id o ho with rfl | ⟨h1,h2⟩
  ·trivial
  ·refine (h.obj id o b h1 ey).ij (aa.cH ?_ o h2)
   have:=A2.wR H'.length id
   omega
 ·intro id o ho
  rcases hc id o ho with rfl | ⟨h1,h2⟩
  ·rfl
  ·exact h2
 ·intro id j
  have dead:∀ x:Option aa,H'[id]?=x→(x=none∨x=some .dead)→bj M w (bT (L.take n) w id j) (bE H' id j) (O' (.c id j)):=by
   intro x hx SM
   have e2:bE H' id j=.any:=by
    unfold bE
    rw [hx]
    rcases SM with rfl | rfl <;> rfl
   have e3:O' (.c id j)=none:=by
    simp only [O',hx]
    rcases SM with rfl | rfl <;> rfl
   rw [e2,e3]
   rfl
  cases hx:H'[id]? with
  | none=>exact dead none hx (.inl rfl)
  | some o=>
    by_cases ed:o=.dead
    ·subst ed;exact dead _ hx (.inr rfl)
    ·rcases hc id o hx with h' | ⟨h1,h2⟩
     ·exact absurd h' ed
     have hl:=aQ hx
     have e1:bT (L.take n) w id j=bT L w id j:=by
      unfold bT
      rw [aaM,if_pos (by omega)]
     have e2:bE H' id j=bE H id j:=by
      unfold bE
      rw [hx,h1]
     have e3:O' (.c id j)=O (.c id j):=by
      simp only [O',hx]
     rw [e1,e2,e3]
     exact h.jc id j
theorem Il:∀ {vs:List Value} {xs ys:List AV},aN M L vs xs→ze (xs.map AV.ab) ys→aN M L vs ys
 | _,_,[],.nil,h=>.nil
 | _,_,y::ys,.nil,h=>by simp [ze] at h
 | _,_,[],.cons _ _ _ _ _ _,h=>by simp [ze] at h
 | _,_,y::ys,.cons _ _ _ _ h1 h2,h=>by
   simp only [List.map_cons,ze] at h
   exact .cons _ _ _ _ (h1.ab.le h.1) (Il h2 h.2)
def Marks (A:Perm) (w w2:World):Prop:=w2.heap.size=w.heap.size∧w2.os=w.os∧w2.tape=w.tape∧w2.output=w.output∧
 ∀ b,w2.heap[b]?=w.heap[b]?∨(A.base≤b∧¬ A b∧(∃ x,w.heap[b]?=some (.deferred x))∧∃ x,w2.heap[b]?=some (.deferred x))
theorem Marks.refl (A:Perm) (w:World):Marks A w w:=⟨rfl,rfl,rfl,rfl,fun b=>.inl rfl⟩
theorem Marks.trans {A:Perm} {w w1 w2:World} (h:Marks A w w1) (k:Marks A w1 w2):Marks A w w2:=by
 refine ⟨k.1.trans h.1,k.2.1.trans h.2.1,k.2.2.1.trans h.2.2.1,k.2.2.2.1.trans h.2.2.2.1,fun b=>?_⟩
 rcases h.2.2.2.2 b with h1 | ⟨h1,h2,h3,x,h4⟩ <;> rcases k.2.2.2.2 b with k1 | ⟨k1,k2,⟨y,k3⟩,k4⟩
 ·exact .inl (k1.trans h1)
 ·exact .inr ⟨k1,k2,⟨y,by rw [← h1];exact k3⟩,k4⟩
 ·exact .inr ⟨h1,h2,h3,x,by rw [k1];exact h4⟩
 ·exact .inr ⟨h1,h2,h3,k4⟩
theorem sj {A:Perm} {F:Fence} {m:Nat} {fn:Func} {tmps:Array Value} {R:Ending→World→Prop}:∀ (ds:List Deferred) {w:World},SC A w ds→(∀ w2,Marks A w w2→LeavesIn F m P fn tmps R [] .returning w2)→LeavesInM F m P fn tmps R ds .returning w
 | [],w,_,h=>h w (.refl A w)
 | d::ds,w,hd,h=>by
   obtain ⟨D,rfl,h2,h3,h4⟩:=hd.2.2 _ aa2
   have hm:Marks A w (w.putObj D (.deferred none)):=⟨World.putObj_size,rfl,rfl,rfl,fun b=>by
    by_cases e:b=D
    ·subst e
     exact .inr ⟨h4,h3,⟨_,h2⟩,_,World.putObj_heap_same (acn.1 h2).1⟩
    ·exact .inl (World.putObj_heap_other e)⟩
   refine ⟨by simp,.inl ⟨D,_,rfl,run_takeDeferred h2,sj ds ⟨by rw [World.putObj_size];exact hd.1,(List.nodup_cons.1 hd.2.1).2,fun d' hd'=>?_⟩ fun w2 hm2=>h w2 (hm.trans hm2)⟩⟩
   obtain ⟨D',e',k2,k3⟩:=hd.2.2 d' (aaK _ hd')
   refine ⟨D',e',?_,k3⟩
   rw [World.putObj_heap_other]
   ·exact k2
   ·rintro rfl
    exact (List.nodup_cons.1 hd.2.1).1 (e' ▸ hd')
theorem St.marks {ev:Nat→Value} {ea:Nat→AV} (h:St A M L w H ev ea O) {w2:World} (hm:Marks A w w2):St A M L w2 H ev ea O:=by
 obtain ⟨h1,_,_,_,h5⟩:=hm
 have same:∀ b,A b→w2.heap[b]?=w.heap[b]?:=fun b hb=>by
  rcases h5 b with h | ⟨_,h,_⟩
  ·exact h
  ·exact absurd hb h
 exact { len:=h.len,nodup:=h.nodup,env:=h.env,bG:=h.bG,cq:=h.cq,cC:=h.cC,La:=h.La,Oa:=h.Oa
         mem:=fun b o v hv=>by
          have hc:=h.mem b o v hv
          rcases h5 b with e | ⟨_,_,⟨x,e⟩,_⟩
          ·simp only [World.cell?] at hc ⊢;rw [e];exact hc
          ·simp [World.cell?,e] at hc
         obj:=fun id o b ho hb=>(h.obj id o b ho hb).mono (Mem.bW M) (aaG L) (same b (h.La b (abm hb))) (fun _=>rfl)
         lt:=fun b hb=>by rw [h1];exact h.lt b hb
         je:=fun t=>(h.je t).mono fun b hb=>⟨same b (h.Oa _ b hb),fun _=>rfl⟩
         jc:=fun id j=>by
          have e:bT L w2 id j=bT L w id j:=by
           unfold bT
           split
           ·rename_i b hb
            simp only [World.cell?]
            rw [same b (h.La b (abm hb))]
           ·rfl
          rw [e]
          exact (h.jc id j).mono fun b hb=>⟨same b (h.Oa _ b hb),fun _=>rfl⟩
         fP:=fun p b hp=>by rw [h1];exact h.fP p b hp
         fresh:=fun b hb=>h.fresh b (by rw [← h1];exact hb) }
theorem Ext.marks {A A':Perm} {M M':Mem} {w w' w2:World} (h:Ext A M w M' w') (hm:Marks A' w' w2) (hb:w.heap.size≤A'.base):Ext A M w M' w2:=by
 obtain ⟨h1,h2,h3,h4,h5⟩:=hm
 refine ⟨h.mh,by rw [h1];exact h.size,h2.trans h.os,h3.trans h.tape,h4.trans h.output,fun b aP hA=>?_,fun b r hr=>?_⟩
 ·obtain ⟨k1,k2⟩:=h.kH b aP hA
  refine ⟨?_,k2⟩
  rcases h5 b with e | ⟨e,_⟩
  ·exact e.trans k1
  ·omega
 ·obtain ⟨r',k1,k2⟩:=h.loops b r hr
  rcases h5 b with e | ⟨_,_,⟨x,e⟩,_⟩
  ·exact ⟨r',e.trans k1,k2⟩
  ·rw [k1] at e;cases e
theorem qX {lo:Option Nat} {b:Bool} (A1:Perm→Perm) (C:List aa→Nat→List aa→Prop) {f:FuncId} {fn:Func} {c:Code} {an:C7} {lv:mf} {pl:mg} {ir:IR} {rs:List RX} {args:List AV} {R:AV→List aa→Prop}
 (hf:P.funcs[f]?=some fn) (hcall:∀ (as:Array Value) (w:World),(callFunc f as).run P w=.ok (.enter f as) w) (hb:fn.body=some c) (hc:comp P an lv pl fn.ntmps c=some ir) (vW:iP P fn.results.toList=some rs)
 (h1:∀ A:Perm,A.entry b H.length→gg lo H.length (A1 A)) (h2:∀ A:Perm,(A1 A).wr=A.wr) (h3:∀ (A:Perm) {M:Mem} {L:List Nat} {w:World} {ev:Nat→Value} {ea:Nat→AV} {O:Pos→Option Nat},A.entry b H.length→St A M L w H ev ea O→St (A1 A) M L w H ev ea O)
 (h4:∀ (A:Perm) {M:Mem} {L:List Nat} {w:World} {H':List aa} {ev:Nat→Value} {ea:Nat→AV} {O:Pos→Option Nat} {m:Nat} {H'':List aa},A.entry b H.length→H.length≤m→H.length≤H'.length→C H' m H''→St (A1 A) M L w H' ev ea O→(∀ t,(ea t).bb m=true)→∃ O',St A M (L.take m) w H'' ev ea O')
 (hn:args.length≤fn.ntmps) (Rt:Env→List aa→Prop) (hRt:∀ env H',Rt env H'→jH C H.length rs env H' R) (h:mX ⟨P,lo⟩ H.length ir (bY 0 args) H fun e env H'=>(e=.normal∨e=.ret)∧Rt env H'):lT b P f args H R:=by
 refine fun A M L w vs O hA hs Ya=>.inl ⟨hcall _ _,callsIn_wide.1 (callsIn_of_wp_marks (F:=Fence.wide) (n:=0) hf hb trivial ?_ rfl)⟩
 obtain ⟨A2,Gx⟩:∃ A2:Perm,A2={ A1 A with base:=w.heap.size }:=⟨_,rfl⟩
 have a2w:A2.wr=A.wr:=by rw [Gx];exact h2 A
 have st12:∀ {M:Mem} {L:List Nat} {w:World} {H:List aa} {ev:Nat→Value} {ea:Nat→AV} {O:Pos→Option Nat},St (A1 A) M L w H ev ea O→St A2 M L w H ev ea O:=by
  intro M L w H ev ea O h;subst Gx
  exact { len:=h.len,nodup:=h.nodup,env:=h.env,mem:=h.mem,obj:=h.obj,bG:=h.bG,lt:=h.lt,je:=h.je,jc:=h.jc,cq:=h.cq,cC:=h.cC,fP:=h.fP,La:=h.La,Oa:=h.Oa,fresh:=h.fresh }
 have st21:∀ {M:Mem} {L:List Nat} {w:World} {H:List aa} {ev:Nat→Value} {ea:Nat→AV} {O:Pos→Option Nat},St A2 M L w H ev ea O→St (A1 A) M L w H ev ea O:=by
  intro M L w H ev ea O h;subst Gx
  exact { len:=h.len,nodup:=h.nodup,env:=h.env,mem:=h.mem,obj:=h.obj,bG:=h.bG,lt:=h.lt,je:=h.je,jc:=h.jc,cq:=h.cq,cC:=h.cC,fP:=h.fP,La:=h.La,Oa:=h.Oa,fresh:=h.fresh }
 have bV:=st12 (h3 A hA Ya)
 have hfits:gg lo H.length A2:=by rw [Gx];exact h1 A hA
 have JJ:L.length=H.length:=Ya.len
 have FN:Fr A2 fn.ntmps M L w H (bY 0 args) O { tmps:=vs++Array.replicate (fn.ntmps - vs.size) undef,defers:=[] }:=by
  refine ⟨bV.congr ?_ ?_,by simp;omega,⟨by rw [Gx];exact tv _,List.nodup_nil,fun d h=>by cases h⟩⟩
  ·intro t
   simp only [acd]
   by_cases ht:t < vs.size
   ·rw [Array.getElem?_append_left ht]
   ·rw [Array.getElem?_append_right (by omega),Array.getElem?_eq_none (xs:=vs) (by omega),afL]
    split <;> rfl
  ·intro t
   rw [nB];simp
 rw [← bV.len] at h hfits
 refine Go.wpIn_mono (Gw (ro:=none) (L0:=L) c ir hc hfits (fun l e=>by cases e) h FN (aaG L)) ?_
 rintro e a w1 ⟨A',M',L',H',env,O',hle,⟨he,JR⟩,PD,hext1,hL⟩
 have base:A'.base=w.heap.size:=by rw [hle.2.2,Gx]
 have done:(∀ w',Marks A' w1 w'→LeavesIn Fence.wide 0 P fn a.tmps (fun e w'=>∃ v r H' M' L' O',e=.returned v∧R r H'∧St A M' L' w' H' (fZ (fun _=>undef) 0 v) (fZ (fun _=>.any) 0 r) O'∧Ext A M w M' w'∧L <+: L') [] .returning w')→
  bodyPostM Fence.wide 0 P fn (fun e w'=>∃ v r H' M' L' O',e=.returned v∧R r H'∧St A M' L' w' H' (fZ (fun _=>undef) 0 v) (fZ (fun _=>.any) 0 r) O'∧Ext A M w M' w'∧L <+: L') e a w1:=by
  intro hd
  rcases he with rfl | rfl <;> exact sj _ PD.defers hd
 refine done fun w' hm=>?_
 have BP:Fr A2 fn.ntmps M' L' w' H' env O' { a with defers:=[] }:=
  ⟨(PD.st.marks hm).le hle,PD.size,⟨by rw [hm.1,← hle.2.2];exact PD.defers.1,List.nodup_nil,fun d h=>by cases h⟩⟩
 have cJ:Ext A M w M' w':=by
  have:=hext1.marks hm (Nat.le_of_eq base.symm)
  exact ⟨this.mh,this.size,this.os,this.tape,this.output,fun b hb hA=>this.kH b hb (by rw [a2w];exact hA),this.loops⟩
 have hlen2:H.length≤H'.length:=by have:=hL.length_le;rw [JJ,BP.st.len] at this;exact this
 have goal:∃ v,(results fn a.tmps).run P w'=.ok v w'∧∃ v' r H'' M'' L'' O'',Ending.returned v=.returned v'∧R r H''∧St A M'' L'' w' H'' (fZ (fun _=>undef) 0 v') (fZ (fun _=>.any) 0 r) O''∧Ext A M w M'' w'∧L <+: L'':=by
  replace JR:=hRt _ _ JR
  unfold jH at JR
  obtain ⟨us,xs,k1,⟨m,H2,hm,hC,k2⟩,k3,k4,k5⟩:=BO (P:=P) BP _ _ vW JR
  have mZ:L <+: L'.take m:=by
   obtain ⟨r,rfl⟩:=hL
   exact ⟨r.take (m - L.length),by rw [aga,aaJ (show L.length≤m by omega)]⟩
  have bL:=DQ k1
  split at k2
  ·rename_i x
   obtain ⟨r,hle,hb,hR⟩:=k2
   cases k3 with
   | cons v _ _ _ hv ht=>
   cases ht
   refine ⟨v,by simpa using bL,v,r,H2,M',L'.take m,?_⟩
   have vS:∃ ob,bj M' w' v x ob∧(∀ id j b,ob=some b→O' (.c id j)≠some b)∧(∀ b,ob=some b→b∉L'∧b < w'.heap.size∧A2 b):=by
    match rs,vW,k4,k5 with
    | [],vW,_,_=>
      unfold iP at vW
      split at vW
      ·rename_i e
       rw [e] at k1
       simp at k1
      ·split at vW <;> cases vW
    | [.t s],_,k4,_=>
      obtain ⟨e1,e2⟩:=k4 s rfl
      cases e1;cases e2
      refine ⟨O' (.t s),BP.st.je s,fun id j b hb hc=>?_,fun b hb=>⟨BP.st.cC _ b hb,BP.st.fP _ b hb,BP.st.Oa _ b hb⟩⟩
      exact absurd (BP.st.cq _ _ b hb hc) (by intro e;cases e)
    | [.c s sz],_,_,k5=>
      exact ⟨none,bj.free (k5 s sz rfl x rfl),(fun _ _ _ e=>by cases e),(fun _ e=>by cases e)⟩
    | r1::r2::rs,vW,_,_=>
      unfold iP at vW
      split at vW
      ·cases vW
      ·split at vW <;> cases vW
       rename_i h1 h2
       unfold iP at h2
       split at h2
       ·cases h2
       ·rename_i e
        rw [e] at k1
        simp only [List.mapM_cons,Sem.run_bind] at k1
        revert k1
        generalize K8:(BN a.tmps _).run P w'=g1
        cases g1 <;> simp
        generalize hg2:(BN a.tmps _).run P _=g2
        cases g2 <;> simp
        generalize hg3:(List.mapM (BN a.tmps) _).run P _=g3
        cases g3 <;> simp
   obtain ⟨ob,o1,o2,o3⟩:=vS
   obtain ⟨ob',p1,p2⟩:=o1.le hv hle
   obtain ⟨O'',nj⟩:=BP.st.aM (hv.le hle) ob' p1 (fun id j b hb=>by
    rcases p2 with rfl | rfl
    ·cases hb
    ·exact o2 id j b hb) (fun b hb=>by
    rcases p2 with rfl | rfl
    ·cases hb
    ·exact o3 b hb)
   obtain ⟨O3,LP⟩:=h4 A hA (by omega) hlen2 hC (st21 nj) (Ik hb)
   exact ⟨O3,rfl,hR,LP,cJ,mZ⟩
  ·rename_i dP
   obtain ⟨ys,hle,hb,hR⟩:=k2
   have hlen:us.toArray.size≠1:=by
    have:=k3.length
    intro e
    simp at e
    rw [e] at this
    match xs,this with
    | [x],_=>exact dP x rfl
   rw [dif_neg hlen] at bL
   refine ⟨.tuple us.toArray,bL,.tuple us.toArray,.tuple ys,H2,M',L'.take m,?_⟩
   obtain ⟨O'',nj⟩:=BP.st.aM (.tuple _ _ (Il k3 hle)) none (bj.free (by intro _ _ e;cases e)) (fun _ _ _ e=>by cases e) (fun _ e=>by cases e)
   obtain ⟨O3,LP⟩:=h4 A hA (by omega) hlen2 hC (st21 nj) (Ik (x:=.tuple ys) hb)
   exact ⟨O3,rfl,hR,LP,cJ,mZ⟩
 exact goal
theorem qY {A:Perm} {k:Nat} (h:A.entry false k):gg none k A:=⟨h.1,fun id bn=>by rw [h.2 id bn];rfl⟩
theorem DR {A:Perm} {k:Nat} (h:A.entry true k):gg (some k) k A:=⟨h.1,rfl,fun id bn=>by rw [h.2 id bn];rfl⟩
theorem JS {f:FuncId} {fn:Func} {c:Code} {an:C7} {lv:mf} {pl:mg} {ir:IR} {rs:List RX} {args:List AV} {R:AV→List aa→Prop}
 (hf:P.funcs[f]?=some fn) (hcall:∀ (as:Array Value) (w:World),(callFunc f as).run P w=.ok (.enter f as) w) (hb:fn.body=some c) (hc:comp P an lv pl fn.ntmps c=some ir) (vW:iP P fn.results.toList=some rs)
 (hn:args.length≤fn.ntmps) (h:mX P H.length ir (bY 0 args) H fun e env H'=>(e=.normal∨e=.ret)∧bS H.length rs env H' R):ax P f args H R:=by
 refine qX (lo:=none) (b:=false) (fun A=>A) (fun H m H'=>H'=H.take m) hf hcall hb hc vW (fun A=>qY) (fun A=>rfl) (fun A _ _ _ _ _ _ _ h=>h) ?_ hn (fun env H'=>bS H.length rs env H' R) (fun env H'=>Ul) h
 intro A M L w H' ev ea O m H'' hA hm hl e bV Jp
 subst e
 exact bV.cut m (fun id o=>(qY hA).closed hm bV id o) Jp
def pe (k:Nat) (A:Perm):Perm where
 wr:=A.wr
 top:=fun id=>if id < k then A.top id else none
 ok:=fun id n h=>by
  split at h
  ·exact A.ok id n h
  ·cases h
theorem DS {A:Perm} {k:Nat} {b:Bool} (h:A.entry b k):gg (some k) k (pe k A):=
 ⟨fun id bn=>by obtain ⟨m,h1,h2⟩:=h.1 id bn;exact ⟨m,h1,by simp only [pe,if_pos bn];exact h2⟩,rfl,fun id bn=>by simp only [pe];rw [if_neg (by omega)]⟩
def oc (n0:Nat) (H:List aa) (m:Nat) (H':List aa):Prop:=
 H'.length=min m H.length∧∀ (id:Nat) (o:aa),H'[id]?=some o→o=.dead∨(H[id]?=some o∧(n0≤id→o.bb (id + 1)=true))
def xu (n0:Nat) (H:List aa) (m:Nat) (H':List aa):Prop:=
 H'.length=min m H.length∧∀ (id:Nat) (o:aa),H'[id]?=some o→o=.dead∨(H[id]?=some o∧(n0≤id→o.bb H'.length=true))
theorem Gy {f:FuncId} {fn:Func} {c:Code} {an:C7} {lv:mf} {pl:mg} {ir:IR} {rs:List RX} {args:List AV} {R:AV→List aa→Prop}
 (hf:P.funcs[f]?=some fn) (hcall:∀ (as:Array Value) (w:World),(callFunc f as).run P w=.ok (.enter f as) w) (hb:fn.body=some c) (hc:comp P an lv pl fn.ntmps c=some ir) (vW:iP P fn.results.toList=some rs)
 (hn:args.length≤fn.ntmps) (h:mX ⟨P,some H.length⟩ H.length ir (bY 0 args) H fun e env H'=>(e=.normal∨e=.ret)∧jH (oc H.length) H.length rs env H' R):ax P f args H R:=by
 refine qX (lo:=some H.length) (b:=false) (pe H.length) (oc H.length) hf hcall hb hc vW (fun A hA=>DS hA) (fun A=>rfl) (fun A M L w ev ea O hA bV=>?_) ?_ hn (fun env H'=>jH (oc H.length) H.length rs env H' R) (fun env H' h=>h) h
 ·exact { len:=bV.len,nodup:=bV.nodup,env:=bV.env,mem:=bV.mem,obj:=bV.obj,lt:=bV.lt,je:=bV.je,jc:=bV.jc,cq:=bV.cq,cC:=bV.cC,fP:=bV.fP,La:=bV.La,Oa:=bV.Oa,fresh:=bV.fresh
          bG:=fun id o ho=>by
           have:=bV.bG id o ho
           have e:(pe H.length A).jb H.length id=A.jb H.length id:=by unfold Perm.jb;simp only [pe,if_pos (aQ ho)]
           rw [e];exact this }
 ·intro A M L w H' ev ea O m H'' hA hm hl hC bV Jp
  obtain ⟨hlen,hC⟩:=hC
  refine bV.LO A rfl m hlen (fun id o ho=>?_) Jp
  rcases hC id o ho with h' | ⟨h1,h2⟩
  ·exact .inl h'
  ·refine .inr ⟨h1,?_⟩
   by_cases bn:id < H.length
   ·obtain ⟨k,hk,ek⟩:=hA.1 id bn
    have:=bV.bG id o h1
    have e1:(pe H.length A).jb H'.length id=min k H'.length:=by unfold Perm.jb;simp only [pe,if_pos bn,ek]
    have e2:A.jb H''.length id=min k H''.length:=by unfold Perm.jb;simp only [ek]
    rw [e1] at this
    rw [e2]
    exact aa.cH (by omega) o this
   ·have e2:A.jb H''.length id=min (id + 1) H''.length:=by unfold Perm.jb;rw [hA.2 id (by omega)];rfl
    have:=aQ ho
    rw [e2]
    exact aa.cH (by omega) o (h2 (by omega))
theorem Gz {f:FuncId} {fn:Func} {c:Code} {an:C7} {lv:mf} {pl:mg} {ir:IR} {rs:List RX} {args:List AV} {R:AV→List aa→Prop}
 (hf:P.funcs[f]?=some fn) (hcall:∀ (as:Array Value) (w:World),(callFunc f as).run P w=.ok (.enter f as) w) (hb:fn.body=some c) (hc:comp P an lv pl fn.ntmps c=some ir) (vW:iP P fn.results.toList=some rs)
 (hn:args.length≤fn.ntmps) (h:mX ⟨P,some H.length⟩ H.length ir (bY 0 args) H fun e env H'=>(e=.normal∨e=.ret)∧jH (xu H.length) H.length rs env H' R):jC P f args H R:=by
 refine qX (lo:=some H.length) (b:=true) (fun A=>A) (xu H.length) hf hcall hb hc vW (fun A hA=>DR hA) (fun A=>rfl) (fun A _ _ _ _ _ _ _ h=>h) ?_ hn (fun env H'=>jH (xu H.length) H.length rs env H' R) (fun env H' h=>h) h
 intro A M L w H' ev ea O m H'' hA hm hl hC bV Jp
 obtain ⟨hlen,hC⟩:=hC
 refine bV.LO A rfl m hlen (fun id o ho=>?_) Jp
 rcases hC id o ho with h' | ⟨h1,h2⟩
 ·exact .inl h'
 ·refine .inr ⟨h1,?_⟩
  by_cases bn:id < H.length
  ·obtain ⟨k,hk,ek⟩:=hA.1 id bn
   have:=bV.bG id o h1
   have e1:A.jb H'.length id=min k H'.length:=by unfold Perm.jb;simp only [ek]
   have e2:A.jb H''.length id=min k H''.length:=by unfold Perm.jb;simp only [ek]
   rw [e1] at this
   rw [e2]
   exact aa.cH (by omega) o this
  ·have e2:A.jb H''.length id=H''.length:=by unfold Perm.jb;rw [hA.2 id (by omega)];rfl
   rw [e2]
   exact h2 (by omega)
end
end Go.aI
end
section
namespace Go.aI
open Go
section
variable {P:Program}
theorem sk:∀ (l:List (Nat×Value)) (t:Array Value),(l.foldl (fun t p=>t.setIfInBounds p.1 p.2) t).size=t.size
 | [],t=>rfl
 | p::l,t=>by rw [List.foldl_cons,sk l];simp
theorem vu {M:Mem} {L:List Nat}:∀ {ps:List Nat} {vs:List Value} {xs:List AV} {t:Array Value} {env:Env},aN M L vs xs→(∀ p∈ps,p < t.size)→(∀ s,aZ M L (t.getD s undef) (get env s))→
 ∀ s,aZ M L (((ps.zip vs).foldl (fun t p=>t.setIfInBounds p.1 p.2) t).getD s undef) (get ((ps.zip xs).reverse++env) s)
 | [],_,_,t,env,_,_,h,s=>by simpa using h s
 | p::ps,[],[],t,env,_,_,h,s=>by simpa using h s
 | p::ps,v::vs,x::xs,t,env,hr,hp,h,s=>by
   cases hr with
   | cons _ _ _ _ h1 h2=>
   simp only [List.zip_cons_cons,List.foldl_cons,List.reverse_cons,aa6,List.singleton_append]
   refine vu (env:=(p,x)::env) h2 (fun q hq=>by simpa using hp q (aaK _ hq)) (fun s=>?_) s
   have wh:=hp p aa2
   simp only [acd,adK,get]
   by_cases e:s=p
   ·subst e;simp [wh,h1]
   ·rw [if_neg (fun e'=>e e'.symm),if_neg e]
    have:=h s
    rwa [acd] at this
theorem LQ {es:List AV} (h:∀ x∈es,∀ own xs,x=.aj own xs→own=0) {l:List (Nat×AV)} (hl:∀ p∈l,∀ own xs,p.2=.aj own xs→own=0) (s:Nat):∀ own xs,get (l++bY 0 es) s=.aj own xs→own=0:=by
 induction l with
 | nil=>
   intro own xs e
   rw [List.nil_append,nB,if_pos (acR _),tu] at e
   cases hx:es[s - 0]? with
   | none=>rw [hx] at e;cases e
   | some x=>rw [hx] at e;exact h x (abm hx) own xs e
 | cons p l ih=>
   obtain ⟨k,v⟩:=p
   intro own xs e
   simp only [List.cons_append,get] at e
   split at e
   ·exact hl (k,v) (by simp) own xs e
   ·exact ih (fun p hp=>hl p (by simp [hp])) own xs e
def JT (n0:Nat) (b:Bool) (H:List aa) (R:AV→List aa→Prop):Prop:=n0≤H.length∧R (.bool b) (H.take n0)
def sl (n0 id:Nat) (R:AV→List aa→Prop) (e:Exit) (H:List aa):Prop:=
 match H[id]? with
 | some (.loop .busy lc es)=>(match e with
   | .normal=>JT n0 true (H.set id (.loop .ready lc es)) R
   | .ret=>JT n0 false (H.set id (.loop (.jump .ret) lc es)) R
   | .exit k=>JT n0 false (H.set id (.loop (.jump (.exit k)) lc es)) R
   | _=>False)
 | _=>False
def kW (id:Nat) (H:List aa) (K:List aa→Prop):Prop:=
 match H[id]? with
 | some (.loop .ready lc es)=>K (H.set id (.loop .busy lc es))
 | _=>False
def adq (lc:jE) (es:List AV) (args:List AV):Prop:=es.length=lc.n∧args.length=lc.ps.length∧lc.ps.all (· < lc.n)=true∧(∀ x∈es,x.ab=x)∧∀ x∈args,x.ab=x
theorem xv {x:AV} (h:x.ab=x):∀ own xs,x=.aj own xs→own=0:=by
 rintro own xs rfl
 simp only [AV.ab] at h
 cases h;rfl
theorem pN {id:Nat} {args:List AV} {H:List aa} {lc:jE} {es:List AV} {ia ib:IR} {R:AV→List aa→Prop} (bn:H[id]?=some (.loop .ready lc es))
 (ha:comp P lc.an lc.lv lc.pl lc.n lc.as=some ia) (hb:comp P lc.an lc.lv lc.pl lc.n lc.bd=some ib) (Bo:adq lc es args)
 (h:mX P H.length ia ((lc.ps.zip args).reverse++bY 0 es) H fun e env1 H1=>e=.normal∧kW id H1 fun H2=>mX P H.length ib env1 H2 fun e _ H3=>sl H.length id R e H3):kP P id args H R:=by
 intro A M L w vs O b hA hs hL bV
 obtain ⟨r,q1,q2,q3,q4,q5,q6⟩:=bV.obj id _ b bn hL
 obtain ⟨c1,c2,c3,c4,c5⟩:=Bo
 have JJ:L.length=H.length:=bV.len
 have zX:b∈L:=abm hL
 refine ⟨r.fn,_,r.assign,r.body,run_yield q1 (by rw [q2];simp;omega),?_⟩
 have htz:(r.params.zip vs).foldl (fun t (p:Nat×Value)=>t.setIfInBounds p.1 p.2) r.tmps=(lc.ps.zip vs.toList).foldl (fun t p=>t.setIfInBounds p.1 p.2) r.tmps:=by
  rw [q2,← agF]
  simp
 have htm:((r.params.zip vs).foldl (fun tmps (x:Nat×Value)=>match x with | (t,a)=>tmps.setIfInBounds t a) r.tmps)=(lc.ps.zip vs.toList).foldl (fun t p=>t.setIfInBounds p.1 p.2) r.tmps:=htz
 rw [htm,q3,q4]
 obtain ⟨t0,Yb⟩:∃ t0,t0=(lc.ps.zip vs.toList).foldl (fun t p=>t.setIfInBounds p.1 p.2) r.tmps:=⟨_,rfl⟩
 rw [← Yb]
 have de:r.tmps.size=lc.n:=by have:=q5.length;rw [c1] at this;simpa using this
 have wY:aN M L vs.toList args:=by
  refine aN.Bf (by simpa using hs) fun j x hx=>?_
  have h1:=bV.env j
  have hj:j < vs.size:=by rw [hs];exact aQ hx
  refine ⟨vs[j],by simp [hj],?_⟩
  simp only [acd,tu,hx,Option.getD_some,ad7 hj] at h1
  exact h1
 have gr:∀ s,aZ M L (t0.getD s undef) (get ((lc.ps.zip args).reverse++bY 0 es) s):=by
  rw [Yb]
  refine vu wY (fun p hp=>by rw [de];simpa using aaO.1 c3 p hp) fun s=>?_
  rw [nB,if_pos (acR _),agv]
  have:=q5.getD s
  simpa [acd,tu] using this
 have hfree:=LQ (fun x hx=>xv (c4 x hx)) (l:=(lc.ps.zip args).reverse) (fun p hp own xs e=>xv (c5 p.2 (List.of_mem_zip (List.mem_reverse.1 hp)).2) own xs e)
 obtain ⟨A2,Gx⟩:∃ A2:Perm,A2={ A with base:=w.heap.size }:=⟨_,rfl⟩
 have st12:∀ {M:Mem} {L:List Nat} {w:World} {H:List aa} {ev:Nat→Value} {ea:Nat→AV} {O:Pos→Option Nat},St A M L w H ev ea O→St A2 M L w H ev ea O:=by
  intro M L w H ev ea O h;subst Gx
  exact { len:=h.len,nodup:=h.nodup,env:=h.env,mem:=h.mem,obj:=h.obj,bG:=h.bG,lt:=h.lt,je:=h.je,jc:=h.jc,cq:=h.cq,cC:=h.cC,fP:=h.fP,La:=h.La,Oa:=h.Oa,fresh:=h.fresh }
 have st21:∀ {M:Mem} {L:List Nat} {w:World} {H:List aa} {ev:Nat→Value} {ea:Nat→AV} {O:Pos→Option Nat},St A2 M L w H ev ea O→St A M L w H ev ea O:=by
  intro M L w H ev ea O h;subst Gx
  exact { len:=h.len,nodup:=h.nodup,env:=h.env,mem:=h.mem,obj:=h.obj,bG:=h.bG,lt:=h.lt,je:=h.je,jc:=h.jc,cq:=h.cq,cC:=h.cC,fP:=h.fP,La:=h.La,Oa:=h.Oa,fresh:=h.fresh }
 have ex21:∀ {M M':Mem} {w w':World},Ext A2 M w M' w'→Ext A M w M' w':=by
  intro M M' w w' h;subst Gx
  exact ⟨h.mh,h.size,h.os,h.tape,h.output,h.kH,h.loops⟩
 have hfits:gg none L.length A2:=by rw [Gx,JJ];exact qY hA
 have FN:Fr A2 lc.n M L w H ((lc.ps.zip args).reverse++bY 0 es) _ { tmps:=t0,defers:=[] }:=
  ⟨st12 (bV.rY (fun t=>t0.getD t undef) (get ((lc.ps.zip args).reverse++bY 0 es)) gr hfree),by rw [Yb,sk,de],⟨by rw [Gx];exact tv _,List.nodup_nil,fun d h=>by cases h⟩⟩
 rw [← JJ] at h
 refine roundIn_of_wpIn trivial ?_
 have vS:Own (some b) w:=fun l e=>by cases e;exact ⟨r,q1⟩
 refine Go.wpIn_mono (F:=wf (some b)) (Gw (ro:=some b) (L0:=L) lc.as ia ha hfits vS h FN (aaG L)) ?_
 rintro e a1 w1 ⟨A',M1,L1,H1,env1,O1,hle,⟨rfl,PE⟩,FO,vf,SN⟩
 unfold kW at PE
 split at PE <;> try exact PE.elim
 rename_i lc1 es1 PF
 have vZ:L1[id]?=some b:=gO SN hL
 obtain ⟨r1,p1,p2,p3,p4,p5,p6⟩:=FO.st.obj id _ b PF vZ
 obtain ⟨k1,k2⟩:=FO.st.pK (st':=.busy) (r':={ r1 with state:=.busy }) PF vZ (fun r2 tJ=>by rw [p1] at tJ;cases tJ;exact ⟨rfl,rfl,rfl,rfl,rfl,rfl⟩)
 refine ⟨_,run_beginRound p1 p6.1,?_⟩
 have hown1:Own (some b) (w1.putObj b (.loop { r1 with state:=.busy })):=(vS.ext vf).ext k2
 refine Go.wpIn_mono (F:=wf (some b)) (Gw (ro:=some b) (L0:=L) lc.bd ib hb (hfits.le hle) hown1 PE ⟨k1,FO.size,FO.defers.ext k2⟩ SN) ?_
 rintro e a2 w2 ⟨A3,M2,L2,H2,cZ,O2,za,sm,uX,SM,Ui⟩
 unfold sl at sm
 split at sm <;> try exact sm.elim
 rename_i lc2 es2 Pt
 have mW:L2[id]?=some b:=gO Ui hL
 obtain ⟨r2,g1,g2,g3,g4,g5,g6⟩:=uX.st.obj id _ b Pt mW
 have idn:id < H.length:=aQ bn
 have fin:∀ (jump:Option Code) (st':Xj),st'.ok { r2 with state:=if jump.isNone then .ready else .done,pending:=jump }→JT L.length jump.isNone (H2.set id (.loop st' lc2 es2)) R→
  ∃ v w',(Instr.endRound b jump).run P w2=.ok v w'∧∃ v' r' H' M' L' O',Ending.returned v=.returned v'∧R r' H'∧St A M' L' w' H' (fZ (fun _=>undef) 0 v') (fZ (fun _=>.any) 0 r') O'∧Ext A M w M' w'∧L <+: L':=by
  intro jump st' nj JR
  obtain ⟨m1,m2⟩:=uX.st.pK (st':=st') (r':={ r2 with state:=if jump.isNone then .ready else .done,pending:=jump }) Pt mW (fun r3 OR=>by rw [g1] at OR;cases OR;exact ⟨rfl,rfl,rfl,rfl,rfl,nj⟩)
  refine ⟨_,_,run_endRound jump g1,?_⟩
  obtain ⟨hlen,hR⟩:=JR
  have m3:=m1.rY (fZ (fun _=>undef) 0 (.bool jump.isNone)) (fZ (fun _=>.any) 0 (.bool jump.isNone)) (fun t=>by
   simp only [fZ];split
   ·exact .bool _
   ·exact .any _) (fun t own xs e=>by
   simp only [fZ] at e;split at e <;> cases e)
  obtain ⟨O3,m4⟩:=m3.cut L.length (fun id' o Yc ho=>(((hfits.le hle).le za)).closed (tv _) m3 id' o Yc ho) (fun t=>by
   simp only [fZ];split <;> rfl)
  have hx:Ext A M w M2 (w2.putObj b (.loop { r2 with state:=if jump.isNone then .ready else .done,pending:=jump })):=
   ex21 ((vf.trans (k2.le hle)).trans ((SM.le hle).trans (m2.le (za.trans hle))))
  refine ⟨_,_,_,M2,_,O3,rfl,hR,st21 ((m4.le za).le hle),hx,?_⟩
  obtain ⟨s,rfl⟩:=Ui
  exact ⟨[],by simp⟩
 cases e with
 | normal=>exact fin none .ready ⟨rfl,rfl⟩ sm
 | ret=>exact fin (some .ret) (.jump .ret) ⟨rfl,rfl⟩ sm
 | exit k=>exact fin (some (.exit k)) (.jump (.exit k)) ⟨rfl,rfl⟩ sm
 | _=>exact sm.elim
end
end Go.aI
end
section
namespace Go.aI
open Go
section
variable {P:Program} {A:Perm} {M:Mem} {L:List Nat} {w:World} {H:List aa} {ev:Nat→Value} {ea:Nat→AV} {O:Pos→Option Nat}
def DU (O:Pos→Option Nat) (w:World):Perm:=⟨fun b=>(∃ t,O (.t t)=some b)∨w.heap.size≤b,fun id=>some (id + 1),(fun id n h=>by cases h;omega),0⟩
theorem DV (O:Pos→Option Nat) (w:World):(DU O w).entry false ([]:List aa).length:=⟨fun id h=>absurd h (Nat.not_lt_zero _),fun id _=>rfl⟩
theorem St.bare (h:St A M L w H ev ea O) (hb:∀ t,(ea t).bb 0=true):St (DU O w) M [] w [] ev ea (fun p=>match p with | .t t=>O (.t t) | .c _ _=>none):=by
 have hO:∀ (p:Pos) (b:Nat),(match p with | .t t=>O (.t t) | .c _ _=>none)=some b→O p=some b∧∃ t,p=.t t:=by
  intro p b hp
  cases p with
  | t t=>exact ⟨hp,t,rfl⟩
  | c id j=>cases hp
 exact { len:=rfl,nodup:=by simp,env:=fun t=>(by have:=(h.env t).ij (hb t);simpa using this),mem:=h.mem,obj:=fun id o b ho=>(by simp at ho),bG:=fun id o ho=>(by simp at ho),lt:=fun b hb=>(by cases hb)
         je:=fun t=>h.je t,jc:=fun id j=>(by simp [bE,bj]),cq:=fun p q b hp hq=>h.cq p q b (hO p b hp).1 (hO q b hq).1,cC:=fun p b hp hm=>(by cases hm),fP:=fun p b hp=>h.fP p b (hO p b hp).1,
         La:=fun b hb=>(by cases hb),Oa:=fun p b hp=>(by obtain ⟨h1,t,rfl⟩:=hO p b hp;exact .inl ⟨t,h1⟩),fresh:=fun b hb=>.inr hb }
theorem St.LR (h:St A M L w H ev ea O) {M':Mem} {w':World} {v:Value} {r:AV} {L':List Nat} {O':Pos→Option Nat}
 (h':St (DU O w) M' L' w' [] (fZ (fun _=>undef) 0 v) (fZ (fun _=>.any) 0 r) O')
 (cJ:Ext (DU O w) M w M' w') :
 ∃ O3,St A M' L w' H (fZ (fun _=>undef) 0 v) (fZ (fun _=>.any) 0 r) O3∧Ext A M w M' w':=by
 have X5:L'=[]:=by have:=h'.len;simpa using this
 subst X5
 have hAA:∀ b,((∃ t,O (.t t)=some b)∨w.heap.size≤b)→A b:=by
  rintro b (⟨t,ht⟩ | hb)
  ·exact h.Oa _ b ht
  ·exact h.fresh b hb
 have keepL:∀ b∈L,w'.heap[b]?=w.heap[b]?∧∀ o,M' b o=M b o:=fun b hb=>cJ.kH b (h.lt b hb) (by
  rintro (⟨t,ht⟩ | hs)
  ·exact h.cC _ b ht hb
  ·exact absurd (h.lt b hb) (by omega))
 have keepC:∀ id j b,O (.c id j)=some b→w'.heap[b]?=w.heap[b]?∧∀ o,M' b o=M b o:=fun id j b hb=>cJ.kH b (h.fP _ b hb) (by
  rintro (⟨t,ht⟩ | hs)
  ·cases h.cq _ _ b ht hb
  ·exact absurd (h.fP _ b hb) (by omega))
 let O3:Pos→Option Nat:=fun p=>match p with | .t t=>if t=0 then O' (.t 0) else none | .c id j=>O (.c id j)
 have Um:∀ b,O' (.t 0)=some b→b∉L∧(∀ id j,O (.c id j)≠some b):=by
  intro b hb
  rcases h'.Oa _ b hb with ⟨t,ht⟩ | hs
  ·exact ⟨h.cC _ b ht,fun id j hc=>by cases h.cq _ _ b ht hc⟩
  ·exact ⟨fun hm=>absurd (h.lt b hm) (by omega),fun id j hc=>absurd (h.fP _ b hc) (by omega)⟩
 refine ⟨O3,?_,⟨cJ.mh,cJ.size,cJ.os,cJ.tape,cJ.output,fun b hb hA=>cJ.kH b hb (fun hx=>hA (hAA b hx)),cJ.loops⟩⟩
 exact { len:=h.len,nodup:=h.nodup
         env:=fun t=>(h'.env t).mono (Mem.bW _) (List.nil_prefix)
         mem:=h'.mem
         obj:=fun id o b ho hb=>(h.obj id o b ho hb).mono cJ.mh (aaG _) (keepL b (abm hb)).1 (keepL b (abm hb)).2
         bG:=h.bG
         lt:=fun b hb=>adO (h.lt b hb) cJ.size
         je:=fun t=>by
          by_cases e:t=0
          ·subst e;simpa [O3] using h'.je 0
          ·simp [O3,e,fZ,bj]
         jc:=fun id j=>by
          have e1:bT L w' id j=bT L w id j:=by
           unfold bT
           cases hl:L[id]? with
           | none=>rfl
           | some b=>simp only [World.cell?,(keepL b (abm hl)).1]
          rw [e1]
          exact (h.jc id j).mono fun b hb=>keepC id j b hb
         cq:=fun p q b hp hq=>by
          cases p with
          | t t=>
            simp only [O3] at hp
            split at hp
            ·rename_i e;subst e
             cases q with
             | t t'=>
               simp only [O3] at hq
               split at hq
               ·rename_i e;subst e;rfl
               ·cases hq
             | c id j=>exact absurd hq ((Um b hp).2 id j)
            ·cases hp
          | c id j=>
            cases q with
            | t t'=>
              simp only [O3] at hq
              split at hq
              ·exact absurd hp ((Um b hq).2 id j)
              ·cases hq
            | c id' j'=>exact h.cq _ _ b hp hq
         cC:=fun p b hp=>by
          cases p with
          | t t=>
            simp only [O3] at hp
            split at hp
            ·exact (Um b hp).1
            ·cases hp
          | c id j=>exact h.cC _ b hp
         fP:=fun p b hp=>by
          cases p with
          | t t=>
            simp only [O3] at hp
            split at hp
            ·exact h'.fP _ b hp
            ·cases hp
          | c id j=>exact adO (h.fP _ b hp) cJ.size
         La:=h.La
         Oa:=fun p b hp=>by
          cases p with
          | t t=>
            simp only [O3] at hp
            split at hp
            ·exact hAA b (h'.Oa _ b hp)
            ·cases hp
          | c id j=>exact h.Oa _ b hp
         fresh:=fun b hb=>h.fresh b (acv cJ.size hb) }
theorem ax.frame {f:FuncId} {args:List AV} {R:AV→Prop} (ha:∀ x∈args,x.bb 0=true) (h:ax P f args [] fun r H'=>R r∧H'=[]) (H:List aa):ax P f args H fun r H'=>R r∧H'=H:=by
 intro A M L w vs O hA hs bV
 have hb:∀ t,(args.getD t .any).bb 0=true:=by
  intro t
  rw [tu]
  cases hx:args[t]? with
  | none=>rfl
  | some x=>exact ha x (abm hx)
 rcases h (DU O w) M [] w vs _ (DV O w) hs (bV.bare hb) with ⟨h1,h2⟩ | ⟨v,w',r,H',M',L',O',h1,⟨h2,rfl⟩,h3,h4,_⟩
 ·refine .inl ⟨h1,h2.mono ?_⟩
  rintro e w' ⟨v,r,H',M',L',O',k1,⟨k2,rfl⟩,k3,k4,_⟩
  obtain ⟨O3,g1,g2⟩:=bV.LR k3 k4
  exact ⟨v,r,H,M',L,O3,k1,⟨k2,rfl⟩,g1,g2,aaG L⟩
 ·obtain ⟨O3,g1,g2⟩:=bV.LR h3 h4
  exact .inr ⟨v,w',r,H,M',L,O3,h1,⟨h2,rfl⟩,g1,g2,aaG L⟩
end
end Go.aI
end
