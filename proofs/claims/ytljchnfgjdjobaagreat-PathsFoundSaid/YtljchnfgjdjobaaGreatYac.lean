/- Part 3 of 19 of the proof. -/
import Derived.Test.YtljchnfgjdjobaaGreatYab
set_option linter.unusedVariables false
set_option linter.unusedSimpArgs false
set_option linter.defProp false
set_option linter.unusedSectionVars false
section
namespace Go.aJ
open Go
inductive RX where
 | t (s:Nat)
 | c (s:Nat) (sz:Option Nat)
 deriving Inhabited
def J4 (P:Program):ResultVar→Option RX
 | .tmp t=>some (.t t)
 | .cell a t=>(Jt P t).map (.c a)
def iG (P:Program):List ResultVar→Option (List RX)
 | []=>some []
 | r::rs=>match J4 P r,iG P rs with
   | some x,some xs=>some (x::xs)
   | _,_=>none
def sE:List RX→Env→List aa→(List AV→Prop)→Prop
 | [],_,_,φ=>φ []
 | .t s::r,env,H,φ=>sE r env H fun xs=>φ (get env s::xs)
 | .c s sz::r,env,H,φ=>aV sz (get env s) H fun x=>sE r env H fun xs=>φ (x::xs)
def bV (n0:Nat) (rs:List RX) (env:Env) (H:List aa) (R:AV→List aa→Prop):Prop:=
 sE rs env H fun xs=>∃ m,n0≤m∧match xs with
  | [x]=>∃ r,x.le r∧r.a8 m=true∧R r (H.take m)
  | xs=>∃ ys,xP (xs.map AV.ae) ys∧ak m ys=true∧R (.tuple ys) (H.take m)
def lD (C:List aa→Nat→List aa→Prop) (n0:Nat) (rs:List RX) (env:Env) (H:List aa) (R:AV→List aa→Prop):Prop:=
 sE rs env H fun xs=>∃ m H',n0≤m∧C H m H'∧match xs with
  | [x]=>∃ r,x.le r∧r.a8 m=true∧R r H'
  | xs=>∃ ys,xP (xs.map AV.ae) ys∧ak m ys=true∧R (.tuple ys) H'
theorem sF:∀ {rs:List RX} {env:Env} {H:List aa} {φ ψ:List AV→Prop},(∀ xs,φ xs→ψ xs)→sE rs env H φ→sE rs env H ψ
 | [],env,H,φ,ψ,hm,h=>hm _ h
 | .t s::r,env,H,φ,ψ,hm,h=>sF (rs:=r) (fun xs hx=>hm _ hx) h
 | .c s sz::r,env,H,φ,ψ,hm,h=>jU (fun x hx=>sF (rs:=r) (fun xs hx=>hm _ hx) hx) h
theorem RV {n0:Nat} {rs:List RX} {env:Env} {H:List aa} {R:AV→List aa→Prop} (h:bV n0 rs env H R):lD (fun H m H'=>H'=H.take m) n0 rs env H R:=
 sF (fun xs ⟨m,h1,h2⟩=>⟨m,H.take m,h1,rfl,h2⟩) h
def b8:Nat→List AV→Env
 | _,[]=>[]
 | k,x::xs=>(k,x)::b8 (k + 1) xs
theorem mq:∀ (xs:List AV) (k t:Nat),get (b8 k xs) t=if k≤t then xs.getD (t - k) .any else .any
 | [],k,t=>by simp [b8,get]
 | x::xs,k,t=>by
   simp only [b8,get]
   split
   ·rename_i e;subst e;simp
   ·rename_i e
    rw [mq xs (k + 1) t]
    by_cases h:k + 1≤t
    ·have:t - k=(t - (k + 1)) + 1:=by omega
     rw [if_pos h,if_pos (by omega),this];simp
    ·rw [if_neg h,if_neg (by omega)]
section
variable {P:Program} {A:Perm} {n:Nat} {M:Mem} {L:List Nat} {w:World} {H:List aa} {env:Env} {O:Pos→Option Nat} {a:Act}
def Au (tmps:Array Value):ResultVar→Sem Value:=fun
 | .tmp t=>pure (tmps.getD t undef)
 | .cell a t=>do loadVar t (← asAddr (tmps.getD a undef))
theorem Cu {fn:Func} {tmps:Array Value} {vs:List Value} (h:(fn.results.toList.mapM (Au tmps)).run P w=.ok vs w) :
 (results fn tmps).run P w=.ok (if h:vs.toArray.size=1 then vs.toArray[0] else .tuple vs.toArray) w:=by
 have e:(results fn tmps)=(do
  let vs ← fn.results.mapM (Au tmps)
  pure (if h:vs.size=1 then vs[0] else .tuple vs)):=rfl
 rw [e,Array.mapM_eq_mapM_toList]
 simp only [Sem.run_bind,Sem.run_map,h]
 rfl
theorem Av (hf:Fr A n M L w H env O a):∀ (rs:List ResultVar) (is:List RX),iG P rs=some is→∀ {φ:List AV→Prop},sE is env H φ→
 ∃ vs xs,(rs.mapM (Au a.tmps)).run P w=.ok vs w∧φ xs∧aI M L vs xs∧(∀ s,is=[.t s]→xs=[get env s]∧vs=[a.tmps.getD s undef])∧(∀ s sz,is=[.c s sz]→∀ x,xs=[x]→∀ own ys,x=.al own ys→own=0)
 | [],is,hc,φ,h=>by
   simp only [iG] at hc;cases hc
   exact ⟨[],[],by simp,h,.nil,(by intro s e;cases e),(by intro s sz e;cases e)⟩
 | r::rs,is,hc,φ,h=>by
   unfold iG at hc
   split at hc <;> cases hc
   rename_i x xs hx ew
   cases r with
   | tmp t=>
     simp only [J4] at hx;cases hx
     simp only [sE] at h
     obtain ⟨vs,ys,h1,h2,h3,_⟩:=Av hf rs xs ew h
     refine ⟨a.tmps.getD t undef::vs,get env t::ys,?_,h2,.cons _ _ _ _ (hf.st.env t) h3,?_,?_⟩
     ·simp only [List.mapM_cons,Sem.run_bind,Au,Sem.run_pure,Result.andThen_ok,h1]
     ·intro s e
      cases e
      cases rs with
      | nil=>
        cases h3 with
        | nil=>exact ⟨rfl,rfl⟩
        | cons v x vs xs hh tt=>
          simp at h1
      | cons r rs=>
        unfold iG at ew
        split at ew <;> cases ew
     ·intro s sz e;cases e
   | cell p t=>
     simp only [J4,yr] at hx
     obtain ⟨sz,db,rfl⟩:=hx
     simp only [sE] at h
     obtain ⟨r,z,k1,k2,k3,k4⟩:=sl (P:=P) db hf.st h (hf.st.env p)
     obtain ⟨vs,ys,h1,h2,h3,_⟩:=Av hf rs xs ew k3
     refine ⟨r::vs,z::ys,?_,h2,.cons _ _ _ _ k2 h3,?_,?_⟩
     ·have hl:(do loadVar t (← asAddr (a.tmps.getD p undef)):Sem Value).run P w=.ok r w:=by
       have ff:=hf.st.env p
       revert k1 ff
       generalize a.tmps.getD p undef=u
       intro k1 ff
       unfold aV at h
       split at h
       ·rename_i id off e
        rw [e] at ff
        cases ff
        exact k1
       ·rename_i y e
        rw [e] at ff
        cases ff
        exact k1
       ·exact h.elim
      have h1':(List.mapM (Au a.tmps) rs).run P w=.ok vs w:=h1
      simp only [List.mapM_cons,Sem.run_bind,Au] at hl ⊢
      rw [hl]
      simp only [Result.andThen_ok,h1']
      rfl
     ·intro s e;cases e
     ·intro s sz e x hx
      cases hx
      exact k4
theorem St.bf {ev:Nat→Value} {ea:Nat→AV} (h:St A M L w H ev ea O) {v:Value} {x:AV} (hr:aT M L v x) (ob:Option Nat) (hs:bg M w v x ob)
 (h1:∀ id j b,ob=some b→O (.c id j)≠some b) (h2:∀ b,ob=some b→b∉L∧b < w.heap.size∧A b) :
 ∃ O',St A M L w H (fF (fun _=>undef) 0 v) (fF (fun _=>.any) 0 x) O':=by
 have k1:=h.qF (fun _=>undef) (fun _=>.any) (fun _=>.any _) (fun _ _ _ e=>by cases e)
 exact ⟨_,k1.put 0 hr ob hs (fun p b hob hp=>by
  cases p with
  | t t=>cases hp
  | c id j=>exact absurd hp (h1 id j b hob)) h2⟩
theorem GB {x:AV} {m:Nat} (hb:x.a8 m=true) (t:Nat):(fF (fun _=>AV.any) 0 x t).a8 m=true:=by
 simp only [fF]
 split
 ·exact hb
 ·rfl
theorem St.RW {ev:Nat→Value} {ea:Nat→AV} (h:St A M L w H ev ea O) (A2:Perm) (hwr:A2.wr=A.wr) (n:Nat) {H':List aa} (hlen:H'.length=min n H.length)
 (hc:∀ (id:Nat) (o:aa),H'[id]?=some o→o=.dead∨(H[id]?=some o∧o.a8 (A2.jd H'.length id)=true)) (hb:∀ t,(ea t).a8 n=true):∃ O',St A2 M (L.take n) w H' ev ea O':=by
 let O':Pos→Option Nat:=fun p=>match p with | .t t=>O (.t t) | .c id j=>match H'[id]? with | some .dead=>none | some _=>O (.c id j) | none=>none
 have hO:∀ p b,O' p=some b→O p=some b:=by
  intro p b hp
  cases p with
  | t t=>exact hp
  | c id j=>
    simp only [O'] at hp
    split at hp <;> first | exact hp | cases hp
 have jJ:∀ {α:Type} {l:List α} {i:Nat} {a:α},(l.take n)[i]?=some a→i < n∧l[i]?=some a:=by
  intro α l i a hi
  rw [aam] at hi
  split at hi
  ·exact ⟨by assumption,hi⟩
  ·cases hi
 have jg:∀ b,b∈L.take n→b∈L:=fun b hb=>acX hb
 refine ⟨O',{ len:=by simp [h.len,hlen],nodup:=(List.take_sublist n L).nodup h.nodup,env:=fun t=>(h.env t).gD (hb t),mem:=h.mem,obj:=?_,bF:=?_,lt:=fun b hb=>h.lt b (jg b hb),iq:=h.iq,ic:=?_,cc:=fun p q b hp hq=>h.cc p q b (hO p b hp) (hO q b hq),cu:=fun p b hp hm=>h.cu p b (hO p b hp) (jg b hm),fw:=fun p b hp=>h.fw p b (hO p b hp),La:=fun b hb=>by rw [hwr];exact h.La b (jg b hb),Oa:=fun p b hp=>by rw [hwr];exact h.Oa p b (hO p b hp),fresh:=fun b hb=>by rw [hwr];exact h.fresh b hb }⟩
 ·intro id o b ho eu
  obtain ⟨hn,eu⟩:=jJ eu
  rcases hc id o ho with rfl | ⟨h1,h2⟩
  ·trivial
  ·refine (h.obj id o b h1 eu).gD (aa.cR ?_ o h2)
   have:=A2.vB H'.length id
   omega
 ·intro id o ho
  rcases hc id o ho with rfl | ⟨h1,h2⟩
  ·rfl
  ·exact h2
 ·intro id j
  have dead:∀ x:Option aa,H'[id]?=x→(x=none∨x=some .dead)→bg M w (bM (L.take n) w id j) (bt H' id j) (O' (.c id j)):=by
   intro x hx Qq
   have e2:bt H' id j=.any:=by
    unfold bt
    rw [hx]
    rcases Qq with rfl | rfl <;> rfl
   have e3:O' (.c id j)=none:=by
    simp only [O',hx]
    rcases Qq with rfl | rfl <;> rfl
   rw [e2,e3]
   rfl
  cases hx:H'[id]? with
  | none=>exact dead none hx (.inl rfl)
  | some o=>
    by_cases ed:o=.dead
    ·subst ed;exact dead _ hx (.inr rfl)
    ·rcases hc id o hx with h' | ⟨h1,h2⟩
     ·exact absurd h' ed
     have hl:=aM hx
     have e1:bM (L.take n) w id j=bM L w id j:=by
      unfold bM
      rw [aam,if_pos (by omega)]
     have e2:bt H' id j=bt H id j:=by
      unfold bt
      rw [hx,h1]
     have e3:O' (.c id j)=O (.c id j):=by
      simp only [O',hx]
     rw [e1,e2,e3]
     exact h.ic id j
theorem GC:∀ {vs:List Value} {xs ys:List AV},aI M L vs xs→xP (xs.map AV.ae) ys→aI M L vs ys
 | _,_,[],.nil,h=>.nil
 | _,_,y::ys,.nil,h=>by simp [xP] at h
 | _,_,[],.cons _ _ _ _ _ _,h=>by simp [xP] at h
 | _,_,y::ys,.cons _ _ _ _ h1 h2,h=>by
   simp only [List.map_cons,xP] at h
   exact .cons _ _ _ _ (h1.ae.le h.1) (GC h2 h.2)
def Marks (A:Perm) (w w2:World):Prop:=w2.heap.size=w.heap.size∧w2.os=w.os∧w2.tape=w.tape∧w2.output=w.output∧
 ∀ b,w2.heap[b]?=w.heap[b]?∨(A.base≤b∧¬ A b∧(∃ x,w.heap[b]?=some (.deferred x))∧∃ x,w2.heap[b]?=some (.deferred x))
theorem Marks.refl (A:Perm) (w:World):Marks A w w:=⟨rfl,rfl,rfl,rfl,fun b=>.inl rfl⟩
theorem Marks.trans {A:Perm} {w w1 w2:World} (h:Marks A w w1) (k:Marks A w1 w2):Marks A w w2:=by
 refine ⟨k.1.trans h.1,k.2.1.trans h.2.1,k.2.2.1.trans h.2.2.1,k.2.2.2.1.trans h.2.2.2.1,fun b=>?_⟩
 rcases h.2.2.2.2 b with h1 | ⟨h1,h2,h3,x,h4⟩ <;> rcases k.2.2.2.2 b with k1 | ⟨k1,k2,⟨y,k3⟩,k4⟩
 ·exact .inl (k1.trans h1)
 ·exact .inr ⟨k1,k2,⟨y,by rw [← h1];exact k3⟩,k4⟩
 ·exact .inr ⟨h1,h2,h3,x,by rw [k1];exact h4⟩
 ·exact .inr ⟨h1,h2,h3,k4⟩
theorem qN {A:Perm} {F:Fence} {m:Nat} {fn:Func} {tmps:Array Value} {R:Ending→World→Prop}:∀ (ds:List Deferred) {w:World},Ql A w ds→(∀ w2,Marks A w w2→LeavesIn F m P fn tmps R [] .returning w2)→LeavesInM F m P fn tmps R ds .returning w
 | [],w,_,h=>h w (.refl A w)
 | d::ds,w,hd,h=>by
   obtain ⟨D,rfl,h2,h3,h4⟩:=hd.2.2 _ aan
   have hm:Marks A w (w.putObj D (.deferred none)):=⟨World.putObj_size,rfl,rfl,rfl,fun b=>by
    by_cases e:b=D
    ·subst e
     exact .inr ⟨h4,h3,⟨_,h2⟩,_,World.putObj_heap_same (abZ.1 h2).1⟩
    ·exact .inl (World.putObj_heap_other e)⟩
   refine ⟨by simp,.inl ⟨D,_,rfl,run_takeDeferred h2,qN ds ⟨by rw [World.putObj_size];exact hd.1,(List.nodup_cons.1 hd.2.1).2,fun d' Zq=>?_⟩ fun w2 hm2=>h w2 (hm.trans hm2)⟩⟩
   obtain ⟨D',e',k2,k3⟩:=hd.2.2 d' (aai _ Zq)
   refine ⟨D',e',?_,k3⟩
   rw [World.putObj_heap_other]
   ·exact k2
   ·rintro rfl
    exact (List.nodup_cons.1 hd.2.1).1 (e' ▸ Zq)
theorem St.marks {ev:Nat→Value} {ea:Nat→AV} (h:St A M L w H ev ea O) {w2:World} (hm:Marks A w w2):St A M L w2 H ev ea O:=by
 obtain ⟨h1,_,_,_,h5⟩:=hm
 have same:∀ b,A b→w2.heap[b]?=w.heap[b]?:=fun b hb=>by
  rcases h5 b with h | ⟨_,h,_⟩
  ·exact h
  ·exact absurd hb h
 exact { len:=h.len,nodup:=h.nodup,env:=h.env,bF:=h.bF,cc:=h.cc,cu:=h.cu,La:=h.La,Oa:=h.Oa
         mem:=fun b o v hv=>by
          have hc:=h.mem b o v hv
          rcases h5 b with e | ⟨_,_,⟨x,e⟩,_⟩
          ·simp only [World.cell?] at hc ⊢;rw [e];exact hc
          ·simp [World.cell?,e] at hc
         obj:=fun id o b ho hb=>(h.obj id o b ho hb).mono (Mem.bO M) (aah L) (same b (h.La b (aaX hb))) (fun _=>rfl)
         lt:=fun b hb=>by rw [h1];exact h.lt b hb
         iq:=fun t=>(h.iq t).mono fun b hb=>⟨same b (h.Oa _ b hb),fun _=>rfl⟩
         ic:=fun id j=>by
          have e:bM L w2 id j=bM L w id j:=by
           unfold bM
           split
           ·rename_i b hb
            simp only [World.cell?]
            rw [same b (h.La b (aaX hb))]
           ·rfl
          rw [e]
          exact (h.ic id j).mono fun b hb=>⟨same b (h.Oa _ b hb),fun _=>rfl⟩
         fw:=fun p b hp=>by rw [h1];exact h.fw p b hp
         fresh:=fun b hb=>h.fresh b (by rw [← h1];exact hb) }
theorem Ext.marks {A A':Perm} {M M':Mem} {w w' w2:World} (h:Ext A M w M' w') (hm:Marks A' w' w2) (hb:w.heap.size≤A'.base):Ext A M w M' w2:=by
 obtain ⟨h1,h2,h3,h4,h5⟩:=hm
 refine ⟨h.lg,by rw [h1];exact h.size,h2.trans h.os,h3.trans h.tape,h4.trans h.output,fun b aS hA=>?_,fun b r hr=>?_⟩
 ·obtain ⟨k1,k2⟩:=h.kK b aS hA
  refine ⟨?_,k2⟩
  rcases h5 b with e | ⟨e,_⟩
  ·exact e.trans k1
  ·omega
 ·obtain ⟨r',k1,k2⟩:=h.loops b r hr
  rcases h5 b with e | ⟨_,_,⟨x,e⟩,_⟩
  ·exact ⟨r',e.trans k1,k2⟩
  ·rw [k1] at e;cases e
theorem wg {lo:Option Nat} {b:Bool} (A1:Perm→Perm) (C:List aa→Nat→List aa→Prop) {f:FuncId} {fn:Func} {c:Code} {an:BQ} {lv:mW} {pl:mX} {ir:IR} {rs:List RX} {args:List AV} {R:AV→List aa→Prop}
 (hf:P.funcs[f]?=some fn) (hcall:∀ (as:Array Value) (w:World),(callFunc f as).run P w=.ok (.enter f as) w) (hb:fn.body=some c) (hc:comp P an lv pl fn.ntmps c=some ir) (vU:iG P fn.results.toList=some rs)
 (h1:∀ A:Perm,A.entry b H.length→fT lo H.length (A1 A)) (h2:∀ A:Perm,(A1 A).wr=A.wr) (h3:∀ (A:Perm) {M:Mem} {L:List Nat} {w:World} {ev:Nat→Value} {ea:Nat→AV} {O:Pos→Option Nat},A.entry b H.length→St A M L w H ev ea O→St (A1 A) M L w H ev ea O)
 (h4:∀ (A:Perm) {M:Mem} {L:List Nat} {w:World} {H':List aa} {ev:Nat→Value} {ea:Nat→AV} {O:Pos→Option Nat} {m:Nat} {H'':List aa},A.entry b H.length→H.length≤m→H.length≤H'.length→C H' m H''→St (A1 A) M L w H' ev ea O→(∀ t,(ea t).a8 m=true)→∃ O',St A M (L.take m) w H'' ev ea O')
 (hn:args.length≤fn.ntmps) (Rt:Env→List aa→Prop) (hRt:∀ env H',Rt env H'→lD C H.length rs env H' R) (h:m9 ⟨P,lo⟩ H.length ir (b8 0 args) H fun e env H'=>(e=.normal∨e=.ret)∧Rt env H'):kQ b P f args H R:=by
 refine fun A M L w vs O hA hs VP=>.inl ⟨hcall _ _,callsIn_wide.1 (callsIn_of_wp_marks (F:=Fence.wide) (n:=0) hf hb trivial ?_ rfl)⟩
 obtain ⟨A2,EZ⟩:∃ A2:Perm,A2={ A1 A with base:=w.heap.size }:=⟨_,rfl⟩
 have a2w:A2.wr=A.wr:=by rw [EZ];exact h2 A
 have st12:∀ {M:Mem} {L:List Nat} {w:World} {H:List aa} {ev:Nat→Value} {ea:Nat→AV} {O:Pos→Option Nat},St (A1 A) M L w H ev ea O→St A2 M L w H ev ea O:=by
  intro M L w H ev ea O h;subst EZ
  exact { len:=h.len,nodup:=h.nodup,env:=h.env,mem:=h.mem,obj:=h.obj,bF:=h.bF,lt:=h.lt,iq:=h.iq,ic:=h.ic,cc:=h.cc,cu:=h.cu,fw:=h.fw,La:=h.La,Oa:=h.Oa,fresh:=h.fresh }
 have st21:∀ {M:Mem} {L:List Nat} {w:World} {H:List aa} {ev:Nat→Value} {ea:Nat→AV} {O:Pos→Option Nat},St A2 M L w H ev ea O→St (A1 A) M L w H ev ea O:=by
  intro M L w H ev ea O h;subst EZ
  exact { len:=h.len,nodup:=h.nodup,env:=h.env,mem:=h.mem,obj:=h.obj,bF:=h.bF,lt:=h.lt,iq:=h.iq,ic:=h.ic,cc:=h.cc,cu:=h.cu,fw:=h.fw,La:=h.La,Oa:=h.Oa,fresh:=h.fresh }
 have bP:=st12 (h3 A hA VP)
 have hfits:fT lo H.length A2:=by rw [EZ];exact h1 A hA
 have MN:L.length=H.length:=VP.len
 have Ek:Fr A2 fn.ntmps M L w H (b8 0 args) O { tmps:=vs++Array.replicate (fn.ntmps - vs.size) undef,defers:=[] }:=by
  refine ⟨bP.congr ?_ ?_,by simp;omega,⟨by rw [EZ];exact yo _,List.nodup_nil,fun d h=>by cases h⟩⟩
  ·intro t
   simp only [abe]
   by_cases ht:t < vs.size
   ·rw [Array.getElem?_append_left ht]
   ·rw [Array.getElem?_append_right (by omega),Array.getElem?_eq_none (xs:=vs) (by omega),adT]
    split <;> rfl
  ·intro t
   rw [mq];simp
 rw [← bP.len] at h hfits
 refine Go.wpIn_mono (EY (ro:=none) (L0:=L) c ir hc hfits (fun l e=>by cases e) h Ek (aah L)) ?_
 rintro e a w1 ⟨A',M',L',H',env,O',hle,⟨he,Ib⟩,Nv,hext1,hL⟩
 have base:A'.base=w.heap.size:=by rw [hle.2.2,EZ]
 have done:(∀ w',Marks A' w1 w'→LeavesIn Fence.wide 0 P fn a.tmps (fun e w'=>∃ v r H' M' L' O',e=.returned v∧R r H'∧St A M' L' w' H' (fF (fun _=>undef) 0 v) (fF (fun _=>.any) 0 r) O'∧Ext A M w M' w'∧L <+: L') [] .returning w')→
  bodyPostM Fence.wide 0 P fn (fun e w'=>∃ v r H' M' L' O',e=.returned v∧R r H'∧St A M' L' w' H' (fF (fun _=>undef) 0 v) (fF (fun _=>.any) 0 r) O'∧Ext A M w M' w'∧L <+: L') e a w1:=by
  intro hd
  rcases he with rfl | rfl <;> exact qN _ Nv.defers hd
 refine done fun w' hm=>?_
 have Aw:Fr A2 fn.ntmps M' L' w' H' env O' { a with defers:=[] }:=
  ⟨(Nv.st.marks hm).le hle,Nv.size,⟨by rw [hm.1,← hle.2.2];exact Nv.defers.1,List.nodup_nil,fun d h=>by cases h⟩⟩
 have cD:Ext A M w M' w':=by
  have:=hext1.marks hm (Nat.le_of_eq base.symm)
  exact ⟨this.lg,this.size,this.os,this.tape,this.output,fun b hb hA=>this.kK b hb (by rw [a2w];exact hA),this.loops⟩
 have hlen2:H.length≤H'.length:=by have:=hL.length_le;rw [MN,Aw.st.len] at this;exact this
 have goal:∃ v,(results fn a.tmps).run P w'=.ok v w'∧∃ v' r H'' M'' L'' O'',Ending.returned v=.returned v'∧R r H''∧St A M'' L'' w' H'' (fF (fun _=>undef) 0 v') (fF (fun _=>.any) 0 r) O''∧Ext A M w M'' w'∧L <+: L'':=by
  replace Ib:=hRt _ _ Ib
  unfold lD at Ib
  obtain ⟨us,xs,k1,⟨m,H2,hm,hC,k2⟩,k3,k4,k5⟩:=Av (P:=P) Aw _ _ vU Ib
  have lX:L <+: L'.take m:=by
   obtain ⟨r,rfl⟩:=hL
   exact ⟨r.take (m - L.length),by rw [adY,aak (show L.length≤m by omega)]⟩
  have bJ:=Cu k1
  split at k2
  ·rename_i x
   obtain ⟨r,hle,hb,hR⟩:=k2
   cases k3 with
   | cons v _ _ _ hv ht=>
   cases ht
   refine ⟨v,by simpa using bJ,v,r,H2,M',L'.take m,?_⟩
   have uF:∃ ob,bg M' w' v x ob∧(∀ id j b,ob=some b→O' (.c id j)≠some b)∧(∀ b,ob=some b→b∉L'∧b < w'.heap.size∧A2 b):=by
    match rs,vU,k4,k5 with
    | [],vU,_,_=>
      unfold iG at vU
      split at vU
      ·rename_i e
       rw [e] at k1
       simp at k1
      ·split at vU <;> cases vU
    | [.t s],_,k4,_=>
      obtain ⟨e1,e2⟩:=k4 s rfl
      cases e1;cases e2
      refine ⟨O' (.t s),Aw.st.iq s,fun id j b hb hc=>?_,fun b hb=>⟨Aw.st.cu _ b hb,Aw.st.fw _ b hb,Aw.st.Oa _ b hb⟩⟩
      exact absurd (Aw.st.cc _ _ b hb hc) (by intro e;cases e)
    | [.c s sz],_,_,k5=>
      exact ⟨none,bg.free (k5 s sz rfl x rfl),(fun _ _ _ e=>by cases e),(fun _ e=>by cases e)⟩
    | r1::r2::rs,vU,_,_=>
      unfold iG at vU
      split at vU
      ·cases vU
      ·split at vU <;> cases vU
       rename_i h1 h2
       unfold iG at h2
       split at h2
       ·cases h2
       ·rename_i e
        rw [e] at k1
        simp only [List.mapM_cons,Sem.run_bind] at k1
        revert k1
        generalize Jx:(Au a.tmps _).run P w'=g1
        cases g1 <;> simp
        generalize hg2:(Au a.tmps _).run P _=g2
        cases g2 <;> simp
        generalize hg3:(List.mapM (Au a.tmps) _).run P _=g3
        cases g3 <;> simp
   obtain ⟨ob,o1,o2,o3⟩:=uF
   obtain ⟨ob',p1,p2⟩:=o1.le hv hle
   obtain ⟨O'',mb⟩:=Aw.st.bf (hv.le hle) ob' p1 (fun id j b hb=>by
    rcases p2 with rfl | rfl
    ·cases hb
    ·exact o2 id j b hb) (fun b hb=>by
    rcases p2 with rfl | rfl
    ·cases hb
    ·exact o3 b hb)
   obtain ⟨O3,J5⟩:=h4 A hA (by omega) hlen2 hC (st21 mb) (GB hb)
   exact ⟨O3,rfl,hR,J5,cD,lX⟩
  ·rename_i eU
   obtain ⟨ys,hle,hb,hR⟩:=k2
   have hlen:us.toArray.size≠1:=by
    have:=k3.length
    intro e
    simp at e
    rw [e] at this
    match xs,this with
    | [x],_=>exact eU x rfl
   rw [dif_neg hlen] at bJ
   refine ⟨.tuple us.toArray,bJ,.tuple us.toArray,.tuple ys,H2,M',L'.take m,?_⟩
   obtain ⟨O'',mb⟩:=Aw.st.bf (.tuple _ _ (GC k3 hle)) none (bg.free (by intro _ _ e;cases e)) (fun _ _ _ e=>by cases e) (fun _ e=>by cases e)
   obtain ⟨O3,J5⟩:=h4 A hA (by omega) hlen2 hC (st21 mb) (GB (x:=.tuple ys) hb)
   exact ⟨O3,rfl,hR,J5,cD,lX⟩
 exact goal
theorem pT {A:Perm} {k:Nat} (h:A.entry false k):fT none k A:=⟨h.1,fun id bm=>by rw [h.2 id bm];rfl⟩
theorem Ic {f:FuncId} {fn:Func} {c:Code} {an:BQ} {lv:mW} {pl:mX} {ir:IR} {rs:List RX} {args:List AV} {R:AV→List aa→Prop}
 (hf:P.funcs[f]?=some fn) (hcall:∀ (as:Array Value) (w:World),(callFunc f as).run P w=.ok (.enter f as) w) (hb:fn.body=some c) (hc:comp P an lv pl fn.ntmps c=some ir) (vU:iG P fn.results.toList=some rs)
 (hn:args.length≤fn.ntmps) (h:m9 P H.length ir (b8 0 args) H fun e env H'=>(e=.normal∨e=.ret)∧bV H.length rs env H' R):aw P f args H R:=by
 refine wg (lo:=none) (b:=false) (fun A=>A) (fun H m H'=>H'=H.take m) hf hcall hb hc vU (fun A=>pT) (fun A=>rfl) (fun A _ _ _ _ _ _ _ h=>h) ?_ hn (fun env H'=>bV H.length rs env H' R) (fun env H'=>RV) h
 intro A M L w H' ev ea O m H'' hA hm hl e bP Nf
 subst e
 exact bP.cut m (fun id o=>(pT hA).closed hm bP id o) Nf
def n8 (k:Nat) (A:Perm):Perm where
 wr:=A.wr
 top:=fun id=>if id < k then A.top id else none
 ok:=fun id n h=>by
  split at h
  ·exact A.ok id n h
  ·cases h
theorem Cv {A:Perm} {k:Nat} {b:Bool} (h:A.entry b k):fT (some k) k (n8 k A):=
 ⟨fun id bm=>by obtain ⟨m,h1,h2⟩:=h.1 id bm;exact ⟨m,h1,by simp only [n8,if_pos bm];exact h2⟩,rfl,fun id bm=>by simp only [n8];rw [if_neg (by omega)]⟩
def nc (n0:Nat) (H:List aa) (m:Nat) (H':List aa):Prop:=
 H'.length=min m H.length∧∀ (id:Nat) (o:aa),H'[id]?=some o→o=.dead∨(H[id]?=some o∧(n0≤id→o.a8 (id + 1)=true))
theorem E0 {f:FuncId} {fn:Func} {c:Code} {an:BQ} {lv:mW} {pl:mX} {ir:IR} {rs:List RX} {args:List AV} {R:AV→List aa→Prop}
 (hf:P.funcs[f]?=some fn) (hcall:∀ (as:Array Value) (w:World),(callFunc f as).run P w=.ok (.enter f as) w) (hb:fn.body=some c) (hc:comp P an lv pl fn.ntmps c=some ir) (vU:iG P fn.results.toList=some rs)
 (hn:args.length≤fn.ntmps) (h:m9 ⟨P,some H.length⟩ H.length ir (b8 0 args) H fun e env H'=>(e=.normal∨e=.ret)∧lD (nc H.length) H.length rs env H' R):aw P f args H R:=by
 refine wg (lo:=some H.length) (b:=false) (n8 H.length) (nc H.length) hf hcall hb hc vU (fun A hA=>Cv hA) (fun A=>rfl) (fun A M L w ev ea O hA bP=>?_) ?_ hn (fun env H'=>lD (nc H.length) H.length rs env H' R) (fun env H' h=>h) h
 ·exact { len:=bP.len,nodup:=bP.nodup,env:=bP.env,mem:=bP.mem,obj:=bP.obj,lt:=bP.lt,iq:=bP.iq,ic:=bP.ic,cc:=bP.cc,cu:=bP.cu,fw:=bP.fw,La:=bP.La,Oa:=bP.Oa,fresh:=bP.fresh
          bF:=fun id o ho=>by
           have:=bP.bF id o ho
           have e:(n8 H.length A).jd H.length id=A.jd H.length id:=by unfold Perm.jd;simp only [n8,if_pos (aM ho)]
           rw [e];exact this }
 ·intro A M L w H' ev ea O m H'' hA hm hl hC bP Nf
  obtain ⟨hlen,hC⟩:=hC
  refine bP.RW A rfl m hlen (fun id o ho=>?_) Nf
  rcases hC id o ho with h' | ⟨h1,h2⟩
  ·exact .inl h'
  ·refine .inr ⟨h1,?_⟩
   by_cases bm:id < H.length
   ·obtain ⟨k,hk,ek⟩:=hA.1 id bm
    have:=bP.bF id o h1
    have e1:(n8 H.length A).jd H'.length id=min k H'.length:=by unfold Perm.jd;simp only [n8,if_pos bm,ek]
    have e2:A.jd H''.length id=min k H''.length:=by unfold Perm.jd;simp only [ek]
    rw [e1] at this
    rw [e2]
    exact aa.cR (by omega) o this
   ·have e2:A.jd H''.length id=min (id + 1) H''.length:=by unfold Perm.jd;rw [hA.2 id (by omega)];rfl
    have:=aM ho
    rw [e2]
    exact aa.cR (by omega) o (h2 (by omega))
end
end Go.aJ
end
section
namespace Go.aJ
open Go
section
variable {P:Program}
theorem qO:∀ (l:List (Nat×Value)) (t:Array Value),(l.foldl (fun t p=>t.setIfInBounds p.1 p.2) t).size=t.size
 | [],t=>rfl
 | p::l,t=>by rw [List.foldl_cons,qO l];simp
theorem ub {M:Mem} {L:List Nat}:∀ {ps:List Nat} {vs:List Value} {xs:List AV} {t:Array Value} {env:Env},aI M L vs xs→(∀ p∈ps,p < t.size)→(∀ s,aT M L (t.getD s undef) (get env s))→
 ∀ s,aT M L (((ps.zip vs).foldl (fun t p=>t.setIfInBounds p.1 p.2) t).getD s undef) (get ((ps.zip xs).reverse++env) s)
 | [],_,_,t,env,_,_,h,s=>by simpa using h s
 | p::ps,[],[],t,env,_,_,h,s=>by simpa using h s
 | p::ps,v::vs,x::xs,t,env,hr,hp,h,s=>by
   cases hr with
   | cons _ _ _ _ h1 h2=>
   simp only [List.zip_cons_cons,List.foldl_cons,List.reverse_cons,aa2,List.singleton_append]
   refine ub (env:=(p,x)::env) h2 (fun q hq=>by simpa using hp q (aai _ hq)) (fun s=>?_) s
   have uN:=hp p aan
   simp only [abe,adf,get]
   by_cases e:s=p
   ·subst e;simp [uN,h1]
   ·rw [if_neg (fun e'=>e e'.symm),if_neg e]
    have:=h s
    rwa [abe] at this
theorem J6 {es:List AV} (h:∀ x∈es,∀ own xs,x=.al own xs→own=0) {l:List (Nat×AV)} (hl:∀ p∈l,∀ own xs,p.2=.al own xs→own=0) (s:Nat):∀ own xs,get (l++b8 0 es) s=.al own xs→own=0:=by
 induction l with
 | nil=>
   intro own xs e
   rw [List.nil_append,mq,if_pos (ac1 _),sc] at e
   cases hx:es[s - 0]? with
   | none=>rw [hx] at e;cases e
   | some x=>rw [hx] at e;exact h x (aaX hx) own xs e
 | cons p l ih=>
   obtain ⟨k,v⟩:=p
   intro own xs e
   simp only [List.cons_append,get] at e
   split at e
   ·exact hl (k,v) (by simp) own xs e
   ·exact ih (fun p hp=>hl p (by simp [hp])) own xs e
def Ie (n0:Nat) (b:Bool) (H:List aa) (R:AV→List aa→Prop):Prop:=n0≤H.length∧R (.bool b) (H.take n0)
def qP (n0 id:Nat) (R:AV→List aa→Prop) (e:Exit) (H:List aa):Prop:=
 match H[id]? with
 | some (.loop .busy lc es)=>(match e with
   | .normal=>Ie n0 true (H.set id (.loop .ready lc es)) R
   | .ret=>Ie n0 false (H.set id (.loop (.jump .ret) lc es)) R
   | .exit k=>Ie n0 false (H.set id (.loop (.jump (.exit k)) lc es)) R
   | _=>False)
 | _=>False
def jZ (id:Nat) (H:List aa) (K:List aa→Prop):Prop:=
 match H[id]? with
 | some (.loop .ready lc es)=>K (H.set id (.loop .busy lc es))
 | _=>False
def aao (lc:iP) (es:List AV) (args:List AV):Prop:=es.length=lc.n∧args.length=lc.ps.length∧lc.ps.all (· < lc.n)=true∧(∀ x∈es,x.ae=x)∧∀ x∈args,x.ae=x
theorem wh {x:AV} (h:x.ae=x):∀ own xs,x=.al own xs→own=0:=by
 rintro own xs rfl
 simp only [AV.ae] at h
 cases h;rfl
theorem oN {id:Nat} {args:List AV} {H:List aa} {lc:iP} {es:List AV} {ia ib:IR} {R:AV→List aa→Prop} (bm:H[id]?=some (.loop .ready lc es))
 (ha:comp P lc.an lc.lv lc.pl lc.n lc.as=some ia) (hb:comp P lc.an lc.lv lc.pl lc.n lc.bd=some ib) (yy:aao lc es args)
 (h:m9 P H.length ia ((lc.ps.zip args).reverse++b8 0 es) H fun e env1 H1=>e=.normal∧jZ id H1 fun H2=>m9 P H.length ib env1 H2 fun e _ H3=>qP H.length id R e H3):jS P id args H R:=by
 intro A M L w vs O b hA hs hL bP
 obtain ⟨r,q1,q2,q3,q4,q5,q6⟩:=bP.obj id _ b bm hL
 obtain ⟨c1,c2,c3,c4,c5⟩:=yy
 have MN:L.length=H.length:=bP.len
 have yv:b∈L:=aaX hL
 refine ⟨r.fn,_,r.assign,r.body,run_yield q1 (by rw [q2];simp;omega),?_⟩
 have htz:(r.params.zip vs).foldl (fun t (p:Nat×Value)=>t.setIfInBounds p.1 p.2) r.tmps=(lc.ps.zip vs.toList).foldl (fun t p=>t.setIfInBounds p.1 p.2) r.tmps:=by
  rw [q2,← aee]
  simp
 have htm:((r.params.zip vs).foldl (fun tmps (x:Nat×Value)=>match x with | (t,a)=>tmps.setIfInBounds t a) r.tmps)=(lc.ps.zip vs.toList).foldl (fun t p=>t.setIfInBounds p.1 p.2) r.tmps:=htz
 rw [htm,q3,q4]
 obtain ⟨t0,VQ⟩:∃ t0,t0=(lc.ps.zip vs.toList).foldl (fun t p=>t.setIfInBounds p.1 p.2) r.tmps:=⟨_,rfl⟩
 rw [← VQ]
 have db:r.tmps.size=lc.n:=by have:=q5.length;rw [c1] at this;simpa using this
 have xK:aI M L vs.toList args:=by
  refine aI.zU (by simpa using hs) fun j x hx=>?_
  have h1:=bP.env j
  have hj:j < vs.size:=by rw [hs];exact aM hx
  refine ⟨vs[j],by simp [hj],?_⟩
  simp only [abe,sc,hx,Option.getD_some,adm hj] at h1
  exact h1
 have ff:∀ s,aT M L (t0.getD s undef) (get ((lc.ps.zip args).reverse++b8 0 es) s):=by
  rw [VQ]
  refine ub xK (fun p hp=>by rw [db];simpa using aaL.1 c3 p hp) fun s=>?_
  rw [mq,if_pos (ac1 _),ad7]
  have:=q5.getD s
  simpa [abe,sc] using this
 have hfree:=J6 (fun x hx=>wh (c4 x hx)) (l:=(lc.ps.zip args).reverse) (fun p hp own xs e=>wh (c5 p.2 (List.of_mem_zip (List.mem_reverse.1 hp)).2) own xs e)
 obtain ⟨A2,EZ⟩:∃ A2:Perm,A2={ A with base:=w.heap.size }:=⟨_,rfl⟩
 have st12:∀ {M:Mem} {L:List Nat} {w:World} {H:List aa} {ev:Nat→Value} {ea:Nat→AV} {O:Pos→Option Nat},St A M L w H ev ea O→St A2 M L w H ev ea O:=by
  intro M L w H ev ea O h;subst EZ
  exact { len:=h.len,nodup:=h.nodup,env:=h.env,mem:=h.mem,obj:=h.obj,bF:=h.bF,lt:=h.lt,iq:=h.iq,ic:=h.ic,cc:=h.cc,cu:=h.cu,fw:=h.fw,La:=h.La,Oa:=h.Oa,fresh:=h.fresh }
 have st21:∀ {M:Mem} {L:List Nat} {w:World} {H:List aa} {ev:Nat→Value} {ea:Nat→AV} {O:Pos→Option Nat},St A2 M L w H ev ea O→St A M L w H ev ea O:=by
  intro M L w H ev ea O h;subst EZ
  exact { len:=h.len,nodup:=h.nodup,env:=h.env,mem:=h.mem,obj:=h.obj,bF:=h.bF,lt:=h.lt,iq:=h.iq,ic:=h.ic,cc:=h.cc,cu:=h.cu,fw:=h.fw,La:=h.La,Oa:=h.Oa,fresh:=h.fresh }
 have ex21:∀ {M M':Mem} {w w':World},Ext A2 M w M' w'→Ext A M w M' w':=by
  intro M M' w w' h;subst EZ
  exact ⟨h.lg,h.size,h.os,h.tape,h.output,h.kK,h.loops⟩
 have hfits:fT none L.length A2:=by rw [EZ,MN];exact pT hA
 have Ek:Fr A2 lc.n M L w H ((lc.ps.zip args).reverse++b8 0 es) _ { tmps:=t0,defers:=[] }:=
  ⟨st12 (bP.qF (fun t=>t0.getD t undef) (get ((lc.ps.zip args).reverse++b8 0 es)) ff hfree),by rw [VQ,qO,db],⟨by rw [EZ];exact yo _,List.nodup_nil,fun d h=>by cases h⟩⟩
 rw [← MN] at h
 refine roundIn_of_wpIn trivial ?_
 have uF:Own (some b) w:=fun l e=>by cases e;exact ⟨r,q1⟩
 refine Go.wpIn_mono (F:=wf (some b)) (EY (ro:=some b) (L0:=L) lc.as ia ha hfits uF h Ek (aah L)) ?_
 rintro e a1 w1 ⟨A',M1,L1,H1,env1,O1,hle,⟨rfl,Nw⟩,El,tU,Zr⟩
 unfold jZ at Nw
 split at Nw <;> try exact Nw.elim
 rename_i lc1 es1 Nx
 have qK:L1[id]?=some b:=gk Zr hL
 obtain ⟨r1,p1,p2,p3,p4,p5,p6⟩:=El.st.obj id _ b Nx qK
 obtain ⟨k1,k2⟩:=El.st.oK (st':=.busy) (r':={ r1 with state:=.busy }) Nx qK (fun r2 sv=>by rw [p1] at sv;cases sv;exact ⟨rfl,rfl,rfl,rfl,rfl,rfl⟩)
 refine ⟨_,run_beginRound p1 p6.1,?_⟩
 have hown1:Own (some b) (w1.putObj b (.loop { r1 with state:=.busy })):=(uF.ext tU).ext k2
 refine Go.wpIn_mono (F:=wf (some b)) (EY (ro:=some b) (L0:=L) lc.bd ib hb (hfits.le hle) hown1 Nw ⟨k1,El.size,El.defers.ext k2⟩ Zr) ?_
 rintro e a2 w2 ⟨A3,M2,L2,H2,cV,O2,xL,qQ,tQ,Qq,RT⟩
 unfold qP at qQ
 split at qQ <;> try exact qQ.elim
 rename_i lc2 es2 Nq
 have pi:L2[id]?=some b:=gk RT hL
 obtain ⟨r2,g1,g2,g3,g4,g5,g6⟩:=tQ.st.obj id _ b Nq pi
 have idn:id < H.length:=aM bm
 have fin:∀ (jump:Option Code) (st':UR),st'.ok { r2 with state:=if jump.isNone then .ready else .done,pending:=jump }→Ie L.length jump.isNone (H2.set id (.loop st' lc2 es2)) R→
  ∃ v w',(Instr.endRound b jump).run P w2=.ok v w'∧∃ v' r' H' M' L' O',Ending.returned v=.returned v'∧R r' H'∧St A M' L' w' H' (fF (fun _=>undef) 0 v') (fF (fun _=>.any) 0 r') O'∧Ext A M w M' w'∧L <+: L':=by
  intro jump st' mb Ib
  obtain ⟨m1,m2⟩:=tQ.st.oK (st':=st') (r':={ r2 with state:=if jump.isNone then .ready else .done,pending:=jump }) Nq pi (fun r3 MP=>by rw [g1] at MP;cases MP;exact ⟨rfl,rfl,rfl,rfl,rfl,mb⟩)
  refine ⟨_,_,run_endRound jump g1,?_⟩
  obtain ⟨hlen,hR⟩:=Ib
  have m3:=m1.qF (fF (fun _=>undef) 0 (.bool jump.isNone)) (fF (fun _=>.any) 0 (.bool jump.isNone)) (fun t=>by
   simp only [fF];split
   ·exact .bool _
   ·exact .any _) (fun t own xs e=>by
   simp only [fF] at e;split at e <;> cases e)
  obtain ⟨O3,m4⟩:=m3.cut L.length (fun id' o VR ho=>(((hfits.le hle).le xL)).closed (yo _) m3 id' o VR ho) (fun t=>by
   simp only [fF];split <;> rfl)
  have hx:Ext A M w M2 (w2.putObj b (.loop { r2 with state:=if jump.isNone then .ready else .done,pending:=jump })):=
   ex21 ((tU.trans (k2.le hle)).trans ((Qq.le hle).trans (m2.le (xL.trans hle))))
  refine ⟨_,_,_,M2,_,O3,rfl,hR,st21 ((m4.le xL).le hle),hx,?_⟩
  obtain ⟨s,rfl⟩:=RT
  exact ⟨[],by simp⟩
 cases e with
 | normal=>exact fin none .ready ⟨rfl,rfl⟩ qQ
 | ret=>exact fin (some .ret) (.jump .ret) ⟨rfl,rfl⟩ qQ
 | exit k=>exact fin (some (.exit k)) (.jump (.exit k)) ⟨rfl,rfl⟩ qQ
 | _=>exact qQ.elim
end
end Go.aJ
end
section
namespace Go.aJ
open Go
section
variable {P:Program} {A:Perm} {M:Mem} {L:List Nat} {w:World} {H:List aa} {ev:Nat→Value} {ea:Nat→AV} {O:Pos→Option Nat}
def Cw (O:Pos→Option Nat) (w:World):Perm:=⟨fun b=>(∃ t,O (.t t)=some b)∨w.heap.size≤b,fun id=>some (id + 1),(fun id n h=>by cases h;omega),0⟩
theorem Cy (O:Pos→Option Nat) (w:World):(Cw O w).entry false ([]:List aa).length:=⟨fun id h=>absurd h (Nat.not_lt_zero _),fun id _=>rfl⟩
theorem St.bare (h:St A M L w H ev ea O) (hb:∀ t,(ea t).a8 0=true):St (Cw O w) M [] w [] ev ea (fun p=>match p with | .t t=>O (.t t) | .c _ _=>none):=by
 have hO:∀ (p:Pos) (b:Nat),(match p with | .t t=>O (.t t) | .c _ _=>none)=some b→O p=some b∧∃ t,p=.t t:=by
  intro p b hp
  cases p with
  | t t=>exact ⟨hp,t,rfl⟩
  | c id j=>cases hp
 exact { len:=rfl,nodup:=by simp,env:=fun t=>(by have:=(h.env t).gD (hb t);simpa using this),mem:=h.mem,obj:=fun id o b ho=>(by simp at ho),bF:=fun id o ho=>(by simp at ho),lt:=fun b hb=>(by cases hb)
         iq:=fun t=>h.iq t,ic:=fun id j=>(by simp [bt,bg]),cc:=fun p q b hp hq=>h.cc p q b (hO p b hp).1 (hO q b hq).1,cu:=fun p b hp hm=>(by cases hm),fw:=fun p b hp=>h.fw p b (hO p b hp).1,
         La:=fun b hb=>(by cases hb),Oa:=fun p b hp=>(by obtain ⟨h1,t,rfl⟩:=hO p b hp;exact .inl ⟨t,h1⟩),fresh:=fun b hb=>.inr hb }
theorem St.J7 (h:St A M L w H ev ea O) {M':Mem} {w':World} {v:Value} {r:AV} {L':List Nat} {O':Pos→Option Nat}
 (h':St (Cw O w) M' L' w' [] (fF (fun _=>undef) 0 v) (fF (fun _=>.any) 0 r) O')
 (cD:Ext (Cw O w) M w M' w') :
 ∃ O3,St A M' L w' H (fF (fun _=>undef) 0 v) (fF (fun _=>.any) 0 r) O3∧Ext A M w M' w':=by
 have RS:L'=[]:=by have:=h'.len;simpa using this
 subst RS
 have hAA:∀ b,((∃ t,O (.t t)=some b)∨w.heap.size≤b)→A b:=by
  rintro b (⟨t,ht⟩ | hb)
  ·exact h.Oa _ b ht
  ·exact h.fresh b hb
 have keepL:∀ b∈L,w'.heap[b]?=w.heap[b]?∧∀ o,M' b o=M b o:=fun b hb=>cD.kK b (h.lt b hb) (by
  rintro (⟨t,ht⟩ | hs)
  ·exact h.cu _ b ht hb
  ·exact absurd (h.lt b hb) (by omega))
 have keepC:∀ id j b,O (.c id j)=some b→w'.heap[b]?=w.heap[b]?∧∀ o,M' b o=M b o:=fun id j b hb=>cD.kK b (h.fw _ b hb) (by
  rintro (⟨t,ht⟩ | hs)
  ·cases h.cc _ _ b ht hb
  ·exact absurd (h.fw _ b hb) (by omega))
 let O3:Pos→Option Nat:=fun p=>match p with | .t t=>if t=0 then O' (.t 0) else none | .c id j=>O (.c id j)
 have RY:∀ b,O' (.t 0)=some b→b∉L∧(∀ id j,O (.c id j)≠some b):=by
  intro b hb
  rcases h'.Oa _ b hb with ⟨t,ht⟩ | hs
  ·exact ⟨h.cu _ b ht,fun id j hc=>by cases h.cc _ _ b ht hc⟩
  ·exact ⟨fun hm=>absurd (h.lt b hm) (by omega),fun id j hc=>absurd (h.fw _ b hc) (by omega)⟩
 refine ⟨O3,?_,⟨cD.lg,cD.size,cD.os,cD.tape,cD.output,fun b hb hA=>cD.kK b hb (fun hx=>hA (hAA b hx)),cD.loops⟩⟩
 exact { len:=h.len,nodup:=h.nodup
         env:=fun t=>(h'.env t).mono (Mem.bO _) (List.nil_prefix)
         mem:=h'.mem
         obj:=fun id o b ho hb=>(h.obj id o b ho hb).mono cD.lg (aah _) (keepL b (aaX hb)).1 (keepL b (aaX hb)).2
         bF:=h.bF
         lt:=fun b hb=>adi (h.lt b hb) cD.size
         iq:=fun t=>by
          by_cases e:t=0
          ·subst e;simpa [O3] using h'.iq 0
          ·simp [O3,e,fF,bg]
         ic:=fun id j=>by
          have e1:bM L w' id j=bM L w id j:=by
           unfold bM
           cases hl:L[id]? with
           | none=>rfl
           | some b=>simp only [World.cell?,(keepL b (aaX hl)).1]
          rw [e1]
          exact (h.ic id j).mono fun b hb=>keepC id j b hb
         cc:=fun p q b hp hq=>by
          cases p with
          | t t=>
            simp only [O3] at hp
            split at hp
            ·rename_i e;subst e
             cases q with
             | t t'=>
               simp only [O3] at hq
               split at hq
               ·rename_i e;subst e;rfl
               ·cases hq
             | c id j=>exact absurd hq ((RY b hp).2 id j)
            ·cases hp
          | c id j=>
            cases q with
            | t t'=>
              simp only [O3] at hq
              split at hq
              ·exact absurd hp ((RY b hq).2 id j)
              ·cases hq
            | c id' j'=>exact h.cc _ _ b hp hq
         cu:=fun p b hp=>by
          cases p with
          | t t=>
            simp only [O3] at hp
            split at hp
            ·exact (RY b hp).1
            ·cases hp
          | c id j=>exact h.cu _ b hp
         fw:=fun p b hp=>by
          cases p with
          | t t=>
            simp only [O3] at hp
            split at hp
            ·exact h'.fw _ b hp
            ·cases hp
          | c id j=>exact adi (h.fw _ b hp) cD.size
         La:=h.La
         Oa:=fun p b hp=>by
          cases p with
          | t t=>
            simp only [O3] at hp
            split at hp
            ·exact hAA b (h'.Oa _ b hp)
            ·cases hp
          | c id j=>exact h.Oa _ b hp
         fresh:=fun b hb=>h.fresh b (abY cD.size hb) }
theorem aw.frame {f:FuncId} {args:List AV} {R:AV→Prop} (ha:∀ x∈args,x.a8 0=true) (h:aw P f args [] fun r H'=>R r∧H'=[]) (H:List aa):aw P f args H fun r H'=>R r∧H'=H:=by
 intro A M L w vs O hA hs bP
 have hb:∀ t,(args.getD t .any).a8 0=true:=by
  intro t
  rw [sc]
  cases hx:args[t]? with
  | none=>rfl
  | some x=>exact ha x (aaX hx)
 rcases h (Cw O w) M [] w vs _ (Cy O w) hs (bP.bare hb) with ⟨h1,h2⟩ | ⟨v,w',r,H',M',L',O',h1,⟨h2,rfl⟩,h3,h4,_⟩
 ·refine .inl ⟨h1,h2.mono ?_⟩
  rintro e w' ⟨v,r,H',M',L',O',k1,⟨k2,rfl⟩,k3,k4,_⟩
  obtain ⟨O3,g1,g2⟩:=bP.J7 k3 k4
  exact ⟨v,r,H,M',L,O3,k1,⟨k2,rfl⟩,g1,g2,aah L⟩
 ·obtain ⟨O3,g1,g2⟩:=bP.J7 h3 h4
  exact .inr ⟨v,w',r,H,M',L,O3,h1,⟨h2,rfl⟩,g1,g2,aah L⟩
end
end Go.aJ
end
