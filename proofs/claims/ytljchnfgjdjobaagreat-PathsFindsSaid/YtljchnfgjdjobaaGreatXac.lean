/- Part 3 of 20 of the proof. -/
import Derived.Test.YtljchnfgjdjobaaGreatXab
set_option linter.unusedVariables false
set_option linter.unusedSimpArgs false
set_option linter.defProp false
set_option linter.unusedSectionVars false
section
namespace Go.aI
open Go
inductive RX where
 | t (s:Nat)
 | c (s:Nat) (sz:Option Nat)
 deriving Inhabited
def Lb (P:Program):ResultVar→Option RX
 | .tmp t=>some (.t t)
 | .cell a t=>(Ks P t).map (.c a)
def iZ (P:Program):List ResultVar→Option (List RX)
 | []=>some []
 | r::rs=>match Lb P r,iZ P rs with
   | some x,some xs=>some (x::xs)
   | _,_=>none
def xl:List RX→Env→List aa→(List AV→Prop)→Prop
 | [],_,_,φ=>φ []
 | .t s::r,env,H,φ=>xl r env H fun xs=>φ (get env s::xs)
 | .c s sz::r,env,H,φ=>a8 sz (get env s) H fun x=>xl r env H fun xs=>φ (x::xs)
def bP (n0:Nat) (rs:List RX) (env:Env) (H:List aa) (R:AV→List aa→Prop):Prop:=
 xl rs env H fun xs=>∃ m,n0≤m∧match xs with
  | [x]=>∃ r,x.le r∧r.bc m=true∧R r (H.take m)
  | xs=>∃ ys,yU (xs.map AV.ab) ys∧aw m ys=true∧R (.tuple ys) (H.take m)
def jP (C:List aa→Nat→List aa→Prop) (n0:Nat) (rs:List RX) (env:Env) (H:List aa) (R:AV→List aa→Prop):Prop:=
 xl rs env H fun xs=>∃ m H',n0≤m∧C H m H'∧match xs with
  | [x]=>∃ r,x.le r∧r.bc m=true∧R r H'
  | xs=>∃ ys,yU (xs.map AV.ab) ys∧aw m ys=true∧R (.tuple ys) H'
theorem tS:∀ {rs:List RX} {env:Env} {H:List aa} {φ ψ:List AV→Prop},(∀ xs,φ xs→ψ xs)→xl rs env H φ→xl rs env H ψ
 | [],env,H,φ,ψ,hm,h=>hm _ h
 | .t s::r,env,H,φ,ψ,hm,h=>tS (rs:=r) (fun xs hx=>hm _ hx) h
 | .c s sz::r,env,H,φ,ψ,hm,h=>kT (fun x hx=>tS (rs:=r) (fun xs hx=>hm _ hx) hx) h
theorem SW {n0:Nat} {rs:List RX} {env:Env} {H:List aa} {R:AV→List aa→Prop} (h:bP n0 rs env H R):jP (fun H m H'=>H'=H.take m) n0 rs env H R:=
 tS (fun xs ⟨m,h1,h2⟩=>⟨m,H.take m,h1,rfl,h2⟩) h
def cc:Nat→List AV→Env
 | _,[]=>[]
 | k,x::xs=>(k,x)::cc (k + 1) xs
theorem nR:∀ (xs:List AV) (k t:Nat),get (cc k xs) t=if k≤t then xs.getD (t - k) .any else .any
 | [],k,t=>by simp [cc,get]
 | x::xs,k,t=>by
   simp only [cc,get]
   split
   ·rename_i e;subst e;simp
   ·rename_i e
    rw [nR xs (k + 1) t]
    by_cases h:k + 1≤t
    ·have:t - k=(t - (k + 1)) + 1:=by omega
     rw [if_pos h,if_pos (by omega),this];simp
    ·rw [if_neg h,if_neg (by omega)]
section
variable {P:Program} {A:Perm} {n:Nat} {M:Mem} {L:List Nat} {w:World} {H:List aa} {env:Env} {O:Pos→Option Nat} {a:Act}
def Bv (tmps:Array Value):ResultVar→Sem Value:=fun
 | .tmp t=>pure (tmps.getD t undef)
 | .cell a t=>do loadVar t (← asAddr (tmps.getD a undef))
theorem Dl {fn:Func} {tmps:Array Value} {vs:List Value} (h:(fn.results.toList.mapM (Bv tmps)).run P w=.ok vs w) :
 (results fn tmps).run P w=.ok (if h:vs.toArray.size=1 then vs.toArray[0] else .tuple vs.toArray) w:=by
 have e:(results fn tmps)=(do
  let vs ← fn.results.mapM (Bv tmps)
  pure (if h:vs.size=1 then vs[0] else .tuple vs)):=rfl
 rw [e,Array.mapM_eq_mapM_toList]
 simp only [Sem.run_bind,Sem.run_map,h]
 rfl
theorem Bw (hf:Fr A n M L w H env O a):∀ (rs:List ResultVar) (is:List RX),iZ P rs=some is→∀ {φ:List AV→Prop},xl is env H φ→
 ∃ vs xs,(rs.mapM (Bv a.tmps)).run P w=.ok vs w∧φ xs∧aP M L vs xs∧(∀ s,is=[.t s]→xs=[get env s]∧vs=[a.tmps.getD s undef])∧(∀ s sz,is=[.c s sz]→∀ x,xs=[x]→∀ own ys,x=.al own ys→own=0)
 | [],is,hc,φ,h=>by
   simp only [iZ] at hc;cases hc
   exact ⟨[],[],by simp,h,.nil,(by intro s e;cases e),(by intro s sz e;cases e)⟩
 | r::rs,is,hc,φ,h=>by
   unfold iZ at hc
   split at hc <;> cases hc
   rename_i x xs hx fe
   cases r with
   | tmp t=>
     simp only [Lb] at hx;cases hx
     simp only [xl] at h
     obtain ⟨vs,ys,h1,h2,h3,_⟩:=Bw hf rs xs fe h
     refine ⟨a.tmps.getD t undef::vs,get env t::ys,?_,h2,.cons _ _ _ _ (hf.st.env t) h3,?_,?_⟩
     ·simp only [List.mapM_cons,Sem.run_bind,Bv,Sem.run_pure,Result.andThen_ok,h1]
     ·intro s e
      cases e
      cases rs with
      | nil=>
        cases h3 with
        | nil=>exact ⟨rfl,rfl⟩
        | cons v x vs xs hh tt=>
          simp at h1
      | cons r rs=>
        unfold iZ at fe
        split at fe <;> cases fe
     ·intro s sz e;cases e
   | cell p t=>
     simp only [Lb,aal] at hx
     obtain ⟨sz,dd,rfl⟩:=hx
     simp only [xl] at h
     obtain ⟨r,z,k1,k2,k3,k4⟩:=tD (P:=P) dd hf.st h (hf.st.env p)
     obtain ⟨vs,ys,h1,h2,h3,_⟩:=Bw hf rs xs fe k3
     refine ⟨r::vs,z::ys,?_,h2,.cons _ _ _ _ k2 h3,?_,?_⟩
     ·have hl:(do loadVar t (← asAddr (a.tmps.getD p undef)):Sem Value).run P w=.ok r w:=by
       have gr:=hf.st.env p
       revert k1 gr
       generalize a.tmps.getD p undef=u
       intro k1 gr
       unfold a8 at h
       split at h
       ·rename_i id off e
        rw [e] at gr
        cases gr
        exact k1
       ·rename_i y e
        rw [e] at gr
        cases gr
        exact k1
       ·exact h.elim
      have h1':(List.mapM (Bv a.tmps) rs).run P w=.ok vs w:=h1
      simp only [List.mapM_cons,Sem.run_bind,Bv] at hl ⊢
      rw [hl]
      simp only [Result.andThen_ok,h1']
      rfl
     ·intro s e;cases e
     ·intro s sz e x hx
      cases hx
      exact k4
theorem St.aK {ev:Nat→Value} {ea:Nat→AV} (h:St A M L w H ev ea O) {v:Value} {x:AV} (hr:a7 M L v x) (ob:Option Nat) (hs:bm M w v x ob)
 (h1:∀ id j b,ob=some b→O (.c id j)≠some b) (h2:∀ b,ob=some b→b∉L∧b < w.heap.size∧A b) :
 ∃ O',St A M L w H (gR (fun _=>undef) 0 v) (gR (fun _=>.any) 0 x) O':=by
 have k1:=h.sd (fun _=>undef) (fun _=>.any) (fun _=>.any _) (fun _ _ _ e=>by cases e)
 exact ⟨_,k1.put 0 hr ob hs (fun p b hob hp=>by
  cases p with
  | t t=>cases hp
  | c id j=>exact absurd hp (h1 id j b hob)) h2⟩
theorem HD {x:AV} {m:Nat} (hb:x.bc m=true) (t:Nat):(gR (fun _=>AV.any) 0 x t).bc m=true:=by
 simp only [gR]
 split
 ·exact hb
 ·rfl
theorem St.Lc {ev:Nat→Value} {ea:Nat→AV} (h:St A M L w H ev ea O) (A2:Perm) (hwr:A2.wr=A.wr) (n:Nat) {H':List aa} (hlen:H'.length=min n H.length)
 (hc:∀ (id:Nat) (o:aa),H'[id]?=some o→o=.dead∨(H[id]?=some o∧o.bc (A2.jk H'.length id)=true)) (hb:∀ t,(ea t).bc n=true):∃ O',St A2 M (L.take n) w H' ev ea O':=by
 let O':Pos→Option Nat:=fun p=>match p with | .t t=>O (.t t) | .c id j=>match H'[id]? with | some .dead=>none | some _=>O (.c id j) | none=>none
 have hO:∀ p b,O' p=some b→O p=some b:=by
  intro p b hp
  cases p with
  | t t=>exact hp
  | c id j=>
    simp only [O'] at hp
    split at hp <;> first | exact hp | cases hp
 have kM:∀ {α:Type} {l:List α} {i:Nat} {a:α},(l.take n)[i]?=some a→i < n∧l[i]?=some a:=by
  intro α l i a hi
  rw [aaG] at hi
  split at hi
  ·exact ⟨by assumption,hi⟩
  ·cases hi
 have j4:∀ b,b∈L.take n→b∈L:=fun b hb=>acs hb
 refine ⟨O',{ len:=by simp [h.len,hlen],nodup:=(List.take_sublist n L).nodup h.nodup,env:=fun t=>(h.env t).iP (hb t),mem:=h.mem,obj:=?_,bJ:=?_,lt:=fun b hb=>h.lt b (j4 b hb),jX:=h.jX,jD:=?_,cU:=fun p q b hp hq=>h.cU p q b (hO p b hp) (hO q b hq),cZ:=fun p b hp hm=>h.cZ p b (hO p b hp) (j4 b hm),iA:=fun p b hp=>h.iA p b (hO p b hp),La:=fun b hb=>by rw [hwr];exact h.La b (j4 b hb),Oa:=fun p b hp=>by rw [hwr];exact h.Oa p b (hO p b hp),fresh:=fun b hb=>by rw [hwr];exact h.fresh b hb }⟩
 ·intro id o b ho ew
  obtain ⟨hn,ew⟩:=kM ew
  rcases hc id o ho with rfl | ⟨h1,h2⟩
  ·trivial
  ·refine (h.obj id o b h1 ew).iP (aa.cH ?_ o h2)
   have:=A2.wE H'.length id
   omega
 ·intro id o ho
  rcases hc id o ho with rfl | ⟨h1,h2⟩
  ·rfl
  ·exact h2
 ·intro id j
  have dead:∀ x:Option aa,H'[id]?=x→(x=none∨x=some .dead)→bm M w (bW (L.take n) w id j) (bB H' id j) (O' (.c id j)):=by
   intro x hx Rj
   have e2:bB H' id j=.any:=by
    unfold bB
    rw [hx]
    rcases Rj with rfl | rfl <;> rfl
   have e3:O' (.c id j)=none:=by
    simp only [O',hx]
    rcases Rj with rfl | rfl <;> rfl
   rw [e2,e3]
   rfl
  cases hx:H'[id]? with
  | none=>exact dead none hx (.inl rfl)
  | some o=>
    by_cases ed:o=.dead
    ·subst ed;exact dead _ hx (.inr rfl)
    ·rcases hc id o hx with h' | ⟨h1,h2⟩
     ·exact absurd h' ed
     have hl:=aS hx
     have e1:bW (L.take n) w id j=bW L w id j:=by
      unfold bW
      rw [aaG,if_pos (by omega)]
     have e2:bB H' id j=bB H id j:=by
      unfold bB
      rw [hx,h1]
     have e3:O' (.c id j)=O (.c id j):=by
      simp only [O',hx]
     rw [e1,e2,e3]
     exact h.jD id j
theorem HE:∀ {vs:List Value} {xs ys:List AV},aP M L vs xs→yU (xs.map AV.ab) ys→aP M L vs ys
 | _,_,[],.nil,h=>.nil
 | _,_,y::ys,.nil,h=>by simp [yU] at h
 | _,_,[],.cons _ _ _ _ _ _,h=>by simp [yU] at h
 | _,_,y::ys,.cons _ _ _ _ h1 h2,h=>by
   simp only [List.map_cons,yU] at h
   exact .cons _ _ _ _ (h1.ab.le h.1) (HE h2 h.2)
def Marks (A:Perm) (w w2:World):Prop:=w2.heap.size=w.heap.size∧w2.os=w.os∧w2.tape=w.tape∧w2.output=w.output∧
 ∀ b,w2.heap[b]?=w.heap[b]?∨(A.base≤b∧¬ A b∧(∃ x,w.heap[b]?=some (.deferred x))∧∃ x,w2.heap[b]?=some (.deferred x))
theorem Marks.refl (A:Perm) (w:World):Marks A w w:=⟨rfl,rfl,rfl,rfl,fun b=>.inl rfl⟩
theorem Marks.trans {A:Perm} {w w1 w2:World} (h:Marks A w w1) (k:Marks A w1 w2):Marks A w w2:=by
 refine ⟨k.1.trans h.1,k.2.1.trans h.2.1,k.2.2.1.trans h.2.2.1,k.2.2.2.1.trans h.2.2.2.1,fun b=>?_⟩
 rcases h.2.2.2.2 b with h1 | ⟨h1,h2,h3,x,h4⟩ <;> rcases k.2.2.2.2 b with k1 | ⟨k1,k2,⟨y,k3⟩,k4⟩
 ·exact .inl (k1.trans h1)
 ·exact .inr ⟨k1,k2,⟨y,by rw [← h1];exact k3⟩,k4⟩
 ·exact .inr ⟨h1,h2,h3,x,by rw [k1];exact h4⟩
 ·exact .inr ⟨h1,h2,h3,k4⟩
theorem sq {A:Perm} {F:Fence} {m:Nat} {fn:Func} {tmps:Array Value} {R:Ending→World→Prop}:∀ (ds:List Deferred) {w:World},Rb A w ds→(∀ w2,Marks A w w2→LeavesIn F m P fn tmps R [] .returning w2)→LeavesInM F m P fn tmps R ds .returning w
 | [],w,_,h=>h w (.refl A w)
 | d::ds,w,hd,h=>by
   obtain ⟨D,rfl,h2,h3,h4⟩:=hd.2.2 _ abD
   have hm:Marks A w (w.putObj D (.deferred none)):=⟨World.putObj_size,rfl,rfl,rfl,fun b=>by
    by_cases e:b=D
    ·subst e
     exact .inr ⟨h4,h3,⟨_,h2⟩,_,World.putObj_heap_same (abR.1 h2).1⟩
    ·exact .inl (World.putObj_heap_other e)⟩
   refine ⟨by simp,.inl ⟨D,_,rfl,run_takeDeferred h2,sq ds ⟨by rw [World.putObj_size];exact hd.1,(List.nodup_cons.1 hd.2.1).2,fun d' hd'=>?_⟩ fun w2 VT=>h w2 (hm.trans VT)⟩⟩
   obtain ⟨D',e',k2,k3⟩:=hd.2.2 d' (aaA _ hd')
   refine ⟨D',e',?_,k3⟩
   rw [World.putObj_heap_other]
   ·exact k2
   ·rintro rfl
    exact (List.nodup_cons.1 hd.2.1).1 (e' ▸ hd')
theorem St.marks {ev:Nat→Value} {ea:Nat→AV} (h:St A M L w H ev ea O) {w2:World} (hm:Marks A w w2):St A M L w2 H ev ea O:=by
 obtain ⟨h1,_,_,_,h5⟩:=hm
 have same:∀ b,A b→w2.heap[b]?=w.heap[b]?:=fun b hb=>by
  rcases h5 b with h | ⟨_,h,_⟩
  ·exact h
  ·exact absurd hb h
 exact { len:=h.len,nodup:=h.nodup,env:=h.env,bJ:=h.bJ,cU:=h.cU,cZ:=h.cZ,La:=h.La,Oa:=h.Oa
         mem:=fun b o v hv=>by
          have hc:=h.mem b o v hv
          rcases h5 b with e | ⟨_,_,⟨x,e⟩,_⟩
          ·simp only [World.cell?] at hc ⊢;rw [e];exact hc
          ·simp [World.cell?,e] at hc
         obj:=fun id o b ho hb=>(h.obj id o b ho hb).mono (Mem.b8 M) (aaD L) (same b (h.La b (abB hb))) (fun _=>rfl)
         lt:=fun b hb=>by rw [h1];exact h.lt b hb
         jX:=fun t=>(h.jX t).mono fun b hb=>⟨same b (h.Oa _ b hb),fun _=>rfl⟩
         jD:=fun id j=>by
          have e:bW L w2 id j=bW L w id j:=by
           unfold bW
           split
           ·rename_i b hb
            simp only [World.cell?]
            rw [same b (h.La b (abB hb))]
           ·rfl
          rw [e]
          exact (h.jD id j).mono fun b hb=>⟨same b (h.Oa _ b hb),fun _=>rfl⟩
         iA:=fun p b hp=>by rw [h1];exact h.iA p b hp
         fresh:=fun b hb=>h.fresh b (by rw [← h1];exact hb) }
theorem Ext.marks {A A':Perm} {M M':Mem} {w w' w2:World} (h:Ext A M w M' w') (hm:Marks A' w' w2) (hb:w.heap.size≤A'.base):Ext A M w M' w2:=by
 obtain ⟨h1,h2,h3,h4,h5⟩:=hm
 refine ⟨h.oD,by rw [h1];exact h.size,h2.trans h.os,h3.trans h.tape,h4.trans h.output,fun b aM hA=>?_,fun b r hr=>?_⟩
 ·obtain ⟨k1,k2⟩:=h.mv b aM hA
  refine ⟨?_,k2⟩
  rcases h5 b with e | ⟨e,_⟩
  ·exact e.trans k1
  ·omega
 ·obtain ⟨r',k1,k2⟩:=h.loops b r hr
  rcases h5 b with e | ⟨_,_,⟨x,e⟩,_⟩
  ·exact ⟨r',e.trans k1,k2⟩
  ·rw [k1] at e;cases e
theorem qX {lo:Option Nat} {b:Bool} (A1:Perm→Perm) (C:List aa→Nat→List aa→Prop) {f:FuncId} {fn:Func} {c:Code} {an:CA} {lv:mr} {pl:ms} {ir:IR} {rs:List RX} {args:List AV} {R:AV→List aa→Prop}
 (hf:P.funcs[f]?=some fn) (hcall:∀ (as:Array Value) (w:World),(callFunc f as).run P w=.ok (.enter f as) w) (hb:fn.body=some c) (hc:comp P an lv pl fn.ntmps c=some ir) (vG:iZ P fn.results.toList=some rs)
 (h1:∀ A:Perm,A.entry b H.length→gf lo H.length (A1 A)) (h2:∀ A:Perm,(A1 A).wr=A.wr) (h3:∀ (A:Perm) {M:Mem} {L:List Nat} {w:World} {ev:Nat→Value} {ea:Nat→AV} {O:Pos→Option Nat},A.entry b H.length→St A M L w H ev ea O→St (A1 A) M L w H ev ea O)
 (h4:∀ (A:Perm) {M:Mem} {L:List Nat} {w:World} {H':List aa} {ev:Nat→Value} {ea:Nat→AV} {O:Pos→Option Nat} {m:Nat} {H'':List aa},A.entry b H.length→H.length≤m→H.length≤H'.length→C H' m H''→St (A1 A) M L w H' ev ea O→(∀ t,(ea t).bc m=true)→∃ O',St A M (L.take m) w H'' ev ea O')
 (hn:args.length≤fn.ntmps) (Rt:Env→List aa→Prop) (hRt:∀ env H',Rt env H'→jP C H.length rs env H' R) (h:qp ⟨P,lo⟩ H.length ir (cc 0 args) H fun e env H'=>(e=.normal∨e=.ret)∧Rt env H'):l7 b P f args H R:=by
 refine fun A M L w vs O hA hs WL=>.inl ⟨hcall _ _,callsIn_wide.1 (callsIn_of_wp_marks (F:=Fence.wide) (n:=0) hf hb trivial ?_ rfl)⟩
 obtain ⟨A2,FQ⟩:∃ A2:Perm,A2={ A1 A with base:=w.heap.size }:=⟨_,rfl⟩
 have a2w:A2.wr=A.wr:=by rw [FQ];exact h2 A
 have st12:∀ {M:Mem} {L:List Nat} {w:World} {H:List aa} {ev:Nat→Value} {ea:Nat→AV} {O:Pos→Option Nat},St (A1 A) M L w H ev ea O→St A2 M L w H ev ea O:=by
  intro M L w H ev ea O h;subst FQ
  exact { len:=h.len,nodup:=h.nodup,env:=h.env,mem:=h.mem,obj:=h.obj,bJ:=h.bJ,lt:=h.lt,jX:=h.jX,jD:=h.jD,cU:=h.cU,cZ:=h.cZ,iA:=h.iA,La:=h.La,Oa:=h.Oa,fresh:=h.fresh }
 have st21:∀ {M:Mem} {L:List Nat} {w:World} {H:List aa} {ev:Nat→Value} {ea:Nat→AV} {O:Pos→Option Nat},St A2 M L w H ev ea O→St (A1 A) M L w H ev ea O:=by
  intro M L w H ev ea O h;subst FQ
  exact { len:=h.len,nodup:=h.nodup,env:=h.env,mem:=h.mem,obj:=h.obj,bJ:=h.bJ,lt:=h.lt,jX:=h.jX,jD:=h.jD,cU:=h.cU,cZ:=h.cZ,iA:=h.iA,La:=h.La,Oa:=h.Oa,fresh:=h.fresh }
 have bT:=st12 (h3 A hA WL)
 have hfits:gf lo H.length A2:=by rw [FQ];exact h1 A hA
 have Je:L.length=H.length:=WL.len
 have E5:Fr A2 fn.ntmps M L w H (cc 0 args) O { tmps:=vs++Array.replicate (fn.ntmps - vs.size) undef,defers:=[] }:=by
  refine ⟨bT.congr ?_ ?_,by simp;omega,⟨by rw [FQ];exact zy _,List.nodup_nil,fun d h=>by cases h⟩⟩
  ·intro t
   simp only [abH]
   by_cases ht:t < vs.size
   ·rw [Array.getElem?_append_left ht]
   ·rw [Array.getElem?_append_right (by omega),Array.getElem?_eq_none (xs:=vs) (by omega),af3]
    split <;> rfl
  ·intro t
   rw [nR];simp
 rw [← bT.len] at h hfits
 refine Go.wpIn_mono (FP (ro:=none) (L0:=L) c ir hc hfits (fun l e=>by cases e) h E5 (aaD L)) ?_
 rintro e a w1 ⟨A',M',L',H',env,O',hle,⟨he,Jl⟩,OJ,hext1,hL⟩
 have base:A'.base=w.heap.size:=by rw [hle.2.2,FQ]
 have done:(∀ w',Marks A' w1 w'→LeavesIn Fence.wide 0 P fn a.tmps (fun e w'=>∃ v r H' M' L' O',e=.returned v∧R r H'∧St A M' L' w' H' (gR (fun _=>undef) 0 v) (gR (fun _=>.any) 0 r) O'∧Ext A M w M' w'∧L <+: L') [] .returning w')→
  bodyPostM Fence.wide 0 P fn (fun e w'=>∃ v r H' M' L' O',e=.returned v∧R r H'∧St A M' L' w' H' (gR (fun _=>undef) 0 v) (gR (fun _=>.any) 0 r) O'∧Ext A M w M' w'∧L <+: L') e a w1:=by
  intro hd
  rcases he with rfl | rfl <;> exact sq _ OJ.defers hd
 refine done fun w' hm=>?_
 have Bx:Fr A2 fn.ntmps M' L' w' H' env O' { a with defers:=[] }:=
  ⟨(OJ.st.marks hm).le hle,OJ.size,⟨by rw [hm.1,← hle.2.2];exact OJ.defers.1,List.nodup_nil,fun d h=>by cases h⟩⟩
 have dS:Ext A M w M' w':=by
  have:=hext1.marks hm (Nat.le_of_eq base.symm)
  exact ⟨this.oD,this.size,this.os,this.tape,this.output,fun b hb hA=>this.mv b hb (by rw [a2w];exact hA),this.loops⟩
 have hlen2:H.length≤H'.length:=by have:=hL.length_le;rw [Je,Bx.st.len] at this;exact this
 have goal:∃ v,(results fn a.tmps).run P w'=.ok v w'∧∃ v' r H'' M'' L'' O'',Ending.returned v=.returned v'∧R r H''∧St A M'' L'' w' H'' (gR (fun _=>undef) 0 v') (gR (fun _=>.any) 0 r) O''∧Ext A M w M'' w'∧L <+: L'':=by
  replace Jl:=hRt _ _ Jl
  unfold jP at Jl
  obtain ⟨us,xs,k1,⟨m,H2,hm,hC,k2⟩,k3,k4,k5⟩:=Bw (P:=P) Bx _ _ vG Jl
  have ns:L <+: L'.take m:=by
   obtain ⟨r,rfl⟩:=hL
   exact ⟨r.take (m - L.length),by rw [af9,aax (show L.length≤m by omega)]⟩
  have bK:=Dl k1
  split at k2
  ·rename_i x
   obtain ⟨r,hle,hb,hR⟩:=k2
   cases k3 with
   | cons v _ _ _ hv ht=>
   cases ht
   refine ⟨v,by simpa using bK,v,r,H2,M',L'.take m,?_⟩
   have vD:∃ ob,bm M' w' v x ob∧(∀ id j b,ob=some b→O' (.c id j)≠some b)∧(∀ b,ob=some b→b∉L'∧b < w'.heap.size∧A2 b):=by
    match rs,vG,k4,k5 with
    | [],vG,_,_=>
      unfold iZ at vG
      split at vG
      ·rename_i e
       rw [e] at k1
       simp at k1
      ·split at vG <;> cases vG
    | [.t s],_,k4,_=>
      obtain ⟨e1,e2⟩:=k4 s rfl
      cases e1;cases e2
      refine ⟨O' (.t s),Bx.st.jX s,fun id j b hb hc=>?_,fun b hb=>⟨Bx.st.cZ _ b hb,Bx.st.iA _ b hb,Bx.st.Oa _ b hb⟩⟩
      exact absurd (Bx.st.cU _ _ b hb hc) (by intro e;cases e)
    | [.c s sz],_,_,k5=>
      exact ⟨none,bm.free (k5 s sz rfl x rfl),(fun _ _ _ e=>by cases e),(fun _ e=>by cases e)⟩
    | r1::r2::rs,vG,_,_=>
      unfold iZ at vG
      split at vG
      ·cases vG
      ·split at vG <;> cases vG
       rename_i h1 h2
       unfold iZ at h2
       split at h2
       ·cases h2
       ·rename_i e
        rw [e] at k1
        simp only [List.mapM_cons,Sem.run_bind] at k1
        revert k1
        generalize Ku:(Bv a.tmps _).run P w'=g1
        cases g1 <;> simp
        generalize hg2:(Bv a.tmps _).run P _=g2
        cases g2 <;> simp
        generalize hg3:(List.mapM (Bv a.tmps) _).run P _=g3
        cases g3 <;> simp
   obtain ⟨ob,o1,o2,o3⟩:=vD
   obtain ⟨ob',p1,p2⟩:=o1.le hv hle
   obtain ⟨O'',nH⟩:=Bx.st.aK (hv.le hle) ob' p1 (fun id j b hb=>by
    rcases p2 with rfl | rfl
    ·cases hb
    ·exact o2 id j b hb) (fun b hb=>by
    rcases p2 with rfl | rfl
    ·cases hb
    ·exact o3 b hb)
   obtain ⟨O3,Ld⟩:=h4 A hA (by omega) hlen2 hC (st21 nH) (HD hb)
   exact ⟨O3,rfl,hR,Ld,dS,ns⟩
  ·rename_i dP
   obtain ⟨ys,hle,hb,hR⟩:=k2
   have hlen:us.toArray.size≠1:=by
    have:=k3.length
    intro e
    simp at e
    rw [e] at this
    match xs,this with
    | [x],_=>exact dP x rfl
   rw [dif_neg hlen] at bK
   refine ⟨.tuple us.toArray,bK,.tuple us.toArray,.tuple ys,H2,M',L'.take m,?_⟩
   obtain ⟨O'',nH⟩:=Bx.st.aK (.tuple _ _ (HE k3 hle)) none (bm.free (by intro _ _ e;cases e)) (fun _ _ _ e=>by cases e) (fun _ e=>by cases e)
   obtain ⟨O3,Ld⟩:=h4 A hA (by omega) hlen2 hC (st21 nH) (HD (x:=.tuple ys) hb)
   exact ⟨O3,rfl,hR,Ld,dS,ns⟩
 exact goal
theorem qY {A:Perm} {k:Nat} (h:A.entry false k):gf none k A:=⟨h.1,fun id bF=>by rw [h.2 id bF];rfl⟩
theorem Dm {A:Perm} {k:Nat} (h:A.entry true k):gf (some k) k A:=⟨h.1,rfl,fun id bF=>by rw [h.2 id bF];rfl⟩
theorem Jm {f:FuncId} {fn:Func} {c:Code} {an:CA} {lv:mr} {pl:ms} {ir:IR} {rs:List RX} {args:List AV} {R:AV→List aa→Prop}
 (hf:P.funcs[f]?=some fn) (hcall:∀ (as:Array Value) (w:World),(callFunc f as).run P w=.ok (.enter f as) w) (hb:fn.body=some c) (hc:comp P an lv pl fn.ntmps c=some ir) (vG:iZ P fn.results.toList=some rs)
 (hn:args.length≤fn.ntmps) (h:qp P H.length ir (cc 0 args) H fun e env H'=>(e=.normal∨e=.ret)∧bP H.length rs env H' R):aA P f args H R:=by
 refine qX (lo:=none) (b:=false) (fun A=>A) (fun H m H'=>H'=H.take m) hf hcall hb hc vG (fun A=>qY) (fun A=>rfl) (fun A _ _ _ _ _ _ _ h=>h) ?_ hn (fun env H'=>bP H.length rs env H' R) (fun env H'=>SW) h
 intro A M L w H' ev ea O m H'' hA hm hl e bT IN
 subst e
 exact bT.cut m (fun id o=>(qY hA).closed hm bT id o) IN
def pi (k:Nat) (A:Perm):Perm where
 wr:=A.wr
 top:=fun id=>if id < k then A.top id else none
 ok:=fun id n h=>by
  split at h
  ·exact A.ok id n h
  ·cases h
theorem Dn {A:Perm} {k:Nat} {b:Bool} (h:A.entry b k):gf (some k) k (pi k A):=
 ⟨fun id bF=>by obtain ⟨m,h1,h2⟩:=h.1 id bF;exact ⟨m,h1,by simp only [pi,if_pos bF];exact h2⟩,rfl,fun id bF=>by simp only [pi];rw [if_neg (by omega)]⟩
def ox (n0:Nat) (H:List aa) (m:Nat) (H':List aa):Prop:=
 H'.length=min m H.length∧∀ (id:Nat) (o:aa),H'[id]?=some o→o=.dead∨(H[id]?=some o∧(n0≤id→o.bc (id + 1)=true))
def xm (n0:Nat) (H:List aa) (m:Nat) (H':List aa):Prop:=
 H'.length=min m H.length∧∀ (id:Nat) (o:aa),H'[id]?=some o→o=.dead∨(H[id]?=some o∧(n0≤id→o.bc H'.length=true))
theorem FR {f:FuncId} {fn:Func} {c:Code} {an:CA} {lv:mr} {pl:ms} {ir:IR} {rs:List RX} {args:List AV} {R:AV→List aa→Prop}
 (hf:P.funcs[f]?=some fn) (hcall:∀ (as:Array Value) (w:World),(callFunc f as).run P w=.ok (.enter f as) w) (hb:fn.body=some c) (hc:comp P an lv pl fn.ntmps c=some ir) (vG:iZ P fn.results.toList=some rs)
 (hn:args.length≤fn.ntmps) (h:qp ⟨P,some H.length⟩ H.length ir (cc 0 args) H fun e env H'=>(e=.normal∨e=.ret)∧jP (ox H.length) H.length rs env H' R):aA P f args H R:=by
 refine qX (lo:=some H.length) (b:=false) (pi H.length) (ox H.length) hf hcall hb hc vG (fun A hA=>Dn hA) (fun A=>rfl) (fun A M L w ev ea O hA bT=>?_) ?_ hn (fun env H'=>jP (ox H.length) H.length rs env H' R) (fun env H' h=>h) h
 ·exact { len:=bT.len,nodup:=bT.nodup,env:=bT.env,mem:=bT.mem,obj:=bT.obj,lt:=bT.lt,jX:=bT.jX,jD:=bT.jD,cU:=bT.cU,cZ:=bT.cZ,iA:=bT.iA,La:=bT.La,Oa:=bT.Oa,fresh:=bT.fresh
          bJ:=fun id o ho=>by
           have:=bT.bJ id o ho
           have e:(pi H.length A).jk H.length id=A.jk H.length id:=by unfold Perm.jk;simp only [pi,if_pos (aS ho)]
           rw [e];exact this }
 ·intro A M L w H' ev ea O m H'' hA hm hl hC bT IN
  obtain ⟨hlen,hC⟩:=hC
  refine bT.Lc A rfl m hlen (fun id o ho=>?_) IN
  rcases hC id o ho with h' | ⟨h1,h2⟩
  ·exact .inl h'
  ·refine .inr ⟨h1,?_⟩
   by_cases bF:id < H.length
   ·obtain ⟨k,hk,ek⟩:=hA.1 id bF
    have:=bT.bJ id o h1
    have e1:(pi H.length A).jk H'.length id=min k H'.length:=by unfold Perm.jk;simp only [pi,if_pos bF,ek]
    have e2:A.jk H''.length id=min k H''.length:=by unfold Perm.jk;simp only [ek]
    rw [e1] at this
    rw [e2]
    exact aa.cH (by omega) o this
   ·have e2:A.jk H''.length id=min (id + 1) H''.length:=by unfold Perm.jk;rw [hA.2 id (by omega)];rfl
    have:=aS ho
    rw [e2]
    exact aa.cH (by omega) o (h2 (by omega))
theorem FT {f:FuncId} {fn:Func} {c:Code} {an:CA} {lv:mr} {pl:ms} {ir:IR} {rs:List RX} {args:List AV} {R:AV→List aa→Prop}
 (hf:P.funcs[f]?=some fn) (hcall:∀ (as:Array Value) (w:World),(callFunc f as).run P w=.ok (.enter f as) w) (hb:fn.body=some c) (hc:comp P an lv pl fn.ntmps c=some ir) (vG:iZ P fn.results.toList=some rs)
 (hn:args.length≤fn.ntmps) (h:qp ⟨P,some H.length⟩ H.length ir (cc 0 args) H fun e env H'=>(e=.normal∨e=.ret)∧jP (xm H.length) H.length rs env H' R):jH P f args H R:=by
 refine qX (lo:=some H.length) (b:=true) (fun A=>A) (xm H.length) hf hcall hb hc vG (fun A hA=>Dm hA) (fun A=>rfl) (fun A _ _ _ _ _ _ _ h=>h) ?_ hn (fun env H'=>jP (xm H.length) H.length rs env H' R) (fun env H' h=>h) h
 intro A M L w H' ev ea O m H'' hA hm hl hC bT IN
 obtain ⟨hlen,hC⟩:=hC
 refine bT.Lc A rfl m hlen (fun id o ho=>?_) IN
 rcases hC id o ho with h' | ⟨h1,h2⟩
 ·exact .inl h'
 ·refine .inr ⟨h1,?_⟩
  by_cases bF:id < H.length
  ·obtain ⟨k,hk,ek⟩:=hA.1 id bF
   have:=bT.bJ id o h1
   have e1:A.jk H'.length id=min k H'.length:=by unfold Perm.jk;simp only [ek]
   have e2:A.jk H''.length id=min k H''.length:=by unfold Perm.jk;simp only [ek]
   rw [e1] at this
   rw [e2]
   exact aa.cH (by omega) o this
  ·have e2:A.jk H''.length id=H''.length:=by unfold Perm.jk;rw [hA.2 id (by omega)];rfl
   rw [e2]
   exact h2 (by omega)
end
end Go.aI
end
section
namespace Go.aI
open Go
section
variable {P:Program}
theorem sr:∀ (l:List (Nat×Value)) (t:Array Value),(l.foldl (fun t p=>t.setIfInBounds p.1 p.2) t).size=t.size
 | [],t=>rfl
 | p::l,t=>by rw [List.foldl_cons,sr l];simp
theorem uZ {M:Mem} {L:List Nat}:∀ {ps:List Nat} {vs:List Value} {xs:List AV} {t:Array Value} {env:Env},aP M L vs xs→(∀ p∈ps,p < t.size)→(∀ s,a7 M L (t.getD s undef) (get env s))→
 ∀ s,a7 M L (((ps.zip vs).foldl (fun t p=>t.setIfInBounds p.1 p.2) t).getD s undef) (get ((ps.zip xs).reverse++env) s)
 | [],_,_,t,env,_,_,h,s=>by simpa using h s
 | p::ps,[],[],t,env,_,_,h,s=>by simpa using h s
 | p::ps,v::vs,x::xs,t,env,hr,hp,h,s=>by
   cases hr with
   | cons _ _ _ _ h1 h2=>
   simp only [List.zip_cons_cons,List.foldl_cons,List.reverse_cons,abe,List.singleton_append]
   refine uZ (env:=(p,x)::env) h2 (fun q hq=>by simpa using hp q (aaA _ hq)) (fun s=>?_) s
   have vU:=hp p abD
   simp only [abH,ad5,get]
   by_cases e:s=p
   ·subst e;simp [vU,h1]
   ·rw [if_neg (fun e'=>e e'.symm),if_neg e]
    have:=h s
    rwa [abH] at this
theorem Lf {es:List AV} (h:∀ x∈es,∀ own xs,x=.al own xs→own=0) {l:List (Nat×AV)} (hl:∀ p∈l,∀ own xs,p.2=.al own xs→own=0) (s:Nat):∀ own xs,get (l++cc 0 es) s=.al own xs→own=0:=by
 induction l with
 | nil=>
   intro own xs e
   rw [List.nil_append,nR,if_pos (ac6 _),th] at e
   cases hx:es[s - 0]? with
   | none=>rw [hx] at e;cases e
   | some x=>rw [hx] at e;exact h x (abB hx) own xs e
 | cons p l ih=>
   obtain ⟨k,v⟩:=p
   intro own xs e
   simp only [List.cons_append,get] at e
   split at e
   ·exact hl (k,v) (by simp) own xs e
   ·exact ih (fun p hp=>hl p (by simp [hp])) own xs e
def Jn (n0:Nat) (b:Bool) (H:List aa) (R:AV→List aa→Prop):Prop:=n0≤H.length∧R (.bool b) (H.take n0)
def vK (n0 id:Nat) (R:AV→List aa→Prop) (e:Exit) (H:List aa):Prop:=
 match H[id]? with
 | some (.loop .busy lc es)=>(match e with
   | .normal=>Jn n0 true (H.set id (.loop .ready lc es)) R
   | .ret=>Jn n0 false (H.set id (.loop (.jump .ret) lc es)) R
   | .exit k=>Jn n0 false (H.set id (.loop (.jump (.exit k)) lc es)) R
   | _=>False)
 | _=>False
def mf (id:Nat) (H:List aa) (K:List aa→Prop):Prop:=
 match H[id]? with
 | some (.loop .ready lc es)=>K (H.set id (.loop .busy lc es))
 | _=>False
def acI (lc:jL) (es:List AV) (args:List AV):Prop:=es.length=lc.n∧args.length=lc.ps.length∧lc.ps.all (· < lc.n)=true∧(∀ x∈es,x.ab=x)∧∀ x∈args,x.ab=x
theorem xn {x:AV} (h:x.ab=x):∀ own xs,x=.al own xs→own=0:=by
 rintro own xs rfl
 simp only [AV.ab] at h
 cases h;rfl
theorem tT {id:Nat} {args:List AV} {H:List aa} {lc:jL} {es:List AV} {ia ib:IR} {R:AV→List aa→Prop} (bF:H[id]?=some (.loop .ready lc es))
 (ha:comp P lc.an lc.lv lc.pl lc.n lc.as=some ia) (hb:comp P lc.an lc.lv lc.pl lc.n lc.bd=some ib) (zK:acI lc es args)
 (h:qp P H.length ia ((lc.ps.zip args).reverse++cc 0 es) H fun e env1 H1=>e=.normal∧mf id H1 fun H2=>qp P H.length ib env1 H2 fun e _ H3=>vK H.length id R e H3):l8 P id args H R:=by
 intro A M L w vs O b hA hs hL bT
 obtain ⟨r,q1,q2,q3,q4,q5,q6⟩:=bT.obj id _ b bF hL
 obtain ⟨c1,c2,c3,c4,c5⟩:=zK
 have Je:L.length=H.length:=bT.len
 have zD:b∈L:=abB hL
 refine ⟨r.fn,_,r.assign,r.body,run_yield q1 (by rw [q2];simp;omega),?_⟩
 have htz:(r.params.zip vs).foldl (fun t (p:Nat×Value)=>t.setIfInBounds p.1 p.2) r.tmps=(lc.ps.zip vs.toList).foldl (fun t p=>t.setIfInBounds p.1 p.2) r.tmps:=by
  rw [q2,← ago]
  simp
 have htm:((r.params.zip vs).foldl (fun tmps (x:Nat×Value)=>match x with | (t,a)=>tmps.setIfInBounds t a) r.tmps)=(lc.ps.zip vs.toList).foldl (fun t p=>t.setIfInBounds p.1 p.2) r.tmps:=htz
 rw [htm,q3,q4]
 obtain ⟨t0,WM⟩:∃ t0,t0=(lc.ps.zip vs.toList).foldl (fun t p=>t.setIfInBounds p.1 p.2) r.tmps:=⟨_,rfl⟩
 rw [← WM]
 have dd:r.tmps.size=lc.n:=by have:=q5.length;rw [c1] at this;simpa using this
 have wP:aP M L vs.toList args:=by
  refine aP.AW (by simpa using hs) fun j x hx=>?_
  have h1:=bT.env j
  have hj:j < vs.size:=by rw [hs];exact aS hx
  refine ⟨vs[j],by simp [hj],?_⟩
  simp only [abH,th,hx,Option.getD_some,aeb hj] at h1
  exact h1
 have gr:∀ s,a7 M L (t0.getD s undef) (get ((lc.ps.zip args).reverse++cc 0 es) s):=by
  rw [WM]
  refine uZ wP (fun p hp=>by rw [dd];simpa using abc.1 c3 p hp) fun s=>?_
  rw [nR,if_pos (ac6 _),agh]
  have:=q5.getD s
  simpa [abH,th] using this
 have hfree:=Lf (fun x hx=>xn (c4 x hx)) (l:=(lc.ps.zip args).reverse) (fun p hp own xs e=>xn (c5 p.2 (List.of_mem_zip (List.mem_reverse.1 hp)).2) own xs e)
 obtain ⟨A2,FQ⟩:∃ A2:Perm,A2={ A with base:=w.heap.size }:=⟨_,rfl⟩
 have st12:∀ {M:Mem} {L:List Nat} {w:World} {H:List aa} {ev:Nat→Value} {ea:Nat→AV} {O:Pos→Option Nat},St A M L w H ev ea O→St A2 M L w H ev ea O:=by
  intro M L w H ev ea O h;subst FQ
  exact { len:=h.len,nodup:=h.nodup,env:=h.env,mem:=h.mem,obj:=h.obj,bJ:=h.bJ,lt:=h.lt,jX:=h.jX,jD:=h.jD,cU:=h.cU,cZ:=h.cZ,iA:=h.iA,La:=h.La,Oa:=h.Oa,fresh:=h.fresh }
 have st21:∀ {M:Mem} {L:List Nat} {w:World} {H:List aa} {ev:Nat→Value} {ea:Nat→AV} {O:Pos→Option Nat},St A2 M L w H ev ea O→St A M L w H ev ea O:=by
  intro M L w H ev ea O h;subst FQ
  exact { len:=h.len,nodup:=h.nodup,env:=h.env,mem:=h.mem,obj:=h.obj,bJ:=h.bJ,lt:=h.lt,jX:=h.jX,jD:=h.jD,cU:=h.cU,cZ:=h.cZ,iA:=h.iA,La:=h.La,Oa:=h.Oa,fresh:=h.fresh }
 have ex21:∀ {M M':Mem} {w w':World},Ext A2 M w M' w'→Ext A M w M' w':=by
  intro M M' w w' h;subst FQ
  exact ⟨h.oD,h.size,h.os,h.tape,h.output,h.mv,h.loops⟩
 have hfits:gf none L.length A2:=by rw [FQ,Je];exact qY hA
 have E5:Fr A2 lc.n M L w H ((lc.ps.zip args).reverse++cc 0 es) _ { tmps:=t0,defers:=[] }:=
  ⟨st12 (bT.sd (fun t=>t0.getD t undef) (get ((lc.ps.zip args).reverse++cc 0 es)) gr hfree),by rw [WM,sr,dd],⟨by rw [FQ];exact zy _,List.nodup_nil,fun d h=>by cases h⟩⟩
 rw [← Je] at h
 refine roundIn_of_wpIn trivial ?_
 have vD:Own (some b) w:=fun l e=>by cases e;exact ⟨r,q1⟩
 refine Go.wpIn_mono (F:=wf (some b)) (FP (ro:=some b) (L0:=L) lc.as ia ha hfits vD h E5 (aaD L)) ?_
 rintro e a1 w1 ⟨A',M1,L1,H1,env1,O1,hle,⟨rfl,OK⟩,E6,vZ,Rk⟩
 unfold mf at OK
 split at OK <;> try exact OK.elim
 rename_i lc1 es1 WN
 have tO:L1[id]?=some b:=gQ Rk hL
 obtain ⟨r1,p1,p2,p3,p4,p5,p6⟩:=E6.st.obj id _ b WN tO
 obtain ⟨k1,k2⟩:=E6.st.pP (st':=.busy) (r':={ r1 with state:=.busy }) WN tO (fun r2 tJ=>by rw [p1] at tJ;cases tJ;exact ⟨rfl,rfl,rfl,rfl,rfl,rfl⟩)
 refine ⟨_,run_beginRound p1 p6.1,?_⟩
 have hown1:Own (some b) (w1.putObj b (.loop { r1 with state:=.busy })):=(vD.ext vZ).ext k2
 refine Go.wpIn_mono (F:=wf (some b)) (FP (ro:=some b) (L0:=L) lc.bd ib hb (hfits.le hle) hown1 OK ⟨k1,E6.size,E6.defers.ext k2⟩ Rk) ?_
 rintro e a2 w2 ⟨A3,M2,L2,H2,dq,O2,yP,sv,uP,Rj,SS⟩
 unfold vK at sv
 split at sv <;> try exact sv.elim
 rename_i lc2 es2 OD
 have lZ:L2[id]?=some b:=gQ SS hL
 obtain ⟨r2,g1,g2,g3,g4,g5,g6⟩:=uP.st.obj id _ b OD lZ
 have idn:id < H.length:=aS bF
 have fin:∀ (jump:Option Code) (st':VQ),st'.ok { r2 with state:=if jump.isNone then .ready else .done,pending:=jump }→Jn L.length jump.isNone (H2.set id (.loop st' lc2 es2)) R→
  ∃ v w',(Instr.endRound b jump).run P w2=.ok v w'∧∃ v' r' H' M' L' O',Ending.returned v=.returned v'∧R r' H'∧St A M' L' w' H' (gR (fun _=>undef) 0 v') (gR (fun _=>.any) 0 r') O'∧Ext A M w M' w'∧L <+: L':=by
  intro jump st' nH Jl
  obtain ⟨m1,m2⟩:=uP.st.pP (st':=st') (r':={ r2 with state:=if jump.isNone then .ready else .done,pending:=jump }) OD lZ (fun r3 N2=>by rw [g1] at N2;cases N2;exact ⟨rfl,rfl,rfl,rfl,rfl,nH⟩)
  refine ⟨_,_,run_endRound jump g1,?_⟩
  obtain ⟨hlen,hR⟩:=Jl
  have m3:=m1.sd (gR (fun _=>undef) 0 (.bool jump.isNone)) (gR (fun _=>.any) 0 (.bool jump.isNone)) (fun t=>by
   simp only [gR];split
   ·exact .bool _
   ·exact .any _) (fun t own xs e=>by
   simp only [gR] at e;split at e <;> cases e)
  obtain ⟨O3,m4⟩:=m3.cut L.length (fun id' o WO ho=>(((hfits.le hle).le yP)).closed (zy _) m3 id' o WO ho) (fun t=>by
   simp only [gR];split <;> rfl)
  have hx:Ext A M w M2 (w2.putObj b (.loop { r2 with state:=if jump.isNone then .ready else .done,pending:=jump })):=
   ex21 ((vZ.trans (k2.le hle)).trans ((Rj.le hle).trans (m2.le (yP.trans hle))))
  refine ⟨_,_,_,M2,_,O3,rfl,hR,st21 ((m4.le yP).le hle),hx,?_⟩
  obtain ⟨s,rfl⟩:=SS
  exact ⟨[],by simp⟩
 cases e with
 | normal=>exact fin none .ready ⟨rfl,rfl⟩ sv
 | ret=>exact fin (some .ret) (.jump .ret) ⟨rfl,rfl⟩ sv
 | exit k=>exact fin (some (.exit k)) (.jump (.exit k)) ⟨rfl,rfl⟩ sv
 | _=>exact sv.elim
end
end Go.aI
end
section
namespace Go.aI
open Go
section
variable {P:Program} {A:Perm} {M:Mem} {L:List Nat} {w:World} {H:List aa} {ev:Nat→Value} {ea:Nat→AV} {O:Pos→Option Nat}
end
end Go.aI
end
