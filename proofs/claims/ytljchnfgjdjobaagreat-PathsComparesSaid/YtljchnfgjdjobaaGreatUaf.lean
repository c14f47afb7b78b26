/- Part 6 of 19 of the proof. -/
import Derived.Test.YtljchnfgjdjobaaGreatUae
set_option linter.unusedVariables false
set_option linter.unusedSimpArgs false
set_option linter.defProp false
set_option linter.unusedSectionVars false
section
namespace Go.aI
open Go
structure pD where
 n:Nat
 ir:IR
 rs:List RX
 deriving Inhabited
inductive Ent where
 | ir (fi:pD)
 | wT (g:List AV→Option AV)
 | Q9 (g:List AV→List aa→Option (AV×List aa))
def ranges:Code→List (List Nat×Code×Code)
 | .seq a b=>ranges a++ranges b
 | .cond _ a b=>ranges a++ranges b
 | .block _ a=>ranges a
 | .loop a=>ranges a
 | .rangeFunc _ ps a b=>(ps.toList,a,b)::(ranges a++ranges b)
 | _=>[]
def SW (f:Func) (k:Nat) (an:B9) (lv:lF) (pl:lG):jg:=
 match f.body with
 | some c=>match (ranges c).getD k ([],.skip,.skip) with
   | (ps,a,b)=>⟨f.ntmps,ps,a,b,an,lv,pl⟩
 | none=>⟨0,[],.skip,.skip,an,lv,pl⟩
structure fX (P:Program) (f:FuncId) (fi:pD):Prop where
 call:∀ (as:Array Value) (w:World),(callFunc f as).run P w=.ok (.enter f as) w
 code:∃ fn c an lv pl,P.funcs[f]?=some fn∧fn.body=some c∧fn.ntmps=fi.n∧comp P an lv pl fn.ntmps c=some fi.ir∧iu P fn.results.toList=some fi.rs
theorem fX.Ba {P:Program} {f:FuncId} {fi:pD} (h:fX P f fi) {args:List AV} {H:List aa} {R:AV→List aa→Prop} (hn:args.length≤fi.n)
 (hw:mn P H.length fi.ir (bV 0 args) H fun e env H'=>(e=.normal∨e=.ret)∧b8 H.length fi.rs env H' R):aw P f args H R:=by
 obtain ⟨fn,c,an,lv,pl,h1,h2,h3,h4,h5⟩:=h.code
 exact IK h1 h.call h2 h4 h5 (by omega) hw
theorem fX.Ol {P:Program} {f:FuncId} {fi:pD} (h:fX P f fi) {args:List AV} {H:List aa} {R:AV→List aa→Prop} (hn:args.length≤fi.n)
 (hw:mn ⟨P,some H.length⟩ H.length fi.ir (bV 0 args) H fun e env H'=>(e=.normal∨e=.ret)∧ji (nu H.length) H.length fi.rs env H' R):aw P f args H R:=by
 obtain ⟨fn,c,an,lv,pl,h1,h2,h3,h4,h5⟩:=h.code
 exact Fk h1 h.call h2 h4 h5 (by omega) hw
theorem fX.Om {P:Program} {f:FuncId} {fi:pD} (h:fX P f fi) {args:List AV} {H:List aa} {R:AV→List aa→Prop} (hn:args.length≤fi.n)
 (hw:mn ⟨P,some H.length⟩ H.length fi.ir (bV 0 args) H fun e env H'=>(e=.normal∨e=.ret)∧ji (wG H.length) H.length fi.rs env H' R):jc P f args H R:=by
 obtain ⟨fn,c,an,lv,pl,h1,h2,h3,h4,h5⟩:=h.code
 exact Fl h1 h.call h2 h4 h5 (by omega) hw
def uw (P:Program) (f:FuncId):Ent→Prop
 | .ir fi=>fX P f fi
 | .wT g=>∀ args r H,g args=some r→aw P f args H fun r' H'=>r'=r∧H'=H
 | .Q9 g=>∀ args H r H',g args H=some (r,H')→aw P f args H fun r' H''=>r'=r∧H''=H'
abbrev zk:=List (Nat×Ent)
def zk.find:zk→Nat→Option Ent
 | [],_=>none
 | (k,e)::r,f=>match Nat.beq k f with | true=>some e | false=>zk.find r f
def zm (P:Program):zk→Prop
 | []=>True
 | (k,e)::r=>uw P k e∧zm P r
theorem zk.rJ {P:Program}:∀ {T:zk} {f:Nat} {e:Ent},zm P T→T.find f=some e→uw P f e
 | [],_,_,_,h=>by simp [zk.find] at h
 | (k,e')::r,f,e,hT,h=>by
   simp only [zk.find] at h
   split at h
   ·rename_i hk
    cases h
    rw [← Nat.eq_of_beq_eq_true hk]
    exact hT.1
   ·exact zk.rJ hT.2 h
def wU:List RX→Env→List aa→Option (List AV)
 | [],_,_=>some []
 | .t s::r,env,H=>match wU r env H with | some xs=>some (get env s::xs) | none=>none
 | .c s sz::r,env,H=>match qj sz (get env s) H,wU r env H with | some x,some xs=>some (x::xs) | _,_=>none
theorem vB:∀ {rs:List RX} {env:Env} {H:List aa} {xs:List AV} {φ:List AV→Prop},wU rs env H=some xs→φ xs→sM rs env H φ
 | [],env,H,xs,φ,h,hφ=>by simp only [wU] at h;cases h;exact hφ
 | .t s::r,env,H,xs,φ,h,hφ=>by
   simp only [wU] at h
   split at h <;> cases h
   rename_i ys hy
   exact vB (φ:=fun xs=>φ (get env s::xs)) hy hφ
 | .c s sz::r,env,H,xs,φ,h,hφ=>by
   simp only [wU] at h
   split at h <;> cases h
   rename_i x ys hx hy
   exact ou (φ:=fun x=>sM r env H fun xs=>φ (x::xs)) hx (vB (φ:=fun xs=>φ (x::xs)) hy hφ)
def sS (n0 n:Nat) (b:Bool):Nat:=if b=true then n0 else n
def On (n0:Nat) (rs:List RX) (env:Env) (H:List aa):Option (AV×List aa):=
 match wU rs env H with
 | some [x]=>if n0≤H.length∧x.a9 (sS n0 H.length (x.a9 n0))=true then some (x,H.take (sS n0 H.length (x.a9 n0))) else none
 | some xs=>if n0≤H.length∧aj (sS n0 H.length (aj n0 (xs.map AV.ab))) (xs.map AV.ab)=true then some (.tuple (xs.map AV.ab),H.take (sS n0 H.length (aj n0 (xs.map AV.ab)))) else none
 | none=>none
theorem zn {n0 n:Nat} {b:Bool} (h:n0≤n):n0≤sS n0 n b:=by
 unfold sS;split <;> omega
theorem KL {n0:Nat} {rs:List RX} {env:Env} {H H':List aa} {r:AV} {R:AV→List aa→Prop} (h:On n0 rs env H=some (r,H')) (hR:R r H'):b8 n0 rs env H R:=by
 unfold On at h
 unfold b8
 split at h <;> try cases h
 ·rename_i x hx
  split at h <;> cases h
  rename_i hc
  exact vB hx ⟨_,zn hc.1,_,le_refl _,hc.2,hR⟩
 ·rename_i xs dG hx
  split at h <;> cases h
  rename_i hc
  refine vB hx ⟨_,zn (b:=aj n0 (xs.map AV.ab)) hc.1,?_⟩
  split
  ·rename_i x;exact absurd rfl (dG x)
  ·exact ⟨_,bW _,hc.2,hR⟩
abbrev Rs:=List (Exit×Env×List aa)
abbrev Ex:=IR→Env→List aa→Option Rs
def Oo (n0:Nat) (rs:List RX) (o:Exit×Env×List aa):Option (AV×List aa):=
 match o.1 with
 | .normal=>On n0 rs o.2.1 o.2.2
 | .ret=>On n0 rs o.2.1 o.2.2
 | _=>none
def Oq (n0:Nat) (rs:List RX):Rs→Option (AV×List aa)
 | []=>none
 | [o]=>Oo n0 rs o
 | o::r=>match Oo n0 rs o,Oq n0 rs r with
   | some x,some y=>if x.1.beq y.1=true∧C3 x.2 y.2=true then some x else none
   | _,_=>none
theorem KM {n0:Nat} {rs:List RX}:∀ {l:Rs} {r:AV×List aa},Oq n0 rs l=some r→∀ o∈l,Oo n0 rs o=some r
 | [],_,h=>by cases h
 | [o],r,h=>fun o' ho=>by rw [aav.1 ho];exact h
 | o::o2::r,x,h=>fun o' ho=>by
   simp only [Oq] at h
   split at h <;> try cases h
   rename_i x1 y1 h1 h2
   split at h <;> cases h
   rename_i hb
   have e1:=AV.rI hb.1
   have e2:=A8 hb.2
   have e:x=y1:=by cases x;cases y1;simp only at e1 e2;rw [e1,e2]
   rcases aan.1 ho with rfl | ho
   ·exact h1
   ·rw [e];exact KM h2 o' ho
def Bb (k:Env→List aa→Option Rs):Rs→Option Rs
 | []=>some []
 | (.normal,e,H)::r=>match k e H,Bb k r with
   | some a,some b=>some (a++b)
   | _,_=>none
 | o::r=>match Bb k r with
   | some b=>some (o::b)
   | none=>none
theorem sT {k:Env→List aa→Option Rs} {Q:Exit→Env→List aa→Prop}:∀ {l l':Rs},Bb k l=some l'→(∀ o∈l',Q o.1 o.2.1 o.2.2)→
 ∀ o∈l,match o.1 with | .normal=>∃ l2,k o.2.1 o.2.2=some l2∧∀ o2∈l2,Q o2.1 o2.2.1 o2.2.2 | e=>Q e o.2.1 o.2.2
 | [],l',h,hQ=>fun o ho=>by cases ho
 | (e,env,H)::r,l',h,hQ=>fun o ho=>by
   cases e with
   | normal=>
     simp only [Bb] at h
     split at h <;> cases h
     rename_i a b h1 h2
     rcases aan.1 ho with rfl | ho
     ·exact ⟨a,h1,fun o2 h=>hQ o2 (aaO.2 (.inl h))⟩
     ·exact sT h2 (fun o2 h=>hQ o2 (aaO.2 (.inr h))) o ho
   | ret=>
     simp only [Bb] at h
     split at h <;> cases h
     rename_i b h2
     rcases aan.1 ho with rfl | ho
     ·exact hQ _ aaB
     ·exact sT h2 (fun o2 h=>hQ o2 (aay _ h)) o ho
   | exit i=>
     simp only [Bb] at h
     split at h <;> cases h
     rename_i b h2
     rcases aan.1 ho with rfl | ho
     ·exact hQ _ aaB
     ·exact sT h2 (fun o2 h=>hQ o2 (aay _ h)) o ho
   | _=>
     simp only [Bb] at h
     split at h <;> cases h
     rename_i b h2
     rcases aan.1 ho with rfl | ho
     ·exact hQ _ aaB
     ·exact sT h2 (fun o2 h=>hQ o2 (aay _ h)) o ho
def Ra (id:Nat) (o:Exit×Env×List aa):Exit×Env×List aa:=
 match o.1 with
 | .exit i=>if i=id then (.normal,o.2) else o
 | _=>o
def Hk:AV→Bool
 | .ap own _=>own == 0
 | _=>true
theorem Hl {x:AV} (h:Hk x=true):x.ab=x:=by
 cases x with
 | ap own xs=>simp only [Hk,beq_iff_eq] at h;subst h;rfl
 | _=>rfl
def SX (n0 id:Nat) (e:Exit) (H:List aa):Option (AV×List aa):=
 match H[id]? with
 | some (.loop .busy lc es)=>if n0≤H.length then (match e with
   | .normal=>some (.bool true,(H.set id (.loop .ready lc es)).take n0)
   | .ret=>some (.bool false,(H.set id (.loop (.jump .ret) lc es)).take n0)
   | .exit k=>some (.bool false,(H.set id (.loop (.jump (.exit k)) lc es)).take n0)
   | _=>none) else none
 | _=>none
theorem SY {n0 id:Nat} {e:Exit} {H H':List aa} {r:AV} {R:AV→List aa→Prop} (h:SX n0 id e H=some (r,H')) (hR:R r H'):rv n0 id R e H:=by
 unfold SX at h
 unfold rv
 split at h <;> try cases h
 rename_i lc es bm
 rw [bm]
 split at h <;> try cases h
 rename_i hn
 split at h <;> cases h
 ·exact ⟨by simpa using hn,hR⟩
 ·exact ⟨by simpa using hn,hR⟩
 ·exact ⟨by simpa using hn,hR⟩
def KN (P:Program) (ex:Ex) (id:Nat) (args:List AV) (H:List aa):Option (AV×List aa):=
 match H[id]? with
 | some (.loop .ready lc es)=>match comp P lc.an lc.lv lc.pl lc.n lc.as,comp P lc.an lc.lv lc.pl lc.n lc.bd with
   | some ia,some ib=>if es.length=lc.n∧args.length=lc.ps.length∧lc.ps.all (· < lc.n)=true∧es.all Hk=true∧args.all Hk=true then
      match ex ia ((lc.ps.zip args).reverse++bV 0 es) H with
      | some [(.normal,env1,H1)]=>match H1[id]? with
        | some (.loop .ready lc1 es1)=>match ex ib env1 (H1.set id (.loop .busy lc1 es1)) with
          | some [(e,_,H3)]=>SX H.length id e H3
          | _=>none
        | _=>none
      | _=>none
     else none
   | _,_=>none
 | _=>none
def pQ (P:Program) (T:zk) (ex:Ex):iN:=fun y g args H=>
 match y with
 | true=>KN P ex g args H
 | false=>match T.find g with
   | some (.ir fi)=>if args.length≤fi.n then
      match ex fi.ir (bV 0 args) H with
      | some l=>Oq H.length fi.rs l
      | none=>none
     else none
   | some (.wT p)=>match p args with | some r=>some (r,H) | none=>none
   | some (.Q9 p)=>p args H
   | none=>none
def SZ (T:zk) (g:Nat):Bool:=match T.find g with | some (.ir _)=>true | _=>false
def Bc (id:Nat) (env:Env) (H:List aa):Option Rs:=
 match H[id]? with
 | some (.loop .ready lc es)=>some [(.normal,env,H.set id (.loop .eT lc es))]
 | some (.loop (.jump .ret) lc es)=>some [(.ret,env,H.set id (.loop .eT lc es))]
 | some (.loop (.jump (.exit k)) lc es)=>some [(.exit k,env,H.set id (.loop .eT lc es))]
 | _=>none
theorem IW {id:Nat} {env:Env} {H:List aa} {l:Rs} {Q:Exit→Env→List aa→Prop} (h:Bc id env H=some l) (hQ:∀ o∈l,Q o.1 o.2.1 o.2.2):behind id H fun j H''=>qd j Q env H'':=by
 unfold Bc at h
 unfold behind
 split at h <;> try cases h
 all_goals
  rename_i bm
  rw [bm]
  exact hQ _ aaB
def dA (P:Program) (T:zk):Nat→Ex
 | 0,_,_,_=>none
 | f + 1,ir,env,H=>match ir with
   | .skip=>some [(.normal,env,H)]
   | .region ops live=>match A9 (pQ P T (dA P T f)) ops env H with
     | some (aH,H')=>some [(.normal,eM live aH,H')]
     | none=>none
   | .draw t live=>match EH (pQ P T (dA P T f)) live t env H with
     | some l=>some (l.map fun o=>(.normal,o.1,o.2))
     | none=>none
   | .seq a b=>match dA P T f a env H with
     | some l=>Bb (dA P T f b) l
     | none=>none
   | .cond x a b=>match aq env x with
     | .bool true=>dA P T f a env H
     | .bool false=>dA P T f b env H
     | _=>none
   | .block id a=>match dA P T f a env H with
     | some l=>some (l.map (Ra id))
     | none=>none
   | .loop a=>match dA P T f a env H with
     | some l=>Bb (dA P T f (.loop a)) l
     | none=>none
   | .exit id=>some [(.exit id,env,H)]
   | .ret=>some [(.ret,env,H)]
   | .never=>none
   | .jA g lc=>match aq env g with
     | .fn (.func g) first cap=>if SZ T g=true then (match pQ P T (dA P T f) false g (first.map AV.ab++[.nN H.length]++cap.map AV.ab) (H++[.loop .ready lc (ln lc.n env)]) with
       | some (_,H')=>Bc H.length env H'
       | none=>none) else none
     | _=>none
theorem vC {P:Program} {T:zk} (hT:zm P T) {ex:Ex} (hex:∀ {ir env H l},ex ir env H=some l→∀ {n0:Nat} {Q:Exit→Env→List aa→Prop},(∀ o∈l,Q o.1 o.2.1 o.2.2)→mn P n0 ir env H Q):lA P (pQ P T ex):=by
 refine ⟨fun g args H r H' h=>?_,fun id args H r H' h=>?_⟩
 ·simp only [pQ] at h
  split at h
  ·rename_i fi hfi
   have jt:=zk.rJ hT hfi
   split at h <;> try cases h
   rename_i hn
   split at h <;> try cases h
   rename_i l hx
   refine jt.Ba hn (hex hx fun o ho=>?_)
   have h1:=KM h o ho
   unfold Oo at h1
   split at h1 <;> try cases h1
   ·rename_i e;exact ⟨.inl e,KL h1 ⟨rfl,rfl⟩⟩
   ·rename_i e;exact ⟨.inr e,KL h1 ⟨rfl,rfl⟩⟩
  ·rename_i p hp
   have jt:=zk.rJ hT hp
   split at h <;> cases h
   rename_i hr
   exact jt _ _ _ hr
  ·rename_i p hp
   exact zk.rJ hT hp _ _ _ _ h
  ·cases h
 ·simp only [pQ,KN] at h
  split at h <;> try cases h
  rename_i lc es bm
  split at h <;> try cases h
  rename_i ia ib ha hb
  split at h <;> try cases h
  rename_i hc
  split at h <;> try cases h
  rename_i env1 H1 ue
  split at h <;> try cases h
  rename_i lc1 es1 Oe
  split at h <;> try cases h
  rename_i e agK H3 hx3
  obtain ⟨c1,c2,c3,c4,c5⟩:=hc
  refine o6 bm ha hb ⟨c1,c2,c3,fun x hx=>Hl (aaJ.1 c4 x hx),fun x hx=>Hl (aaJ.1 c5 x hx)⟩ (hex ue fun o ho=>?_)
  rw [aav.1 ho]
  refine ⟨rfl,?_⟩
  unfold ky
  rw [Oe]
  refine hex hx3 fun o ho=>?_
  rw [aav.1 ho]
  exact SY h ⟨rfl,rfl⟩
theorem S0 {P:Program} {T:zk} (hT:zm P T) {g:Nat} (h:SZ T g=true):∀ (as:Array Value) (w:World),(callFunc g as).run P w=.ok (.enter g as) w:=by
 unfold SZ at h
 split at h
 ·rename_i fi hfi
  exact (zk.rJ hT hfi).call
 ·cases h
theorem Bd {P:Program} {T:zk} (hT:zm P T):∀ (f:Nat) {ir:IR} {env:Env} {H:List aa} {l:Rs},dA P T f ir env H=some l→∀ {n0:Nat} {Q:Exit→Env→List aa→Prop},(∀ o∈l,Q o.1 o.2.1 o.2.2)→mn P n0 ir env H Q:=by
 intro f
 induction f using Nat.strongRecOn with
 | _ f ih=>
 intro ir env H l h n0 Q hQ
 cases f with
 | zero=>simp [dA] at h
 | succ f=>
 have VV:=fun {ir:IR} {env:Env} {H:List aa} {l:Rs} (h:dA P T f ir env H=some l) {n0:Nat} {Q:Exit→Env→List aa→Prop} (hQ:∀ o∈l,Q o.1 o.2.1 o.2.2)=>ih f (Nat.lt_succ_self f) h (n0:=n0) (Q:=Q) hQ
 have hC:lA P (pQ P T (dA P T f)):=vC hT (fun {_ _ _ _} h {n0 Q} hQ=>VV h hQ)
 cases ir with
 | skip=>simp only [dA] at h;cases h;exact hQ _ aaB
 | exit id=>simp only [dA] at h;cases h;exact hQ _ aaB
 | ret=>simp only [dA] at h;cases h;exact hQ _ aaB
 | never=>simp [dA] at h
 | jA g lc=>
   simp only [dA] at h
   simp only [mn]
   split at h <;> try cases h
   rename_i g' first cap hg
   split at h <;> try cases h
   rename_i hir
   split at h <;> try cases h
   rename_i r H2 hr
   rw [hg]
   refine ⟨S0 hT hir,_,bW _,dD.of <| (hC.1 _ _ _ _ _ hr).mono ?_⟩
   rintro r' H'' ⟨rfl,rfl⟩
   exact IW h hQ
 | region ops live=>
   simp only [dA] at h
   split at h <;> cases h
   rename_i cU H2 hx
   exact sR (K:=fun aH H'=>Q .normal (eM live aH) H') hC hx (hQ _ aaB)
 | draw t live=>
   simp only [dA] at h
   split at h <;> cases h
   rename_i l2 hx
   exact WJ (K:=fun aH H'=>Q .normal aH H') hC hx fun o ho=>hQ _ (aaq.2 ⟨o,ho,rfl⟩)
 | seq a b=>
   simp only [dA] at h
   simp only [mn]
   split at h <;> try cases h
   rename_i l2 hx
   have hs:=sT h hQ
   refine VV hx fun o ho=>?_
   have:=hs o ho
   obtain ⟨e,cU,H2⟩:=o
   cases e with
   | normal=>obtain ⟨l3,h3,hq⟩:=this;exact VV h3 hq
   | _=>exact this
 | cond x a b=>
   simp only [dA] at h
   simp only [mn]
   split at h
   ·rename_i e;rw [e];exact ⟨fun _=>VV h hQ,fun e=>by cases e⟩
   ·rename_i e;rw [e];exact ⟨fun e=>(by cases e),fun _=>VV h hQ⟩
   ·cases h
 | block id a=>
   simp only [dA] at h
   simp only [mn]
   split at h <;> cases h
   rename_i l2 hx
   refine VV hx fun o ho=>?_
   have:=hQ _ (aaq.2 ⟨o,ho,rfl⟩)
   obtain ⟨e,cU,H2⟩:=o
   cases e with
   | exit id'=>
     simp only [Ra] at this ⊢
     split at this
     ·rename_i bm;rw [if_pos bm];exact this
     ·rename_i bm;rw [if_neg bm];exact this
   | _=>exact this
 | loop a=>
   simp only [mn]
   refine ⟨Nat×Env×List aa,fun i=>i.1≤f∧∃ l',dA P T (i.1 + 1) (.loop a) i.2.1 i.2.2=some l'∧∀ o∈l',Q o.1 o.2.1 o.2.2,fun i=>i.2.1,fun i=>i.2.2,fun i=>i.1,⟨(f,env,H),⟨oN _,l,h,hQ⟩,aB _ _ _⟩,?_⟩
   rintro ⟨k,env1,H1⟩ ⟨hk,l1,h1,hQ1⟩
   simp only at hk h1 ⊢
   simp only [dA] at h1
   split at h1 <;> try cases h1
   rename_i l2 hx
   have hs:=sT h1 hQ1
   refine ih k (Nat.lt_succ_of_le hk) hx fun o ho=>?_
   have:=hs o ho
   obtain ⟨e,cU,H2⟩:=o
   cases e with
   | normal=>
     obtain ⟨l3,h3,hq⟩:=this
     cases k with
     | zero=>simp [dA] at h3
     | succ k=>exact ⟨(k,cU,H2),⟨by omega,l3,h3,hq⟩,Nat.lt_succ_self k,aB _ _ _⟩
   | _=>exact this
end Go.aI
end
section
namespace Go.aI
open Go
theorem ion (n:Nat):Int.ofNat (no_index (OfNat.ofNat n))=(OfNat.ofNat n:Int):=rfl
theorem WK:Int.negSucc 0=-1:=rfl
@[reducible] def aJ {P:Program} {g:FuncId} {fn:Func} {n:Nat} {i:IR} {rs:List RX} (hc:∀ (as:Array Value) (w:World),(callFunc g as).run P w=.ok (.enter g as) w)
 (hf:P.funcs[g]?=some fn) (hn:fn.ntmps=n) (an:B9) (lv:lF) (pl:lG)
 (h:(fn.body.bind fun c=>comp P an lv pl n c)=some i:=by conv=>
   lhs
   reduce
   try simp only [ion,WK])
 (hr:iu P fn.results.toList=some rs:=by conv=>
   lhs
   reduce
   try simp only [ion,WK]):{fi:pD // fX P g fi}:=
 ⟨⟨n,i,rs⟩,by
   subst hn
   cases hb:fn.body with
   | none=>rw [hb] at h;cases h
   | some c=>exact ⟨hc,fn,c,an,lv,pl,hf,hb,rfl,by rw [hb] at h;exact h,hr⟩⟩
end Go.aI
end
