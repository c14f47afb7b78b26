/- Part 6 of 20 of the proof. -/
import Derived.Test.YtljchnfgjdjobaaGreatWae
set_option linter.unusedVariables false
set_option linter.unusedSimpArgs false
set_option linter.defProp false
set_option linter.unusedSectionVars false
section
namespace Go.aI
open Go
structure qo where
 n:Nat
 ir:IR
 rs:List RX
 deriving Inhabited
inductive Ent where
 | ir (fi:qo)
 | xH (g:List AV→Option AV)
 | SP (g:List AV→List aa→Option (AV×List aa))
def ranges:Code→List (List Nat×Code×Code)
 | .seq a b=>ranges a++ranges b
 | .cond _ a b=>ranges a++ranges b
 | .block _ a=>ranges a
 | .loop a=>ranges a
 | .rangeFunc _ ps a b=>(ps.toList,a,b)::(ranges a++ranges b)
 | _=>[]
def Uq (f:Func) (k:Nat) (an:C7) (lv:mf) (pl:mg):jE:=
 match f.body with
 | some c=>match (ranges c).getD k ([],.skip,.skip) with
   | (ps,a,b)=>⟨f.ntmps,ps,a,b,an,lv,pl⟩
 | none=>⟨0,[],.skip,.skip,an,lv,pl⟩
structure gE (P:Program) (f:FuncId) (fi:qo):Prop where
 call:∀ (as:Array Value) (w:World),(callFunc f as).run P w=.ok (.enter f as) w
 code:∃ fn c an lv pl,P.funcs[f]?=some fn∧fn.body=some c∧fn.ntmps=fi.n∧comp P an lv pl fn.ntmps c=some fi.ir∧iP P fn.results.toList=some fi.rs
theorem gE.BY {P:Program} {f:FuncId} {fi:qo} (h:gE P f fi) {args:List AV} {H:List aa} {R:AV→List aa→Prop} (hn:args.length≤fi.n)
 (hw:mX P H.length fi.ir (bY 0 args) H fun e env H'=>(e=.normal∨e=.ret)∧bS H.length fi.rs env H' R):ax P f args H R:=by
 obtain ⟨fn,c,an,lv,pl,h1,h2,h3,h4,h5⟩:=h.code
 exact JS h1 h.call h2 h4 h5 (by omega) hw
theorem gE.PL {P:Program} {f:FuncId} {fi:qo} (h:gE P f fi) {args:List AV} {H:List aa} {R:AV→List aa→Prop} (hn:args.length≤fi.n)
 (hw:mX ⟨P,some H.length⟩ H.length fi.ir (bY 0 args) H fun e env H'=>(e=.normal∨e=.ret)∧jH (oc H.length) H.length fi.rs env H' R):ax P f args H R:=by
 obtain ⟨fn,c,an,lv,pl,h1,h2,h3,h4,h5⟩:=h.code
 exact Gy h1 h.call h2 h4 h5 (by omega) hw
theorem gE.PM {P:Program} {f:FuncId} {fi:qo} (h:gE P f fi) {args:List AV} {H:List aa} {R:AV→List aa→Prop} (hn:args.length≤fi.n)
 (hw:mX ⟨P,some H.length⟩ H.length fi.ir (bY 0 args) H fun e env H'=>(e=.normal∨e=.ret)∧jH (xu H.length) H.length fi.rs env H' R):jC P f args H R:=by
 obtain ⟨fn,c,an,lv,pl,h1,h2,h3,h4,h5⟩:=h.code
 exact Gz h1 h.call h2 h4 h5 (by omega) hw
def vA (P:Program) (f:FuncId):Ent→Prop
 | .ir fi=>gE P f fi
 | .xH g=>∀ args r H,g args=some r→ax P f args H fun r' H'=>r'=r∧H'=H
 | .SP g=>∀ args H r H',g args H=some (r,H')→ax P f args H fun r' H''=>r'=r∧H''=H'
abbrev Al:=List (Nat×Ent)
def Al.find:Al→Nat→Option Ent
 | [],_=>none
 | (k,e)::r,f=>match Nat.beq k f with | true=>some e | false=>Al.find r f
def Am (P:Program):Al→Prop
 | []=>True
 | (k,e)::r=>vA P k e∧Am P r
theorem Al.sC {P:Program}:∀ {T:Al} {f:Nat} {e:Ent},Am P T→T.find f=some e→vA P f e
 | [],_,_,_,h=>by simp [Al.find] at h
 | (k,e')::r,f,e,hT,h=>by
   simp only [Al.find] at h
   split at h
   ·rename_i hk
    cases h
    rw [← Nat.eq_of_beq_eq_true hk]
    exact hT.1
   ·exact Al.sC hT.2 h
def xI:List RX→Env→List aa→Option (List AV)
 | [],_,_=>some []
 | .t s::r,env,H=>match xI r env H with | some xs=>some (get env s::xs) | none=>none
 | .c s sz::r,env,H=>match qZ sz (get env s) H,xI r env H with | some x,some xs=>some (x::xs) | _,_=>none
theorem wD:∀ {rs:List RX} {env:Env} {H:List aa} {xs:List AV} {φ:List AV→Prop},xI rs env H=some xs→φ xs→tS rs env H φ
 | [],env,H,xs,φ,h,hφ=>by simp only [xI] at h;cases h;exact hφ
 | .t s::r,env,H,xs,φ,h,hφ=>by
   simp only [xI] at h
   split at h <;> cases h
   rename_i ys hy
   exact wD (φ:=fun xs=>φ (get env s::xs)) hy hφ
 | .c s sz::r,env,H,xs,φ,h,hφ=>by
   simp only [xI] at h
   split at h <;> cases h
   rename_i x ys hx hy
   exact pf (φ:=fun x=>tS r env H fun xs=>φ (x::xs)) hx (wD (φ:=fun xs=>φ (x::xs)) hy hφ)
def tY (n0 n:Nat) (b:Bool):Nat:=if b=true then n0 else n
def PN (n0:Nat) (rs:List RX) (env:Env) (H:List aa):Option (AV×List aa):=
 match xI rs env H with
 | some [x]=>if n0≤H.length∧x.bb (tY n0 H.length (x.bb n0))=true then some (x,H.take (tY n0 H.length (x.bb n0))) else none
 | some xs=>if n0≤H.length∧al (tY n0 H.length (al n0 (xs.map AV.ab))) (xs.map AV.ab)=true then some (.tuple (xs.map AV.ab),H.take (tY n0 H.length (al n0 (xs.map AV.ab)))) else none
 | none=>none
theorem An {n0 n:Nat} {b:Bool} (h:n0≤n):n0≤tY n0 n b:=by
 unfold tY;split <;> omega
theorem L6 {n0:Nat} {rs:List RX} {env:Env} {H H':List aa} {r:AV} {R:AV→List aa→Prop} (h:PN n0 rs env H=some (r,H')) (hR:R r H'):bS n0 rs env H R:=by
 unfold PN at h
 unfold bS
 split at h <;> try cases h
 ·rename_i x hx
  split at h <;> cases h
  rename_i hc
  exact wD hx ⟨_,An hc.1,_,le_refl _,hc.2,hR⟩
 ·rename_i xs dP hx
  split at h <;> cases h
  rename_i hc
  refine wD hx ⟨_,An (b:=al n0 (xs.map AV.ab)) hc.1,?_⟩
  split
  ·rename_i x;exact absurd rfl (dP x)
  ·exact ⟨_,bZ _,hc.2,hR⟩
abbrev Rs:=List (Exit×Env×List aa)
abbrev Ex:=IR→Env→List aa→Option Rs
def PO (n0:Nat) (rs:List RX) (o:Exit×Env×List aa):Option (AV×List aa):=
 match o.1 with
 | .normal=>PN n0 rs o.2.1 o.2.2
 | .ret=>PN n0 rs o.2.1 o.2.2
 | _=>none
def PR (n0:Nat) (rs:List RX):Rs→Option (AV×List aa)
 | []=>none
 | [o]=>PO n0 rs o
 | o::r=>match PO n0 rs o,PR n0 rs r with
   | some x,some y=>if x.1.beq y.1=true∧D0 x.2 y.2=true then some x else none
   | _,_=>none
theorem L7 {n0:Nat} {rs:List RX}:∀ {l:Rs} {r:AV×List aa},PR n0 rs l=some r→∀ o∈l,PO n0 rs o=some r
 | [],_,h=>by cases h
 | [o],r,h=>fun o' ho=>by rw [aat.1 ho];exact h
 | o::o2::r,x,h=>fun o' ho=>by
   simp only [PR] at h
   split at h <;> try cases h
   rename_i x1 y1 h1 h2
   split at h <;> cases h
   rename_i hb
   have e1:=AV.sB hb.1
   have e2:=BW hb.2
   have e:x=y1:=by cases x;cases y1;simp only at e1 e2;rw [e1,e2]
   rcases Xi.1 ho with rfl | ho
   ·exact h1
   ·rw [e];exact L7 h2 o' ho
def BZ (k:Env→List aa→Option Rs):Rs→Option Rs
 | []=>some []
 | (.normal,e,H)::r=>match k e H,BZ k r with
   | some a,some b=>some (a++b)
   | _,_=>none
 | o::r=>match BZ k r with
   | some b=>some (o::b)
   | none=>none
theorem tZ {k:Env→List aa→Option Rs} {Q:Exit→Env→List aa→Prop}:∀ {l l':Rs},BZ k l=some l'→(∀ o∈l',Q o.1 o.2.1 o.2.2)→
 ∀ o∈l,match o.1 with | .normal=>∃ l2,k o.2.1 o.2.2=some l2∧∀ o2∈l2,Q o2.1 o2.2.1 o2.2.2 | e=>Q e o.2.1 o.2.2
 | [],l',h,hQ=>fun o ho=>by cases ho
 | (e,env,H)::r,l',h,hQ=>fun o ho=>by
   cases e with
   | normal=>
     simp only [BZ] at h
     split at h <;> cases h
     rename_i a b h1 h2
     rcases Xi.1 ho with rfl | ho
     ·exact ⟨a,h1,fun o2 h=>hQ o2 (abZ.2 (.inl h))⟩
     ·exact tZ h2 (fun o2 h=>hQ o2 (abZ.2 (.inr h))) o ho
   | ret=>
     simp only [BZ] at h
     split at h <;> cases h
     rename_i b h2
     rcases Xi.1 ho with rfl | ho
     ·exact hQ _ aa2
     ·exact tZ h2 (fun o2 h=>hQ o2 (aaK _ h)) o ho
   | exit i=>
     simp only [BZ] at h
     split at h <;> cases h
     rename_i b h2
     rcases Xi.1 ho with rfl | ho
     ·exact hQ _ aa2
     ·exact tZ h2 (fun o2 h=>hQ o2 (aaK _ h)) o ho
   | _=>
     simp only [BZ] at h
     split at h <;> cases h
     rename_i b h2
     rcases Xi.1 ho with rfl | ho
     ·exact hQ _ aa2
     ·exact tZ h2 (fun o2 h=>hQ o2 (aaK _ h)) o ho
def SQ (id:Nat) (o:Exit×Env×List aa):Exit×Env×List aa:=
 match o.1 with
 | .exit i=>if i=id then (.normal,o.2) else o
 | _=>o
def It:AV→Bool
 | .aj own _=>own == 0
 | _=>true
theorem Iu {x:AV} (h:It x=true):x.ab=x:=by
 cases x with
 | aj own xs=>simp only [It,beq_iff_eq] at h;subst h;rfl
 | _=>rfl
def Ur (n0 id:Nat) (e:Exit) (H:List aa):Option (AV×List aa):=
 match H[id]? with
 | some (.loop .busy lc es)=>if n0≤H.length then (match e with
   | .normal=>some (.bool true,(H.set id (.loop .ready lc es)).take n0)
   | .ret=>some (.bool false,(H.set id (.loop (.jump .ret) lc es)).take n0)
   | .exit k=>some (.bool false,(H.set id (.loop (.jump (.exit k)) lc es)).take n0)
   | _=>none) else none
 | _=>none
theorem Us {n0 id:Nat} {e:Exit} {H H':List aa} {r:AV} {R:AV→List aa→Prop} (h:Ur n0 id e H=some (r,H')) (hR:R r H'):sl n0 id R e H:=by
 unfold Ur at h
 unfold sl
 split at h <;> try cases h
 rename_i lc es bn
 rw [bn]
 split at h <;> try cases h
 rename_i hn
 split at h <;> cases h
 ·exact ⟨by simpa using hn,hR⟩
 ·exact ⟨by simpa using hn,hR⟩
 ·exact ⟨by simpa using hn,hR⟩
def L8 (P:Program) (ex:Ex) (id:Nat) (args:List AV) (H:List aa):Option (AV×List aa):=
 match H[id]? with
 | some (.loop .ready lc es)=>match comp P lc.an lc.lv lc.pl lc.n lc.as,comp P lc.an lc.lv lc.pl lc.n lc.bd with
   | some ia,some ib=>if es.length=lc.n∧args.length=lc.ps.length∧lc.ps.all (· < lc.n)=true∧es.all It=true∧args.all It=true then
      match ex ia ((lc.ps.zip args).reverse++bY 0 es) H with
      | some [(.normal,env1,H1)]=>match H1[id]? with
        | some (.loop .ready lc1 es1)=>match ex ib env1 (H1.set id (.loop .busy lc1 es1)) with
          | some [(e,_,H3)]=>Ur H.length id e H3
          | _=>none
        | _=>none
      | _=>none
     else none
   | _,_=>none
 | _=>none
def qH (P:Program) (T:Al) (ex:Ex):jg:=fun y g args H=>
 match y with
 | true=>L8 P ex g args H
 | false=>match T.find g with
   | some (.ir fi)=>if args.length≤fi.n then
      match ex fi.ir (bY 0 args) H with
      | some l=>PR H.length fi.rs l
      | none=>none
     else none
   | some (.xH p)=>match p args with | some r=>some (r,H) | none=>none
   | some (.SP p)=>p args H
   | none=>none
def Ut (T:Al) (g:Nat):Bool:=match T.find g with | some (.ir _)=>true | _=>false
def B0 (id:Nat) (env:Env) (H:List aa):Option Rs:=
 match H[id]? with
 | some (.loop .ready lc es)=>some [(.normal,env,H.set id (.loop .fh lc es))]
 | some (.loop (.jump .ret) lc es)=>some [(.ret,env,H.set id (.loop .fh lc es))]
 | some (.loop (.jump (.exit k)) lc es)=>some [(.exit k,env,H.set id (.loop .fh lc es))]
 | _=>none
theorem J1 {id:Nat} {env:Env} {H:List aa} {l:Rs} {Q:Exit→Env→List aa→Prop} (h:B0 id env H=some l) (hQ:∀ o∈l,Q o.1 o.2.1 o.2.2):behind id H fun j H''=>qT j Q env H'':=by
 unfold B0 at h
 unfold behind
 split at h <;> try cases h
 all_goals
  rename_i bn
  rw [bn]
  exact hQ _ aa2
def dK (P:Program) (T:Al):Nat→Ex
 | 0,_,_,_=>none
 | f + 1,ir,env,H=>match ir with
   | .skip=>some [(.normal,env,H)]
   | .region ops live=>match BX (qH P T (dK P T f)) ops env H with
     | some (aK,H')=>some [(.normal,fa live aK,H')]
     | none=>none
   | .draw t live=>match FP (qH P T (dK P T f)) live t env H with
     | some l=>some (l.map fun o=>(.normal,o.1,o.2))
     | none=>none
   | .seq a b=>match dK P T f a env H with
     | some l=>BZ (dK P T f b) l
     | none=>none
   | .cond x a b=>match au env x with
     | .bool true=>dK P T f a env H
     | .bool false=>dK P T f b env H
     | _=>none
   | .block id a=>match dK P T f a env H with
     | some l=>some (l.map (SQ id))
     | none=>none
   | .loop a=>match dK P T f a env H with
     | some l=>BZ (dK P T f (.loop a)) l
     | none=>none
   | .exit id=>some [(.exit id,env,H)]
   | .ret=>some [(.ret,env,H)]
   | .never=>none
   | .jW g lc=>match au env g with
     | .fn (.func g) first cap=>if Ut T g=true then (match qH P T (dK P T f) false g (first.map AV.ab++[.oJ H.length]++cap.map AV.ab) (H++[.loop .ready lc (lV lc.n env)]) with
       | some (_,H')=>B0 H.length env H'
       | none=>none) else none
     | _=>none
theorem wE {P:Program} {T:Al} (hT:Am P T) {ex:Ex} (hex:∀ {ir env H l},ex ir env H=some l→∀ {n0:Nat} {Q:Exit→Env→List aa→Prop},(∀ o∈l,Q o.1 o.2.1 o.2.2)→mX P n0 ir env H Q):lZ P (qH P T ex):=by
 refine ⟨fun g args H r H' h=>?_,fun id args H r H' h=>?_⟩
 ·simp only [qH] at h
  split at h
  ·rename_i fi hfi
   have jF:=Al.sC hT hfi
   split at h <;> try cases h
   rename_i hn
   split at h <;> try cases h
   rename_i l hx
   refine jF.BY hn (hex hx fun o ho=>?_)
   have h1:=L7 h o ho
   unfold PO at h1
   split at h1 <;> try cases h1
   ·rename_i e;exact ⟨.inl e,L6 h1 ⟨rfl,rfl⟩⟩
   ·rename_i e;exact ⟨.inr e,L6 h1 ⟨rfl,rfl⟩⟩
  ·rename_i p hp
   have jF:=Al.sC hT hp
   split at h <;> cases h
   rename_i hr
   exact jF _ _ _ hr
  ·rename_i p hp
   exact Al.sC hT hp _ _ _ _ h
  ·cases h
 ·simp only [qH,L8] at h
  split at h <;> try cases h
  rename_i lc es bn
  split at h <;> try cases h
  rename_i ia ib ha hb
  split at h <;> try cases h
  rename_i hc
  split at h <;> try cases h
  rename_i env1 H1 vf
  split at h <;> try cases h
  rename_i lc1 es1 PF
  split at h <;> try cases h
  rename_i e aiL H3 hx3
  obtain ⟨c1,c2,c3,c4,c5⟩:=hc
  refine pN bn ha hb ⟨c1,c2,c3,fun x hx=>Iu (aaO.1 c4 x hx),fun x hx=>Iu (aaO.1 c5 x hx)⟩ (hex vf fun o ho=>?_)
  rw [aat.1 ho]
  refine ⟨rfl,?_⟩
  unfold kW
  rw [PF]
  refine hex hx3 fun o ho=>?_
  rw [aat.1 ho]
  exact Us h ⟨rfl,rfl⟩
theorem Uu {P:Program} {T:Al} (hT:Am P T) {g:Nat} (h:Ut T g=true):∀ (as:Array Value) (w:World),(callFunc g as).run P w=.ok (.enter g as) w:=by
 unfold Ut at h
 split at h
 ·rename_i fi hfi
  exact (Al.sC hT hfi).call
 ·cases h
theorem B1 {P:Program} {T:Al} (hT:Am P T):∀ (f:Nat) {ir:IR} {env:Env} {H:List aa} {l:Rs},dK P T f ir env H=some l→∀ {n0:Nat} {Q:Exit→Env→List aa→Prop},(∀ o∈l,Q o.1 o.2.1 o.2.2)→mX P n0 ir env H Q:=by
 intro f
 induction f using Nat.strongRecOn with
 | _ f ih=>
 intro ir env H l h n0 Q hQ
 cases f with
 | zero=>simp [dK] at h
 | succ f=>
 have Xp:=fun {ir:IR} {env:Env} {H:List aa} {l:Rs} (h:dK P T f ir env H=some l) {n0:Nat} {Q:Exit→Env→List aa→Prop} (hQ:∀ o∈l,Q o.1 o.2.1 o.2.2)=>ih f (Nat.lt_succ_self f) h (n0:=n0) (Q:=Q) hQ
 have hC:lZ P (qH P T (dK P T f)):=wE hT (fun {_ _ _ _} h {n0 Q} hQ=>Xp h hQ)
 cases ir with
 | skip=>simp only [dK] at h;cases h;exact hQ _ aa2
 | exit id=>simp only [dK] at h;cases h;exact hQ _ aa2
 | ret=>simp only [dK] at h;cases h;exact hQ _ aa2
 | never=>simp [dK] at h
 | jW g lc=>
   simp only [dK] at h
   simp only [mX]
   split at h <;> try cases h
   rename_i g' first cap hg
   split at h <;> try cases h
   rename_i hir
   split at h <;> try cases h
   rename_i r H2 hr
   rw [hg]
   refine ⟨Uu hT hir,_,bZ _,dG.of <| (hC.1 _ _ _ _ _ hr).mono ?_⟩
   rintro r' H'' ⟨rfl,rfl⟩
   exact J1 h hQ
 | region ops live=>
   simp only [dK] at h
   split at h <;> cases h
   rename_i cZ H2 hx
   exact tX (K:=fun aK H'=>Q .normal (fa live aK) H') hC hx (hQ _ aa2)
 | draw t live=>
   simp only [dK] at h
   split at h <;> cases h
   rename_i l2 hx
   exact Yd (K:=fun aK H'=>Q .normal aK H') hC hx fun o ho=>hQ _ (aan.2 ⟨o,ho,rfl⟩)
 | seq a b=>
   simp only [dK] at h
   simp only [mX]
   split at h <;> try cases h
   rename_i l2 hx
   have hs:=tZ h hQ
   refine Xp hx fun o ho=>?_
   have:=hs o ho
   obtain ⟨e,cZ,H2⟩:=o
   cases e with
   | normal=>obtain ⟨l3,h3,hq⟩:=this;exact Xp h3 hq
   | _=>exact this
 | cond x a b=>
   simp only [dK] at h
   simp only [mX]
   split at h
   ·rename_i e;rw [e];exact ⟨fun _=>Xp h hQ,fun e=>by cases e⟩
   ·rename_i e;rw [e];exact ⟨fun e=>(by cases e),fun _=>Xp h hQ⟩
   ·cases h
 | block id a=>
   simp only [dK] at h
   simp only [mX]
   split at h <;> cases h
   rename_i l2 hx
   refine Xp hx fun o ho=>?_
   have:=hQ _ (aan.2 ⟨o,ho,rfl⟩)
   obtain ⟨e,cZ,H2⟩:=o
   cases e with
   | exit id'=>
     simp only [SQ] at this ⊢
     split at this
     ·rename_i bn;rw [if_pos bn];exact this
     ·rename_i bn;rw [if_neg bn];exact this
   | _=>exact this
 | loop a=>
   simp only [mX]
   refine ⟨Nat×Env×List aa,fun i=>i.1≤f∧∃ l',dK P T (i.1 + 1) (.loop a) i.2.1 i.2.2=some l'∧∀ o∈l',Q o.1 o.2.1 o.2.2,fun i=>i.2.1,fun i=>i.2.2,fun i=>i.1,⟨(f,env,H),⟨tv _,l,h,hQ⟩,aA _ _ _⟩,?_⟩
   rintro ⟨k,env1,H1⟩ ⟨hk,l1,h1,hQ1⟩
   simp only at hk h1 ⊢
   simp only [dK] at h1
   split at h1 <;> try cases h1
   rename_i l2 hx
   have hs:=tZ h1 hQ1
   refine ih k (Nat.lt_succ_of_le hk) hx fun o ho=>?_
   have:=hs o ho
   obtain ⟨e,cZ,H2⟩:=o
   cases e with
   | normal=>
     obtain ⟨l3,h3,hq⟩:=this
     cases k with
     | zero=>simp [dK] at h3
     | succ k=>exact ⟨(k,cZ,H2),⟨by omega,l3,h3,hq⟩,Nat.lt_succ_self k,aA _ _ _⟩
   | _=>exact this
end Go.aI
end
section
namespace Go.aI
open Go
theorem ion (n:Nat):Int.ofNat (no_index (OfNat.ofNat n))=(OfNat.ofNat n:Int):=rfl
theorem Ye:Int.negSucc 0=-1:=rfl
@[reducible] def aH {P:Program} {g:FuncId} {fn:Func} {n:Nat} {i:IR} {rs:List RX} (hc:∀ (as:Array Value) (w:World),(callFunc g as).run P w=.ok (.enter g as) w)
 (hf:P.funcs[g]?=some fn) (hn:fn.ntmps=n) (an:C7) (lv:mf) (pl:mg)
 (h:(fn.body.bind fun c=>comp P an lv pl n c)=some i:=by conv=>
   lhs
   reduce
   try simp only [ion,Ye])
 (hr:iP P fn.results.toList=some rs:=by conv=>
   lhs
   reduce
   try simp only [ion,Ye]):{fi:qo // gE P g fi}:=
 ⟨⟨n,i,rs⟩,by
   subst hn
   cases hb:fn.body with
   | none=>rw [hb] at h;cases h
   | some c=>exact ⟨hc,fn,c,an,lv,pl,hf,hb,rfl,by rw [hb] at h;exact h,hr⟩⟩
end Go.aI
end
