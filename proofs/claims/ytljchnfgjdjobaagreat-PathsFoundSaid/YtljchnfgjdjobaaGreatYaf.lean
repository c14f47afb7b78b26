/- Part 6 of 19 of the proof. -/
import Derived.Test.YtljchnfgjdjobaaGreatYae
set_option linter.unusedVariables false
set_option linter.unusedSimpArgs false
set_option linter.defProp false
set_option linter.unusedSectionVars false
section
namespace Go.aJ
open Go
structure ra where
 n:Nat
 ir:IR
 rs:List RX
 deriving Inhabited
inductive Zv where
 | ir (fi:ra)
 | wE (g:List AV→Option AV)
 | Qs (g:List AV→List aa→Option (AV×List aa))
def ranges:Code→List (List Nat×Code×Code)
 | .seq a b=>ranges a++ranges b
 | .cond _ a b=>ranges a++ranges b
 | .block _ a=>ranges a
 | .loop a=>ranges a
 | .rangeFunc _ ps a b=>(ps.toList,a,b)::(ranges a++ranges b)
 | _=>[]
def R1 (f:Func) (k:Nat) (an:BQ) (lv:mW) (pl:mX):iP:=
 match f.body with
 | some c=>match (ranges c).getD k ([],.skip,.skip) with
   | (ps,a,b)=>⟨f.ntmps,ps,a,b,an,lv,pl⟩
 | none=>⟨0,[],.skip,.skip,an,lv,pl⟩
structure iS (P:Program) (f:FuncId) (fi:ra):Prop where
 call:∀ (as:Array Value) (w:World),(callFunc f as).run P w=.ok (.enter f as) w
 code:∃ fn c an lv pl,P.funcs[f]?=some fn∧fn.body=some c∧fn.ntmps=fi.n∧comp P an lv pl fn.ntmps c=some fi.ir∧iG P fn.results.toList=some fi.rs
theorem iS.AG {P:Program} {f:FuncId} {fi:ra} (h:iS P f fi) {args:List AV} {H:List aa} {R:AV→List aa→Prop} (hn:args.length≤fi.n)
 (hw:m9 P H.length fi.ir (b8 0 args) H fun e env H'=>(e=.normal∨e=.ret)∧bV H.length fi.rs env H' R):aw P f args H R:=by
 obtain ⟨fn,c,an,lv,pl,h1,h2,h3,h4,h5⟩:=h.code
 exact Ic h1 h.call h2 h4 h5 (by omega) hw
theorem iS.ND {P:Program} {f:FuncId} {fi:ra} (h:iS P f fi) {args:List AV} {H:List aa} {R:AV→List aa→Prop} (hn:args.length≤fi.n)
 (hw:m9 ⟨P,some H.length⟩ H.length fi.ir (b8 0 args) H fun e env H'=>(e=.normal∨e=.ret)∧lD (nc H.length) H.length fi.rs env H' R):aw P f args H R:=by
 obtain ⟨fn,c,an,lv,pl,h1,h2,h3,h4,h5⟩:=h.code
 exact E0 h1 h.call h2 h4 h5 (by omega) hw
def ug (P:Program) (f:FuncId):Zv→Prop
 | .ir fi=>iS P f fi
 | .wE g=>∀ args r H,g args=some r→aw P f args H fun r' H'=>r'=r∧H'=H
 | .Qs g=>∀ args H r H',g args H=some (r,H')→aw P f args H fun r' H''=>r'=r∧H''=H'
abbrev yT:=List (Nat×Zv)
def yT.find:yT→Nat→Option Zv
 | [],_=>none
 | (k,e)::r,f=>match Nat.beq k f with | true=>some e | false=>yT.find r f
def yU (P:Program):yT→Prop
 | []=>True
 | (k,e)::r=>ug P k e∧yU P r
theorem yT.rb {P:Program}:∀ {T:yT} {f:Nat} {e:Zv},yU P T→T.find f=some e→ug P f e
 | [],_,_,_,h=>by simp [yT.find] at h
 | (k,e')::r,f,e,hT,h=>by
   simp only [yT.find] at h
   split at h
   ·rename_i hk
    cases h
    rw [← Nat.eq_of_beq_eq_true hk]
    exact hT.1
   ·exact yT.rb hT.2 h
def wF:List RX→Env→List aa→Option (List AV)
 | [],_,_=>some []
 | .t s::r,env,H=>match wF r env H with | some xs=>some (get env s::xs) | none=>none
 | .c s sz::r,env,H=>match pU sz (get env s) H,wF r env H with | some x,some xs=>some (x::xs) | _,_=>none
theorem uZ:∀ {rs:List RX} {env:Env} {H:List aa} {xs:List AV} {φ:List AV→Prop},wF rs env H=some xs→φ xs→sE rs env H φ
 | [],env,H,xs,φ,h,hφ=>by simp only [wF] at h;cases h;exact hφ
 | .t s::r,env,H,xs,φ,h,hφ=>by
   simp only [wF] at h
   split at h <;> cases h
   rename_i ys hy
   exact uZ (φ:=fun xs=>φ (get env s::xs)) hy hφ
 | .c s sz::r,env,H,xs,φ,h,hφ=>by
   simp only [wF] at h
   split at h <;> cases h
   rename_i x ys hx hy
   exact n9 (φ:=fun x=>sE r env H fun xs=>φ (x::xs)) hx (uZ (φ:=fun xs=>φ (x::xs)) hy hφ)
def sK (n0 n:Nat) (b:Bool):Nat:=if b=true then n0 else n
def NE (n0:Nat) (rs:List RX) (env:Env) (H:List aa):Option (AV×List aa):=
 match wF rs env H with
 | some [x]=>if n0≤H.length∧x.a8 (sK n0 H.length (x.a8 n0))=true then some (x,H.take (sK n0 H.length (x.a8 n0))) else none
 | some xs=>if n0≤H.length∧ak (sK n0 H.length (ak n0 (xs.map AV.ae))) (xs.map AV.ae)=true then some (.tuple (xs.map AV.ae),H.take (sK n0 H.length (ak n0 (xs.map AV.ae)))) else none
 | none=>none
theorem yV {n0 n:Nat} {b:Bool} (h:n0≤n):n0≤sK n0 n b:=by
 unfold sK;split <;> omega
theorem Ki {n0:Nat} {rs:List RX} {env:Env} {H H':List aa} {r:AV} {R:AV→List aa→Prop} (h:NE n0 rs env H=some (r,H')) (hR:R r H'):bV n0 rs env H R:=by
 unfold NE at h
 unfold bV
 split at h <;> try cases h
 ·rename_i x hx
  split at h <;> cases h
  rename_i hc
  exact uZ hx ⟨_,yV hc.1,_,le_refl _,hc.2,hR⟩
 ·rename_i xs eU hx
  split at h <;> cases h
  rename_i hc
  refine uZ hx ⟨_,yV (b:=ak n0 (xs.map AV.ae)) hc.1,?_⟩
  split
  ·rename_i x;exact absurd rfl (eU x)
  ·exact ⟨_,b9 _,hc.2,hR⟩
abbrev Rs:=List (Exit×Env×List aa)
abbrev Ex:=IR→Env→List aa→Option Rs
def NF (n0:Nat) (rs:List RX) (o:Exit×Env×List aa):Option (AV×List aa):=
 match o.1 with
 | .normal=>NE n0 rs o.2.1 o.2.2
 | .ret=>NE n0 rs o.2.1 o.2.2
 | _=>none
def NG (n0:Nat) (rs:List RX):Rs→Option (AV×List aa)
 | []=>none
 | [o]=>NF n0 rs o
 | o::r=>match NF n0 rs o,NG n0 rs r with
   | some x,some y=>if x.1.beq y.1=true∧CD x.2 y.2=true then some x else none
   | _,_=>none
theorem Kj {n0:Nat} {rs:List RX}:∀ {l:Rs} {r:AV×List aa},NG n0 rs l=some r→∀ o∈l,NF n0 rs o=some r
 | [],_,h=>by cases h
 | [o],r,h=>fun o' ho=>by rw [aal.1 ho];exact h
 | o::o2::r,x,h=>fun o' ho=>by
   simp only [NG] at h
   split at h <;> try cases h
   rename_i x1 y1 h1 h2
   split at h <;> cases h
   rename_i hb
   have e1:=AV.qZ hb.1
   have e2:=AE hb.2
   have e:x=y1:=by cases x;cases y1;simp only at e1 e2;rw [e1,e2]
   rcases UQ.1 ho with rfl | ho
   ·exact h1
   ·rw [e];exact Kj h2 o' ho
def AH (k:Env→List aa→Option Rs):Rs→Option Rs
 | []=>some []
 | (.normal,e,H)::r=>match k e H,AH k r with
   | some a,some b=>some (a++b)
   | _,_=>none
 | o::r=>match AH k r with
   | some b=>some (o::b)
   | none=>none
theorem sL {k:Env→List aa→Option Rs} {Q:Exit→Env→List aa→Prop}:∀ {l l':Rs},AH k l=some l'→(∀ o∈l',Q o.1 o.2.1 o.2.2)→
 ∀ o∈l,match o.1 with | .normal=>∃ l2,k o.2.1 o.2.2=some l2∧∀ o2∈l2,Q o2.1 o2.2.1 o2.2.2 | e=>Q e o.2.1 o.2.2
 | [],l',h,hQ=>fun o ho=>by cases ho
 | (e,env,H)::r,l',h,hQ=>fun o ho=>by
   cases e with
   | normal=>
     simp only [AH] at h
     split at h <;> cases h
     rename_i a b h1 h2
     rcases UQ.1 ho with rfl | ho
     ·exact ⟨a,h1,fun o2 h=>hQ o2 (abf.2 (.inl h))⟩
     ·exact sL h2 (fun o2 h=>hQ o2 (abf.2 (.inr h))) o ho
   | ret=>
     simp only [AH] at h
     split at h <;> cases h
     rename_i b h2
     rcases UQ.1 ho with rfl | ho
     ·exact hQ _ aan
     ·exact sL h2 (fun o2 h=>hQ o2 (aai _ h)) o ho
   | exit i=>
     simp only [AH] at h
     split at h <;> cases h
     rename_i b h2
     rcases UQ.1 ho with rfl | ho
     ·exact hQ _ aan
     ·exact sL h2 (fun o2 h=>hQ o2 (aai _ h)) o ho
   | _=>
     simp only [AH] at h
     split at h <;> cases h
     rename_i b h2
     rcases UQ.1 ho with rfl | ho
     ·exact hQ _ aan
     ·exact sL h2 (fun o2 h=>hQ o2 (aai _ h)) o ho
def Qt (id:Nat) (o:Exit×Env×List aa):Exit×Env×List aa:=
 match o.1 with
 | .exit i=>if i=id then (.normal,o.2) else o
 | _=>o
def GK:AV→Bool
 | .al own _=>own == 0
 | _=>true
theorem GL {x:AV} (h:GK x=true):x.ae=x:=by
 cases x with
 | al own xs=>simp only [GK,beq_iff_eq] at h;subst h;rfl
 | _=>rfl
def R2 (n0 id:Nat) (e:Exit) (H:List aa):Option (AV×List aa):=
 match H[id]? with
 | some (.loop .busy lc es)=>if n0≤H.length then (match e with
   | .normal=>some (.bool true,(H.set id (.loop .ready lc es)).take n0)
   | .ret=>some (.bool false,(H.set id (.loop (.jump .ret) lc es)).take n0)
   | .exit k=>some (.bool false,(H.set id (.loop (.jump (.exit k)) lc es)).take n0)
   | _=>none) else none
 | _=>none
theorem R3 {n0 id:Nat} {e:Exit} {H H':List aa} {r:AV} {R:AV→List aa→Prop} (h:R2 n0 id e H=some (r,H')) (hR:R r H'):qP n0 id R e H:=by
 unfold R2 at h
 unfold qP
 split at h <;> try cases h
 rename_i lc es bm
 rw [bm]
 split at h <;> try cases h
 rename_i hn
 split at h <;> cases h
 ·exact ⟨by simpa using hn,hR⟩
 ·exact ⟨by simpa using hn,hR⟩
 ·exact ⟨by simpa using hn,hR⟩
def Kk (P:Program) (ex:Ex) (id:Nat) (args:List AV) (H:List aa):Option (AV×List aa):=
 match H[id]? with
 | some (.loop .ready lc es)=>match comp P lc.an lc.lv lc.pl lc.n lc.as,comp P lc.an lc.lv lc.pl lc.n lc.bd with
   | some ia,some ib=>if es.length=lc.n∧args.length=lc.ps.length∧lc.ps.all (· < lc.n)=true∧es.all GK=true∧args.all GK=true then
      match ex ia ((lc.ps.zip args).reverse++b8 0 es) H with
      | some [(.normal,env1,H1)]=>match H1[id]? with
        | some (.loop .ready lc1 es1)=>match ex ib env1 (H1.set id (.loop .busy lc1 es1)) with
          | some [(e,_,H3)]=>R2 H.length id e H3
          | _=>none
        | _=>none
      | _=>none
     else none
   | _,_=>none
 | _=>none
def pE (P:Program) (T:yT) (ex:Ex):iv:=fun y g args H=>
 match y with
 | true=>Kk P ex g args H
 | false=>match T.find g with
   | some (.ir fi)=>if args.length≤fi.n then
      match ex fi.ir (b8 0 args) H with
      | some l=>NG H.length fi.rs l
      | none=>none
     else none
   | some (.wE p)=>match p args with | some r=>some (r,H) | none=>none
   | some (.Qs p)=>p args H
   | none=>none
def R4 (T:yT) (g:Nat):Bool:=match T.find g with | some (.ir _)=>true | _=>false
def AI (id:Nat) (env:Env) (H:List aa):Option Rs:=
 match H[id]? with
 | some (.loop .ready lc es)=>some [(.normal,env,H.set id (.loop .eO lc es))]
 | some (.loop (.jump .ret) lc es)=>some [(.ret,env,H.set id (.loop .eO lc es))]
 | some (.loop (.jump (.exit k)) lc es)=>some [(.exit k,env,H.set id (.loop .eO lc es))]
 | _=>none
theorem Io {id:Nat} {env:Env} {H:List aa} {l:Rs} {Q:Exit→Env→List aa→Prop} (h:AI id env H=some l) (hQ:∀ o∈l,Q o.1 o.2.1 o.2.2):behind id H fun j H''=>pP j Q env H'':=by
 unfold AI at h
 unfold behind
 split at h <;> try cases h
 all_goals
  rename_i bm
  rw [bm]
  exact hQ _ aan
def dC (P:Program) (T:yT):Nat→Ex
 | 0,_,_,_=>none
 | f + 1,ir,env,H=>match ir with
   | .skip=>some [(.normal,env,H)]
   | .region ops live=>match AF (pE P T (dC P T f)) ops env H with
     | some (aF,H')=>some [(.normal,eJ live aF,H')]
     | none=>none
   | .draw t live=>match Em (pE P T (dC P T f)) live t env H with
     | some l=>some (l.map fun o=>(.normal,o.1,o.2))
     | none=>none
   | .seq a b=>match dC P T f a env H with
     | some l=>AH (dC P T f b) l
     | none=>none
   | .cond x a b=>match au env x with
     | .bool true=>dC P T f a env H
     | .bool false=>dC P T f b env H
     | _=>none
   | .block id a=>match dC P T f a env H with
     | some l=>some (l.map (Qt id))
     | none=>none
   | .loop a=>match dC P T f a env H with
     | some l=>AH (dC P T f (.loop a)) l
     | none=>none
   | .exit id=>some [(.exit id,env,H)]
   | .ret=>some [(.ret,env,H)]
   | .never=>none
   | .jk g lc=>match au env g with
     | .fn (.func g) first cap=>if R4 T g=true then (match pE P T (dC P T f) false g (first.map AV.ae++[.nF H.length]++cap.map AV.ae) (H++[.loop .ready lc (kS lc.n env)]) with
       | some (_,H')=>AI H.length env H'
       | none=>none) else none
     | _=>none
theorem u0 {P:Program} {T:yT} (hT:yU P T) {ex:Ex} (hex:∀ {ir env H l},ex ir env H=some l→∀ {n0:Nat} {Q:Exit→Env→List aa→Prop},(∀ o∈l,Q o.1 o.2.1 o.2.2)→m9 P n0 ir env H Q):kW P (pE P T ex):=by
 refine ⟨fun g args H r H' h=>?_,fun id args H r H' h=>?_⟩
 ·simp only [pE] at h
  split at h
  ·rename_i fi hfi
   have jv:=yT.rb hT hfi
   split at h <;> try cases h
   rename_i hn
   split at h <;> try cases h
   rename_i l hx
   refine jv.AG hn (hex hx fun o ho=>?_)
   have h1:=Kj h o ho
   unfold NF at h1
   split at h1 <;> try cases h1
   ·rename_i e;exact ⟨.inl e,Ki h1 ⟨rfl,rfl⟩⟩
   ·rename_i e;exact ⟨.inr e,Ki h1 ⟨rfl,rfl⟩⟩
  ·rename_i p hp
   have jv:=yT.rb hT hp
   split at h <;> cases h
   rename_i hr
   exact jv _ _ _ hr
  ·rename_i p hp
   exact yT.rb hT hp _ _ _ _ h
  ·cases h
 ·simp only [pE,Kk] at h
  split at h <;> try cases h
  rename_i lc es bm
  split at h <;> try cases h
  rename_i ia ib ha hb
  split at h <;> try cases h
  rename_i hc
  split at h <;> try cases h
  rename_i env1 H1 tU
  split at h <;> try cases h
  rename_i lc1 es1 Nx
  split at h <;> try cases h
  rename_i e ae8 H3 hx3
  obtain ⟨c1,c2,c3,c4,c5⟩:=hc
  refine oN bm ha hb ⟨c1,c2,c3,fun x hx=>GL (aaL.1 c4 x hx),fun x hx=>GL (aaL.1 c5 x hx)⟩ (hex tU fun o ho=>?_)
  rw [aal.1 ho]
  refine ⟨rfl,?_⟩
  unfold jZ
  rw [Nx]
  refine hex hx3 fun o ho=>?_
  rw [aal.1 ho]
  exact R3 h ⟨rfl,rfl⟩
theorem R5 {P:Program} {T:yT} (hT:yU P T) {g:Nat} (h:R4 T g=true):∀ (as:Array Value) (w:World),(callFunc g as).run P w=.ok (.enter g as) w:=by
 unfold R4 at h
 split at h
 ·rename_i fi hfi
  exact (yT.rb hT hfi).call
 ·cases h
theorem AJ {P:Program} {T:yT} (hT:yU P T):∀ (f:Nat) {ir:IR} {env:Env} {H:List aa} {l:Rs},dC P T f ir env H=some l→∀ {n0:Nat} {Q:Exit→Env→List aa→Prop},(∀ o∈l,Q o.1 o.2.1 o.2.2)→m9 P n0 ir env H Q:=by
 intro f
 induction f using Nat.strongRecOn with
 | _ f ih=>
 intro ir env H l h n0 Q hQ
 cases f with
 | zero=>simp [dC] at h
 | succ f=>
 have U1:=fun {ir:IR} {env:Env} {H:List aa} {l:Rs} (h:dC P T f ir env H=some l) {n0:Nat} {Q:Exit→Env→List aa→Prop} (hQ:∀ o∈l,Q o.1 o.2.1 o.2.2)=>ih f (Nat.lt_succ_self f) h (n0:=n0) (Q:=Q) hQ
 have hC:kW P (pE P T (dC P T f)):=u0 hT (fun {_ _ _ _} h {n0 Q} hQ=>U1 h hQ)
 cases ir with
 | skip=>simp only [dC] at h;cases h;exact hQ _ aan
 | exit id=>simp only [dC] at h;cases h;exact hQ _ aan
 | ret=>simp only [dC] at h;cases h;exact hQ _ aan
 | never=>simp [dC] at h
 | jk g lc=>
   simp only [dC] at h
   simp only [m9]
   split at h <;> try cases h
   rename_i g' first cap hg
   split at h <;> try cases h
   rename_i hir
   split at h <;> try cases h
   rename_i r H2 hr
   rw [hg]
   refine ⟨R5 hT hir,_,b9 _,dW.of <| (hC.1 _ _ _ _ _ hr).mono ?_⟩
   rintro r' H'' ⟨rfl,rfl⟩
   exact Io h hQ
 | region ops live=>
   simp only [dC] at h
   split at h <;> cases h
   rename_i cV H2 hx
   exact sJ (K:=fun aF H'=>Q .normal (eJ live aF) H') hC hx (hQ _ aan)
 | draw t live=>
   simp only [dC] at h
   split at h <;> cases h
   rename_i l2 hx
   exact VS (K:=fun aF H'=>Q .normal aF H') hC hx fun o ho=>hQ _ (aag.2 ⟨o,ho,rfl⟩)
 | seq a b=>
   simp only [dC] at h
   simp only [m9]
   split at h <;> try cases h
   rename_i l2 hx
   have hs:=sL h hQ
   refine U1 hx fun o ho=>?_
   have:=hs o ho
   obtain ⟨e,cV,H2⟩:=o
   cases e with
   | normal=>obtain ⟨l3,h3,hq⟩:=this;exact U1 h3 hq
   | _=>exact this
 | cond x a b=>
   simp only [dC] at h
   simp only [m9]
   split at h
   ·rename_i e;rw [e];exact ⟨fun _=>U1 h hQ,fun e=>by cases e⟩
   ·rename_i e;rw [e];exact ⟨fun e=>(by cases e),fun _=>U1 h hQ⟩
   ·cases h
 | block id a=>
   simp only [dC] at h
   simp only [m9]
   split at h <;> cases h
   rename_i l2 hx
   refine U1 hx fun o ho=>?_
   have:=hQ _ (aag.2 ⟨o,ho,rfl⟩)
   obtain ⟨e,cV,H2⟩:=o
   cases e with
   | exit id'=>
     simp only [Qt] at this ⊢
     split at this
     ·rename_i bm;rw [if_pos bm];exact this
     ·rename_i bm;rw [if_neg bm];exact this
   | _=>exact this
 | loop a=>
   simp only [m9]
   refine ⟨Nat×Env×List aa,fun i=>i.1≤f∧∃ l',dC P T (i.1 + 1) (.loop a) i.2.1 i.2.2=some l'∧∀ o∈l',Q o.1 o.2.1 o.2.2,fun i=>i.2.1,fun i=>i.2.2,fun i=>i.1,⟨(f,env,H),⟨yo _,l,h,hQ⟩,aD _ _ _⟩,?_⟩
   rintro ⟨k,env1,H1⟩ ⟨hk,l1,h1,hQ1⟩
   simp only at hk h1 ⊢
   simp only [dC] at h1
   split at h1 <;> try cases h1
   rename_i l2 hx
   have hs:=sL h1 hQ1
   refine ih k (Nat.lt_succ_of_le hk) hx fun o ho=>?_
   have:=hs o ho
   obtain ⟨e,cV,H2⟩:=o
   cases e with
   | normal=>
     obtain ⟨l3,h3,hq⟩:=this
     cases k with
     | zero=>simp [dC] at h3
     | succ k=>exact ⟨(k,cV,H2),⟨by omega,l3,h3,hq⟩,Nat.lt_succ_self k,aD _ _ _⟩
   | _=>exact this
end Go.aJ
end
section
namespace Go.aJ
open Go
theorem ion (n:Nat):Int.ofNat (no_index (OfNat.ofNat n))=(OfNat.ofNat n:Int):=rfl
theorem VT:Int.negSucc 0=-1:=rfl
@[reducible] def aK {P:Program} {g:FuncId} {fn:Func} {n:Nat} {i:IR} {rs:List RX} (hc:∀ (as:Array Value) (w:World),(callFunc g as).run P w=.ok (.enter g as) w)
 (hf:P.funcs[g]?=some fn) (hn:fn.ntmps=n) (an:BQ) (lv:mW) (pl:mX)
 (h:(fn.body.bind fun c=>comp P an lv pl n c)=some i:=by conv=>
   lhs
   reduce
   try simp only [ion,VT])
 (hr:iG P fn.results.toList=some rs:=by conv=>
   lhs
   reduce
   try simp only [ion,VT]):{fi:ra // iS P g fi}:=
 ⟨⟨n,i,rs⟩,by
   subst hn
   cases hb:fn.body with
   | none=>rw [hb] at h;cases h
   | some c=>exact ⟨hc,fn,c,an,lv,pl,hf,hb,rfl,by rw [hb] at h;exact h,hr⟩⟩
end Go.aJ
end
