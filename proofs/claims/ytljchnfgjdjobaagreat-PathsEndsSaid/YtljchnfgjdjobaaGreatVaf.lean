/- Part 6 of 15 of the proof. -/
import Derived.Test.YtljchnfgjdjobaaGreatVae
import Derived.Laws.Externs
import Derived.ProofKit
import Derived.Deep.Slices
import Derived.Deep.Strs
set_option linter.unusedVariables false
set_option linter.unusedSimpArgs false
set_option linter.defProp false
set_option linter.unusedSectionVars false
section
namespace Go.aL
open Go
structure rc where
 n:Nat
 ir:IR
 rs:List RX
 deriving Inhabited
inductive Ent where
 | ir (fi:rc)
 | wu (g:List AV→Option AV)
 | Q5 (g:List AV→List aa→Option (AV×List aa))
def ranges:Code→List (List Nat×Code×Code)
 | .seq a b=>ranges a++ranges b
 | .cond _ a b=>ranges a++ranges b
 | .block _ a=>ranges a
 | .loop a=>ranges a
 | .rangeFunc _ ps a b=>(ps.toList,a,b)::(ranges a++ranges b)
 | _=>[]
def SR (f:Func) (k:Nat) (an:B9) (lv:m9) (pl:nc):iT:=
 match f.body with
 | some c=>match (ranges c).getD k ([],.skip,.skip) with
   | (ps,a,b)=>⟨f.ntmps,ps,a,b,an,lv,pl⟩
 | none=>⟨0,[],.skip,.skip,an,lv,pl⟩
structure iU (P:Program) (f:FuncId) (fi:rc):Prop where
 call:∀ (as:Array Value) (w:World),(callFunc f as).run P w=.ok (.enter f as) w
 code:∃ fn c an lv pl,P.funcs[f]?=some fn∧fn.body=some c∧fn.ntmps=fi.n∧comp P an lv pl fn.ntmps c=some fi.ir∧iH P fn.results.toList=some fi.rs
theorem iU.wv {P:Program} {f:FuncId} {fi:rc} (h:iU P f fi) {args:List AV} {H:List aa} {R:AV→List aa→Prop} (hn:args.length≤fi.n)
 (hw:mi P H.length fi.ir (bX 0 args) H fun e env H'=>(e=.normal∨e=.ret)∧bW H.length fi.rs env H' R):aq P f args H R:=by
 obtain ⟨fn,c,an,lv,pl,h1,h2,h3,h4,h5⟩:=h.code
 exact Is h1 h.call h2 h4 h5 (by omega) hw
theorem iU.Ob {P:Program} {f:FuncId} {fi:rc} (h:iU P f fi) {args:List AV} {H:List aa} {R:AV→List aa→Prop} (hn:args.length≤fi.n)
 (hw:mi ⟨P,some H.length⟩ H.length fi.ir (bX 0 args) H fun e env H'=>(e=.normal∨e=.ret)∧lE (kH H.length) H.length fi.rs env H' R):aq P f args H R:=by
 obtain ⟨fn,c,an,lv,pl,h1,h2,h3,h4,h5⟩:=h.code
 exact E8 h1 h.call h2 h4 h5 (by omega) hw
def tZ (P:Program) (f:FuncId):Ent→Prop
 | .ir fi=>iU P f fi
 | .wu g=>∀ args r H,g args=some r→aq P f args H fun r' H'=>r'=r∧H'=H
 | .Q5 g=>∀ args H r H',g args H=some (r,H')→aq P f args H fun r' H''=>r'=r∧H''=H'
abbrev yX:=List (Nat×Ent)
def yX.find:yX→Nat→Option Ent
 | [],_=>none
 | (k,e)::r,f=>match Nat.beq k f with | true=>some e | false=>yX.find r f
def yY (P:Program):yX→Prop
 | []=>True
 | (k,e)::r=>tZ P k e∧yY P r
theorem yX.rf {P:Program}:∀ {T:yX} {f:Nat} {e:Ent},yY P T→T.find f=some e→tZ P f e
 | [],_,_,_,h=>by simp [yX.find] at h
 | (k,e')::r,f,e,hT,h=>by
   simp only [yX.find] at h
   split at h
   ·rename_i hk
    cases h
    rw [← Nat.eq_of_beq_eq_true hk]
    exact hT.1
   ·exact yX.rf hT.2 h
def wx:List RX→Env→List aa→Option (List AV)
 | [],_,_=>some []
 | .t s::r,env,H=>match wx r env H with | some xs=>some (get env s::xs) | none=>none
 | .c s sz::r,env,H=>match pU sz (get env s) H,wx r env H with | some x,some xs=>some (x::xs) | _,_=>none
theorem uT:∀ {rs:List RX} {env:Env} {H:List aa} {xs:List AV} {φ:List AV→Prop},wx rs env H=some xs→φ xs→qO rs env H φ
 | [],env,H,xs,φ,h,hφ=>by simp only [wx] at h;cases h;exact hφ
 | .t s::r,env,H,xs,φ,h,hφ=>by
   simp only [wx] at h
   split at h <;> cases h
   rename_i ys hy
   exact uT (φ:=fun xs=>φ (get env s::xs)) hy hφ
 | .c s sz::r,env,H,xs,φ,h,hφ=>by
   simp only [wx] at h
   split at h <;> cases h
   rename_i x ys hx hy
   exact n9 (φ:=fun x=>qO r env H fun xs=>φ (x::xs)) hx (uT (φ:=fun xs=>φ (x::xs)) hy hφ)
def sH (n0 n:Nat) (b:Bool):Nat:=if b=true then n0 else n
def Oe (n0:Nat) (rs:List RX) (env:Env) (H:List aa):Option (AV×List aa):=
 match wx rs env H with
 | some [x]=>if n0≤H.length∧x.aV (sH n0 H.length (x.aV n0))=true then some (x,H.take (sH n0 H.length (x.aV n0))) else none
 | some xs=>if n0≤H.length∧aj (sH n0 H.length (aj n0 (xs.map AV.ab))) (xs.map AV.ab)=true then some (.tuple (xs.map AV.ab),H.take (sH n0 H.length (aj n0 (xs.map AV.ab)))) else none
 | none=>none
theorem yZ {n0 n:Nat} {b:Bool} (h:n0≤n):n0≤sH n0 n b:=by
 unfold sH;split <;> omega
theorem Kz {n0:Nat} {rs:List RX} {env:Env} {H H':List aa} {r:AV} {R:AV→List aa→Prop} (h:Oe n0 rs env H=some (r,H')) (hR:R r H'):bW n0 rs env H R:=by
 unfold Oe at h
 unfold bW
 split at h <;> try cases h
 ·rename_i x hx
  split at h <;> cases h
  rename_i hc
  exact uT hx ⟨_,yZ hc.1,_,le_refl _,hc.2,hR⟩
 ·rename_i xs dW hx
  split at h <;> cases h
  rename_i hc
  refine uT hx ⟨_,yZ (b:=aj n0 (xs.map AV.ab)) hc.1,?_⟩
  split
  ·rename_i x;exact absurd rfl (dW x)
  ·exact ⟨_,b8 _,hc.2,hR⟩
abbrev Rs:=List (Exit×Env×List aa)
abbrev Ex:=IR→Env→List aa→Option Rs
def Of (n0:Nat) (rs:List RX) (o:Exit×Env×List aa):Option (AV×List aa):=
 match o.1 with
 | .normal=>Oe n0 rs o.2.1 o.2.2
 | .ret=>Oe n0 rs o.2.1 o.2.2
 | _=>none
def Og (n0:Nat) (rs:List RX):Rs→Option (AV×List aa)
 | []=>none
 | [o]=>Of n0 rs o
 | o::r=>match Of n0 rs o,Og n0 rs r with
   | some x,some y=>if x.1.beq y.1=true∧CV x.2 y.2=true then some x else none
   | _,_=>none
theorem KA {n0:Nat} {rs:List RX}:∀ {l:Rs} {r:AV×List aa},Og n0 rs l=some r→∀ o∈l,Of n0 rs o=some r
 | [],_,h=>by cases h
 | [o],r,h=>fun o' ho=>by rw [List.mem_singleton.1 ho];exact h
 | o::o2::r,x,h=>fun o' ho=>by
   simp only [Og] at h
   split at h <;> try cases h
   rename_i x1 y1 h1 h2
   split at h <;> cases h
   rename_i hb
   have e1:=AV.rb hb.1
   have e2:=AS hb.2
   have e:x=y1:=by cases x;cases y1;simp only at e1 e2;rw [e1,e2]
   rcases List.mem_cons.1 ho with rfl | ho
   ·exact h1
   ·rw [e];exact KA h2 o' ho
def AU (k:Env→List aa→Option Rs):Rs→Option Rs
 | []=>some []
 | (.normal,e,H)::r=>match k e H,AU k r with
   | some a,some b=>some (a++b)
   | _,_=>none
 | o::r=>match AU k r with
   | some b=>some (o::b)
   | none=>none
theorem sI {k:Env→List aa→Option Rs} {Q:Exit→Env→List aa→Prop}:∀ {l l':Rs},AU k l=some l'→(∀ o∈l',Q o.1 o.2.1 o.2.2)→
 ∀ o∈l,match o.1 with | .normal=>∃ l2,k o.2.1 o.2.2=some l2∧∀ o2∈l2,Q o2.1 o2.2.1 o2.2.2 | e=>Q e o.2.1 o.2.2
 | [],l',h,hQ=>fun o ho=>by cases ho
 | (e,env,H)::r,l',h,hQ=>fun o ho=>by
   cases e with
   | normal=>
     simp only [AU] at h
     split at h <;> cases h
     rename_i a b h1 h2
     rcases List.mem_cons.1 ho with rfl | ho
     ·exact ⟨a,h1,fun o2 h=>hQ o2 (List.mem_append.2 (.inl h))⟩
     ·exact sI h2 (fun o2 h=>hQ o2 (List.mem_append.2 (.inr h))) o ho
   | ret=>
     simp only [AU] at h
     split at h <;> cases h
     rename_i b h2
     rcases List.mem_cons.1 ho with rfl | ho
     ·exact hQ _ List.mem_cons_self
     ·exact sI h2 (fun o2 h=>hQ o2 (List.mem_cons_of_mem _ h)) o ho
   | exit i=>
     simp only [AU] at h
     split at h <;> cases h
     rename_i b h2
     rcases List.mem_cons.1 ho with rfl | ho
     ·exact hQ _ List.mem_cons_self
     ·exact sI h2 (fun o2 h=>hQ o2 (List.mem_cons_of_mem _ h)) o ho
   | _=>
     simp only [AU] at h
     split at h <;> cases h
     rename_i b h2
     rcases List.mem_cons.1 ho with rfl | ho
     ·exact hQ _ List.mem_cons_self
     ·exact sI h2 (fun o2 h=>hQ o2 (List.mem_cons_of_mem _ h)) o ho
def Q6 (id:Nat) (o:Exit×Env×List aa):Exit×Env×List aa:=
 match o.1 with
 | .exit i=>if i=id then (.normal,o.2) else o
 | _=>o
def GY:AV→Bool
 | .al own _=>own == 0
 | _=>true
theorem GZ {x:AV} (h:GY x=true):x.ab=x:=by
 cases x with
 | al own xs=>simp only [GY,beq_iff_eq] at h;subst h;rfl
 | _=>rfl
def SS (n0 id:Nat) (e:Exit) (H:List aa):Option (AV×List aa):=
 match H[id]? with
 | some (.loop .busy lc es)=>if n0≤H.length then (match e with
   | .normal=>some (.bool true,(H.set id (.loop .ready lc es)).take n0)
   | .ret=>some (.bool false,(H.set id (.loop (.jump .ret) lc es)).take n0)
   | .exit k=>some (.bool false,(H.set id (.loop (.jump (.exit k)) lc es)).take n0)
   | _=>none) else none
 | _=>none
theorem SU {n0 id:Nat} {e:Exit} {H H':List aa} {r:AV} {R:AV→List aa→Prop} (h:SS n0 id e H=some (r,H')) (hR:R r H'):qR n0 id R e H:=by
 unfold SS at h
 unfold qR
 split at h <;> try cases h
 rename_i lc es bp
 rw [bp]
 split at h <;> try cases h
 rename_i hn
 split at h <;> cases h
 ·exact ⟨by simpa using hn,hR⟩
 ·exact ⟨by simpa using hn,hR⟩
 ·exact ⟨by simpa using hn,hR⟩
def KB (P:Program) (ex:Ex) (id:Nat) (args:List AV) (H:List aa):Option (AV×List aa):=
 match H[id]? with
 | some (.loop .ready lc es)=>match comp P lc.an lc.lv lc.pl lc.n lc.as,comp P lc.an lc.lv lc.pl lc.n lc.bd with
   | some ia,some ib=>if es.length=lc.n∧args.length=lc.ps.length∧lc.ps.all (· < lc.n)=true∧es.all GY=true∧args.all GY=true then
      match ex ia ((lc.ps.zip args).reverse++bX 0 es) H with
      | some [(.normal,env1,H1)]=>match H1[id]? with
        | some (.loop .ready lc1 es1)=>match ex ib env1 (H1.set id (.loop .busy lc1 es1)) with
          | some [(e,_,H3)]=>SS H.length id e H3
          | _=>none
        | _=>none
      | _=>none
     else none
   | _,_=>none
 | _=>none
def pA (P:Program) (T:yX) (ex:Ex):iv:=fun y g args H=>
 match y with
 | true=>KB P ex g args H
 | false=>match T.find g with
   | some (.ir fi)=>if args.length≤fi.n then
      match ex fi.ir (bX 0 args) H with
      | some l=>Og H.length fi.rs l
      | none=>none
     else none
   | some (.wu p)=>match p args with | some r=>some (r,H) | none=>none
   | some (.Q5 p)=>p args H
   | none=>none
def SV (T:yX) (g:Nat):Bool:=match T.find g with | some (.ir _)=>true | _=>false
def AW (id:Nat) (env:Env) (H:List aa):Option Rs:=
 match H[id]? with
 | some (.loop .ready lc es)=>some [(.normal,env,H.set id (.loop .eO lc es))]
 | some (.loop (.jump .ret) lc es)=>some [(.ret,env,H.set id (.loop .eO lc es))]
 | some (.loop (.jump (.exit k)) lc es)=>some [(.exit k,env,H.set id (.loop .eO lc es))]
 | _=>none
theorem IB {id:Nat} {env:Env} {H:List aa} {l:Rs} {Q:Exit→Env→List aa→Prop} (h:AW id env H=some l) (hQ:∀ o∈l,Q o.1 o.2.1 o.2.2):behind id H fun j H''=>pP j Q env H'':=by
 unfold AW at h
 unfold behind
 split at h <;> try cases h
 all_goals
  rename_i bp
  rw [bp]
  exact hQ _ List.mem_cons_self
def dE (P:Program) (T:yX):Nat→Ex
 | 0,_,_,_=>none
 | f + 1,ir,env,H=>match ir with
   | .skip=>some [(.normal,env,H)]
   | .region ops live=>match AT (pA P T (dE P T f)) ops env H with
     | some (aG,H')=>some [(.normal,eD live aG,H')]
     | none=>none
   | .draw t live=>match Eu (pA P T (dE P T f)) live t env H with
     | some l=>some (l.map fun o=>(.normal,o.1,o.2))
     | none=>none
   | .seq a b=>match dE P T f a env H with
     | some l=>AU (dE P T f b) l
     | none=>none
   | .cond x a b=>match ap env x with
     | .bool true=>dE P T f a env H
     | .bool false=>dE P T f b env H
     | _=>none
   | .block id a=>match dE P T f a env H with
     | some l=>some (l.map (Q6 id))
     | none=>none
   | .loop a=>match dE P T f a env H with
     | some l=>AU (dE P T f (.loop a)) l
     | none=>none
   | .exit id=>some [(.exit id,env,H)]
   | .ret=>some [(.ret,env,H)]
   | .never=>none
   | .jk g lc=>match ap env g with
     | .fn (.func g) first cap=>if SV T g=true then (match pA P T (dE P T f) false g (first.map AV.ab++[.nH H.length]++cap.map AV.ab) (H++[.loop .ready lc (kW lc.n env)]) with
       | some (_,H')=>AW H.length env H'
       | none=>none) else none
     | _=>none
theorem uU {P:Program} {T:yX} (hT:yY P T) {ex:Ex} (hex:∀ {ir env H l},ex ir env H=some l→∀ {n0:Nat} {Q:Exit→Env→List aa→Prop},(∀ o∈l,Q o.1 o.2.1 o.2.2)→mi P n0 ir env H Q):k7 P (pA P T ex):=by
 refine ⟨fun g args H r H' h=>?_,fun id args H r H' h=>?_⟩
 ·simp only [pA] at h
  split at h
  ·rename_i fi hfi
   have jy:=yX.rf hT hfi
   split at h <;> try cases h
   rename_i hn
   split at h <;> try cases h
   rename_i l hx
   refine jy.wv hn (hex hx fun o ho=>?_)
   have h1:=KA h o ho
   unfold Of at h1
   split at h1 <;> try cases h1
   ·rename_i e;exact ⟨.inl e,Kz h1 ⟨rfl,rfl⟩⟩
   ·rename_i e;exact ⟨.inr e,Kz h1 ⟨rfl,rfl⟩⟩
  ·rename_i p hp
   have jy:=yX.rf hT hp
   split at h <;> cases h
   rename_i hr
   exact jy _ _ _ hr
  ·rename_i p hp
   exact yX.rf hT hp _ _ _ _ h
  ·cases h
 ·simp only [pA,KB] at h
  split at h <;> try cases h
  rename_i lc es bp
  split at h <;> try cases h
  rename_i ia ib ha hb
  split at h <;> try cases h
  rename_i hc
  split at h <;> try cases h
  rename_i env1 H1 tN
  split at h <;> try cases h
  rename_i lc1 es1 N4
  split at h <;> try cases h
  rename_i e agF H3 hx3
  obtain ⟨c1,c2,c3,c4,c5⟩:=hc
  refine oO bp ha hb ⟨c1,c2,c3,fun x hx=>GZ (List.all_eq_true.1 c4 x hx),fun x hx=>GZ (List.all_eq_true.1 c5 x hx)⟩ (hex tN fun o ho=>?_)
  rw [List.mem_singleton.1 ho]
  refine ⟨rfl,?_⟩
  unfold kh
  rw [N4]
  refine hex hx3 fun o ho=>?_
  rw [List.mem_singleton.1 ho]
  exact SU h ⟨rfl,rfl⟩
theorem SW {P:Program} {T:yX} (hT:yY P T) {g:Nat} (h:SV T g=true):∀ (as:Array Value) (w:World),(callFunc g as).run P w=.ok (.enter g as) w:=by
 unfold SV at h
 split at h
 ·rename_i fi hfi
  exact (yX.rf hT hfi).call
 ·cases h
theorem AX {P:Program} {T:yX} (hT:yY P T):∀ (f:Nat) {ir:IR} {env:Env} {H:List aa} {l:Rs},dE P T f ir env H=some l→∀ {n0:Nat} {Q:Exit→Env→List aa→Prop},(∀ o∈l,Q o.1 o.2.1 o.2.2)→mi P n0 ir env H Q:=by
 intro f
 induction f using Nat.strongRecOn with
 | _ f ih=>
 intro ir env H l h n0 Q hQ
 cases f with
 | zero=>simp [dE] at h
 | succ f=>
 have VU:=fun {ir:IR} {env:Env} {H:List aa} {l:Rs} (h:dE P T f ir env H=some l) {n0:Nat} {Q:Exit→Env→List aa→Prop} (hQ:∀ o∈l,Q o.1 o.2.1 o.2.2)=>ih f (Nat.lt_succ_self f) h (n0:=n0) (Q:=Q) hQ
 have hC:k7 P (pA P T (dE P T f)):=uU hT (fun {_ _ _ _} h {n0 Q} hQ=>VU h hQ)
 cases ir with
 | skip=>simp only [dE] at h;cases h;exact hQ _ List.mem_cons_self
 | exit id=>simp only [dE] at h;cases h;exact hQ _ List.mem_cons_self
 | ret=>simp only [dE] at h;cases h;exact hQ _ List.mem_cons_self
 | never=>simp [dE] at h
 | jk g lc=>
   simp only [dE] at h
   simp only [mi]
   split at h <;> try cases h
   rename_i g' first cap hg
   split at h <;> try cases h
   rename_i hir
   split at h <;> try cases h
   rename_i r H2 hr
   rw [hg]
   refine ⟨SW hT hir,_,b8 _,ej.of <| (hC.1 _ _ _ _ _ hr).mono ?_⟩
   rintro r' H'' ⟨rfl,rfl⟩
   exact IB h hQ
 | region ops live=>
   simp only [dE] at h
   split at h <;> cases h
   rename_i cR H2 hx
   exact sG (K:=fun aG H'=>Q .normal (eD live aG) H') hC hx (hQ _ List.mem_cons_self)
 | draw t live=>
   simp only [dE] at h
   split at h <;> cases h
   rename_i l2 hx
   exact WH (K:=fun aG H'=>Q .normal aG H') hC hx fun o ho=>hQ _ (List.mem_map.2 ⟨o,ho,rfl⟩)
 | seq a b=>
   simp only [dE] at h
   simp only [mi]
   split at h <;> try cases h
   rename_i l2 hx
   have hs:=sI h hQ
   refine VU hx fun o ho=>?_
   have:=hs o ho
   obtain ⟨e,cR,H2⟩:=o
   cases e with
   | normal=>obtain ⟨l3,h3,hq⟩:=this;exact VU h3 hq
   | _=>exact this
 | cond x a b=>
   simp only [dE] at h
   simp only [mi]
   split at h
   ·rename_i e;rw [e];exact ⟨fun _=>VU h hQ,fun e=>by cases e⟩
   ·rename_i e;rw [e];exact ⟨fun e=>(by cases e),fun _=>VU h hQ⟩
   ·cases h
 | block id a=>
   simp only [dE] at h
   simp only [mi]
   split at h <;> cases h
   rename_i l2 hx
   refine VU hx fun o ho=>?_
   have:=hQ _ (List.mem_map.2 ⟨o,ho,rfl⟩)
   obtain ⟨e,cR,H2⟩:=o
   cases e with
   | exit id'=>
     simp only [Q6] at this ⊢
     split at this
     ·rename_i bp;rw [if_pos bp];exact this
     ·rename_i bp;rw [if_neg bp];exact this
   | _=>exact this
 | loop a=>
   simp only [mi]
   refine ⟨Nat×Env×List aa,fun i=>i.1≤f∧∃ l',dE P T (i.1 + 1) (.loop a) i.2.1 i.2.2=some l'∧∀ o∈l',Q o.1 o.2.1 o.2.2,fun i=>i.2.1,fun i=>i.2.2,fun i=>i.1,⟨(f,env,H),⟨Nat.le_refl _,l,h,hQ⟩,aA _ _ _⟩,?_⟩
   rintro ⟨k,env1,H1⟩ ⟨hk,l1,h1,hQ1⟩
   simp only at hk h1 ⊢
   simp only [dE] at h1
   split at h1 <;> try cases h1
   rename_i l2 hx
   have hs:=sI h1 hQ1
   refine ih k (Nat.lt_succ_of_le hk) hx fun o ho=>?_
   have:=hs o ho
   obtain ⟨e,cR,H2⟩:=o
   cases e with
   | normal=>
     obtain ⟨l3,h3,hq⟩:=this
     cases k with
     | zero=>simp [dE] at h3
     | succ k=>exact ⟨(k,cR,H2),⟨by omega,l3,h3,hq⟩,Nat.lt_succ_self k,aA _ _ _⟩
   | _=>exact this
end Go.aL
end
section
namespace Go.aL
open Go
theorem wy {P:Program} {f:FuncId} {args:List AV} {H:List aa} {x:AV} (hx:∀ own xs,x=.al own xs→own=0)
 (h:∀ (M:Mem) (L:List Nat) (w:World) (vs:Array Value),vs.size=args.length→(∀ t,aS M L (vs.getD t undef) (args.getD t .any))→∃ v,(callFunc f vs).run P w=.ok (.value v) w∧aS M L v x) :
 aq P f args H fun r H'=>r=x∧H'=H:=by
 intro A M L w vs O hA hs bS
 obtain ⟨v,bJ,hr⟩:=h M L w vs hs bS.env
 have k1:=bS.qH (fun _=>undef) (fun _=>.any) (fun _=>.any _) (fun _ _ _ e=>by cases e)
 exact .inr ⟨v,w,x,H,M,L,_,bJ,⟨rfl,rfl⟩,k1.pf 0 hr hx,Ext.refl A M w,List.prefix_refl L⟩
def mG:List AV→Option AV
 | [.str s,.int .u8 c]=>some (.int .i64 (firstIdx s c.toNat.toUInt8))
 | _=>none
theorem CX {vs:Array Value} (h:vs.size=2):vs=#[vs.getD 0 undef,vs.getD 1 undef]:=by
 apply Array.ext
 ·simp [h]
 ·intro i h1 h2
  have:i=0∨i=1:=by omega
  rcases this with rfl | rfl <;> simp [Array.getD,h]
theorem AY {P:Program} {f:FuncId} {fn:Func} (hf:P.funcs[f]?=some fn) (hname:(fn.name == "runtime.NumGoroutine")=false)
 (hb:fn.body.isNone=true) (hn:Extern.findNext fn=none) (he:Extern.find fn=some Extern.BytealgIndexByte.indexByte):tZ P f (.wu mG):=by
 intro args r H h
 unfold mG at h
 split at h <;> cases h
 rename_i s c
 refine wy (by intro _ _ e;cases e) fun M L w vs hs hr=>⟨.int .i64 (firstIdx s c.toNat.toUInt8),?_,.int _ _⟩
 have h0:=hr 0
 have h1:=hr 1
 rw [CX hs]
 generalize vs.getD 0 undef=v0 at h0
 generalize vs.getD 1 undef=v1 at h1
 cases h0
 cases h1
 rw [run_callFunc_extern hf hname hb hn he,run_indexByte_string]
 rfl
def countP:List AV→Option AV
 | [.str s,.int .u8 c]=>some (.int .i64 (s.foldl (fun n x=>if x == c.toNat.toUInt8 then n + 1 else n) (0:Nat)))
 | _=>none
theorem IC {P:Program} (s:ByteArray) (c:Int) (w:World) :
 (Extern.BytealgCount.count #[.string s,.int .u8 c]).run P w=.ok (.int .i64 (s.foldl (fun n x=>if x == c.toNat.toUInt8 then n + 1 else n) (0:Nat))) w:=by
 change Sem.run P (do
  let b ← Extern.Bytes.bytesOf (.string s)
  let c' ← Extern.Bytes.asByte (.int .u8 c)
  pure (goInt (b.foldl (fun n x=>if x == c' then n + 1 else n) (0:Nat)))) w=_
 simp only [Extern.Bytes.bytesOf,Extern.Bytes.asByte,Sem.run_bind,Sem.run_pure,Result.andThen]
 simp [goInt]
theorem KC {P:Program} {f:FuncId} {fn:Func} (hf:P.funcs[f]?=some fn) (hname:(fn.name == "runtime.NumGoroutine")=false)
 (hb:fn.body.isNone=true) (hn:Extern.findNext fn=none) (he:Extern.find fn=some Extern.BytealgCount.count):tZ P f (.wu countP):=by
 intro args r H h
 unfold countP at h
 split at h <;> cases h
 rename_i s c
 refine wy (by intro _ _ e;cases e) fun M L w vs hs hr=>⟨.int .i64 (s.foldl (fun n x=>if x == c.toNat.toUInt8 then n + 1 else n) (0:Nat)),?_,.int _ _⟩
 have h0:=hr 0
 have h1:=hr 1
 rw [CX hs]
 generalize vs.getD 0 undef=v0 at h0
 generalize vs.getD 1 undef=v1 at h1
 cases h0
 cases h1
 rw [run_callFunc_extern hf hname hb hn he,IC]
 rfl
end Go.aL
end
section
namespace Go.aL
open Go
theorem SX:AV.any.ab=.any:=_root_.id rfl
theorem oU (b:Bool):(AV.bool b).ab=.bool b:=_root_.id rfl
theorem oe (k:IntKind) (n:Int):(AV.int k n).ab=.int k n:=_root_.id rfl
theorem AZ (s:ByteArray):(AV.str s).ab=.str s:=_root_.id rfl
theorem G7:AV.ah.ab=.ah:=_root_.id rfl
theorem wz (o:Nat) (xs:List AV):(AV.al o xs).ab=.al 0 xs:=_root_.id rfl
theorem SY (a b c d:Nat):(AV.bc a b c d).ab=.bc a b c d:=_root_.id rfl
theorem SZ (xs:List AV):(AV.agg xs).ab=.agg xs:=_root_.id rfl
theorem KD (xs:List AV):(AV.tuple xs).ab=.tuple xs:=_root_.id rfl
theorem KE (a b:Nat):(AV.ptr a b).ab=.ptr a b:=_root_.id rfl
theorem G8 (x:AV):(AV.ai x).ab=.ai x:=_root_.id rfl
theorem Oh:AV.sd.ab=.sd:=_root_.id rfl
theorem KF (a:Nat):(AV.map a).ab=.map a:=_root_.id rfl
theorem Oi:AV.jd.ab=.jd:=_root_.id rfl
theorem Q7 (f:Fn) (a b:List AV):(AV.fn f a b).ab=.fn f a b:=_root_.id rfl
theorem Oj:AV.fQ.ab=.fQ:=_root_.id rfl
theorem Ol (b:Bool):(AV.bool b).cells=[.bool b]:=_root_.id rfl
theorem S0 (k:IntKind) (n:Int):(AV.int k n).cells=[.int k n]:=_root_.id rfl
theorem S1 (s:ByteArray):(AV.str s).cells=[.str s]:=_root_.id rfl
theorem Om:AV.ah.cells=[.ah]:=_root_.id rfl
theorem S2 (o:Nat) (xs:List AV):(AV.al o xs).cells=[.al o xs]:=_root_.id rfl
theorem S3 (xs:List AV):(AV.agg xs).cells=xs:=_root_.id rfl
theorem WI (f:Fn) (a b:List AV):(AV.fn f a b).cells=[.fn f a b]:=_root_.id rfl
theorem On:AV.fQ.cells=[.fQ]:=_root_.id rfl
theorem S4 (a b:Nat):(AV.ptr a b).cells=[.ptr a b]:=_root_.id rfl
theorem Oo (x:AV):(AV.ai x).cells=[.ai x]:=_root_.id rfl
theorem S5 (a:Nat):(AV.map a).cells=[.map a]:=_root_.id rfl
theorem uV (b:Bool):(AV.bool b).drop=.bool b:=_root_.id rfl
theorem S6 (k:IntKind) (n:Int):(AV.int k n).drop=.int k n:=_root_.id rfl
theorem S7 (s:ByteArray):(AV.str s).drop=.str s:=_root_.id rfl
theorem Oq:AV.ah.drop=.al 0 []:=_root_.id rfl
theorem S8 (o:Nat) (xs:List AV):(AV.al o xs).drop=.al 0 xs:=_root_.id rfl
theorem S9 (xs:List AV):(AV.agg xs).drop=.agg xs:=_root_.id rfl
theorem WJ (f:Fn) (a b:List AV):(AV.fn f a b).drop=.fn f a b:=_root_.id rfl
theorem Ot:AV.fQ.drop=.fQ:=_root_.id rfl
theorem Ta (a b:Nat):(AV.ptr a b).drop=.ptr a b:=_root_.id rfl
theorem Ou (x:AV):(AV.ai x).drop=.ai x:=_root_.id rfl
theorem Tb (a:Nat):(AV.map a).drop=.map a:=_root_.id rfl
theorem G9 (b:Bool):(AV.bool b).val=true:=_root_.id rfl
theorem Tc (k:IntKind) (n:Int):(AV.int k n).val=true:=_root_.id rfl
theorem Td (s:ByteArray):(AV.str s).val=true:=_root_.id rfl
theorem Ov:AV.ah.val=true:=_root_.id rfl
theorem Te (o:Nat) (xs:List AV):(AV.al o xs).val=true:=_root_.id rfl
theorem Tf (xs:List AV):(AV.agg xs).val=true:=_root_.id rfl
theorem WK (f:Fn) (a b:List AV):(AV.fn f a b).val=true:=_root_.id rfl
theorem Ow:AV.fQ.val=true:=_root_.id rfl
theorem Tg (a b:Nat):(AV.ptr a b).val=true:=_root_.id rfl
theorem Ox (x:AV):(AV.ai x).val=true:=_root_.id rfl
theorem Th (a:Nat):(AV.map a).val=true:=_root_.id rfl
theorem A0 (n:Nat) (b:Bool):(AV.bool b).aV n=true:=_root_.id rfl
theorem fM (n:Nat) (k:IntKind) (m:Int):(AV.int k m).aV n=true:=_root_.id rfl
theorem KG (n:Nat) (s:ByteArray):(AV.str s).aV n=true:=_root_.id rfl
theorem Ha (n:Nat):AV.ah.aV n=true:=_root_.id rfl
theorem b9 (n o:Nat) (xs:List AV):(AV.al o xs).aV n=aj n xs:=by rw [AV.aV]
theorem og (n:Nat) (xs:List AV):(AV.agg xs).aV n=aj n xs:=by rw [AV.aV]
theorem KH (n:Nat) (xs:List AV):(AV.tuple xs).aV n=aj n xs:=by rw [AV.aV]
theorem pY (n a b:Nat):(AV.ptr a b).aV n=decide (a < n):=by rw [AV.aV]
theorem KI (n a:Nat):(AV.map a).aV n=decide (a < n):=by rw [AV.aV]
theorem gU (n a b c d:Nat):(AV.bc a b c d).aV n=decide (a < n):=by rw [AV.aV]
theorem A4 (n:Nat) (x:AV):(AV.ai x).aV n=x.aV n:=by rw [AV.aV]
theorem WL (n:Nat) (f:Fn) (a b:List AV):(AV.fn f a b).aV n=(aj n a && aj n b):=by rw [AV.aV]
theorem Oy (n:Nat):AV.fQ.aV n=true:=_root_.id rfl
theorem cP (n:Nat):aj n []=true:=_root_.id rfl
theorem bH (n:Nat) (x:AV) (xs:List AV):aj n (x::xs)=(x.aV n && aj n xs):=by rw [aj]
section
variable (k:IntKind) (a b:Int) (φ:AV→Prop)
theorem Ti:dg .add (.int k a) (.int k b) φ=φ (.int k (k.wrap (a + b))):=by simp [dg]
theorem Tj:dg .sub (.int k a) (.int k b) φ=φ (.int k (k.wrap (a - b))):=by simp [dg]
theorem Tk:dg .mul (.int k a) (.int k b) φ=φ (.int k (k.wrap (a * b))):=by simp [dg]
theorem Tl:dg .rem (.int k a) (.int k b) φ=(b≠0∧φ (.int k (a.tmod b))):=by simp [dg]
theorem Tm:dg .quo (.int k a) (.int k b) φ=(b≠0∧φ (.int k (k.wrap (a.tdiv b)))):=by simp [dg]
theorem Tn:dg .eql (.int k a) (.int k b) φ=φ (.bool (decide (a=b))):=by simp [dg]
theorem To:dg .neq (.int k a) (.int k b) φ=φ (.bool (decide (a≠b))):=by simp [dg]
theorem Tp:dg .lss (.int k a) (.int k b) φ=φ (.bool (decide (a < b))):=by simp [dg]
theorem Tq:dg .leq (.int k a) (.int k b) φ=φ (.bool (decide (a≤b))):=by simp [dg]
theorem Tr:dg .gtr (.int k a) (.int k b) φ=φ (.bool (decide (b < a))):=by simp [dg]
theorem Ts:dg .geq (.int k a) (.int k b) φ=φ (.bool (decide (b≤a))):=by simp [dg]
theorem Tt (s t:ByteArray):dg .eql (.str s) (.str t) φ=φ (.bool (decide (s=t))):=by simp [dg]
theorem Tv (s t:ByteArray):dg .neq (.str s) (.str t) φ=φ (.bool (decide (s≠t))):=by simp [dg]
theorem Tw (s t:ByteArray):dg .add (.str s) (.str t) φ=(s.size + t.size < 9223372036854775808∧φ (.str (s++t))):=by simp [dg]
theorem Tx (q:Bool):Ag .not (.bool q) φ=φ (.bool (!q)):=_root_.id rfl
theorem Tz:Ag .neg (.int k a) φ=φ (.int k (k.wrap (0 - a))):=_root_.id rfl
theorem TA (p q:Bool):cV true (.bool p) (.bool q) φ=φ (.bool (decide (p≠q))):=_root_.id rfl
theorem TB (p q:Bool):cV false (.bool p) (.bool q) φ=φ (.bool (decide (p=q))):=_root_.id rfl
theorem abH (q:Bool) (ψ:Bool→Prop):eI (.bool q) ψ=ψ q:=_root_.id rfl
theorem TC (s:ByteArray) (H:List aa):fx (.str s) H φ=φ (.int .i64 s.size):=_root_.id rfl
theorem Oz (H:List aa):fx .ah H φ=φ (.int .i64 0):=_root_.id rfl
theorem TD (o:Nat) (xs:List AV) (H:List aa):fx (.al o xs) H φ=(xs.length < 9223372036854775808→φ (.int .i64 xs.length)):=_root_.id rfl
theorem TE (x y l c:Nat) (H:List aa):fx (.bc x y l c) H φ=φ (.int .i64 l):=_root_.id rfl
theorem OA (H:List aa):fx .jd H φ=φ (.int .i64 0):=_root_.id rfl
theorem TF (s:ByteArray):aN 0 (.str s)=True:=_root_.id rfl
theorem OB:aN 1 .ah=True:=_root_.id rfl
theorem TG (o:Nat) (xs:List AV):aN 1 (.al o xs)=True:=_root_.id rfl
theorem TH (x y l c:Nat):aN 1 (.bc x y l c)=True:=_root_.id rfl
theorem OC:aN 2 .jd=True:=_root_.id rfl
theorem TI (x:Nat):aN 2 (.map x)=True:=_root_.id rfl
theorem OD (q:Bool) (H:List aa):aQ none (.ai (.bool q)) H φ=φ (.bool q):=by simp [aQ,AV.one,oU]
theorem TJ (H:List aa):aQ none (.ai (.int k a)) H φ=φ (.int k a):=by simp [aQ,AV.one,oe]
theorem TK (s:ByteArray) (H:List aa):aQ none (.ai (.str s)) H φ=φ (.str s):=by simp [aQ,AV.one,AZ]
theorem TL (o:Nat) (xs:List AV) (H:List aa):aQ none (.ai (.al o xs)) H φ=φ (.al 0 xs):=by simp [aQ,AV.one,wz]
theorem OE (H:List aa):aQ none (.ai .ah) H φ=φ .ah:=by simp [aQ,AV.one,G7]
theorem WM (f:Fn) (x y:List AV) (H:List aa):aQ none (.ai (.fn f x y)) H φ=φ (.fn f x y):=by simp [aQ,AV.one,Q7]
theorem TM (x y:Nat):bU (.ptr x y) φ=φ (.ptr x y):=_root_.id rfl
theorem OF (x:AV):bU (.ai x) φ=φ (.ai x):=_root_.id rfl
theorem KJ (xs:List AV) (i:Nat):bF (.tuple xs) i φ=(i < xs.length∧φ (xs.getD i .any).ab):=_root_.id rfl
theorem TN (id o off:Nat) (sz:Option Nat):ak off sz (.ptr id o) φ=φ (.ptr id (o + off)):=by simp [ak]
end
section
variable {P:Px} {n0:Nat} {env:Env} {H:List aa} {Q:Exit→Env→List aa→Prop}
theorem KK (pass:Option Nat) (j:Nat):aI env pass j []=[]:=_root_.id rfl
theorem TO (pass:Option Nat) (j:Nat) (v:AV) (xs:List IX):aI env pass j (.c v::xs)=v.ab::aI env pass (j + 1) xs:=_root_.id rfl
theorem TP (j s:Nat) (xs:List IX):aI env none j (.t s::xs)=(get env s).ab::aI env none (j + 1) xs:=by simp [aI]
theorem TQ (j s:Nat) (xs:List IX):aI env (some 1999) j (.t s::xs)=(if 1999=j then get env s else (get env s).ab)::aI env (some 1999) (j + 1) xs:=by simp [aI]
theorem TR (p j s:Nat) (xs:List IX):aI env (some p) j (.t s::xs)=(if p=j then get env s else (get env s).ab)::aI env (some p) (j + 1) xs:=by simp [aI]
theorem ID (args:List IX):bh args none=none:=_root_.id rfl
theorem OG (x:Nat) (xs:List IX):bh (.t x::xs) (some 0)=some x:=by simp [bh]
theorem OH (x:Nat) (y:IX) (xs:List IX):bh (y::.t x::xs) (some 1)=some x:=by simp [bh]
theorem OI (x:Nat) (y z:IX) (xs:List IX):bh (y::z::.t x::xs) (some 2)=some x:=by simp [bh]
theorem IE:bh [] (some 1999)=none:=_root_.id rfl
theorem IF (x:IX):bh [x] (some 1999)=none:=_root_.id rfl
theorem IG (x y:IX):bh [x,y] (some 1999)=none:=_root_.id rfl
theorem IH (x y z:IX):bh [x,y,z] (some 1999)=none:=_root_.id rfl
theorem II (x y z u:IX):bh [x,y,z,u] (some 1999)=none:=_root_.id rfl
theorem CY:cQ env none=env:=_root_.id rfl
theorem CZ (d:Nat):cQ env (some d)=(d,(get env d).ab)::env:=_root_.id rfl
theorem KL (z:AV):put none z env=env:=_root_.id rfl
theorem KM (d:Nat) (z:AV):put (some d) z env=(d,z)::env:=_root_.id rfl
theorem ay (k:Nat) (v:AV) (t:Nat):get ((k,v)::env) t=if t=k then v else get env t:=_root_.id rfl
theorem TS (t:Nat):get [] t=.any:=_root_.id rfl
theorem aX {s:Nat} {R:AV→List aa→Prop} (m:Nat) (h0:n0≤m) (hb:(get env s).aV m=true) (h:R (get env s) (H.take m)):bW n0 [.t s] env H R:=
 ⟨m,h0,_,le_refl _,hb,h⟩
end
def Pure (P:Program) (g:FuncId) (xs:List AV) (v:AV):Prop:=∀ H,aq P g xs H fun r H'=>r=v∧H'=H
theorem Pure.mk {P:Program} {g:FuncId} {xs:List AV} {v:AV} (hb:aj 0 xs=true) (h:aq P g xs [] fun r H'=>r=v∧H'=[]):Pure P g xs v:=
 aq.frame (fun x hx=>(a8 0 xs).1 hb x hx) h
def pZ (n:Nat) (env:Env):Bool:=env.all fun p=>p.2.aV n
theorem Fc {n:Nat} {env:Env} (h:pZ n env=true) (t:Nat):(get env t).aV n=true:=by
 rcases get_mem (env:=env) (t:=t) rfl with h' | h'
 ·rw [h'];rfl
 ·exact List.all_eq_true.1 h _ h'
theorem KN (n:Nat):pZ n []=true:=_root_.id rfl
theorem Hb (n k:Nat) (v:AV) (env:Env):pZ n ((k,v)::env)=(v.aV n && pZ n env):=_root_.id rfl
theorem wA {n0:Nat} {env aG:Env} {H H':List aa} (he:env=aG) (h0:n0≤H'.length) (hb:pZ H'.length aG=true) (e:List aa) (hH:H=H'++e):sle n0 env H aG H':=by
 subst he;subst hH
 exact ⟨fun t=>le_refl _,.inr ⟨H'.length,h0,by simp,Fc hb⟩⟩
theorem aC {n0:Nat} {env aG:Env} {H H':List aa} (he:env=aG) (hH:H=H'):sle n0 env H aG H':=by
 subst he;subst hH;exact aA _ _ _
theorem au (i:Nat) (h:i + 1 < 9223372036854775808):IntKind.i64.wrap ((i:Int) + 1)=((i + 1:Nat):Int):=by
 show IntKind.wrap .i64 ((i:Int) + 1)=_
 unfold IntKind.wrap
 simp [IntKind.signed,IntKind.bits]
 omega
end Go.aL
end
section
namespace Go.aL
open Go
def gJ {α:Type} (x:α):α:=x
theorem TT {α:Type} (x:α):gJ x=x:=_root_.id rfl
section
variable {φ:AV→Prop}
theorem KO {op:BinOp} {x y:AV} (h:dg op x y φ):∃ z,dg op x y (fun w=>w=z)∧φ z:=by
 unfold dg at *
 split at h <;> (try exact h.elim)
 ·obtain ⟨h0,h⟩:=h
  split at h <;> first | exact ⟨_,⟨h0,rfl⟩,h⟩ | exact ⟨_,⟨h0,h.1,rfl⟩,h.2⟩ | exact h.elim
 ·split at h <;> first | exact ⟨_,rfl,h⟩ | exact ⟨_,⟨h.1,rfl⟩,h.2⟩ | exact h.elim
theorem Fe {op:BinOp} {x y:AV} (h:dZ op x y φ):∃ z,dZ op x y (fun w=>w=z)∧φ z:=by
 unfold dZ at *
 split at h <;> (try exact h.elim)
 obtain ⟨h0,h⟩:=h
 split at h <;> first | exact ⟨_,⟨h0,rfl⟩,h⟩ | exact h.elim
theorem C0 {neq:Bool} {x y:AV} (h:cV neq x y φ):∃ z,cV neq x y (fun w=>w=z)∧φ z:=by
 unfold cV at *
 split at h <;> first | exact ⟨_,rfl,h⟩ | exact h.elim
theorem OJ {op:UnOp} {x:AV} (h:Ag op x φ):∃ z,Ag op x (fun w=>w=z)∧φ z:=by
 unfold Ag at *
 split at h <;> first | exact ⟨_,rfl,h⟩ | exact h.elim
theorem IJ {sz:Option Nat} {x:AV} {H:List aa} (h:aQ sz x H φ):∃ z,aQ sz x H (fun w=>w=z)∧φ z:=by
 unfold aQ at *
 split at h <;> (try exact h.elim) <;> (split at h <;> (try exact h.elim)) <;> first | exact ⟨_,⟨h.1,rfl⟩,h.2⟩ | (split at h <;> exact ⟨_,⟨h.1,rfl⟩,h.2⟩)
theorem y0 {off:Nat} {sz:Option Nat} {xs:List AV} {g:AV→AV} (h:apart off sz xs fun z=>φ (g z)):∃ z,(apart off sz xs fun w=>g w=z)∧φ z:=by
 unfold apart at *
 split at h <;> first | exact ⟨_,⟨h.1,rfl⟩,h.2⟩ | exact ⟨_,⟨h.1,h.2.1,rfl⟩,h.2.2⟩
theorem Ff {off:Nat} {sz:Option Nat} {x:AV} (h:eZ off sz x φ):∃ z,eZ off sz x (fun w=>w=z)∧φ z:=by
 unfold eZ at *
 split at h <;> (try exact h.elim)
 exact y0 h
theorem wB {off:Nat} {sz:Option Nat} {x:AV} (h:ak off sz x φ):∃ z,ak off sz x (fun w=>w=z)∧φ z:=by
 unfold ak at *
 split at h <;> (try exact h.elim)
 ·exact ⟨_,rfl,h⟩
 ·exact y0 h
theorem wC {esz:Nat} {x i:AV} (h:ax esz x i φ):∃ z,ax esz x i (fun w=>w=z)∧φ z:=by
 unfold ax at *
 split at h <;> first | exact ⟨_,⟨h.1,h.2.1,rfl⟩,h.2.2⟩ | exact h.elim
theorem ye {x i:AV} (h:bK x i φ):∃ z,bK x i (fun w=>w=z)∧φ z:=by
 unfold bK at *
 split at h <;> first | exact ⟨_,⟨h.1,h.2.1,rfl⟩,h.2.2⟩ | exact h.elim
theorem yf {n:Nat} {x i:AV} (h:bT n x i φ):∃ z,bT n x i (fun w=>w=z)∧φ z:=by
 unfold bT at *
 split at h <;> first | exact ⟨_,⟨h.1,h.2.1,h.2.2.1,rfl⟩,h.2.2.2⟩ | exact h.elim
theorem A5 {x:AV} {i:Nat} (h:bF x i φ):∃ z,bF x i (fun w=>w=z)∧φ z:=by
 unfold bF at *
 split at h <;> first | exact ⟨_,⟨h.1,rfl⟩,h.2⟩ | exact h.elim
theorem yg {x:AV} (h:bU x φ):∃ z,bU x (fun w=>w=z)∧φ z:=by
 unfold bU at *
 split at h <;> first | exact ⟨_,rfl,h⟩ | exact h.elim
theorem A6 {k:IntKind} {x:AV} (h:cF k x φ):∃ z,cF k x (fun w=>w=z)∧φ z:=by
 unfold cF at *
 split at h <;> first | exact ⟨_,rfl,h⟩ | exact h.elim
theorem OK {big:Bool} {x y:AV} (h:xN big x y φ):∃ z,xN big x y (fun w=>w=z)∧φ z:=by
 unfold xN at *
 split at h <;> first | exact ⟨_,rfl,h⟩ | exact h.elim
theorem oV {x:Option AV} {d:Nat} {c1 c2:Nat→Prop} {g:Nat→AV} (h:dQ x d fun k=>c1 k∧c2 k∧φ (g k)):∃ z,(dQ x d fun k=>c1 k∧c2 k∧g k=z)∧φ z:=by
 unfold dQ at *
 split at h
 ·exact ⟨_,⟨h.1,h.2.1,rfl⟩,h.2.2⟩
 ·exact ⟨_,⟨h.1,h.2.1,h.2.2.1,rfl⟩,h.2.2.2⟩
 ·exact h.elim
theorem iV {x:Option AV} {d:Nat} {ψ:(AV→Prop)→Nat→Prop} (h:dQ x d (ψ φ)) (hd:∀ k,ψ φ k→∃ z,ψ (fun w=>w=z) k∧φ z):∃ z,dQ x d (ψ fun w=>w=z)∧φ z:=by
 unfold dQ at *
 split at h
 ·exact hd _ h
 ·obtain ⟨z,h2,h3⟩:=hd _ h.2;exact ⟨z,⟨h.1,h2⟩,h3⟩
 ·exact h.elim
theorem Fg {esz:Nat} {x:AV} {lo hi mx:Option AV} (h:eR esz x lo hi mx φ):∃ z,eR esz x lo hi mx (fun w=>w=z)∧φ z:=by
 unfold eR at *
 split at h <;> (try exact h.elim)
 rename_i xs fP
 cases mx with
 | none=>exact iV (ψ:=fun φ h=>dQ lo 0 fun l=>l≤h∧h≤xs.length∧φ (.al 0 ((xs.take h).drop l))) h fun k h=>oV (c1:=fun l=>l≤k) (c2:=fun _=>k≤xs.length) (g:=fun l=>.al 0 ((xs.take k).drop l)) h
 | some m=>
   refine iV (ψ:=fun φ h=>dQ lo 0 fun l=>l≤h∧h≤xs.length∧hi.isSome=true∧dQ (some m) 0 fun m=>m=h∧(∀ y∈xs,y.cells.length=esz)∧φ (.al esz ((xs.take h).drop l))) h fun k h=>?_
   refine iV (ψ:=fun φ l=>l≤k∧k≤xs.length∧hi.isSome=true∧dQ (some m) 0 fun m=>m=k∧(∀ y∈xs,y.cells.length=esz)∧φ (.al esz ((xs.take k).drop l))) h fun l h=>?_
   obtain ⟨h1,h2,h3,h4⟩:=h
   obtain ⟨z,k1,k2⟩:=oV (g:=fun _=>.al esz ((xs.take k).drop l)) h4
   exact ⟨z,⟨h1,h2,h3,k1⟩,k2⟩
theorem C1 {esz:Nat} {x:AV} {lo hi mx:Option AV} (h:bm esz x lo hi mx φ):∃ z,bm esz x lo hi mx (fun w=>w=z)∧φ z:=by
 unfold bm gQ oI at *
 split at h
 ·rename_i id off len cap
  split at h
  rotate_left
  ·rename_i m
   obtain ⟨h1,h2⟩:=h
   have:=iV (ψ:=fun φ m=>dQ hi len fun h=>dQ lo 0 fun l=>l≤h∧h≤m∧m≤cap∧φ (.bc id (if m=l then off else off + l * esz) (h - l) (m - l))) h2 fun m h=>
    iV (ψ:=fun φ h=>dQ lo 0 fun l=>l≤h∧h≤m∧m≤cap∧φ (.bc id (if m=l then off else off + l * esz) (h - l) (m - l))) h fun k h=>
     iV (ψ:=fun φ l=>l≤k∧k≤m∧m≤cap∧φ (.bc id (if m=l then off else off + l * esz) (k - l) (m - l))) h fun l h=>⟨_,⟨h.1,h.2.1,h.2.2.1,rfl⟩,h.2.2.2⟩
   obtain ⟨z,k1,k2⟩:=this
   exact ⟨z,⟨h1,k1⟩,k2⟩
  have h2:=h
  have:=iV (ψ:=fun φ h=>dQ lo 0 fun l=>l≤h∧h≤cap∧φ (.bc id (if cap=l then off else off + l * esz) (h - l) (cap - l))) h2 fun k h=>oV (c1:=fun l=>l≤k) (c2:=fun _=>k≤cap) (g:=fun l=>.bc id (if cap=l then off else off + l * esz) (k - l) (cap - l)) h
  obtain ⟨z,k1,k2⟩:=this
  exact ⟨z,k1,k2⟩
 ·obtain ⟨z,k1,k2⟩:=Fg h.2
  exact ⟨z,⟨h.1,k1⟩,k2⟩
theorem yh {x:AV} {lo hi:Option AV} (h:cn x lo hi φ):∃ z,cn x lo hi (fun w=>w=z)∧φ z:=by
 unfold cn at *
 split at h <;> (try exact h.elim)
 rename_i s
 exact iV (ψ:=fun φ h=>dQ lo 0 fun l=>l≤h∧h≤s.size∧φ (.str (s.extract l h))) h fun k h=>oV (c1:=fun l=>l≤k) (c2:=fun _=>k≤s.size) (g:=fun l=>.str (s.extract l k)) h
theorem C2 {kd:Nat} {z m k:AV} {ok:Bool} {H:List aa} (h:cv kd z m k ok H φ):∃ y,cv kd z m k ok H (fun w=>w=y)∧φ y:=by
 unfold cv at *
 split at h <;> (try exact h.elim) <;> first | exact ⟨_,rfl,h⟩ | exact ⟨_,⟨h.1,rfl⟩,h.2⟩ | (split at h <;> (try exact h.elim) <;> first | exact ⟨_,rfl,h⟩ | exact ⟨_,⟨h.1,rfl⟩,h.2⟩ | (split at h <;> (try exact h.elim) <;> first | exact ⟨_,rfl,h⟩ | exact ⟨_,⟨h.1,rfl⟩,h.2⟩))
theorem ua {esz:Nat} {own:Nat}:∀ {ps:List (Nat×AV)} {zs:List AV},bj zs esz ps (fun v=>φ (.al own v))→∃ z,bj zs esz ps (fun v=>.al own v=z)∧φ z
 | [],zs,h=>⟨_,rfl,h⟩
 | (i,x)::r,zs,h=>by
   obtain ⟨z,k1,k2⟩:=ua h.2.2.2
   exact ⟨z,⟨h.1,h.2.1,h.2.2.1,k1⟩,k2⟩
theorem y7:∀ {ps:List (Nat×Nat×AV)} {zs:List AV},gO zs ps (fun v=>φ (.agg v))→∃ z,gO zs ps (fun v=>.agg v=z)∧φ z
 | [],zs,h=>⟨_,rfl,h⟩
 | (off,sz,x)::r,zs,h=>by
   obtain ⟨z,k1,k2⟩:=y7 h.2.2.2
   exact ⟨z,⟨h.1,h.2.1,h.2.2.1,k1⟩,k2⟩
end
def fX (v:AV) (A B:Prop):Prop:=eI v fun q=>(q=true→A)∧(q=false→B)
@[congr] theorem Q8 {v v':AV} {A B:Prop} (h:gJ v=v'):fX v A B=fX v' A B:=by subst h;rfl
theorem OL (A B:Prop):fX (.bool true) A B=A:=by simp [fX,eI]
theorem OM (A B:Prop):fX (.bool false) A B=B:=by simp [fX,eI]
theorem ON (b:Bool) (A B:Prop):fX (.bool (!b)) A B=fX (.bool b) B A:=by cases b <;> simp [fX,eI]
theorem OO (p:Prop) [Decidable p] (A B:Prop):fX (.bool (decide p)) A B=((p→A)∧(¬ p→B)):=by simp [fX,eI]
theorem uW {b:Bool} {A B:Prop} (h1:b=true→A) (h2:b=false→B):fX (.bool b) A B:=⟨h1,h2⟩
def dS (v:AV) (g:Nat) (want:Bool) (env:Env) (yes no:Env→Prop):Prop:=
 match v with
 | .bool b=>(b=want→yes ((g,.bool want)::env))∧(b=(!want)→no ((g,.bool (!want))::env))
 | .tuple []=>no env
 | _=>False
@[congr] theorem OP {v v':AV} {g:Nat} {want:Bool} {env:Env} {yes no:Env→Prop} (h:gJ v=v'):dS v g want env yes no=dS v' g want env yes no:=by subst h;rfl
section
variable (g:Nat) (env:Env) (yes no:Env→Prop)
theorem WN:dS (.bool true) g true env yes no=yes ((g,.bool true)::env):=by simp [dS]
theorem WO:dS (.bool true) g false env yes no=no ((g,.bool true)::env):=by simp [dS]
theorem WQ:dS (.bool false) g true env yes no=no ((g,.bool false)::env):=by simp [dS]
theorem WR:dS (.bool false) g false env yes no=yes ((g,.bool false)::env):=by simp [dS]
theorem abI (want:Bool):dS (.tuple []) g want env yes no=no env:=_root_.id rfl
theorem WS (p:Prop) [Decidable p]:dS (.bool (decide p)) g true env yes no=((p→yes ((g,.bool true)::env))∧(¬ p→no ((g,.bool false)::env))):=by simp [dS]
theorem WT (p:Prop) [Decidable p]:dS (.bool (decide p)) g false env yes no=((¬ p→yes ((g,.bool false)::env))∧(p→no ((g,.bool true)::env))):=by simp [dS]
end
def y8 (P:Px) (g:FuncId) (xs:List AV) (H:List aa) (K:AV→List aa→Prop):Prop:=∃ bR,xY xs bR∧ej P g bR H K
@[congr] theorem Q9 {P:Px} {g:FuncId} {xs xs':List AV} {H H':List aa} {K:AV→List aa→Prop} (h:gJ xs=xs') (h2:H=H'):y8 P g xs H K=y8 P g xs' H' K:=by subst h;subst h2;rfl
theorem KP {P:Program} {lo:Option Nat} {g:FuncId} {xs ys:List AV} {H:List aa} {R K:AV→List aa→Prop} (hc:aq P g ys H R) (hl:xY xs ys) (hk:∀ r H',R r H'→K r H'):y8 ⟨P,lo⟩ g xs H K:=⟨ys,hl,ej.of (hc.mono hk)⟩
theorem af {P:Program} {lo:Option Nat} {g:FuncId} {xs:List AV} {H:List aa} {R K:AV→List aa→Prop} (hc:aq P g xs H R) (hk:∀ r H',R r H'→K r H'):y8 ⟨P,lo⟩ g xs H K:=⟨xs,b8 _,ej.of (hc.mono hk)⟩
theorem ae {P:Program} {lo:Option Nat} {g:FuncId} {xs:List AV} {v:AV} {H:List aa} {K:AV→List aa→Prop} (hc:Pure P g xs v) (hk:K v H):y8 ⟨P,lo⟩ g xs H K:=
 ⟨xs,b8 _,ej.of ((hc H).mono fun r H' ⟨h1,h2⟩=>by rw [h1,h2];exact hk)⟩
theorem OQ {P:Px} {env:Env} {H:List aa} (g:FuncId) (first cap:List AV) (args:List IX) (pass:Option Nat) (K:AV→Env→List aa→Prop):pq P (.fn (.func g) first cap) args pass env H K =
 y8 P g (first.map AV.ab++aI env pass 0 args++cap.map AV.ab) H (fun r H'=>K r (cQ env (bh args pass)) H'):=_root_.id rfl
@[congr] theorem Ra {P:Px} {f f':AV} {args:List IX} {pass:Option Nat} {env:Env} {H:List aa} {K:AV→Env→List aa→Prop} (h:gJ f=f'):pq P f args pass env H K=pq P f' args pass env H K:=by subst h;rfl
def C3 (P:Px) (st:Bool) (g:FuncId) (xs:List AV) (H:List aa) (K:AV→Prop):Prop:=
 ∃ x,(match st with
  | true=>∃ bR,xY xs bR∧aq P.prog g bR H (fun r H'=>r=x∧H'=H)
  | false=>∀ H,∃ bR,xY xs bR∧aq P.prog g bR H (fun r H'=>r=x∧H'=H))∧K x
@[congr] theorem Rb {P:Px} {st:Bool} {g:FuncId} {xs xs':List AV} {H:List aa} {K:AV→Prop} (h:gJ xs=xs'):C3 P st g xs H K=C3 P st g xs' H K:=by subst h;rfl
theorem aE {P:Program} {lo:Option Nat} {st:Bool} {g:FuncId} {xs:List AV} {v:AV} {H:List aa} {K:AV→Prop} (hc:Pure P g xs v) (hk:K v):C3 ⟨P,lo⟩ st g xs H K:=
 ⟨v,(by cases st <;> first | exact ⟨xs,b8 _,hc H⟩ | exact fun H=>⟨xs,b8 _,hc H⟩),hk⟩
def qc (P:Px) (st:Bool) (f:AV) (xs:List AV) (H:List aa) (K:AV→Prop):Prop:=
 match f with
 | .fn (.func g) first cap=>C3 P st g (first.map AV.ab++xs++cap.map AV.ab) H K
 | _=>False
@[congr] theorem OR {P:Px} {st:Bool} {f f':AV} {xs xs':List AV} {H:List aa} {K:AV→Prop} (h:gJ f=f') (h2:xs=xs'):qc P st f xs H K=qc P st f' xs' H K:=by subst h;subst h2;rfl
theorem IK {P:Px} {st:Bool} (g:FuncId) (first cap xs:List AV) (H:List aa) (K:AV→Prop):qc P st (.fn (.func g) first cap) xs H K=C3 P st g (first.map AV.ab++xs++cap.map AV.ab) H K:=_root_.id rfl
def iw (x:AV) (H:List aa) (φ:AV→Prop):Prop:=match x with | .al _ xs=>φ (.int .i64 xs.length) | x=>fx x H φ
@[congr] theorem Rc {x x':AV} {H:List aa} {φ:AV→Prop} (h:gJ x=x'):iw x H φ=iw x' H φ:=by subst h;rfl
theorem IM {x:AV} {H:List aa} {φ:AV→Prop} (h:iw x H φ):∃ z,fx x H (fun w=>w=z)∧φ z:=by
 cases x with
 | al o xs=>exact ⟨_,fun _=>rfl,h⟩
 | map id=>
   simp only [iw,fx] at h ⊢
   split at h
   ·exact ⟨_,rfl,h⟩
   ·exact h.elim
 | _=>first | exact ⟨_,rfl,h⟩ | exact False.elim h
def oW (kd:Nat) (neq:Bool) (x:AV) (φ:AV→Prop):Prop:=match isNil kd x with | some b=>φ (.bool (if neq then !b else b)) | none=>False
@[congr] theorem Nr {kd:Nat} {neq:Bool} {x x':AV} {φ:AV→Prop} (h:gJ x=x'):oW kd neq x φ=oW kd neq x' φ:=by subst h;rfl
def wD (o:ca) (ρ:IX→AV) (H:List aa) (K:AV→Prop):Prop:=
 match o with
 | .set i false=>K (ρ i).ab
 | .pick c a b=>fX (ρ c) (K (ρ a).ab) (K (ρ b).ab)
 | .bin op i j=>dg op (ρ i) (ρ j) K
 | .shift op i j=>dZ op (ρ i) (ρ j) K
 | .iC neq i j=>cV neq (ρ i) (ρ j) K
 | .jw kd neq i=>oW kd neq (ρ i) K
 | .un op i=>Ag op (ρ i) K
 | .l7 i=>(ρ i).val=true∧K (.ai (ρ i))
 | .build z ps=>cA z.cells (ps.map fun q=>(q.1,q.2.1,ρ q.2.2)) K
 | .buildSlice own esz z len ps=>bj (List.replicate len (aT z)) esz (ps.map fun q=>(q.1,ρ q.2)) fun xs=>K (.al own xs)
 | .load sz i=>aQ sz (ρ i) H K
 | .nilCheck i=>bU (ρ i) K
 | .fieldAddr off sz i=>ak off sz (ρ i) K
 | .field off sz i=>eZ off sz (ρ i) K
 | .indexAddr esz i j=>(∀ own xs,ρ i=.al own xs→∀ z∈xs,z.cells.length=esz)∧ax esz (ρ i) (ρ j) K
 | .di i j=>bK (ρ i) (ρ j) K
 | .dX n i j=>bT n (ρ i) (ρ j) K
 | .slice esz i lo hi mx=>bm esz (ρ i) (lo.map ρ) (hi.map ρ) (mx.map ρ) K
 | .dY i lo hi=>cn (ρ i) (lo.map ρ) (hi.map ρ) K
 | .len kd i=>aN kd (ρ i)∧iw (ρ i) H K
 | .lookup kd z m k ok=>cv kd z (ρ m) (ρ k) ok H K
 | .fn f first cap=>K (.fn f (first.map fun x=>(ρ x).ab) (cap.map fun x=>(ρ x).ab))
 | .extract i k=>bF (ρ i) k K
 | .eU k i=>cF k (ρ i) K
 | .mx big i j=>xN big (ρ i) (ρ j) K
 | _=>False
theorem C4 {P:Px} {o:ca} {ρ:IX→AV} {H:List aa} {K:AV→Prop} (h:wD o ρ H K):∃ x,db P o ρ H x∧K x:=by
 unfold wD at h
 split at h
 ·exact ⟨_,rfl,h⟩
 ·unfold fX eI at h
  simp only [db,eI]
  split at h
  ·rename_i b hb
   cases b with
   | true=>exact ⟨_,⟨fun _=>rfl,fun e=>by cases e⟩,h.1 rfl⟩
   | false=>exact ⟨_,⟨fun e=>(by cases e),fun _=>rfl⟩,h.2 rfl⟩
  ·exact h.elim
 ·exact KO h
 ·exact Fe h
 ·exact C0 h
 ·unfold oW at h
  split at h
  ·rename_i b hb
   refine ⟨_,?_,h⟩
   simp only [db,cZ,hb]
  ·exact h.elim
 ·exact OJ h
 ·exact ⟨_,⟨h.1,rfl⟩,h.2⟩
 ·exact y7 h
 ·exact ua h
 ·exact IJ h
 ·exact yg h
 ·exact wB h
 ·exact Ff h
 ·obtain ⟨z,k1,k2⟩:=wC h.2
  exact ⟨z,⟨h.1,k1⟩,k2⟩
 ·exact ye h
 ·exact yf h
 ·exact C1 h
 ·exact yh h
 ·obtain ⟨z,k1,k2⟩:=IM h.2
  exact ⟨z,⟨h.1,k1⟩,k2⟩
 ·exact C2 h
 ·exact ⟨_,rfl,h⟩
 ·exact A5 h
 ·exact A6 h
 ·exact OK h
 ·exact h.elim
theorem IN {P:Px} {o:ca} {ρ:IX→AV} {K:AV→Prop} (h:wD o ρ [] K):∃ x,(∀ H,db P o ρ H x)∧K x:=by
 obtain ⟨x,h1,h2⟩:=C4 (P:=P) h
 have hs:o.stays=true:=by
  cases o <;> first | rfl | exact h.elim
 exact ⟨x,fun H=>by have:=yQ (e:=H) hs h1;simpa using this,h2⟩
def lW (P:Px) (st:Bool) (o:ca) (ρ:IX→AV) (H:List aa) (K:AV→Prop):Prop:=
 match o with
 | .call f args none=>qc P st (ρ f) (args.map fun x=>(ρ x).ab) H K
 | o=>wD o ρ (match st with | true=>H | false=>[]) K
theorem KQ {P:Px} {st:Bool} {o:ca} {ρ:IX→AV} {H:List aa} {K:AV→Prop} (h:lW P st o ρ H K):∃ x,dv P st o ρ H x∧K x:=by
 unfold lW at h
 split at h
 ·rename_i f args
  unfold qc at h
  split at h
  ·rename_i g first cap e
   obtain ⟨x,h1,h2⟩:=h
   cases st with
   | true=>exact ⟨x,by simp only [dv,db,e];exact h1,h2⟩
   | false=>exact ⟨x,by simp only [dv,db,e];exact h1,h2⟩
  ·exact h.elim
 ·cases st with
  | true=>exact C4 h
  | false=>exact IN h
def Hc (P:Px) (st:Bool) (o:bB) (env:Env) (H:List aa) (K:Env→Prop):Prop:=
 match o.g with
 | none=>lW P st o.op (ap env) H fun x=>K (put o.dst x env)
 | some (g,want)=>dS (get env g) g want env (fun _=>lW P st o.op (ap env) H fun x=>K (put o.dst x env)) (fun _=>K (put o.dst (.tuple []) env))
theorem C5 {P:Px} {st:Bool} {o:bB} {env:Env} {H:List aa} {K1 K2:Env→Prop} (h:Hc P st o env H K1) (hK:∀ e,K1 e→K2 e):tM P st o env H K2:=by
 unfold Hc at h
 unfold tM
 split at h
 ·rename_i e
  rw [e]
  obtain ⟨x,h1,h2⟩:=KQ h
  exact ⟨x,h1,hK _ h2⟩
 ·rename_i g want e
  rw [e]
  unfold dS at h
  unfold iF
  dsimp only
  split at h
  ·rename_i b hb
   rw [hb]
   refine ⟨fun eb=>?_,fun eb=>hK _ (h.2 eb)⟩
   obtain ⟨x,h1,h2⟩:=KQ (h.1 eb)
   exact ⟨x,h1,hK _ h2⟩
  ·rename_i hb
   rw [hb]
   exact hK _ h
  ·exact h.elim
theorem C6 {P:Px} {o:ca} {dst:Option Nat} {env:Env} {H:List aa} {K1 K2:Env→List aa→Prop} (h:bA P o dst env H K1) (hK:∀ e H',K1 e H'→K2 e H'):bA P o dst env H K2:=
 oM (fun _ _=>rfl) h fun mods H' _ _ _ hk=>hK _ _ hk
theorem sJ {P:Px} {o:bB} {env:Env} {H:List aa} {K1 K2:Env→List aa→Prop} (h:rZ P o env H K1) (hK:∀ e H',K1 e H'→K2 e H'):rZ P o env H K2:=by
 unfold rZ at *
 split at h
 ·exact C6 h hK
 ·rename_i g want e
  unfold iF at *
  split at h
  ·exact ⟨fun eb=>C6 (h.1 eb) hK,fun eb=>hK _ _ (h.2 eb)⟩
  ·exact hK _ _ h
  ·exact h.elim
theorem sK {P:Px}:∀ {ops:List bB} {env:Env} {H:List aa} {K1 K2:Env→List aa→Prop},jl P ops env H K1→(∀ e H',K1 e H'→K2 e H')→jl P ops env H K2
 | [],_,_,_,_,h,hK=>hK _ _ h
 | o::r,_,_,_,_,h,hK=>sJ h fun _ _ h=>sK h hK
def jq (P:Px):DT→Env→List aa→(Env→List aa→Prop)→Prop
 | .done,env,H,K=>K env H
 | .take st o r,env,H,K=>Hc P st o env H fun env=>jq P r env H K
 | .br o t rest,env,H,K=>rZ P o env H (fun env H=>jq P t env H K)∧jq P rest env H K
 | .nil,_,_,_=>True
theorem rh {P:Px}:∀ {t:DT} {env:Env} {H:List aa} {K1 K2:Env→List aa→Prop},jq P t env H K1→(∀ e H',K1 e H'→K2 e H')→uL P t env H K2
 | .done,_,_,_,_,h,hK=>hK _ _ h
 | .take st o r,_,_,_,_,h,hK=>C5 h fun _ h=>rh h hK
 | .br o t rest,_,_,_,_,h,hK=>⟨sJ h.1 fun _ _ h=>rh h hK,rh h.2 hK⟩
 | .nil,_,_,_,_,h,hK=>trivial
def wE (P:Px) (f:AV) (lc:iT) (env:Env) (H:List aa) (K:Option Code→List aa→Prop):Prop:=
 match f with
 | .fn (.func g) first cap=>(∀ (as:Array Value) (w:World),(callFunc g as).run P.prog w=.ok (.enter g as) w)∧
    ∃ bR,xY (first.map AV.ab++[.nH H.length]++cap.map AV.ab) bR∧ej P g bR (H++[.loop .ready lc (kW lc.n env)]) fun _ H'=>behind H.length H' K
 | _=>False
theorem y9 {j:Option Code} {Q1 Q2:Exit→Env→List aa→Prop} {env:Env} {H:List aa} (h:pP j Q1 env H) (hQ:∀ x e H',Q1 x e H'→Q2 x e H'):pP j Q2 env H:=by
 unfold pP at *
 split at h <;> first | exact hQ _ _ _ h | exact h.elim
theorem ub {id:Nat} {H:List aa} {K1 K2:Option Code→List aa→Prop} (h:behind id H K1) (hK:∀ j H',K1 j H'→K2 j H'):behind id H K2:=by
 unfold behind at *
 split at h <;> first | exact hK _ _ h | exact h.elim
def lX (P:Px) (n0:Nat):IR→Env→List aa→(Exit→Env→List aa→Prop)→Prop
 | .skip,env,H,Q=>Q .normal env H
 | .region ops live,env,H,Q=>jl P ops env H fun aG H'=>Q .normal (eD live aG) H'
 | .draw t live,env,H,Q=>jq P t env H fun aG H'=>Q .normal (eD live aG) H'
 | .seq a b,env,H,Q=>lX P n0 a env H fun e aG H'=>match e with
   | .normal=>lX P n0 b aG H' Q
   | e=>Q e aG H'
 | .cond x a b,env,H,Q=>fX (ap env x) (lX P n0 a env H Q) (lX P n0 b env H Q)
 | .block id a,env,H,Q=>lX P n0 a env H fun e aG H'=>match e with
   | .exit id'=>if id'=id then Q .normal aG H' else Q (.exit id') aG H'
   | e=>Q e aG H'
 | .loop a,env,H,Q=>∃ (ι:Type) (I:ι→Prop) (se:ι→Env) (sh:ι→List aa) (μ:ι→Nat),(∃ i,I i∧Ig P.lo n0 env H (se i) (sh i))∧
    ∀ i,I i→lX P n0 a (se i) (sh i) fun e aG H'=>match e with
     | .normal=>∃ j,I j∧μ j < μ i∧Ig P.lo n0 aG H' (se j) (sh j)
     | e=>Q e aG H'
 | .exit id,env,H,Q=>Q (.exit id) env H
 | .ret,env,H,Q=>Q .ret env H
 | .never,env,H,Q=>False
 | .jk f lc,env,H,Q=>wE P (ap env f) lc env H fun j H''=>pP j Q env H''
theorem uX {P:Px} {n0:Nat}:∀ {ir:IR} {env:Env} {H:List aa} {Q1 Q2:Exit→Env→List aa→Prop},lX P n0 ir env H Q1→(∀ x e H',Q1 x e H'→Q2 x e H')→mi P n0 ir env H Q2:=by
 intro ir
 induction ir with
 | skip=>exact fun h hQ=>hQ _ _ _ h
 | region ops live=>exact fun h hQ=>sK h fun _ _ h=>hQ _ _ _ h
 | draw t live=>exact fun h hQ=>rh h fun _ _ h=>hQ _ _ _ h
 | seq a b Fh TU=>
   exact fun h hQ=>Fh h fun x e H' h=>by
    cases x with
    | normal=>exact TU h hQ
    | _=>exact hQ _ _ _ h
 | cond x a b Fh TU=>
   intro env H Q1 Q2 h hQ
   unfold lX fX eI at h
   unfold mi eI
   split at h
   ·exact ⟨fun e=>Fh (h.1 e) hQ,fun e=>TU (h.2 e) hQ⟩
   ·exact h.elim
 | block id a Fh=>
   exact fun h hQ=>Fh h fun x e H' h=>by
    cases x with
    | exit id'=>
      dsimp only at h ⊢
      split
      ·rename_i bp;rw [if_pos bp] at h;exact hQ _ _ _ h
      ·rename_i bp;rw [if_neg bp] at h;exact hQ _ _ _ h
    | _=>exact hQ _ _ _ h
 | loop a Fh=>
   intro env H Q1 Q2 h hQ
   obtain ⟨ι,I,se,sh,μ,h0,hs⟩:=h
   exact ⟨ι,I,se,sh,μ,h0,fun i hi=>Fh (hs i hi) fun x e H' h=>by
    cases x with
    | normal=>exact h
    | _=>exact hQ _ _ _ h⟩
 | exit id=>exact fun h hQ=>hQ _ _ _ h
 | ret=>exact fun h hQ=>hQ _ _ _ h
 | never=>exact fun h _=>h.elim
 | jk f lc=>
   intro env H Q1 Q2 h hQ
   unfold lX wE at h
   unfold mi
   split at h
   ·rename_i g first cap e
    obtain ⟨h1,bR,h2,h3⟩:=h
    rw [e]
    exact ⟨h1,bR,h2,h3.mono fun _ H' hb=>ub hb fun j H'' hg=>y9 hg hQ⟩
   ·exact h.elim
theorem iU.calls {P:Program} {f:FuncId} {fi:rc} (h:iU P f fi) {args:List AV} {H:List aa} {R:AV→List aa→Prop} (hn:Nat.ble args.length fi.n=true)
 (hw:lX P H.length fi.ir (bX 0 args) H fun e env H'=>(e=.normal∨e=.ret)∧bW H.length fi.rs env H' R):aq P f args H R:=
 h.wv (Nat.le_of_ble_eq_true hn) (uX hw fun _ _ _ h=>h)
theorem iU.wF {P:Program} {f:FuncId} {fi:rc} (h:iU P f fi) {args:List AV} {H:List aa} {R:AV→List aa→Prop} (hn:Nat.ble args.length fi.n=true)
 (hw:lX ⟨P,some H.length⟩ H.length fi.ir (bX 0 args) H fun e env H'=>(e=.normal∨e=.ret)∧lE (kH H.length) H.length fi.rs env H' R):aq P f args H R:=
 h.Ob (Nat.le_of_ble_eq_true hn) (uX hw fun _ _ _ h=>h)
section
variable {P:Px} {n0:Nat} {env:Env} {H:List aa} {Q:Exit→Env→List aa→Prop}
theorem KR:lX P n0 .skip env H Q=Q .normal env H:=_root_.id rfl
theorem Fi (ops:List bB) (live:Option (List Nat)):lX P n0 (.region ops live) env H Q=jl P ops env H fun aG H'=>Q .normal (eD live aG) H':=_root_.id rfl
theorem KS (t:DT) (live:Option (List Nat)):lX P n0 (.draw t live) env H Q=jq P t env H fun aG H'=>Q .normal (eD live aG) H':=_root_.id rfl
theorem OS (a b:IR):lX P n0 (.seq a b) env H Q=lX P n0 a env H fun e aG H'=>match e with
 | .normal=>lX P n0 b aG H' Q
 | e=>Q e aG H':=_root_.id rfl
theorem C7 (x:IX) (a b:IR):lX P n0 (.cond x a b) env H Q=fX (ap env x) (lX P n0 a env H Q) (lX P n0 b env H Q):=_root_.id rfl
theorem IP (id:Nat) (a:IR):lX P n0 (.block id a) env H Q=lX P n0 a env H fun e aG H'=>match e with
 | .exit id'=>if id'=id then Q .normal aG H' else Q (.exit id') aG H'
 | e=>Q e aG H':=_root_.id rfl
theorem za (f:IX) (lc:iT):lX P n0 (.jk f lc) env H Q=wE P (ap env f) lc env H fun j H''=>pP j Q env H'':=_root_.id rfl
theorem KT (id:Nat):lX P n0 (.exit id) env H Q=Q (.exit id) env H:=_root_.id rfl
theorem OT:lX P n0 .ret env H Q=Q .ret env H:=_root_.id rfl
@[congr] theorem VV {ir:IR} {aG:Env} {H':List aa} (h:gJ env=aG) (h2:H=H'):lX P n0 ir env H Q=lX P n0 ir aG H' Q:=by subst h;subst h2;rfl
@[congr] theorem TV {ops:List bB} {aG:Env} {H':List aa} {K:Env→List aa→Prop} (h:gJ env=aG) (h2:H=H'):jl P ops env H K=jl P ops aG H' K:=by subst h;subst h2;rfl
@[congr] theorem TW {t:DT} {aG:Env} {H':List aa} {K:Env→List aa→Prop} (h:gJ env=aG) (h2:H=H'):jq P t env H K=jq P t aG H' K:=by subst h;subst h2;rfl
theorem KU (K:Env→List aa→Prop):jl P [] env H K=K env H:=_root_.id rfl
theorem TX (d:Option Nat) (op:ca) (r:List bB) (K:Env→List aa→Prop):jl P (⟨none,d,op⟩::r) env H K=bA P op d env H fun env H=>jl P r env H K:=_root_.id rfl
theorem TY (g:Nat) (w:Bool) (d:Option Nat) (op:ca) (r:List bB) (K:Env→List aa→Prop):jl P (⟨some (g,w),d,op⟩::r) env H K =
 dS (get env g) g w env (fun env=>bA P op d env H fun env H=>jl P r env H K) (fun env=>jl P r (put d (.tuple []) env) H K):=_root_.id rfl
theorem WU (d:Option Nat) (op:ca) (K:Env→List aa→Prop):rZ P ⟨none,d,op⟩ env H K=bA P op d env H K:=_root_.id rfl
theorem WV (g:Nat) (w:Bool) (d:Option Nat) (op:ca) (K:Env→List aa→Prop):rZ P ⟨some (g,w),d,op⟩ env H K =
 dS (get env g) g w env (fun env=>bA P op d env H K) (fun env=>K (put d (.tuple []) env) H):=_root_.id rfl
@[congr] theorem VW {o:bB} {K:Env→List aa→Prop} {H':List aa} (h:gJ H=H'):rZ P o env H K=rZ P o env H' K:=by subst h;rfl
@[congr] theorem VX {o:ca} {d:Option Nat} {K:Env→List aa→Prop} {H':List aa} (h:gJ H=H'):bA P o d env H K=bA P o d env H' K:=by subst h;rfl
theorem IQ (K:Env→List aa→Prop):jq P .done env H K=K env H:=_root_.id rfl
theorem KV (K:Env→List aa→Prop):jq P .nil env H K=True:=_root_.id rfl
theorem TZ (st:Bool) (d:Option Nat) (op:ca) (r:DT) (K:Env→List aa→Prop):jq P (.take st ⟨none,d,op⟩ r) env H K=lW P st op (ap env) H fun x=>jq P r (put d x env) H K:=_root_.id rfl
theorem T1 (st:Bool) (g:Nat) (w:Bool) (d:Option Nat) (op:ca) (r:DT) (K:Env→List aa→Prop):jq P (.take st ⟨some (g,w),d,op⟩ r) env H K =
 dS (get env g) g w env (fun _=>lW P st op (ap env) H fun x=>jq P r (put d x env) H K) (fun _=>jq P r (put d (.tuple []) env) H K):=_root_.id rfl
theorem OU (o:bB) (t rest:DT) (K:Env→List aa→Prop):jq P (.br o t rest) env H K=(rZ P o env H (fun env H=>jq P t env H K)∧jq P rest env H K):=_root_.id rfl
@[congr] theorem VY {st:Bool} {o:ca} {ρ:IX→AV} {K:AV→Prop} {H':List aa} (h:gJ H=H'):lW P st o ρ H K=lW P st o ρ H' K:=by subst h;rfl
theorem KW {P:Program} {a:IR} (ι:Type) (I:ι→Prop) (se:ι→Env) (sh:ι→List aa) (μ:ι→Nat) (i0:ι) (h0:I i0) (Wz:sle n0 env H (se i0) (sh i0))
 (hs:∀ i,I i→lX P n0 a (se i) (sh i) fun e aG H'=>match e with
   | .normal=>∃ j,I j∧μ j < μ i∧sle n0 aG H' (se j) (sh j)
   | e=>Q e aG H'):lX P n0 (.loop a) env H Q:=⟨ι,I,se,sh,μ,⟨i0,h0,Wz⟩,hs⟩
theorem aD {P:Program} {a:IR} (N:Nat) (I:Nat→Prop) (se:Nat→Env) (sh:Nat→List aa) (h0:I 0∧sle n0 env H (se 0) (sh 0))
 (hs:∀ i,i≤N→I i→lX P n0 a (se i) (sh i) fun e aG H'=>match e with
   | .normal=>∃ j,(j≤N∧I j)∧N - j < N - i∧sle n0 aG H' (se j) (sh j)
   | e=>Q e aG H'):lX P n0 (.loop a) env H Q:=
 ⟨Nat,fun i=>i≤N∧I i,se,sh,fun i=>N - i,⟨0,⟨Nat.zero_le _,h0.1⟩,h0.2⟩,fun i hi=>hs i hi.1 hi.2⟩
end
section
variable {φ:AV→Prop}
@[congr] theorem Re {v v':AV} {ψ:Bool→Prop} (h:gJ v=v'):eI v ψ=eI v' ψ:=by subst h;rfl
@[congr] theorem T2 {op:BinOp} {x x' y y':AV} (h:gJ x=x') (h2:y=y'):dg op x y φ=dg op x' y' φ:=by subst h;subst h2;rfl
@[congr] theorem OV {op:BinOp} {x x' y y':AV} (h:gJ x=x') (h2:y=y'):dZ op x y φ=dZ op x' y' φ:=by subst h;subst h2;rfl
@[congr] theorem Ns {n:Bool} {x x' y y':AV} (h:gJ x=x') (h2:y=y'):cV n x y φ=cV n x' y' φ:=by subst h;subst h2;rfl
@[congr] theorem OW {k:Nat} {n:Bool} {x x':AV} (h:gJ x=x'):cZ k n x φ=cZ k n x' φ:=by subst h;rfl
@[congr] theorem VZ {op:UnOp} {x x':AV} (h:gJ x=x'):Ag op x φ=Ag op x' φ:=by subst h;rfl
@[congr] theorem Rf {sz:Option Nat} {x x':AV} {H H':List aa} (h:gJ x=x') (h2:H=H'):aQ sz x H φ=aQ sz x' H' φ:=by subst h;subst h2;rfl
@[congr] theorem IS {off:Nat} {sz:Option Nat} {x x':AV} (h:gJ x=x'):ak off sz x φ=ak off sz x' φ:=by subst h;rfl
@[congr] theorem OX {off:Nat} {sz:Option Nat} {x x':AV} (h:gJ x=x'):eZ off sz x φ=eZ off sz x' φ:=by subst h;rfl
@[congr] theorem IT {e:Nat} {x x' y y':AV} (h:gJ x=x') (h2:y=y'):ax e x y φ=ax e x' y' φ:=by subst h;subst h2;rfl
@[congr] theorem JM {n:Nat} {x x' y y':AV} (h:gJ x=x') (h2:y=y'):bT n x y φ=bT n x' y' φ:=by subst h;subst h2;rfl
@[congr] theorem JN {x x' y y':AV} (h:gJ x=x') (h2:y=y'):bK x y φ=bK x' y' φ:=by subst h;subst h2;rfl
@[congr] theorem T3 {x x':AV} {H H':List aa} (h:gJ x=x') (h2:H=H'):fx x H φ=fx x' H' φ:=by subst h;subst h2;rfl
@[congr] theorem KX {x x':AV} {i:Nat} (h:gJ x=x'):bF x i φ=bF x' i φ:=by subst h;rfl
@[congr] theorem JO {x x':AV} (h:gJ x=x'):bU x φ=bU x' φ:=by subst h;rfl
@[congr] theorem KY {k:IntKind} {x x':AV} (h:gJ x=x'):cF k x φ=cF k x' φ:=by subst h;rfl
@[congr] theorem V0 {b:Bool} {x x' y y':AV} (h:gJ x=x') (h2:y=y'):xN b x y φ=xN b x' y' φ:=by subst h;subst h2;rfl
@[congr] theorem Nt {kd:Nat} {z m m' k k':AV} {ok:Bool} {H H':List aa} (h:gJ m=m') (h2:k=k') (h3:H=H'):cv kd z m k ok H φ=cv kd z m' k' ok H' φ:=by subst h;subst h2;subst h3;rfl
@[congr] theorem Nu {kd:Nat} {m m' k k' x x':AV} {H H':List aa} {K:List aa→Prop} (h:gJ m=m') (h2:k=k') (h3:x=x') (h4:H=H'):fC kd m k x H K=fC kd m' k' x' H' K:=by subst h;subst h2;subst h3;subst h4;rfl
@[congr] theorem OY {m:Nat} {p p' x x':AV} {H H':List aa} {K:List aa→Prop} (h:gJ p=p') (h2:x=x') (h3:H=H'):iE m p x H K=iE m p' x' H' K:=by subst h;subst h2;subst h3;rfl
@[congr] theorem KZ {p p' x x':AV} {H H':List aa} {K:List aa→Prop} (h:gJ p=p') (h2:x=x') (h3:H=H'):ee p x H K=ee p' x' H' K:=by subst h;subst h2;subst h3;rfl
@[congr] theorem Nv {e b:Nat} {s s' x x':AV} {ψ:List AV→Prop} (h:gJ s=s') (h2:x=x'):bn e b s x ψ=bn e b s' x' ψ:=by subst h;subst h2;rfl
@[congr] theorem OZ {e b:Nat} {z n n':AV} {H H':List aa} {K:AV→List aa→Prop} (h:gJ n=n') (h2:H=H'):gv e b z n H K=gv e b z n' H' K:=by subst h;subst h2;rfl
@[congr] theorem K0 {e b:Nat} {z s s' x x':AV} {H H':List aa} {K:AV→List aa→Prop} (h:gJ s=s') (h2:x=x') (h3:H=H'):b7 e b z s x H K=b7 e b z s' x' H' K:=by subst h;subst h2;subst h3;rfl
@[congr] theorem Nw {e:Nat} {z x x':AV} {H H':List aa} {K:List aa→Prop} (h:gJ x=x') (h2:H=H'):iM e z x H K=iM e z x' H' K:=by subst h;subst h2;rfl
@[congr] theorem Rg {xs xs':List AV} {H H':List aa} {K:AV→List aa→Prop} (h:gJ xs=xs') (h2:H=H'):tH xs H K=tH xs' H' K:=by subst h;subst h2;rfl
@[congr] theorem O0 {e b:Nat} {n n':AV} (h:gJ n=n'):ji e b n φ=ji e b n' φ:=by subst h;rfl
@[congr] theorem Rh {e:Nat} {d d' s s':AV} {H H':List aa} {K:AV→List aa→Prop} (h:gJ d=d') (h2:s=s') (h3:H=H'):jX e d s H K=jX e d' s' H' K:=by subst h;subst h2;subst h3;rfl
@[congr] theorem Ri {e:Nat} {x x':AV} {H H':List aa} {K:AV→List aa→Prop} (h:gJ x=x') (h2:H=H'):fF e x H K=fF e x' H' K:=by subst h;subst h2;rfl
@[congr] theorem Nx {e:Nat} {x x':AV} {lo lo' hi me m m':Option AV} (h:gJ x=x') (h1:lo=lo') (h2:hi=me) (h3:m=m'):bm e x lo hi m φ=bm e x' lo' me m' φ:=by subst h;subst h1;subst h2;subst h3;rfl
@[congr] theorem JP {x x':AV} {lo lo' hi me:Option AV} (h:gJ x=x') (h1:lo=lo') (h2:hi=me):cn x lo hi φ=cn x lo' me φ:=by subst h;subst h1;subst h2;rfl
@[congr] theorem T4 {n0:Nat} {rs:List RX} {env aG:Env} {H H':List aa} {R:AV→List aa→Prop} (h:gJ env=aG) (h2:H=H'):bW n0 rs env H R=bW n0 rs aG H' R:=by subst h;subst h2;rfl
end
end Go.aL
end
section
namespace Go.aL
open Go
section
variable {P:Px} {env:Env} {H:List aa} {dst:Option Nat} {K:Env→List aa→Prop}
theorem T5 (op:BinOp) (x:IX) (y:IX):bA P (.bin op x y) dst env H K=(dg op (ap env x) (ap env y) fun z=>K (put dst z env) H):=_root_.id rfl
theorem K3 (op:BinOp) (x:IX) (y:IX):bA P (.shift op x y) dst env H K=(dZ op (ap env x) (ap env y) fun z=>K (put dst z env) H):=_root_.id rfl
theorem IU (neq:Bool) (x:IX) (y:IX):bA P (.iC neq x y) dst env H K=(cV neq (ap env x) (ap env y) fun z=>K (put dst z env) H):=_root_.id rfl
theorem K4 (kd:Nat) (neq:Bool) (x:IX):bA P (.jw kd neq x) dst env H K=(cZ kd neq (ap env x) fun z=>K (put dst z env) H):=_root_.id rfl
theorem WW (op:UnOp) (x:IX):bA P (.un op x) dst env H K=(Ag op (ap env x) fun z=>K (put dst z env) H):=_root_.id rfl
theorem T6 (x:IX):bA P (.box x) dst env H K=((ap env x).val=true∧aj (H.length + 1) ((ap env x).cells.map AV.ab)=true∧K (put dst (.ptr H.length 0) env) (H++[.cells ((ap env x).cells.map AV.ab)])):=_root_.id rfl
theorem O4 (x:IX):bA P (.l7 x) dst env H K=((ap env x).val=true∧K (put dst (.ai (ap env x)) env) H):=_root_.id rfl
theorem O5 (m:Nat) (x:IX):bA P (.sg m x) dst env H K=((ap env x).val=true∧(ap env x).cells.length=m∧(ap env x).cells.all AV.one=true∧K (put dst (.ai (ap env x)) env) H):=_root_.id rfl
theorem K5 (z:AV):bA P (.alloc z) dst env H K=(aj (H.length + 1) (z.cells.map AV.ab)=true∧K (put dst (.ptr H.length 0) env) (H++[.cells (z.cells.map AV.ab)])):=_root_.id rfl
theorem K6 (z:AV) (ps:List (Nat×Nat×IX)):bA P (.build z ps) dst env H K=(cA z.cells (ps.map fun q=>(q.1,q.2.1,ap env q.2.2)) fun v=>K (put dst v env) H):=_root_.id rfl
theorem yi (own:Nat) (esz:Nat) (z:AV) (len:Nat) (ps:List (Nat×IX)):bA P (.buildSlice own esz z len ps) dst env H K=(bj (List.replicate len (aT z)) esz (ps.map fun q=>(q.1,ap env q.2)) fun xs=>K (put dst (.al own xs) env) H):=_root_.id rfl
theorem O6 (sz:Option Nat) (a:IX):bA P (.load sz a) dst env H K=(aQ sz (ap env a) H fun z=>K (put dst z env) H):=_root_.id rfl
theorem K7 (sz:Option Nat) (esz:Nat) (a:IX):bA P (.tw sz esz a) dst env H K=(aQ sz (ap env a) H fun z=>fF esz z H fun y H'=>K (put dst y env) H'):=_root_.id rfl
theorem K8 (m:Nat) (a:IX) (x:IX):bA P (.store m a x) dst env H K=(iE m (ap env a) (ap env x) H fun H'=>K env H'):=_root_.id rfl
theorem IV {P:Program} {l:Nat} (m:Nat) (a:IX) (x:IX):bA ⟨P,some l⟩ (.nJ m a x) dst env H K=(gP l m (ap env a) (ap env x) H fun H'=>K env H'):=_root_.id rfl
theorem Fj (a:IX) (s:Nat):bA P (.fw a s) dst env H K=(ee (ap env a) (get env s) H fun H'=>K ((s,(get env s).ab)::env) H'):=_root_.id rfl
theorem C8 (x:IX):bA P (.nilCheck x) dst env H K=(bU (ap env x) fun z=>K (put dst z env) H):=_root_.id rfl
theorem A7 (off:Nat) (sz:Option Nat) (x:IX):bA P (.fieldAddr off sz x) dst env H K=(ak off sz (ap env x) fun z=>K (put dst z env) H):=_root_.id rfl
theorem K9 (off:Nat) (sz:Option Nat) (x:IX):bA P (.field off sz x) dst env H K=(eZ off sz (ap env x) fun z=>K (put dst z env) H):=_root_.id rfl
theorem A8 (esz:Nat) (x:IX) (i:IX):bA P (.indexAddr esz x i) dst env H K=((∀ own xs,ap env x=.al own xs→∀ z∈xs,z.cells.length=esz)∧ax esz (ap env x) (ap env i) fun z=>K (put dst z env) H):=_root_.id rfl
theorem C9 (n:Nat) (x:IX) (i:IX):bA P (.dX n x i) dst env H K=(bT n (ap env x) (ap env i) fun z=>K (put dst z env) H):=_root_.id rfl
theorem IW (esz:Nat) (x:IX) (lo:Option IX) (hi:Option IX) (mx:Option IX):bA P (.pJ esz x lo hi mx) dst env H K=((∀ own xs,ap env x=.al own xs→∀ z∈xs,z.cells.length=esz)∧eR esz (ap env x) (gR env lo) (gR env hi) (gR env mx) fun z=>z=.al esz []∧K (put dst .pe env) H):=_root_.id rfl
theorem Da (x:IX) (i:IX):bA P (.di x i) dst env H K=(bK (ap env x) (ap env i) fun z=>K (put dst z env) H):=_root_.id rfl
theorem Lb (esz:Nat) (x:IX) (lo:Option IX) (hi:Option IX) (mx:Option IX):bA P (.slice esz x lo hi mx) dst env H K=(bm esz (ap env x) (gR env lo) (gR env hi) (gR env mx) fun z=>K (put dst z env) H):=_root_.id rfl
theorem O7 (esz:Nat) (d:IX) (s:IX):bA P (.copy esz d s) dst env H K=(jX esz (ap env d) (ap env s) H fun z H'=>K (put dst z env) H'):=_root_.id rfl
theorem Db (x:IX) (lo:Option IX) (hi:Option IX):bA P (.dY x lo hi) dst env H K=(cn (ap env x) (gR env lo) (gR env hi) fun z=>K (put dst z env) H):=_root_.id rfl
theorem T7 (kd:Nat) (x:IX):bA P (.len kd x) dst env H K=(aN kd (ap env x)∧fx (ap env x) H fun z=>K (put dst z env) H):=_root_.id rfl
theorem IY (esz:Nat) (bytes:Nat) (s:IX) (x:IX):bA P (.append esz bytes s x) dst env H K=(bn esz bytes (ap env s) (ap env x) fun zs=>K (put dst (.al esz zs) (cQ env s.slot)) H):=_root_.id rfl
theorem Lc (esz:Nat) (bytes:Nat) (z:AV) (n:IX):bA P (.tx esz bytes z n) dst env H K=(gv esz bytes z (ap env n) H fun v H'=>K (put dst v env) H'):=_root_.id rfl
theorem uY (esz:Nat) (z:AV) (len:Nat) (ps:List (Nat×IX)):bA P (.Cc esz z len ps) dst env H K=(bj (List.replicate len (aT z)) esz (ps.map fun q=>(q.1,ap env q.2)) fun xs=>tH xs H fun v H'=>K (put dst v env) H'):=_root_.id rfl
theorem IZ (esz:Nat) (z:AV) (x:IX):bA P (.nM esz z x) dst env H K=(iM esz z (ap env x) H fun H'=>K (put dst (.tuple []) env) H'):=_root_.id rfl
theorem Fk (esz bytes:Nat) (z:AV) (s x:IX):bA P (.jB esz bytes z s x) dst env H K=(b7 esz bytes z (ap env s) (ap env x) H fun v H'=>K (put dst v env) H'):=_root_.id rfl
theorem Ld (esz:Nat) (bytes:Nat) (n:IX):bA P (.nK esz bytes n) dst env H K=(ji esz bytes (ap env n) fun v=>K (put dst v env) H):=_root_.id rfl
theorem Lf :bA P (.nL ) dst env H K=(K (put dst (.map H.length) env) (H++[.map []])):=_root_.id rfl
theorem I0 (kd:Nat) (z:AV) (m:IX) (k:IX) (ok:Bool):bA P (.lookup kd z m k ok) dst env H K=(cv kd z (ap env m) (ap env k) ok H fun v=>K (put dst v env) H):=_root_.id rfl
theorem I1 (kd:Nat) (m:IX) (k:IX) (x:IX):bA P (.kP kd m k x) dst env H K=(fC kd (ap env m) (ap env k) (ap env x) H fun H'=>K env H'):=_root_.id rfl
theorem WX (f:Fn) (first:List IX) (cap:List IX):bA P (.fn f first cap) dst env H K=(K (put dst (.fn f (first.map fun x=>(ap env x).ab) (cap.map fun x=>(ap env x).ab)) env) H):=_root_.id rfl
theorem Fl (x:IX) (i:Nat):bA P (.extract x i) dst env H K=(bF (ap env x) i fun z=>K (put dst z env) H):=_root_.id rfl
theorem Fp (k:IntKind) (x:IX):bA P (.eU k x) dst env H K=(cF k (ap env x) fun z=>K (put dst z env) H):=_root_.id rfl
theorem Fq (x:IX):bA P (.gN x) dst env H K=(fS (ap env x) fun z=>K (put dst z env) H):=_root_.id rfl
theorem Ft (x:IX):bA P (.bytesOf x) dst env H K=(fe 1 (ap env x) fun z=>K (put dst z env) H):=_root_.id rfl
theorem Lg (x:IX):bA P (.strOf x) dst env H K=(jV (ap env x) fun z=>K (put dst z env) H):=_root_.id rfl
theorem WY (big:Bool) (a:IX) (b:IX):bA P (.mx big a b) dst env H K=(xN big (ap env a) (ap env b) fun z=>K (put dst z env) H):=_root_.id rfl
theorem O8 (esz:Nat) (x:IX):bA P (.Ae esz x) dst env H K=(fF esz (ap env x) H fun z H'=>K (put dst z env) H'):=_root_.id rfl
theorem Lh (x:IX) (take:Bool):bA P (.set x take) none env H K=K env H:=_root_.id rfl
theorem T8 (d:Nat) (x:IX):bA P (.set x false) (some d) env H K=K ((d,(ap env x).ab)::env) H:=by cases x <;> rfl
theorem O9 (d s:Nat):bA P (.set (.t s) true) (some d) env H K=K ((d,get env s)::(s,(get env s).ab)::env) H:=_root_.id rfl
theorem Li (d:Nat) (v:AV):bA P (.set (.c v) true) (some d) env H K=K ((d,v.ab)::env) H:=_root_.id rfl
theorem Pa (c a b:IX):bA P (.pick c a b) dst env H K=fX (ap env c) (K (put dst (ap env a).ab env) H) (K (put dst (ap env b).ab env) H):=_root_.id rfl
theorem Pb (f:IX) (args:List IX) (pass:Option Nat):bA P (.call f args pass) dst env H K=pq P (ap env f) args pass env H (fun r aG H'=>K (put dst r aG) H'):=_root_.id rfl
end
section
variable {P:Px} {st:Bool} {ρ:IX→AV} {H:List aa} {K:AV→Prop}
theorem T9 (i:IX):lW P st (.set i false) ρ H K=K (ρ i).ab:=by cases st <;> rfl
theorem Pc (c:IX) (a:IX) (b:IX):lW P st (.pick c a b) ρ H K=(fX (ρ c) (K (ρ a).ab) (K (ρ b).ab)):=_root_.id rfl
theorem Ua (op:BinOp) (i:IX) (j:IX):lW P st (.bin op i j) ρ H K=(dg op (ρ i) (ρ j) K):=_root_.id rfl
theorem Lj (op:BinOp) (i:IX) (j:IX):lW P st (.shift op i j) ρ H K=(dZ op (ρ i) (ρ j) K):=_root_.id rfl
theorem I2 (neq:Bool) (i:IX) (j:IX):lW P st (.iC neq i j) ρ H K=(cV neq (ρ i) (ρ j) K):=_root_.id rfl
theorem Lk (kd:Nat) (neq:Bool) (i:IX):lW P st (.jw kd neq i) ρ H K=(oW kd neq (ρ i) K):=_root_.id rfl
theorem WZ (op:UnOp) (i:IX):lW P st (.un op i) ρ H K=(Ag op (ρ i) K):=_root_.id rfl
theorem Pd (i:IX):lW P st (.l7 i) ρ H K=((ρ i).val=true∧K (.ai (ρ i))):=_root_.id rfl
theorem Ll (z:AV) (ps:List (Nat×Nat×IX)):lW P st (.build z ps) ρ H K=(cA z.cells (ps.map fun q=>(q.1,q.2.1,ρ q.2.2)) K):=_root_.id rfl
theorem yj (own:Nat) (esz:Nat) (z:AV) (len:Nat) (ps:List (Nat×IX)):lW P st (.buildSlice own esz z len ps) ρ H K=(bj (List.replicate len (aT z)) esz (ps.map fun q=>(q.1,ρ q.2)) fun xs=>K (.al own xs)):=_root_.id rfl
theorem A9 (sz:Option Nat) (i:IX):lW P true (.load sz i) ρ H K=(aQ sz (ρ i) H K):=_root_.id rfl
theorem yk (sz:Option Nat) (i:IX):lW P false (.load sz i) ρ H K=(aQ sz (ρ i) [] K):=_root_.id rfl
theorem Dc (i:IX):lW P st (.nilCheck i) ρ H K=(bU (ρ i) K):=_root_.id rfl
theorem Ba (off:Nat) (sz:Option Nat) (i:IX):lW P st (.fieldAddr off sz i) ρ H K=(ak off sz (ρ i) K):=_root_.id rfl
theorem Lm (off:Nat) (sz:Option Nat) (i:IX):lW P st (.field off sz i) ρ H K=(eZ off sz (ρ i) K):=_root_.id rfl
theorem Bb (esz:Nat) (i:IX) (j:IX):lW P st (.indexAddr esz i j) ρ H K=((∀ own xs,ρ i=.al own xs→∀ z∈xs,z.cells.length=esz)∧ax esz (ρ i) (ρ j) K):=_root_.id rfl
theorem Dd (n:Nat) (i:IX) (j:IX):lW P st (.dX n i j) ρ H K=(bT n (ρ i) (ρ j) K):=_root_.id rfl
theorem De (i:IX) (j:IX):lW P st (.di i j) ρ H K=(bK (ρ i) (ρ j) K):=_root_.id rfl
theorem Ln (esz:Nat) (i:IX) (lo:Option IX) (hi:Option IX) (mx:Option IX):lW P st (.slice esz i lo hi mx) ρ H K=(bm esz (ρ i) (lo.map ρ) (hi.map ρ) (mx.map ρ) K):=_root_.id rfl
theorem Df (i:IX) (lo:Option IX) (hi:Option IX):lW P st (.dY i lo hi) ρ H K=(cn (ρ i) (lo.map ρ) (hi.map ρ) K):=_root_.id rfl
theorem Dg (kd:Nat) (i:IX):lW P true (.len kd i) ρ H K=(aN kd (ρ i)∧iw (ρ i) H K):=_root_.id rfl
theorem Bc (kd:Nat) (i:IX):lW P false (.len kd i) ρ H K=(aN kd (ρ i)∧iw (ρ i) [] K):=_root_.id rfl
theorem wG (kd:Nat) (z:AV) (m:IX) (k:IX) (ok:Bool):lW P true (.lookup kd z m k ok) ρ H K=(cv kd z (ρ m) (ρ k) ok H K):=_root_.id rfl
theorem uB (kd:Nat) (z:AV) (m:IX) (k:IX) (ok:Bool):lW P false (.lookup kd z m k ok) ρ H K=(cv kd z (ρ m) (ρ k) ok [] K):=_root_.id rfl
theorem W0 (f:Fn) (first:List IX) (cap:List IX):lW P st (.fn f first cap) ρ H K=(K (.fn f (first.map fun x=>(ρ x).ab) (cap.map fun x=>(ρ x).ab))):=_root_.id rfl
theorem Fu (i:IX) (k:Nat):lW P st (.extract i k) ρ H K=(bF (ρ i) k K):=_root_.id rfl
theorem Fv (k:IntKind) (i:IX):lW P st (.eU k i) ρ H K=(cF k (ρ i) K):=_root_.id rfl
theorem W1 (big:Bool) (i:IX) (j:IX):lW P st (.mx big i j) ρ H K=(xN big (ρ i) (ρ j) K):=_root_.id rfl
theorem Pe (f:IX) (args:List IX):lW P st (.call f args none) ρ H K=qc P st (ρ f) (args.map fun x=>(ρ x).ab) H K:=_root_.id rfl
end
theorem Fx (env:Env):eD none env=env:=_root_.id rfl
theorem I3 (env:Env):eD (some []) env=[]:=_root_.id rfl
theorem Fy (env:Env) (t:Nat) (l:List Nat):eD (some (t::l)) env=(t,get env t)::eD (some l) env:=_root_.id rfl
theorem Fz (k:Nat):bX k []=[]:=_root_.id rfl
theorem Dh (k:Nat) (x:AV) (xs:List AV):bX k (x::xs)=(k,x)::bX (k + 1) xs:=_root_.id rfl
theorem Ub (env:Env) (s:Nat):ap env (.t s)=get env s:=_root_.id rfl
theorem Uc (env:Env) (v:AV):ap env (.c v)=v:=_root_.id rfl
theorem lG (o:Nat) (xs:List AV) (H:List aa) (φ:AV→Prop):iw (.al o xs) H φ=φ (.int .i64 xs.length):=_root_.id rfl
theorem FA (H:List aa) (φ:AV→Prop):iw .ah H φ=φ (.int .i64 0):=_root_.id rfl
theorem I4 (s:ByteArray) (H:List aa) (φ:AV→Prop):iw (.str s) H φ=φ (.int .i64 s.size):=_root_.id rfl
theorem I5 (a b c d:Nat) (H:List aa) (φ:AV→Prop):iw (.bc a b c d) H φ=φ (.int .i64 c):=_root_.id rfl
theorem Lo {α β:Type} (f:α→β):List.map f []=[]:=_root_.id rfl
theorem I6 {α β:Type} (f:α→β) (x:α) (xs:List α):List.map f (x::xs)=f x::List.map f xs:=_root_.id rfl
end Go.aL
end
section
namespace Go.aL
open Go
theorem ga0 (H e:List aa):(H++e)[H.length]?=e[0]?:=by
 rw [List.getElem?_append_right (Nat.le_refl _),Nat.sub_self]
theorem ga (H e:List aa) (i:Nat):(H++e)[H.length + i]?=e[i]?:=by
 rw [List.getElem?_append_right (Nat.le_add_right _ _),Nat.add_sub_cancel_left]
theorem sa0 (H e:List aa) (x:aa):(H++e).set H.length x=H++e.set 0 x:=by
 rw [List.set_append_right _ _ (Nat.le_refl _),Nat.sub_self]
theorem sa (H e:List aa) (i:Nat) (x:aa):(H++e).set (H.length + i) x=H++e.set i x:=by
 rw [List.set_append_right _ _ (Nat.le_add_right _ _),Nat.add_sub_cancel_left]
theorem abJ (H e f:List aa):(H++e)++f=H++(e++f):=List.append_assoc _ _ _
theorem Wo (H e:List aa):(H++e).length=H.length + e.length:=List.length_append
theorem g0 {α:Type} (x:α) (r:List α):(x::r)[0]?=some x:=by simp
theorem g1 {α:Type} (x y:α) (r:List α):(x::y::r)[1]?=some y:=by simp
theorem g2 {α:Type} (x y z:α) (r:List α):(x::y::z::r)[2]?=some z:=by simp
theorem s0 {α:Type} (x u:α) (r:List α):(x::r).set 0 u=u::r:=by simp
theorem s1 {α:Type} (x y u:α) (r:List α):(x::y::r).set 1 u=x::u::r:=by simp
theorem s2 {α:Type} (x y z u:α) (r:List α):(x::y::z::r).set 2 u=x::y::u::r:=by simp
theorem d0 {α:Type} (x d:α) (r:List α):(x::r).getD 0 d=x:=by simp
theorem d1 {α:Type} (x y d:α) (r:List α):(x::y::r).getD 1 d=y:=by simp
theorem d2 {α:Type} (x y z d:α) (r:List α):(x::y::z::r).getD 2 d=z:=by simp
theorem sp1 (x y:AV):ag [x] 0 [y]=[y]:=by simp [ag]
theorem FB {x:AV} {H:List aa} {φ ψ:AV→Prop} (hm:∀ z,φ z→ψ z) (h:iw x H φ):iw x H ψ:=by
 unfold iw at *
 split at h
 ·exact hm _ h
 ·exact sB hm h
theorem FC {o:ca} {ρ:IX→AV} {H:List aa} {K K':AV→Prop} (h:wD o ρ H K) (hK:∀ x,K x→K' x):wD o ρ H K':=by
 unfold wD at *
 split at h
 ·exact hK _ h
 ·unfold fX eI at *
  split at h
  ·exact ⟨fun e=>hK _ (h.1 e),fun e=>hK _ (h.2 e)⟩
  ·exact h.elim
 ·exact sA hK h
 ·exact nU hK h
 ·exact mq hK h
 ·unfold oW at *
  split at h
  ·exact hK _ h
  ·exact h.elim
 ·exact vU hK h
 ·exact ⟨h.1,hK _ h.2⟩
 ·exact mv (fun _ h=>hK _ h) h
 ·exact gT (fun _ h=>hK _ h) h
 ·exact j4 hK h
 ·exact ke hK h
 ·exact jn hK h
 ·exact nV hK h
 ·exact ⟨h.1,jo hK h.2⟩
 ·exact j5 hK h
 ·exact kc hK h
 ·exact ms hK h
 ·exact kg hK h
 ·exact ⟨h.1,FB hK h.2⟩
 ·exact mr hK h
 ·exact hK _ h
 ·exact kX hK h
 ·exact kY hK h
 ·exact vV hK h
 ·exact h.elim
theorem dJ {P:Px}:∀ {t:DT} {env:Env} {H:List aa} {K1 K2:Env→List aa→Prop},jq P t env H K1→(∀ e H',K1 e H'→K2 e H')→jq P t env H K2
 | .done,_,_,_,_,h,hK=>hK _ _ h
 | .take st o r,_,_,_,_,h,hK=>by
   unfold jq Hc at *
   have key:∀ {env:Env} {H:List aa} {K:AV→Prop} {K':AV→Prop},lW P st o.op (ap env) H K→(∀ x,K x→K' x)→lW P st o.op (ap env) H K':=by
    intro env H K K' h hK
    unfold lW at *
    split at h
    ·unfold qc at *
     split at h
     ·obtain ⟨x,h1,h2⟩:=h;exact ⟨x,h1,hK _ h2⟩
     ·exact h.elim
    ·exact FC h hK
   split at h
   ·exact key h fun _ h=>dJ h hK
   ·unfold dS at *
    split at h
    ·exact ⟨fun e=>key (h.1 e) fun _ h=>dJ h hK,fun e=>dJ (h.2 e) hK⟩
    ·exact dJ h hK
    ·exact h.elim
 | .br o t rest,_,_,_,_,h,hK=>⟨sJ h.1 fun _ _ h=>dJ h hK,dJ h.2 hK⟩
 | .nil,_,_,_,_,h,hK=>trivial
theorem lH {P:Px} {n0:Nat}:∀ {ir:IR} {env:Env} {H:List aa} {Q1 Q2:Exit→Env→List aa→Prop},lX P n0 ir env H Q1→(∀ x e H',Q1 x e H'→Q2 x e H')→lX P n0 ir env H Q2:=by
 intro ir
 induction ir with
 | skip=>exact fun h hQ=>hQ _ _ _ h
 | region ops live=>exact fun h hQ=>sK h fun _ _ h=>hQ _ _ _ h
 | draw t live=>exact fun h hQ=>dJ h fun _ _ h=>hQ _ _ _ h
 | seq a b Fh TU=>
   exact fun h hQ=>Fh h fun x e H' h=>by
    cases x with
    | normal=>exact TU h hQ
    | _=>exact hQ _ _ _ h
 | cond x a b Fh TU=>
   intro env H Q1 Q2 h hQ
   rw [C7] at *
   unfold fX eI at *
   split at h
   ·exact ⟨fun e=>Fh (h.1 e) hQ,fun e=>TU (h.2 e) hQ⟩
   ·exact h.elim
 | block id a Fh=>
   exact fun h hQ=>Fh h fun x e H' h=>by
    cases x with
    | exit id'=>
      dsimp only at h ⊢
      split
      ·rename_i bp;rw [if_pos bp] at h;exact hQ _ _ _ h
      ·rename_i bp;rw [if_neg bp] at h;exact hQ _ _ _ h
    | _=>exact hQ _ _ _ h
 | loop a Fh=>
   intro env H Q1 Q2 h hQ
   obtain ⟨ι,I,se,sh,μ,h0,hs⟩:=h
   exact ⟨ι,I,se,sh,μ,h0,fun i hi=>Fh (hs i hi) fun x e H' h=>by
    cases x with
    | normal=>exact h
    | _=>exact hQ _ _ _ h⟩
 | exit id=>exact fun h hQ=>hQ _ _ _ h
 | ret=>exact fun h hQ=>hQ _ _ _ h
 | never=>exact fun h _=>h.elim
 | jk f lc=>
   intro env H Q1 Q2 h hQ
   rw [za] at *
   unfold wE at *
   split at h
   ·obtain ⟨h1,bR,h2,h3⟩:=h
    exact ⟨h1,bR,h2,h3.mono fun _ H' hb=>ub hb fun j H'' hg=>y9 hg hQ⟩
   ·exact h.elim
theorem abL (a b y:AV):ag [a,b] 0 [y]=[y,b]:=by simp [ag]
theorem abM (a b y:AV):ag [a,b] 1 [y]=[a,y]:=by simp [ag]
theorem abN (a b c y:AV):ag [a,b,c] 0 [y]=[y,b,c]:=by simp [ag]
theorem abO (a b c y:AV):ag [a,b,c] 1 [y]=[a,y,c]:=by simp [ag]
theorem abP (a b c y:AV):ag [a,b,c] 2 [y]=[a,b,y]:=by simp [ag]
theorem abQ (a b c x y z:AV):ag [a,b,c] 0 [x,y,z]=[x,y,z]:=by simp [ag]
theorem Ud (k k':IntKind) (a b:Int) (φ:AV→Prop):xN true (.int k a) (.int k' b) φ=φ (.int k (max a b)):=by
 have:(if a < b then b else a)=max a b:=by rw [Int.max_def];split <;> split <;> omega
 simp [xN,this]
theorem Ue (k k':IntKind) (a b:Int) (φ:AV→Prop):xN false (.int k a) (.int k' b) φ=φ (.int k (min a b)):=by
 have:(if b < a then b else a)=min a b:=by rw [Int.min_def];split <;> split <;> omega
 simp [xN,this]
def dm (o:Option aa) (sz:Option Nat) (off:Nat) (φ:AV→Prop):Prop:=
 match o with
 | some (.cells es)=>match sz with
   | some m=>off + m≤es.length∧φ (.agg (((es.drop off).take m).map AV.drop))
   | none=>off < es.length∧φ (es.getD off .any).ab
 | _=>False
@[congr] theorem Rj {o o':Option aa} {sz:Option Nat} {off:Nat} {φ:AV→Prop} (h:gJ o=o'):dm o sz off φ=dm o' sz off φ:=by subst h;rfl
theorem Lp (sz:Option Nat) (id off:Nat) (H:List aa) (φ:AV→Prop):aQ sz (.ptr id off) H φ=dm H[id]? sz off φ:=by
 unfold aQ dm;rfl
theorem Pf (es:List AV) (off:Nat) (φ:AV→Prop):dm (some (.cells es)) none off φ=(off < es.length∧φ (es.getD off .any).ab):=_root_.id rfl
theorem Hd (a b c:AV) (φ:AV→Prop):dm (some (.cells [a,b,c])) (some 3) 0 φ=φ (.agg [a.drop,b.drop,c.drop]):=by simp [dm]
theorem Pg (a b:AV) (φ:AV→Prop):dm (some (.cells [a,b])) (some 2) 0 φ=φ (.agg [a.drop,b.drop]):=by simp [dm]
def gB (o:Option aa) (m id off:Nat) (x:AV) (H:List aa) (K:List aa→Prop):Prop:=
 match o with
 | some (.cells es)=>x.val=true∧x.cells.length=m∧off + m≤es.length∧x.cells.all AV.one=true∧aj (id + 1) (x.cells.map AV.ab)=true∧
    K (H.set id (.cells (ag es off (x.cells.map AV.ab))))
 | _=>False
@[congr] theorem Ph {o o':Option aa} {m id off:Nat} {x:AV} {H:List aa} {K:List aa→Prop} (h:gJ o=o') {x':AV} (h2:x=x'):gB o m id off x H K=gB o' m id off x' H K:=by subst h;subst h2;rfl
theorem I7 (m id off:Nat) (x:AV) (H:List aa) (K:List aa→Prop):iE m (.ptr id off) x H K=gB H[id]? m id off x H K:=by
 unfold iE gB;rfl
theorem Di (es:List AV) (m id off:Nat) (x:AV) (H:List aa) (K:List aa→Prop):gB (some (.cells es)) m id off x H K=(x.val=true∧x.cells.length=m∧off + m≤es.length∧x.cells.all AV.one=true∧aj (id + 1) (x.cells.map AV.ab)=true∧
 K (H.set id (.cells (ag es off (x.cells.map AV.ab))))):=_root_.id rfl
def ri (o:Option aa) (l m id off:Nat) (x:AV) (H:List aa) (K:List aa→Prop):Prop:=
 match o with
 | some (.cells es)=>l≤id∧x.val=true∧x.cells.length=m∧off + m≤es.length∧x.cells.all AV.one=true∧aj H.length (x.cells.map AV.ab)=true∧
    K (H.set id (.cells (ag es off (x.cells.map AV.ab))))
 | _=>False
@[congr] theorem Ny {o o':Option aa} {l m id off:Nat} {x:AV} {H:List aa} {K:List aa→Prop} (h:gJ o=o') {x':AV} (h2:x=x'):ri o l m id off x H K=ri o' l m id off x' H K:=by subst h;subst h2;rfl
theorem FD (l m id off:Nat) (x:AV) (H:List aa) (K:List aa→Prop):gP l m (.ptr id off) x H K=ri H[id]? l m id off x H K:=by
 unfold gP ri;rfl
theorem I8 (es:List AV) (l m id off:Nat) (x:AV) (H:List aa) (K:List aa→Prop):ri (some (.cells es)) l m id off x H K=(l≤id∧x.val=true∧x.cells.length=m∧off + m≤es.length∧x.cells.all AV.one=true∧aj H.length (x.cells.map AV.ab)=true∧
 K (H.set id (.cells (ag es off (x.cells.map AV.ab))))):=_root_.id rfl
@[congr] theorem Nz {l m:Nat} {p p' x:AV} {H H':List aa} {K:List aa→Prop} (h:gJ p=p') (h2:H=H'):gP l m p x H K=gP l m p' x H' K:=by subst h;subst h2;rfl
theorem I9 (e:Nat) (xs:List AV) (H:List aa) (K:AV→List aa→Prop):fF e (.agg xs) H K=jY e xs H fun ys H'=>K (.agg ys) H':=_root_.id rfl
theorem FE (e:Nat) (H:List aa) (K:List AV→List aa→Prop):jY e [] H K=K [] H:=_root_.id rfl
theorem Dj (e:Nat) (x:AV) (r:List AV) (H:List aa) (K:List AV→List aa→Prop):jY e (x::r) H K=dn e x H fun y H'=>jY e r H' fun ys H''=>K (y::ys) H'':=_root_.id rfl
theorem FF (e:Nat) (k:IntKind) (n:Int) (H:List aa) (K:AV→List aa→Prop):dn e (.int k n) H K=K (.int k n) H:=_root_.id rfl
def Lq:=And.intro @IV (And.intro @FD (And.intro @I8 (And.intro @K7 (And.intro @I9 (And.intro @FE (And.intro @Dj @FF))))))
def iN (o:Option aa) (kd:Nat) (zero k:AV) (ok:Bool) (φ:AV→Prop):Prop:=
 match o with
 | some (.map es)=>match eh kd k es 0 with
   | some (some (_,v))=>φ (if ok then .tuple [v.drop,.bool true] else v.drop)
   | some none=>c8 kd k k=some true∧φ (if ok then .tuple [aT zero,.bool false] else aT zero)
   | none=>False
 | _=>False
@[congr] theorem NA {o o':Option aa} {kd:Nat} {z k k':AV} {ok:Bool} {φ:AV→Prop} (h:gJ o=o') (h2:k=k'):iN o kd z k ok φ=iN o' kd z k' ok φ:=by subst h;subst h2;rfl
theorem FG (kd id:Nat) (z k:AV) (ok:Bool) (H:List aa) (φ:AV→Prop):cv kd z (.map id) k ok H φ=iN H[id]? kd z k ok φ:=by
 unfold cv iN;rfl
def iO (o:Option aa) (kd id:Nat) (k x:AV) (H:List aa) (K:List aa→Prop):Prop:=
 match o with
 | some (.map es)=>k.aV (id + 1)=true∧x.aV (id + 1)=true∧x.val=true∧match eh kd k es 0 with
    | some (some (i,_))=>K (H.set id (.map (es.set i (k,aT x))))
    | some none=>c8 kd k k=some true∧K (H.set id (.map (es++[(k,aT x)])))
    | none=>False
 | _=>False
@[congr] theorem NB {o o':Option aa} {kd id:Nat} {k k' x x':AV} {H:List aa} {K:List aa→Prop} (h:gJ o=o') (h2:k=k') (h3:x=x'):iO o kd id k x H K=iO o' kd id k' x' H K:=by subst h;subst h2;subst h3;rfl
theorem FH (kd id:Nat) (k x:AV) (H:List aa) (K:List aa→Prop):fC kd (.map id) k x H K=iO H[id]? kd id k x H K:=by
 unfold fC iO;rfl
def zc (o:Option aa) (d id off:Nat) (env:Env) (H:List aa) (K:Env→List aa→Prop):Prop:=
 match o with
 | some (.cells es)=>off < es.length∧K ((d,es.getD off .any)::env) (H.set id (.cells (es.set off (es.getD off .any).ab)))
 | _=>False
@[congr] theorem Rk {o o':Option aa} {d id off:Nat} {env:Env} {H:List aa} {K:Env→List aa→Prop} (h:gJ o=o'):zc o d id off env H K=zc o' d id off env H K:=by subst h;rfl
theorem Pj (es:List AV) (d id off:Nat) (env:Env) (H:List aa) (K:Env→List aa→Prop):zc (some (.cells es)) d id off env H K=(off < es.length∧K ((d,es.getD off .any)::env) (H.set id (.cells (es.set off (es.getD off .any).ab)))):=_root_.id rfl
def Dk (v:AV) (d:Nat) (env:Env) (H:List aa) (K:Env→List aa→Prop):Prop:=
 match v with
 | .ptr id off=>zc H[id]? d id off env H K
 | _=>False
@[congr] theorem Rl {v v':AV} {d:Nat} {env:Env} {H:List aa} {K:Env→List aa→Prop} (h:gJ v=v'):Dk v d env H K=Dk v' d env H K:=by subst h;rfl
theorem Pk (id off d:Nat) (env:Env) (H:List aa) (K:Env→List aa→Prop):Dk (.ptr id off) d env H K=zc H[id]? d id off env H K:=_root_.id rfl
theorem Lr {P:Px} (a:IX) (d:Nat) (env:Env) (H:List aa) (K:Env→List aa→Prop):bA P (.eH a) (some d) env H K=Dk (ap env a) d env H K:=by
 simp only [bA,Dk,zc]
 cases ap env a <;> rfl
def Ls (o:Option aa) (id off:Nat) (x:AV) (H:List aa) (K:List aa→Prop):Prop:=
 match o with
 | some (.cells es)=>off < es.length∧x.one=true∧x.aV (id + 1)=true∧K (H.set id (.cells (es.set off x)))
 | _=>False
@[congr] theorem Uf {o o':Option aa} {id off:Nat} {x x':AV} {H:List aa} {K:List aa→Prop} (h:gJ o=o') (h2:x=x'):Ls o id off x H K=Ls o' id off x' H K:=by subst h;subst h2;rfl
theorem Pl (id off:Nat) (x:AV) (H:List aa) (K:List aa→Prop):ee (.ptr id off) x H K=Ls H[id]? id off x H K:=by
 unfold ee Ls;rfl
theorem Ug (es:List AV) (id off:Nat) (x:AV) (H:List aa) (K:List aa→Prop):Ls (some (.cells es)) id off x H K=(off < es.length∧x.one=true∧x.aV (id + 1)=true∧K (H.set id (.cells (es.set off x)))):=_root_.id rfl
theorem bd2 (x y:AV) (φ:AV→Prop):cA [.int .i64 0,.int .i64 0,.ah] [(0,1,x),(1,1,y)] φ=(x.val=true∧x.cells.length=1∧y.val=true∧y.cells.length=1∧φ (.agg (ag (ag [.int .i64 0,.int .i64 0,.ah] 0 (x.cells.map AV.ab)) 1 (y.cells.map AV.ab)))):=by
 simp only [cA,gO,eq_iff_iff]
 constructor
 ·rintro ⟨h1,h2,h3,h4,h5,h6,h7⟩;exact ⟨h1,h2,h4,h5,h7⟩
 ·rintro ⟨h1,h2,h4,h5,h7⟩
  have e1:(x.cells.map AV.ab).length=1:=by simpa using h2
  refine ⟨h1,h2,by simp,h4,h5,?_,h7⟩
  simp [ag,h2]
theorem bd0 (cs:List AV) (φ:AV→Prop):cA cs [] φ=φ (.agg cs):=_root_.id rfl
theorem mH (e b:Nat) (ys:List AV) (o:Nat) (ψ:List AV→Prop):bn e b .ah (.al o ys) ψ=(ys.length * b≤140737488355328∧qB e ys∧ψ ys):=by
 simp [bn,kC,dl]
theorem mI (e b:Nat) (xs ys:List AV) (o:Nat) (ψ:List AV→Prop):bn e b (.al e xs) (.al o ys) ψ=((xs.length + ys.length) * b≤140737488355328∧qB e ys∧ψ (xs++ys)):=by
 simp [bn,kC,dl]
theorem abR (n:Nat):(IX.t n).slot=some n:=_root_.id rfl
theorem abS (v:AV):(IX.c v).slot=none:=_root_.id rfl
theorem Uh (id:Nat) (H:List aa) (φ:AV→Prop):aQ none (.ai (.map id)) H φ=φ (.map id):=by simp [aQ,AV.one,KF]
theorem Ui (id off:Nat) (H:List aa) (φ:AV→Prop):aQ none (.ai (.ptr id off)) H φ=φ (.ptr id off):=by simp [aQ,AV.one,KE]
theorem Pm (b:Bool):(AV.bool b).one=true:=_root_.id rfl
theorem Uj (k:IntKind) (n:Int):(AV.int k n).one=true:=_root_.id rfl
theorem Uk (s:ByteArray):(AV.str s).one=true:=_root_.id rfl
theorem Ul (o:Nat) (xs:List AV):(AV.al o xs).one=true:=_root_.id rfl
theorem Pn:AV.ah.one=true:=_root_.id rfl
theorem W2 (f:Fn) (a b:List AV):(AV.fn f a b).one=true:=_root_.id rfl
theorem Um (a b:Nat):(AV.ptr a b).one=true:=_root_.id rfl
theorem Po (x:AV):(AV.ai x).one=true:=_root_.id rfl
theorem Un (a:Nat):(AV.map a).one=true:=_root_.id rfl
theorem abT {α:Type} (p:α→Bool) (x:α) (r:List α):(x::r).all p=(p x && r.all p):=_root_.id rfl
theorem abU {α:Type} (p:α→Bool):([]:List α).all p=true:=_root_.id rfl
theorem dL (n:Int) (h:-9223372036854775808≤n∧n≤9223372036854775807):IntKind.i64.wrap n=n:=by
 rw [show IntKind.i64.wrap n=(n + 9223372036854775808) % 18446744073709551616 - 9223372036854775808 from IntKind.wrap_i64 n];omega
theorem aJ {P:Program} {n0:Nat} {env:Env} {H:List aa} {Q:Exit→Env→List aa→Prop} {a:IR} {ι:Type} (N:Nat) (I:Nat→ι→Prop) (se:Nat→ι→Env) (sh:Nat→ι→List aa) (s0:ι) (h0:I 0 s0∧sle n0 env H (se 0 s0) (sh 0 s0))
 (hs:∀ i s,i≤N→I i s→lX P n0 a (se i s) (sh i s) fun e aG H'=>match e with
   | .normal=>∃ j t,(j≤N∧I j t)∧N - j < N - i∧sle n0 aG H' (se j t) (sh j t)
   | e=>Q e aG H'):lX P n0 (.loop a) env H Q:=
 ⟨Nat×ι,fun p=>p.1≤N∧I p.1 p.2,fun p=>se p.1 p.2,fun p=>sh p.1 p.2,fun p=>N - p.1,⟨(0,s0),⟨Nat.zero_le _,h0.1⟩,h0.2⟩,fun p hp=>lH (hs p.1 p.2 hp.1 hp.2) fun x e H' h=>by
   cases x with
   | normal=>obtain ⟨j,t,h1,h2,h3⟩:=h;exact ⟨(j,t),h1,h2,h3⟩
   | _=>exact h⟩
theorem jF {P:Program} {l:Nat} {n0:Nat} {env:Env} {H:List aa} {Q:Exit→Env→List aa→Prop} {a:IR} {ι:Type} (N:Nat) (I:Nat→ι→Prop) (se:Nat→ι→Env) (sh:Nat→ι→List aa) (s0:ι) (h0:I 0 s0∧Ie n0 env H (se 0 s0) (sh 0 s0))
 (hs:∀ i s,i≤N→I i s→lX ⟨P,some l⟩ n0 a (se i s) (sh i s) fun e aG H'=>match e with
   | .normal=>∃ j t,(j≤N∧I j t)∧N - j < N - i∧Ie n0 aG H' (se j t) (sh j t)
   | e=>Q e aG H'):lX ⟨P,some l⟩ n0 (.loop a) env H Q:=
 ⟨Nat×ι,fun p=>p.1≤N∧I p.1 p.2,fun p=>se p.1 p.2,fun p=>sh p.1 p.2,fun p=>N - p.1,⟨(0,s0),⟨Nat.zero_le _,h0.1⟩,h0.2⟩,fun p hp=>lH (hs p.1 p.2 hp.1 hp.2) fun x e H' h=>by
   cases x with
   | normal=>obtain ⟨j,t,h1,h2,h3⟩:=h;exact ⟨(j,t),h1,h2,h3⟩
   | _=>exact h⟩
theorem aZ {H:List aa} {s:Nat} {v v':AV} (hb:v.aV H.length=true) (hv:v=v'):bW H.length [.t s] [(s,v)] H fun r H'=>r=v'∧H'=H:=
 aX _ (Nat.le_refl _) (by rw [ay,if_pos rfl];exact hb) ⟨by rw [ay,if_pos rfl];exact hv,by simp⟩
theorem Lt {H e:List aa} {s:Nat} {v v':AV} (hb:v.aV H.length=true) (hv:v=v'):bW H.length [.t s] [(s,v)] (H++e) fun r H'=>r=v'∧H'=H:=
 aX _ (Nat.le_refl _) (by rw [ay,if_pos rfl];exact hb) ⟨by rw [ay,if_pos rfl];exact hv,by simp⟩
theorem Uo {H H':List aa} {n0 s:Nat} {v v':AV} (hn:n0=H.length) (hb:v.aV n0=true) (hv:v=v') (hl:H=H'):bW n0 [.t s] [(s,v)] H fun r H''=>r=v'∧H''=H':=by
 subst hn hl;exact aZ hb hv
theorem rj {H H':List aa} {n0:Nat} {env:Env} (hn:n0=H.length) (hl:H=H'):bW n0 [] env H fun r H''=>r=.tuple []∧H''=H':=by
 subst hn hl
 exact ⟨H.length,Nat.le_refl _,[],trivial,rfl,rfl,by simp⟩
theorem wH {H e:List aa} {s s':Nat} {v v' x y:AV} (hs:s'≠s) (hb:x.aV H.length=true) (dU:y.aV H.length=true) (hx:v.ab=x) (hy:v'.ab=y) :
 bW H.length [.t s,.t s'] [(s,v),(s',v')] (H++e) fun r H'=>r=.tuple [x,y]∧H'=H:=by
 subst hx hy
 refine ⟨H.length,Nat.le_refl _,[v.ab,v'.ab],?_,?_,rfl,by simp⟩
 ·simp only [ay,if_neg hs,if_true,List.map]
  exact b8 _
 ·simp only [aj,hb,dU,Bool.and_self]
theorem zd {H:List aa} {s s':Nat} {v v' x y:AV} (hs:s'≠s) (hb:x.aV H.length=true) (dU:y.aV H.length=true) (hx:v.ab=x) (hy:v'.ab=y) :
 bW H.length [.t s,.t s'] [(s,v),(s',v')] H fun r H'=>r=.tuple [x,y]∧H'=H:=by
 have:=wH (e:=[]) hs hb dU hx hy
 rw [List.append_nil] at this
 exact this
def ze (n0:Nat) (x:AV) (H:List aa) (R:AV→List aa→Prop):Prop:=∃ m,n0≤m∧∃ r,x.le r∧r.aV m=true∧R r (H.take m)
@[congr] theorem Rm {n0:Nat} {x x':AV} {H H':List aa} {R:AV→List aa→Prop} (h:gJ x=x') (h2:H=H'):ze n0 x H R=ze n0 x' H' R:=by subst h;subst h2;rfl
def rk (n0:Nat) (xs:List AV) (H:List aa) (R:AV→List aa→Prop):Prop:=∃ m,n0≤m∧∃ ys,xY (xs.map AV.ab) ys∧aj m ys=true∧R (.tuple ys) (H.take m)
@[congr] theorem Rn {n0:Nat} {x x':List AV} {H H':List aa} {R:AV→List aa→Prop} (h:gJ x=x') (h2:H=H'):rk n0 x H R=rk n0 x' H' R:=by subst h;subst h2;rfl
theorem Uq (n0 s:Nat) (sz:Option Nat) (env:Env) (H:List aa) (R:AV→List aa→Prop):bW n0 [.c s sz] env H R=aQ sz (get env s) H fun x=>ze n0 x H R:=_root_.id rfl
theorem Pp (n0 s s':Nat) (sz:Option Nat) (env:Env) (H:List aa) (R:AV→List aa→Prop):bW n0 [.c s sz,.t s'] env H R=aQ sz (get env s) H fun x=>rk n0 [x,get env s'] H R:=_root_.id rfl
theorem rn {H e:List aa} {v v':AV} (hb:v.aV H.length=true) (hv:v=v'):ze H.length v (H++e) fun r H'=>r=v'∧H'=H:=by
 subst hv;exact ⟨H.length,Nat.le_refl _,v,le_refl _,hb,rfl,by simp⟩
theorem wI {H e:List aa} {v w x y:AV} (hb:x.aV H.length=true) (dU:y.aV H.length=true) (hx:v.ab=x) (hy:w.ab=y):rk H.length [v,w] (H++e) fun r H'=>r=.tuple [x,y]∧H'=H:=by
 subst hx hy
 exact ⟨H.length,Nat.le_refl _,[v.ab,w.ab],b8 _,by simp only [aj,hb,dU,Bool.and_self],rfl,by simp⟩
theorem bi {i n:Nat} (h:(i:Int) < (n:Int)):i < n:=by omega
theorem cb {i n:Nat} (h:(n:Int)≤(i:Int)):n≤i:=by omega
def mJ:=(And.intro @C9 (And.intro @Dd (And.intro @za @IW)))
def Ur:=(And.intro (And.intro (And.intro (And.intro (And.intro (And.intro (And.intro (And.intro @TT @KR) (And.intro @Fi @KS)) (And.intro (And.intro @OS @C7) (And.intro @IP (And.intro @KT @OT)))) (And.intro (And.intro (And.intro @KU @TX) (And.intro @TY @WU)) (And.intro (And.intro @WV @IQ) (And.intro @KV (And.intro @TZ @T1))))) (And.intro (And.intro (And.intro (And.intro @OU @KL) (And.intro @KM @ay)) (And.intro (And.intro @TS @T5) (And.intro @K3 (And.intro @IU @K4)))) (And.intro (And.intro (And.intro @WW @T6) (And.intro @O4 (And.intro @O5 @K5))) (And.intro (And.intro @K6 @yi) (And.intro @O6 (And.intro @Lr @Pk)))))) (And.intro (And.intro (And.intro (And.intro (And.intro @Pj @Pl) (And.intro @Ug @FG)) (And.intro (And.intro @FH @mH) (And.intro @mI (And.intro @Uh @Ui)))) (And.intro (And.intro (And.intro @abR @abS) (And.intro @Uq (And.intro @Pp @bd0))) (And.intro (And.intro @bd2 @K8) (And.intro @Fj (And.intro @C8 @A7))))) (And.intro (And.intro (And.intro (And.intro @K9 @A8) (And.intro @Da @Lb)) (And.intro (And.intro @O7 @Db) (And.intro @T7 (And.intro @IY (And.intro @Lc (And.intro @uY @Fk)))))) (And.intro (And.intro (And.intro @Ld @Lf) (And.intro @I0 (And.intro @I1 @WX))) (And.intro (And.intro @Fl @Fp) (And.intro @Fq (And.intro @Ft @Lg))))))) (And.intro (And.intro (And.intro (And.intro (And.intro (And.intro @WY @O8) (And.intro @Lh @T8)) (And.intro (And.intro @O9 @Li) (And.intro @Pa (And.intro @Pb @T9)))) (And.intro (And.intro (And.intro @Pc @Ua) (And.intro @Lj @I2)) (And.intro (And.intro @Lk @WZ) (And.intro @Pd (And.intro @Ll @yj))))) (And.intro (And.intro (And.intro (And.intro @A9 @yk) (And.intro @Dc @Ba)) (And.intro (And.intro @Lm @Bb) (And.intro @De (And.intro @Ln @Df)))) (And.intro (And.intro (And.intro @Dg @Bc) (And.intro @wG (And.intro @uB @W0))) (And.intro (And.intro @Fu @Fv) (And.intro @W1 (And.intro @Pe @Fx)))))) (And.intro (And.intro (And.intro (And.intro (And.intro @I3 @Fy) (And.intro @Fz @Dh)) (And.intro (And.intro @Ub @Uc) (And.intro @lG (And.intro @FA @I4)))) (And.intro (And.intro (And.intro @I5 @Lo) (And.intro @I6 (And.intro @OL @OM))) (And.intro (And.intro @ON @OO) (And.intro @WN (And.intro @WO @WQ))))) (And.intro (And.intro (And.intro (And.intro @WR @abI) (And.intro @WS @WT)) (And.intro (And.intro @OQ @IK) (And.intro @SX (And.intro @oU @oe)))) (And.intro (And.intro (And.intro @AZ @G7) (And.intro @wz (And.intro @SY @SZ))) (And.intro (And.intro @KD @KE) (And.intro @G8 (And.intro @Oh @KF)))))))) (And.intro (And.intro (And.intro (And.intro (And.intro (And.intro (And.intro @Oi @Q7) (And.intro @Oj @Ol)) (And.intro (And.intro @S0 @S1) (And.intro @Om (And.intro @S2 @S3)))) (And.intro (And.intro (And.intro @WI @On) (And.intro @S4 @Oo)) (And.intro (And.intro @S5 @uV) (And.intro @S6 (And.intro @S7 @Oq))))) (And.intro (And.intro (And.intro (And.intro @S8 @S9) (And.intro @WJ @Ot)) (And.intro (And.intro @Ta @Ou) (And.intro @Tb (And.intro @G9 @Tc)))) (And.intro (And.intro (And.intro @Td @Ov) (And.intro @Te (And.intro @Tf @WK))) (And.intro (And.intro @Ow @Tg) (And.intro @Ox (And.intro @Th @A0)))))) (And.intro (And.intro (And.intro (And.intro (And.intro @fM @KG) (And.intro @Ha @b9)) (And.intro (And.intro @og @KH) (And.intro @pY (And.intro @KI @gU)))) (And.intro (And.intro (And.intro @A4 @WL) (And.intro @Oy (And.intro @cP @bH))) (And.intro (And.intro @KN @Hb) (And.intro @Ti (And.intro @Tj @Tk))))) (And.intro (And.intro (And.intro (And.intro @Tl @Tm) (And.intro @Tn @To)) (And.intro (And.intro @Tp @Tq) (And.intro @Tr (And.intro @Ts @Tt)))) (And.intro (And.intro (And.intro @Tv @Tw) (And.intro @Tx (And.intro @Tz @TA))) (And.intro (And.intro @TB @abH) (And.intro @TC (And.intro @Oz @TD))))))) (And.intro (And.intro (And.intro (And.intro (And.intro (And.intro @TE @OA) (And.intro @TF @OB)) (And.intro (And.intro @TG @TH) (And.intro @OC (And.intro @TI @OD)))) (And.intro (And.intro (And.intro @TJ @TK) (And.intro @TL @OE)) (And.intro (And.intro @WM @TM) (And.intro @OF (And.intro @KJ @TN))))) (And.intro (And.intro (And.intro (And.intro @KK @TO) (And.intro @TP @TQ)) (And.intro (And.intro @TR @ID) (And.intro @OG (And.intro @OH @OI)))) (And.intro (And.intro (And.intro @IE @IF) (And.intro @IG (And.intro @IH @II))) (And.intro (And.intro @CY @CZ) (And.intro @ga0 (And.intro @ga @sa0)))))) (And.intro (And.intro (And.intro (And.intro (And.intro @sa @abJ) (And.intro @Wo @g0)) (And.intro (And.intro @g1 @g2) (And.intro @s0 (And.intro @s1 @s2)))) (And.intro (And.intro (And.intro @d0 @d1) (And.intro @d2 (And.intro @sp1 @abL))) (And.intro (And.intro @abM @abN) (And.intro @abO (And.intro @abP @abQ))))) (And.intro (And.intro (And.intro (And.intro @Ud @Ue) (And.intro @Hd @Pg)) (And.intro (And.intro @Lp @Pf) (And.intro @I7 (And.intro @Di @Pm)))) (And.intro (And.intro (And.intro @Uj @Uk) (And.intro @Ul (And.intro @Pn @W2))) (And.intro (And.intro @Um @Po) (And.intro @Un (And.intro @abT @abU)))))))))
end Go.aL
end
section
namespace Go.aL
open Go Go.RowKit
def fh (w:World):Mem:=fun b o=>w.cell? ⟨b,o,none⟩
def FI (w:World):Perm:=⟨fun b=>w.heap.size≤b,fun id=>some (id + 1),(fun id n h=>by cases h;omega),0⟩
theorem Bd (w:World):(FI w).entry false ([]:List aa).length:=⟨fun id h=>absurd h (Nat.not_lt_zero _),fun id _=>rfl⟩
theorem St.start {w:World} {vs:Array Value} {xs:List AV} (h:aM (fh w) [] vs.toList xs) (hf:∀ x∈xs,∀ own ys,x=.al own ys→own=0) :
 St (FI w) (fh w) [] w [] (fun t=>vs.getD t undef) (fun t=>xs.getD t .any) (fun _=>none) where
 len:=rfl
 nodup:=by simp
 env:=fun t=>by
  have:=h.getD t
  rw [List.getD_eq_getElem?_getD] at this
  rw [Array.getD_eq_getD_getElem?]
  simpa using this
 mem:=fun b o v hv=>hv
 obj:=fun id o b ho=>by simp at ho
 bE:=fun id o ho=>by simp at ho
 lt:=fun b hb=>by cases hb
 iq:=fun t=>by
  refine bg.free fun own ys e=>?_
  rw [List.getD_eq_getElem?_getD] at e
  cases hx:xs[t]? with
  | none=>rw [hx] at e;cases e
  | some x=>rw [hx] at e;exact hf x (List.mem_of_getElem? hx) own ys e
 hZ:=fun id j=>by simp [bw,bg]
 ch:=fun p q b hp=>by cases hp
 cz:=fun p b hp=>by cases hp
 fq:=fun p b hp=>by cases hp
 La:=fun b hb=>by cases hb
 Oa:=fun p b hp=>by cases hp
 fresh:=fun b hb=>hb
theorem Ext.below {M M':Mem} {w w':World} (h:Ext (FI w) M w M' w'):Below w.heap.size w w':=
 ⟨h.os,h.tape,h.output,h.size,fun k hk=>(h.kO k hk (by show ¬ w.heap.size≤k;omega)).1⟩
theorem Pure.lift {P:Program} {f:FuncId} {xs:List AV} {b:Bool} (hp:Pure P f xs (.bool b)) (he:∀ (as:Array Value) (w:World),(callFunc f as).run P w=.ok (.enter f as) w)
 {w:World} {vs:Array Value} (hr:aM (fh w) [] vs.toList xs) (hf:∀ x∈xs,∀ own ys,x=.al own ys→own=0) :
 Calls P f vs w fun e w'=>e=.returned (.bool b)∧Below w.heap.size w w':=by
 have hs:vs.size=xs.length:=by have:=hr.length;simpa using this
 refine ((hp []).body he (Bd w) hs (St.start hr hf)).mono ?_
 rintro e w' ⟨v,r,H',M',L',O',rfl,⟨rfl,rfl⟩,bS,cG,_⟩
 have:=bS.env 0
 simp only [JT] at this
 cases this
 exact ⟨rfl,cG.below⟩
theorem Dl {a:Addr} {n:Nat} (h:a.spot=none):a.add n=⟨a.block,a.off + n,none⟩:=by
 obtain ⟨b,o,s⟩:=a
 simp only at h
 subst h
 unfold Addr.add
 split
 ·rename_i e;subst e;rfl
 ·rfl
theorem Ja {w:World} {a:Addr} {v:Value} (h:w.cell? a=some v):a.spot=none:=by
 unfold World.cell? at h
 split at h
 ·split at h
  ·cases h
  ·rename_i hs;cases Nk:a.spot <;> simp_all
 ·cases h
theorem zg {M:Mem} {L:List Nat}:∀ {n:Nat} {cs:Nat→List Value} {f:Nat→AV},(∀ i,i < n→aM M L (cs i) (f i).cells)→aM M L ((List.range n).flatMap cs) (flat ((List.range n).map f))
 | 0,_,_,_=>by simp [flat];exact .nil
 | n + 1,cs,f,h=>by
   have ih:=zg (n:=n) (fun i hi=>h i (by omega))
   simp only [List.range_succ,List.flatMap_append,List.map_append,flat] at ih ⊢
   refine ih.append ?_
   simpa using h n (by omega)
theorem Dm {n e:Nat} {cs:Nat→List Value}:(∀ i,i < n→(cs i).length=e)→∀ (j:Nat) (v:Value),((List.range n).flatMap cs)[j]?=some v→∃ i k,i < n∧k < e∧j=i * e + k∧(cs i)[k]?=some v:=by
 induction n with
 | zero=>intro _ j v h;simp at h
 | succ n ih=>
   intro hl j v h
   simp only [List.range_succ,List.flatMap_append] at h
   have hlen:((List.range n).flatMap cs).length=n * e:=by
    clear h ih
    induction n with
    | zero=>simp
    | succ n ih2=>
      simp only [List.range_succ,List.flatMap_append,List.length_append]
      rw [ih2 (fun i hi=>hl i (by omega))]
      simp [hl n (by omega),Nat.succ_mul]
   rcases Nat.lt_or_ge j (n * e) with hj | hj
   ·rw [List.getElem?_append_left (by omega)] at h
    obtain ⟨i,k,h1,h2,h3,h4⟩:=ih (fun i hi=>hl i (by omega)) j v h
    exact ⟨i,k,by omega,h2,h3,h4⟩
   ·rw [List.getElem?_append_right (by omega),hlen] at h
    simp only [List.flatMap_cons,List.flatMap_nil,List.append_nil] at h
    have hk:=(List.getElem?_eq_some_iff.1 h).1
    rw [hl n (by omega)] at hk
    exact ⟨n,j - n * e,by omega,hk,by omega,h⟩
theorem zh {w:World} {base e len cap:Nat} {a:Addr} (he:0 < e) (hl:len≤cap) (hc:cap≤maxLen) (cs:Nat→List Value) (f:Nat→AV)
 (h:∀ i,i < len→w.cells? base (a.add (i * e)) e=some (cs i)∧aM (fh w) [] (cs i) (f i).cells):aS (fh w) [] (.slice (some a) len cap) (.al 0 ((List.range len).map f)):=by
 have cj:cap < 9223372036854775808:=by have:maxLen=9223372036854775807:=rfl;omega
 rcases Nat.eq_zero_or_pos len with h0 | h0
 ·subst h0
  exact .gL _ _ _ cj
 have hlen:∀ i,i < len→(cs i).length=e:=fun i hi=>(World.cells?_some (h i hi).1).2.1
 have hcell:∀ i,i < len→∀ k,k < e→w.cell? ((a.add (i * e)).add k)=(cs i)[k]?:=fun i hi=>(World.cells?_some (h i hi).1).2.2
 have hspot:a.spot=none:=by
  have h1:=hcell 0 h0 0 he
  rw [List.getElem?_eq_getElem (by rw [hlen 0 h0];exact he)] at h1
  have h2:=Ja h1
  simpa [Addr.add] using h2
 have key:aS (fh w) [] (.slice (some ⟨a.block,a.off,none⟩) ((List.range len).map f).length cap) (.al 0 ((List.range len).map f)):=by
  refine .al a.block a.off cap 0 e ((List.range len).flatMap cs) _ he ?_ (by simpa using h0) (by simpa using hl) cj (zg fun i hi=>(h i hi).2) ?_
  ·intro x hx
   obtain ⟨i,hi,rfl⟩:=List.mem_map.1 hx
   have hi:=List.mem_range.1 hi
   rw [← (h i hi).2.length,hlen i hi]
  ·intro j v hv
   obtain ⟨i,k,h1,h2,rfl,h4⟩:=Dm hlen j v hv
   have:=hcell i h1 k h2
   rw [Dl hspot,Dl (by rfl)] at this
   show w.cell? ⟨a.block,a.off + (i * e + k),none⟩=some v
   rw [← Nat.add_assoc,this,h4]
 have ea:(some a:Option Addr)=some ⟨a.block,a.off,none⟩:=by obtain ⟨b,o,s⟩:=a;simp only at hspot;rw [hspot]
 rw [ea]
 simpa using key
section
variable {H:Type} {enc:TypeId×Value→H} {P:Program}
theorem pB (hl:laidOutB P=true) {W W':World} (hb:Below W.heap.size W W'):∀ {ts:List TypeId} {vs:List Value} {ds:List (DataW H)} {ps:List MemPlace},(∀ t∈ts,P.readableRec t=true∧t < P.types.size)→
 DataW.TrodAll enc P W 0 (fun _=>true) true ts vs ds ps→(∀ x∈ps,x.block < W.heap.size)→DataW.TrodAll enc P W' 0 (fun b=>decide (b < W.heap.size)) true ts vs ds ps
 | [],[],[],_,_,h,_=>h
 | t::ts,v::vs,d::ds,_,ht,⟨p,q,h1,h2,e⟩,hp=>by
   subst e
   exact ⟨p,q,Below.trod hl (ht t (by simp)).1 (ht t (by simp)).2 h1 hb (fun x hx=>hp x (by simp [hx])),pB hl hb (fun t ht'=>ht t (by simp [ht'])) h2 (fun x hx=>hp x (by simp [hx])),rfl⟩
theorem Lu {fn:Func} {s:ChangeSpec} {apart:Bool} {W W':World} {args:Array Value} {ds gs:List (DataW H)} {before:List MemPlace} {t:TypeId} (hl:laidOutB P=true) (hb:Below W.heap.size W W')
 (hW:DataW.Whole enc P fn.params.toList s.vars apart W args.toList ds gs before) (hv:s.vars=[]) (uC:fn.resultTypes=#[t]) (ht:P.underlying t=some .bool) (hs:s.fn H ds={ results:=[.lit (.bool true)],args:=ds })
 (hp:fn.params.toList.all (fun t=>P.readableRec t && decide (t < P.types.size))=true):s.post enc P fn apart true false false W args (.bool true) W':=by
 have aK:∀ x∈before,x.block < W.heap.size:=fun x hx=>by simpa using hW.lt x hx
 have hW0:=hW
 obtain ⟨p,q,h1,h2,h3,h4,h5⟩:=hW
 rw [hv] at h2
 obtain ⟨rfl,rfl⟩:=ChangeShapes.trodVars_none h2
 simp only [List.append_nil] at h3
 subst h3
 refine ⟨ds,[],before,[],before,[],hW0,?_,?_,?_,hb.frame _,fun h=>by cases h⟩
 ·simp only [List.append_nil,hs,uC]
  exact ChangeShapes.trodAll_mk1 (shut_bool ht true)
 ·simp only [List.append_nil,hs]
  exact pB hl hb (fun t ht=>by simpa using List.all_eq_true.1 hp t ht) h1 aK
 ·simp only [hv,List.append_nil,hs]
  rfl
end
end Go.aL
end
section
namespace Go.aL
open Go
structure NC {σ:Type} (S:σ→List aa) (p:Nat) (obj:σ→aa) (n:Nat):Prop where
 get:∀ s,(S s)[p]?=some (obj s)
 set:∀ s s',(S s).set p (obj s')=S s'
 len:∀ s,(S s).length=n
namespace NC
variable {σ:Type} {S:σ→List aa} {p:Nat} {obj:σ→aa} {n:Nat} (F:NC S p obj n)
include F
theorem lt (s:σ):p < n:=by
 have:=F.get s
 rw [← F.len s]
 exact (List.getElem?_eq_some_iff.1 this).1
theorem get' (s:σ) (e:List aa):(S s++e)[p]?=some (obj s):=by
 rw [List.getElem?_append_left (by rw [F.len];exact F.lt s)];exact F.get s
theorem Us (s s':σ) (e:List aa):(S s++e).set p (obj s')=S s'++e:=by
 rw [List.set_append_left _ _ (by rw [F.len];exact F.lt s),F.set]
theorem Lv (s:σ) (e:List aa):(S s++e)[n]?=e[0]?:=by rw [← F.len s];exact ga0 _ _
theorem Ut (s:σ) (e:List aa) (i:Nat):(S s++e)[n + i]?=e[i]?:=by rw [← F.len s];exact ga _ _ _
theorem Lw (s:σ) (e:List aa) (x:aa):(S s++e).set n x=S s++e.set 0 x:=by rw [← F.len s];exact sa0 _ _ _
theorem W3 (s:σ) (e:List aa) (i:Nat) (x:aa):(S s++e).set (n + i) x=S s++e.set i x:=by rw [← F.len s];exact sa _ _ _ _
theorem rp (e:List aa):NC (fun s=>S s++e) p obj (n + e.length):=
 ⟨fun s=>F.get' s e,fun s s'=>F.Us s s' e,fun s=>by simp [F.len]⟩
theorem take (s:σ) (e:List aa):(S s++e).take n=S s:=by
 rw [← F.len s];simp
end NC
theorem NC.mk2 (H:List aa) {σ:Type} (obj:σ→aa) (x:aa) (e:List aa):NC (fun s=>H++x::obj s::e) (H.length + 1) obj (H.length + (e.length + 1 + 1)):=
 ⟨fun s=>by simp,fun s s'=>by simp,fun s=>by simp⟩
theorem jz {Hs G:List aa} {n0:Nat} {v w x y:AV} {R:AV→List aa→Prop} (hH:Hs.take n0=G) (hb:x.aV n0=true) (dU:y.aV n0=true) (hx:v.ab=x) (hy:w.ab=y) (hR:R (.tuple [x,y]) G) :
 rk n0 [v,w] Hs R:=by
 subst hx hy hH
 exact ⟨n0,Nat.le_refl _,[v.ab,w.ab],b8 _,by simp only [aj,hb,dU,Bool.and_self],hR⟩
theorem Ro {Hs G:List aa} {n0:Nat} {v x:AV} {R:AV→List aa→Prop} (hH:Hs.take n0=G) (hb:x.aV n0=true) (hx:v=x) (hR:R x G):ze n0 v Hs R:=by
 subst hx hH
 exact ⟨n0,Nat.le_refl _,v,le_refl _,hb,hR⟩
theorem Pq {Hs G:List aa} {n0 s:Nat} {v x:AV} {R:AV→List aa→Prop} (hH:Hs.take n0=G) (hb:x.aV n0=true) (hx:v=x) (hR:R x G):bW n0 [.t s] [(s,v)] Hs R:=by
 subst hx hH
 exact aX _ (Nat.le_refl _) (by rw [ay,if_pos rfl];exact hb) (by rw [ay,if_pos rfl];exact hR)
end Go.aL
end
section
namespace Go.aL
open Go
def sL (C:List aa→Nat→List aa→Prop) (n0:Nat) (v:AV) (H:List aa) (R:AV→List aa→Prop):Prop:=
 ∃ m H',n0≤m∧C H m H'∧∃ r,v.le r∧r.aV m=true∧R r H'
@[congr] theorem Ps {C:List aa→Nat→List aa→Prop} {n0:Nat} {x x':AV} {H H':List aa} {R:AV→List aa→Prop} (h:gJ x=x') (h2:H=H'):sL C n0 x H R=sL C n0 x' H' R:=by subst h;subst h2;rfl
theorem Pt {C:List aa→Nat→List aa→Prop} {n0 s:Nat} {sz:Option Nat} {env:Env} {H:List aa} {R:AV→List aa→Prop}:lE C n0 [.c s sz] env H R=aQ sz (get env s) H fun v=>sL C n0 v H R:=_root_.id rfl
theorem Pu {C:List aa→Nat→List aa→Prop} {n0 s:Nat} {env:Env} {H:List aa} {R:AV→List aa→Prop}:lE C n0 [.t s] env H R=sL C n0 (get env s) H R:=_root_.id rfl
theorem zi {n0:Nat} {H G:List aa} (h:G.take n0=H) (hl:H.length=n0):kH n0 G n0 H:=by
 subst h
 refine ⟨by simp,fun id o ho=>?_⟩
 rw [List.getElem?_take] at ho
 split at ho
 ·exact .inr ⟨ho,fun h=>by omega⟩
 ·cases ho
def only (n0 id:Nat) (G:List aa):List aa:=G.mapIdx fun j o=>if j < n0∨j=id then o else .dead
theorem wJ {n0 id j:Nat} {G:List aa}:(only n0 id G)[j]?=(G[j]?).map fun o=>if j < n0∨j=id then o else .dead:=by simp [only]
theorem Ly {n0 id:Nat} {G:List aa}:(only n0 id G).length=G.length:=by simp [only]
theorem Jb {n0 id m:Nat} {G:List aa} (h:m≤n0):(only n0 id G).take m=G.take m:=by
 apply List.ext_getElem?
 intro j
 rw [List.getElem?_take,List.getElem?_take]
 split
 ·rw [wJ]
  cases G[j]? with
  | none=>rfl
  | some o=>simp;omega
 ·rfl
theorem Jc {n0 id:Nat} {G:List aa}:(only n0 id G)[id]?=G[id]?:=by
 rw [wJ];cases G[id]? <;> simp
theorem FJ {n0 id:Nat} {G:List aa} {o:aa} (hg:G[id]?=some o) (hb:o.aV 0=true):kH n0 G G.length (only n0 id G):=by
 refine ⟨by rw [Ly];simp,fun j x hx=>?_⟩
 rw [wJ] at hx
 obtain ⟨y,hy,rfl⟩:=Option.map_eq_some_iff.1 hx
 by_cases h1:j < n0
 ·rw [if_pos (.inl h1)];exact .inr ⟨hy,fun h=>by omega⟩
 ·by_cases h2:j=id
  ·subst h2
   rw [hg] at hy;cases hy
   rw [if_pos (.inr rfl)]
   exact .inr ⟨hg,fun _=>aa.cE (Nat.zero_le _) o hb⟩
  ·rw [if_neg (by omega)];exact .inl rfl
theorem lI (n0:Nat) (env:Env) (H:List aa):Ie n0 env H env H:=⟨fun t=>le_refl _,.inl rfl⟩
theorem rq {n0:Nat} {env aG:Env} {H H':List aa} (he:env=aG) (hH:H=H'):Ie n0 env H aG H':=by
 subst he;subst hH;exact lI _ _ _
def kj:=And.intro @Pt (And.intro @Pu Lq)
end Go.aL
end
section
namespace Go.aL
open Go
theorem ion (n:Nat):Int.ofNat (no_index (OfNat.ofNat n))=(OfNat.ofNat n:Int):=rfl
theorem W4:Int.negSucc 0=-1:=rfl
@[reducible] def aF {P:Program} {g:FuncId} {fn:Func} {n:Nat} {i:IR} {rs:List RX} (hc:∀ (as:Array Value) (w:World),(callFunc g as).run P w=.ok (.enter g as) w)
 (hf:P.funcs[g]?=some fn) (hn:fn.ntmps=n) (an:B9) (lv:m9) (pl:nc)
 (h:(fn.body.bind fun c=>comp P an lv pl n c)=some i:=by conv=>
   lhs
   reduce
   try simp only [ion,W4])
 (hr:iH P fn.results.toList=some rs:=by conv=>
   lhs
   reduce
   try simp only [ion,W4]):{fi:rc // iU P g fi}:=
 ⟨⟨n,i,rs⟩,by
   subst hn
   cases hb:fn.body with
   | none=>rw [hb] at h;cases h
   | some c=>exact ⟨hc,fn,c,an,lv,pl,hf,hb,rfl,by rw [hb] at h;exact h,hr⟩⟩
end Go.aL
end
