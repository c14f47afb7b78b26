/- Part 6 of 17 of the proof. -/
import Derived.Test.YtljchnfgjdjobaaGreatXae
import Derived.Laws.Externs
import Derived.ProofKit
import Derived.Deep.Slices
import Derived.Deep.Strs
set_option linter.unusedVariables false
set_option linter.unusedSimpArgs false
set_option linter.defProp false
set_option linter.unusedSectionVars false
section
namespace Go.aK
open Go
structure sc where
 n:Nat
 ir:IR
 rs:List RX
 deriving Inhabited
inductive Ent where
 | ir (fi:sc)
 | xv (g:List AV→Option AV)
 | S4 (g:List AV→List aa→Option (AV×List aa))
def ranges:Code→List (List Nat×Code×Code)
 | .seq a b=>ranges a++ranges b
 | .cond _ a b=>ranges a++ranges b
 | .block _ a=>ranges a
 | .loop a=>ranges a
 | .rangeFunc _ ps a b=>(ps.toList,a,b)::(ranges a++ranges b)
 | _=>[]
def UF (f:Func) (k:Nat) (an:C9) (lv:nW) (pl:nX):jm:=
 match f.body with
 | some c=>match (ranges c).getD k ([],.skip,.skip) with
   | (ps,a,b)=>⟨f.ntmps,ps,a,b,an,lv,pl⟩
 | none=>⟨0,[],.skip,.skip,an,lv,pl⟩
structure jq (P:Program) (f:FuncId) (fi:sc):Prop where
 call:∀ (as:Array Value) (w:World),(callFunc f as).run P w=.ok (.enter f as) w
 code:∃ fn c an lv pl,P.funcs[f]?=some fn∧fn.body=some c∧fn.ntmps=fi.n∧comp P an lv pl fn.ntmps c=some fi.ir∧jc P fn.results.toList=some fi.rs
theorem jq.BT {P:Program} {f:FuncId} {fi:sc} (h:jq P f fi) {args:List AV} {H:List aa} {R:AV→List aa→Prop} (hn:args.length≤fi.n)
 (hw:n7 P H.length fi.ir (cj 0 args) H fun e env H'=>(e=.normal∨e=.ret)∧bT H.length fi.rs env H' R):aw P f args H R:=by
 obtain ⟨fn,c,an,lv,pl,h1,h2,h3,h4,h5⟩:=h.code
 exact JK h1 h.call h2 h4 h5 (by omega) hw
theorem jq.PW {P:Program} {f:FuncId} {fi:sc} (h:jq P f fi) {args:List AV} {H:List aa} {R:AV→List aa→Prop} (hn:args.length≤fi.n)
 (hw:n7 ⟨P,some H.length⟩ H.length fi.ir (cj 0 args) H fun e env H'=>(e=.normal∨e=.ret)∧mj (lh H.length) H.length fi.rs env H' R):aw P f args H R:=by
 obtain ⟨fn,c,an,lv,pl,h1,h2,h3,h4,h5⟩:=h.code
 exact Gy h1 h.call h2 h4 h5 (by omega) hw
def uX (P:Program) (f:FuncId):Ent→Prop
 | .ir fi=>jq P f fi
 | .xv g=>∀ args r H,g args=some r→aw P f args H fun r' H'=>r'=r∧H'=H
 | .S4 g=>∀ args H r H',g args H=some (r,H')→aw P f args H fun r' H''=>r'=r∧H''=H'
abbrev Aa:=List (Nat×Ent)
def Aa.find:Aa→Nat→Option Ent
 | [],_=>none
 | (k,e)::r,f=>match Nat.beq k f with | true=>some e | false=>Aa.find r f
def Ab (P:Program):Aa→Prop
 | []=>True
 | (k,e)::r=>uX P k e∧Ab P r
theorem Aa.sd {P:Program}:∀ {T:Aa} {f:Nat} {e:Ent},Ab P T→T.find f=some e→uX P f e
 | [],_,_,_,h=>by simp [Aa.find] at h
 | (k,e')::r,f,e,hT,h=>by
   simp only [Aa.find] at h
   split at h
   ·rename_i hk
    cases h
    rw [← Nat.eq_of_beq_eq_true hk]
    exact hT.1
   ·exact Aa.sd hT.2 h
def xw:List RX→Env→List aa→Option (List AV)
 | [],_,_=>some []
 | .t s::r,env,H=>match xw r env H with | some xs=>some (get env s::xs) | none=>none
 | .c s sz::r,env,H=>match qL sz (get env s) H,xw r env H with | some x,some xs=>some (x::xs) | _,_=>none
theorem wa:∀ {rs:List RX} {env:Env} {H:List aa} {xs:List AV} {φ:List AV→Prop},xw rs env H=some xs→φ xs→tB rs env H φ
 | [],env,H,xs,φ,h,hφ=>by simp only [xw] at h;cases h;exact hφ
 | .t s::r,env,H,xs,φ,h,hφ=>by
   simp only [xw] at h
   split at h <;> cases h
   rename_i ys hy
   exact wa (φ:=fun xs=>φ (get env s::xs)) hy hφ
 | .c s sz::r,env,H,xs,φ,h,hφ=>by
   simp only [xw] at h
   split at h <;> cases h
   rename_i x ys hx hy
   exact oZ (φ:=fun x=>tB r env H fun xs=>φ (x::xs)) hx (wa (φ:=fun xs=>φ (x::xs)) hy hφ)
def tH (n0 n:Nat) (b:Bool):Nat:=if b=true then n0 else n
def PX (n0:Nat) (rs:List RX) (env:Env) (H:List aa):Option (AV×List aa):=
 match xw rs env H with
 | some [x]=>if n0≤H.length∧x.aW (tH n0 H.length (x.aW n0))=true then some (x,H.take (tH n0 H.length (x.aW n0))) else none
 | some xs=>if n0≤H.length∧aj (tH n0 H.length (aj n0 (xs.map AV.ab))) (xs.map AV.ab)=true then some (.tuple (xs.map AV.ab),H.take (tH n0 H.length (aj n0 (xs.map AV.ab)))) else none
 | none=>none
theorem Ac {n0 n:Nat} {b:Bool} (h:n0≤n):n0≤tH n0 n b:=by
 unfold tH;split <;> omega
theorem L5 {n0:Nat} {rs:List RX} {env:Env} {H H':List aa} {r:AV} {R:AV→List aa→Prop} (h:PX n0 rs env H=some (r,H')) (hR:R r H'):bT n0 rs env H R:=by
 unfold PX at h
 unfold bT
 split at h <;> try cases h
 ·rename_i x hx
  split at h <;> cases h
  rename_i hc
  exact wa hx ⟨_,Ac hc.1,_,le_refl _,hc.2,hR⟩
 ·rename_i xs eS hx
  split at h <;> cases h
  rename_i hc
  refine wa hx ⟨_,Ac (b:=aj n0 (xs.map AV.ab)) hc.1,?_⟩
  split
  ·rename_i x;exact absurd rfl (eS x)
  ·exact ⟨_,cp _,hc.2,hR⟩
abbrev Rs:=List (Exit×Env×List aa)
abbrev Ex:=IR→Env→List aa→Option Rs
def PY (n0:Nat) (rs:List RX) (o:Exit×Env×List aa):Option (AV×List aa):=
 match o.1 with
 | .normal=>PX n0 rs o.2.1 o.2.2
 | .ret=>PX n0 rs o.2.1 o.2.2
 | _=>none
def PZ (n0:Nat) (rs:List RX):Rs→Option (AV×List aa)
 | []=>none
 | [o]=>PY n0 rs o
 | o::r=>match PY n0 rs o,PZ n0 rs r with
   | some x,some y=>if x.1.beq y.1=true∧DU x.2 y.2=true then some x else none
   | _,_=>none
theorem L6 {n0:Nat} {rs:List RX}:∀ {l:Rs} {r:AV×List aa},PZ n0 rs l=some r→∀ o∈l,PY n0 rs o=some r
 | [],_,h=>by cases h
 | [o],r,h=>fun o' ho=>by rw [aa4.1 ho];exact h
 | o::o2::r,x,h=>fun o' ho=>by
   simp only [PZ] at h
   split at h <;> try cases h
   rename_i x1 y1 h1 h2
   split at h <;> cases h
   rename_i hb
   have e1:=AV.rZ hb.1
   have e2:=BR hb.2
   have e:x=y1:=by cases x;cases y1;simp only at e1 e2;rw [e1,e2]
   rcases OU.1 ho with rfl | ho
   ·exact h1
   ·rw [e];exact L6 h2 o' ho
def BU (k:Env→List aa→Option Rs):Rs→Option Rs
 | []=>some []
 | (.normal,e,H)::r=>match k e H,BU k r with
   | some a,some b=>some (a++b)
   | _,_=>none
 | o::r=>match BU k r with
   | some b=>some (o::b)
   | none=>none
theorem tI {k:Env→List aa→Option Rs} {Q:Exit→Env→List aa→Prop}:∀ {l l':Rs},BU k l=some l'→(∀ o∈l',Q o.1 o.2.1 o.2.2)→
 ∀ o∈l,match o.1 with | .normal=>∃ l2,k o.2.1 o.2.2=some l2∧∀ o2∈l2,Q o2.1 o2.2.1 o2.2.2 | e=>Q e o.2.1 o.2.2
 | [],l',h,hQ=>fun o ho=>by cases ho
 | (e,env,H)::r,l',h,hQ=>fun o ho=>by
   cases e with
   | normal=>
     simp only [BU] at h
     split at h <;> cases h
     rename_i a b h1 h2
     rcases OU.1 ho with rfl | ho
     ·exact ⟨a,h1,fun o2 h=>hQ o2 (ab7.2 (.inl h))⟩
     ·exact tI h2 (fun o2 h=>hQ o2 (ab7.2 (.inr h))) o ho
   | ret=>
     simp only [BU] at h
     split at h <;> cases h
     rename_i b h2
     rcases OU.1 ho with rfl | ho
     ·exact hQ _ abn
     ·exact tI h2 (fun o2 h=>hQ o2 (aa6 _ h)) o ho
   | exit i=>
     simp only [BU] at h
     split at h <;> cases h
     rename_i b h2
     rcases OU.1 ho with rfl | ho
     ·exact hQ _ abn
     ·exact tI h2 (fun o2 h=>hQ o2 (aa6 _ h)) o ho
   | _=>
     simp only [BU] at h
     split at h <;> cases h
     rename_i b h2
     rcases OU.1 ho with rfl | ho
     ·exact hQ _ abn
     ·exact tI h2 (fun o2 h=>hQ o2 (aa6 _ h)) o ho
def S5 (id:Nat) (o:Exit×Env×List aa):Exit×Env×List aa:=
 match o.1 with
 | .exit i=>if i=id then (.normal,o.2) else o
 | _=>o
def Iq:AV→Bool
 | .ak own _=>own == 0
 | _=>true
theorem Ir {x:AV} (h:Iq x=true):x.ab=x:=by
 cases x with
 | ak own xs=>simp only [Iq,beq_iff_eq] at h;subst h;rfl
 | _=>rfl
def UG (n0 id:Nat) (e:Exit) (H:List aa):Option (AV×List aa):=
 match H[id]? with
 | some (.loop .busy lc es)=>if n0≤H.length then (match e with
   | .normal=>some (.bool true,(H.set id (.loop .ready lc es)).take n0)
   | .ret=>some (.bool false,(H.set id (.loop (.jump .ret) lc es)).take n0)
   | .exit k=>some (.bool false,(H.set id (.loop (.jump (.exit k)) lc es)).take n0)
   | _=>none) else none
 | _=>none
theorem UH {n0 id:Nat} {e:Exit} {H H':List aa} {r:AV} {R:AV→List aa→Prop} (h:UG n0 id e H=some (r,H')) (hR:R r H'):rP n0 id R e H:=by
 unfold UG at h
 unfold rP
 split at h <;> try cases h
 rename_i lc es bu
 rw [bu]
 split at h <;> try cases h
 rename_i hn
 split at h <;> cases h
 ·exact ⟨by simpa using hn,hR⟩
 ·exact ⟨by simpa using hn,hR⟩
 ·exact ⟨by simpa using hn,hR⟩
def L7 (P:Program) (ex:Ex) (id:Nat) (args:List AV) (H:List aa):Option (AV×List aa):=
 match H[id]? with
 | some (.loop .ready lc es)=>match comp P lc.an lc.lv lc.pl lc.n lc.as,comp P lc.an lc.lv lc.pl lc.n lc.bd with
   | some ia,some ib=>if es.length=lc.n∧args.length=lc.ps.length∧lc.ps.all (· < lc.n)=true∧es.all Iq=true∧args.all Iq=true then
      match ex ia ((lc.ps.zip args).reverse++cj 0 es) H with
      | some [(.normal,env1,H1)]=>match H1[id]? with
        | some (.loop .ready lc1 es1)=>match ex ib env1 (H1.set id (.loop .busy lc1 es1)) with
          | some [(e,_,H3)]=>UG H.length id e H3
          | _=>none
        | _=>none
      | _=>none
     else none
   | _,_=>none
 | _=>none
def qn (P:Program) (T:Aa) (ex:Ex):iS:=fun y g args H=>
 match y with
 | true=>L7 P ex g args H
 | false=>match T.find g with
   | some (.ir fi)=>if args.length≤fi.n then
      match ex fi.ir (cj 0 args) H with
      | some l=>PZ H.length fi.rs l
      | none=>none
     else none
   | some (.xv p)=>match p args with | some r=>some (r,H) | none=>none
   | some (.S4 p)=>p args H
   | none=>none
def UI (T:Aa) (g:Nat):Bool:=match T.find g with | some (.ir _)=>true | _=>false
def BV (id:Nat) (env:Env) (H:List aa):Option Rs:=
 match H[id]? with
 | some (.loop .ready lc es)=>some [(.normal,env,H.set id (.loop .fe lc es))]
 | some (.loop (.jump .ret) lc es)=>some [(.ret,env,H.set id (.loop .fe lc es))]
 | some (.loop (.jump (.exit k)) lc es)=>some [(.exit k,env,H.set id (.loop .fe lc es))]
 | _=>none
theorem JT {id:Nat} {env:Env} {H:List aa} {l:Rs} {Q:Exit→Env→List aa→Prop} (h:BV id env H=some l) (hQ:∀ o∈l,Q o.1 o.2.1 o.2.2):behind id H fun j H''=>qG j Q env H'':=by
 unfold BV at h
 unfold behind
 split at h <;> try cases h
 all_goals
  rename_i bu
  rw [bu]
  exact hQ _ abn
def dJ (P:Program) (T:Aa):Nat→Ex
 | 0,_,_,_=>none
 | f + 1,ir,env,H=>match ir with
   | .skip=>some [(.normal,env,H)]
   | .region ops live=>match BS (qn P T (dJ P T f)) ops env H with
     | some (aI,H')=>some [(.normal,eX live aI,H')]
     | none=>none
   | .draw t live=>match FM (qn P T (dJ P T f)) live t env H with
     | some l=>some (l.map fun o=>(.normal,o.1,o.2))
     | none=>none
   | .seq a b=>match dJ P T f a env H with
     | some l=>BU (dJ P T f b) l
     | none=>none
   | .cond x a b=>match ap env x with
     | .bool true=>dJ P T f a env H
     | .bool false=>dJ P T f b env H
     | _=>none
   | .block id a=>match dJ P T f a env H with
     | some l=>some (l.map (S5 id))
     | none=>none
   | .loop a=>match dJ P T f a env H with
     | some l=>BU (dJ P T f (.loop a)) l
     | none=>none
   | .exit id=>some [(.exit id,env,H)]
   | .ret=>some [(.ret,env,H)]
   | .never=>none
   | .jL g lc=>match ap env g with
     | .fn (.func g) first cap=>if UI T g=true then (match qn P T (dJ P T f) false g (first.map AV.ab++[.oC H.length]++cap.map AV.ab) (H++[.loop .ready lc (lN lc.n env)]) with
       | some (_,H')=>BV H.length env H'
       | none=>none) else none
     | _=>none
theorem wb {P:Program} {T:Aa} (hT:Ab P T) {ex:Ex} (hex:∀ {ir env H l},ex ir env H=some l→∀ {n0:Nat} {Q:Exit→Env→List aa→Prop},(∀ o∈l,Q o.1 o.2.1 o.2.2)→n7 P n0 ir env H Q):lR P (qn P T ex):=by
 refine ⟨fun g args H r H' h=>?_,fun id args H r H' h=>?_⟩
 ·simp only [qn] at h
  split at h
  ·rename_i fi hfi
   have jo:=Aa.sd hT hfi
   split at h <;> try cases h
   rename_i hn
   split at h <;> try cases h
   rename_i l hx
   refine jo.BT hn (hex hx fun o ho=>?_)
   have h1:=L6 h o ho
   unfold PY at h1
   split at h1 <;> try cases h1
   ·rename_i e;exact ⟨.inl e,L5 h1 ⟨rfl,rfl⟩⟩
   ·rename_i e;exact ⟨.inr e,L5 h1 ⟨rfl,rfl⟩⟩
  ·rename_i p hp
   have jo:=Aa.sd hT hp
   split at h <;> cases h
   rename_i hr
   exact jo _ _ _ hr
  ·rename_i p hp
   exact Aa.sd hT hp _ _ _ _ h
  ·cases h
 ·simp only [qn,L7] at h
  split at h <;> try cases h
  rename_i lc es bu
  split at h <;> try cases h
  rename_i ia ib ha hb
  split at h <;> try cases h
  rename_i hc
  split at h <;> try cases h
  rename_i env1 H1 uL
  split at h <;> try cases h
  rename_i lc1 es1 PN
  split at h <;> try cases h
  rename_i e aiT H3 hx3
  obtain ⟨c1,c2,c3,c4,c5⟩:=hc
  refine pE bu ha hb ⟨c1,c2,c3,fun x hx=>Ir (abo.1 c4 x hx),fun x hx=>Ir (abo.1 c5 x hx)⟩ (hex uL fun o ho=>?_)
  rw [aa4.1 ho]
  refine ⟨rfl,?_⟩
  unfold kL
  rw [PN]
  refine hex hx3 fun o ho=>?_
  rw [aa4.1 ho]
  exact UH h ⟨rfl,rfl⟩
theorem UJ {P:Program} {T:Aa} (hT:Ab P T) {g:Nat} (h:UI T g=true):∀ (as:Array Value) (w:World),(callFunc g as).run P w=.ok (.enter g as) w:=by
 unfold UI at h
 split at h
 ·rename_i fi hfi
  exact (Aa.sd hT hfi).call
 ·cases h
theorem BW {P:Program} {T:Aa} (hT:Ab P T):∀ (f:Nat) {ir:IR} {env:Env} {H:List aa} {l:Rs},dJ P T f ir env H=some l→∀ {n0:Nat} {Q:Exit→Env→List aa→Prop},(∀ o∈l,Q o.1 o.2.1 o.2.2)→n7 P n0 ir env H Q:=by
 intro f
 induction f using Nat.strongRecOn with
 | _ f ih=>
 intro ir env H l h n0 Q hQ
 cases f with
 | zero=>simp [dJ] at h
 | succ f=>
 have XL:=fun {ir:IR} {env:Env} {H:List aa} {l:Rs} (h:dJ P T f ir env H=some l) {n0:Nat} {Q:Exit→Env→List aa→Prop} (hQ:∀ o∈l,Q o.1 o.2.1 o.2.2)=>ih f (Nat.lt_succ_self f) h (n0:=n0) (Q:=Q) hQ
 have hC:lR P (qn P T (dJ P T f)):=wb hT (fun {_ _ _ _} h {n0 Q} hQ=>XL h hQ)
 cases ir with
 | skip=>simp only [dJ] at h;cases h;exact hQ _ abn
 | exit id=>simp only [dJ] at h;cases h;exact hQ _ abn
 | ret=>simp only [dJ] at h;cases h;exact hQ _ abn
 | never=>simp [dJ] at h
 | jL g lc=>
   simp only [dJ] at h
   simp only [n7]
   split at h <;> try cases h
   rename_i g' first cap hg
   split at h <;> try cases h
   rename_i hir
   split at h <;> try cases h
   rename_i r H2 hr
   rw [hg]
   refine ⟨UJ hT hir,_,cp _,eC.of <| (hC.1 _ _ _ _ _ hr).mono ?_⟩
   rintro r' H'' ⟨rfl,rfl⟩
   exact JT h hQ
 | region ops live=>
   simp only [dJ] at h
   split at h <;> cases h
   rename_i c9 H2 hx
   exact tG (K:=fun aI H'=>Q .normal (eX live aI) H') hC hx (hQ _ abn)
 | draw t live=>
   simp only [dJ] at h
   split at h <;> cases h
   rename_i l2 hx
   exact Yx (K:=fun aI H'=>Q .normal aI H') hC hx fun o ho=>hQ _ (aaR.2 ⟨o,ho,rfl⟩)
 | seq a b=>
   simp only [dJ] at h
   simp only [n7]
   split at h <;> try cases h
   rename_i l2 hx
   have hs:=tI h hQ
   refine XL hx fun o ho=>?_
   have:=hs o ho
   obtain ⟨e,c9,H2⟩:=o
   cases e with
   | normal=>obtain ⟨l3,h3,hq⟩:=this;exact XL h3 hq
   | _=>exact this
 | cond x a b=>
   simp only [dJ] at h
   simp only [n7]
   split at h
   ·rename_i e;rw [e];exact ⟨fun _=>XL h hQ,fun e=>by cases e⟩
   ·rename_i e;rw [e];exact ⟨fun e=>(by cases e),fun _=>XL h hQ⟩
   ·cases h
 | block id a=>
   simp only [dJ] at h
   simp only [n7]
   split at h <;> cases h
   rename_i l2 hx
   refine XL hx fun o ho=>?_
   have:=hQ _ (aaR.2 ⟨o,ho,rfl⟩)
   obtain ⟨e,c9,H2⟩:=o
   cases e with
   | exit id'=>
     simp only [S5] at this ⊢
     split at this
     ·rename_i bu;rw [if_pos bu];exact this
     ·rename_i bu;rw [if_neg bu];exact this
   | _=>exact this
 | loop a=>
   simp only [n7]
   refine ⟨Nat×Env×List aa,fun i=>i.1≤f∧∃ l',dJ P T (i.1 + 1) (.loop a) i.2.1 i.2.2=some l'∧∀ o∈l',Q o.1 o.2.1 o.2.2,fun i=>i.2.1,fun i=>i.2.2,fun i=>i.1,⟨(f,env,H),⟨sU _,l,h,hQ⟩,ax _ _ _⟩,?_⟩
   rintro ⟨k,env1,H1⟩ ⟨hk,l1,h1,hQ1⟩
   simp only at hk h1 ⊢
   simp only [dJ] at h1
   split at h1 <;> try cases h1
   rename_i l2 hx
   have hs:=tI h1 hQ1
   refine ih k (Nat.lt_succ_of_le hk) hx fun o ho=>?_
   have:=hs o ho
   obtain ⟨e,c9,H2⟩:=o
   cases e with
   | normal=>
     obtain ⟨l3,h3,hq⟩:=this
     cases k with
     | zero=>simp [dJ] at h3
     | succ k=>exact ⟨(k,c9,H2),⟨by omega,l3,h3,hq⟩,Nat.lt_succ_self k,ax _ _ _⟩
   | _=>exact this
end Go.aK
end
section
namespace Go.aK
open Go
theorem xx {P:Program} {f:FuncId} {args:List AV} {H:List aa} {x:AV} (hx:∀ own xs,x=.ak own xs→own=0)
 (h:∀ (M:Mem) (L:List Nat) (w:World) (vs:Array Value),vs.size=args.length→(∀ t,aX M L (vs.getD t undef) (args.getD t .any))→∃ v,(callFunc f vs).run P w=.ok (.value v) w∧aX M L v x) :
 aw P f args H fun r H'=>r=x∧H'=H:=by
 intro A M L w vs O hA hs b7
 obtain ⟨v,bL,hr⟩:=h M L w vs hs b7.env
 have k1:=b7.rG (fun _=>undef) (fun _=>.any) (fun _=>.any _) (fun _ _ _ e=>by cases e)
 exact .inr ⟨v,w,x,H,M,L,_,bL,⟨rfl,rfl⟩,k1.pX 0 hr hx,Ext.refl A M w,aaL L⟩
def nv:List AV→Option AV
 | [.str s,.int .u8 c]=>some (.int .i64 (firstIdx s c.toNat.toUInt8))
 | _=>none
theorem DW {vs:Array Value} (h:vs.size=2):vs=#[vs.getD 0 undef,vs.getD 1 undef]:=by
 apply Array.ext
 ·simp [h]
 ·intro i h1 h2
  have:i=0∨i=1:=by omega
  rcases this with rfl | rfl <;> simp [Array.getD,h]
theorem BX {P:Program} {f:FuncId} {fn:Func} (hf:P.funcs[f]?=some fn) (hname:(fn.name == "runtime.NumGoroutine")=false)
 (hb:fn.body.isNone=true) (hn:Extern.findNext fn=none) (he:Extern.find fn=some Extern.BytealgIndexByte.indexByte):uX P f (.xv nv):=by
 intro args r H h
 unfold nv at h
 split at h <;> cases h
 rename_i s c
 refine xx (by intro _ _ e;cases e) fun M L w vs hs hr=>⟨.int .i64 (firstIdx s c.toNat.toUInt8),?_,.int _ _⟩
 have h0:=hr 0
 have h1:=hr 1
 rw [DW hs]
 generalize vs.getD 0 undef=v0 at h0
 generalize vs.getD 1 undef=v1 at h1
 cases h0
 cases h1
 rw [run_callFunc_extern hf hname hb hn he,run_indexByte_string]
 rfl
def countP:List AV→Option AV
 | [.str s,.int .u8 c]=>some (.int .i64 (s.foldl (fun n x=>if x == c.toNat.toUInt8 then n + 1 else n) (0:Nat)))
 | _=>none
theorem JU {P:Program} (s:ByteArray) (c:Int) (w:World) :
 (Extern.BytealgCount.count #[.string s,.int .u8 c]).run P w=.ok (.int .i64 (s.foldl (fun n x=>if x == c.toNat.toUInt8 then n + 1 else n) (0:Nat))) w:=by
 change Sem.run P (do
  let b ← Extern.Bytes.bytesOf (.string s)
  let c' ← Extern.Bytes.asByte (.int .u8 c)
  pure (goInt (b.foldl (fun n x=>if x == c' then n + 1 else n) (0:Nat)))) w=_
 simp only [Extern.Bytes.bytesOf,Extern.Bytes.asByte,Sem.run_bind,Sem.run_pure,Result.andThen]
 simp [goInt]
theorem L8 {P:Program} {f:FuncId} {fn:Func} (hf:P.funcs[f]?=some fn) (hname:(fn.name == "runtime.NumGoroutine")=false)
 (hb:fn.body.isNone=true) (hn:Extern.findNext fn=none) (he:Extern.find fn=some Extern.BytealgCount.count):uX P f (.xv countP):=by
 intro args r H h
 unfold countP at h
 split at h <;> cases h
 rename_i s c
 refine xx (by intro _ _ e;cases e) fun M L w vs hs hr=>⟨.int .i64 (s.foldl (fun n x=>if x == c.toNat.toUInt8 then n + 1 else n) (0:Nat)),?_,.int _ _⟩
 have h0:=hr 0
 have h1:=hr 1
 rw [DW hs]
 generalize vs.getD 0 undef=v0 at h0
 generalize vs.getD 1 undef=v1 at h1
 cases h0
 cases h1
 rw [run_callFunc_extern hf hname hb hn he,JU]
 rfl
end Go.aK
end
section
namespace Go.aK
open Go
theorem UK:AV.any.ab=.any:=agK
theorem pJ (b:Bool):(AV.bool b).ab=.bool b:=agK
theorem nw (k:IntKind) (n:Int):(AV.int k n).ab=.int k n:=agK
theorem BY (s:ByteArray):(AV.str s).ab=.str s:=agK
theorem Is:AV.ag.ab=.ag:=agK
theorem xy (o:Nat) (xs:List AV):(AV.ak o xs).ab=.ak 0 xs:=agK
theorem UL (a b c d:Nat):(AV.ba a b c d).ab=.ba a b c d:=agK
theorem UM (xs:List AV):(AV.agg xs).ab=.agg xs:=agK
theorem L9 (xs:List AV):(AV.tuple xs).ab=.tuple xs:=agK
theorem Ma (a b:Nat):(AV.ptr a b).ab=.ptr a b:=agK
theorem It (x:AV):(AV.ah x).ab=.ah x:=agK
theorem P1:AV.s5.ab=.s5:=agK
theorem Mb (a:Nat):(AV.map a).ab=.map a:=agK
theorem P2:AV.jE.ab=.jE:=agK
theorem S6 (f:Fn) (a b:List AV):(AV.fn f a b).ab=.fn f a b:=agK
theorem P3:AV.gn.ab=.gn:=agK
theorem P4 (b:Bool):(AV.bool b).cells=[.bool b]:=agK
theorem UN (k:IntKind) (n:Int):(AV.int k n).cells=[.int k n]:=agK
theorem UO (s:ByteArray):(AV.str s).cells=[.str s]:=agK
theorem P5:AV.ag.cells=[.ag]:=agK
theorem UP (o:Nat) (xs:List AV):(AV.ak o xs).cells=[.ak o xs]:=agK
theorem UQ (xs:List AV):(AV.agg xs).cells=xs:=agK
theorem Yy (f:Fn) (a b:List AV):(AV.fn f a b).cells=[.fn f a b]:=agK
theorem P6:AV.gn.cells=[.gn]:=agK
theorem UR (a b:Nat):(AV.ptr a b).cells=[.ptr a b]:=agK
theorem P7 (x:AV):(AV.ah x).cells=[.ah x]:=agK
theorem US (a:Nat):(AV.map a).cells=[.map a]:=agK
theorem nz (b:Bool):(AV.bool b).drop=.bool b:=agK
theorem UT (k:IntKind) (n:Int):(AV.int k n).drop=.int k n:=agK
theorem UU (s:ByteArray):(AV.str s).drop=.str s:=agK
theorem P8:AV.ag.drop=.ak 0 []:=agK
theorem UW (o:Nat) (xs:List AV):(AV.ak o xs).drop=.ak 0 xs:=agK
theorem UX (xs:List AV):(AV.agg xs).drop=.agg xs:=agK
theorem Yz (f:Fn) (a b:List AV):(AV.fn f a b).drop=.fn f a b:=agK
theorem P9:AV.gn.drop=.gn:=agK
theorem UY (a b:Nat):(AV.ptr a b).drop=.ptr a b:=agK
theorem Qa (x:AV):(AV.ah x).drop=.ah x:=agK
theorem UZ (a:Nat):(AV.map a).drop=.map a:=agK
theorem wc (b:Bool):(AV.bool b).val=true:=agK
theorem U0 (k:IntKind) (n:Int):(AV.int k n).val=true:=agK
theorem U1 (s:ByteArray):(AV.str s).val=true:=agK
theorem Qb:AV.ag.val=true:=agK
theorem U2 (o:Nat) (xs:List AV):(AV.ak o xs).val=true:=agK
theorem U4 (xs:List AV):(AV.agg xs).val=true:=agK
theorem YA (f:Fn) (a b:List AV):(AV.fn f a b).val=true:=agK
theorem Qc:AV.gn.val=true:=agK
theorem U5 (a b:Nat):(AV.ptr a b).val=true:=agK
theorem Qd (x:AV):(AV.ah x).val=true:=agK
theorem U6 (a:Nat):(AV.map a).val=true:=agK
theorem sf (n:Nat) (b:Bool):(AV.bool b).aW n=true:=agK
theorem eE (n:Nat) (k:IntKind) (m:Int):(AV.int k m).aW n=true:=agK
theorem Mc (n:Nat) (s:ByteArray):(AV.str s).aW n=true:=agK
theorem Iu (n:Nat):AV.ag.aW n=true:=agK
theorem bZ (n o:Nat) (xs:List AV):(AV.ak o xs).aW n=aj n xs:=by rw [AV.aW]
theorem o6 (n:Nat) (xs:List AV):(AV.agg xs).aW n=aj n xs:=by rw [AV.aW]
theorem Md (n:Nat) (xs:List AV):(AV.tuple xs).aW n=aj n xs:=by rw [AV.aW]
theorem qP (n a b:Nat):(AV.ptr a b).aW n=decide (a < n):=by rw [AV.aW]
theorem Me (n a:Nat):(AV.map a).aW n=decide (a < n):=by rw [AV.aW]
theorem fJ (n a b c d:Nat):(AV.ba a b c d).aW n=decide (a < n):=by rw [AV.aW]
theorem BZ (n:Nat) (x:AV):(AV.ah x).aW n=x.aW n:=by rw [AV.aW]
theorem YB (n:Nat) (f:Fn) (a b:List AV):(AV.fn f a b).aW n=(aj n a && aj n b):=by rw [AV.aW]
theorem Qe (n:Nat):AV.gn.aW n=true:=agK
theorem cV (n:Nat):aj n []=true:=agK
theorem bJ (n:Nat) (x:AV) (xs:List AV):aj n (x::xs)=(x.aW n && aj n xs):=by rw [aj]
section
variable (k:IntKind) (a b:Int) (φ:AV→Prop)
theorem U7:dk .add (.int k a) (.int k b) φ=φ (.int k (k.wrap (a + b))):=by simp [dk]
theorem U8:dk .sub (.int k a) (.int k b) φ=φ (.int k (k.wrap (a - b))):=by simp [dk]
theorem U9:dk .mul (.int k a) (.int k b) φ=φ (.int k (k.wrap (a * b))):=by simp [dk]
theorem Vb:dk .rem (.int k a) (.int k b) φ=(b≠0∧φ (.int k (a.tmod b))):=by simp [dk]
theorem Vc:dk .quo (.int k a) (.int k b) φ=(b≠0∧φ (.int k (k.wrap (a.tdiv b)))):=by simp [dk]
theorem Vd:dk .eql (.int k a) (.int k b) φ=φ (.bool (decide (a=b))):=by simp [dk]
theorem Ve:dk .neq (.int k a) (.int k b) φ=φ (.bool (decide (a≠b))):=by simp [dk]
theorem Vf:dk .lss (.int k a) (.int k b) φ=φ (.bool (decide (a < b))):=by simp [dk]
theorem Vg:dk .leq (.int k a) (.int k b) φ=φ (.bool (decide (a≤b))):=by simp [dk]
theorem Vh:dk .gtr (.int k a) (.int k b) φ=φ (.bool (decide (b < a))):=by simp [dk]
theorem Vi:dk .geq (.int k a) (.int k b) φ=φ (.bool (decide (b≤a))):=by simp [dk]
theorem Vj (s t:ByteArray):dk .eql (.str s) (.str t) φ=φ (.bool (decide (s=t))):=by simp [dk]
theorem Vk (s t:ByteArray):dk .neq (.str s) (.str t) φ=φ (.bool (decide (s≠t))):=by simp [dk]
theorem Vl (s t:ByteArray):dk .add (.str s) (.str t) φ=(s.size + t.size < 9223372036854775808∧φ (.str (s++t))):=by simp [dk]
theorem Vm (q:Bool):Bh .not (.bool q) φ=φ (.bool (!q)):=agK
theorem Vn:Bh .neg (.int k a) φ=φ (.int k (k.wrap (0 - a))):=agK
theorem Vo (p q:Bool):dd true (.bool p) (.bool q) φ=φ (.bool (decide (p≠q))):=agK
theorem Vp (p q:Bool):dd false (.bool p) (.bool q) φ=φ (.bool (decide (p=q))):=agK
theorem adP (q:Bool) (ψ:Bool→Prop):fC (.bool q) ψ=ψ q:=agK
theorem Vq (s:ByteArray) (H:List aa):fT (.str s) H φ=φ (.int .i64 s.size):=agK
theorem Qf (H:List aa):fT .ag H φ=φ (.int .i64 0):=agK
theorem Vr (o:Nat) (xs:List AV) (H:List aa):fT (.ak o xs) H φ=(xs.length < 9223372036854775808→φ (.int .i64 xs.length)):=agK
theorem Vs (x y l c:Nat) (H:List aa):fT (.ba x y l c) H φ=φ (.int .i64 l):=agK
theorem Qg (H:List aa):fT .jE H φ=φ (.int .i64 0):=agK
theorem Vt (s:ByteArray):aN 0 (.str s)=True:=agK
theorem Qh:aN 1 .ag=True:=agK
theorem Vu (o:Nat) (xs:List AV):aN 1 (.ak o xs)=True:=agK
theorem Vv (x y l c:Nat):aN 1 (.ba x y l c)=True:=agK
theorem Qi:aN 2 .jE=True:=agK
theorem Vw (x:Nat):aN 2 (.map x)=True:=agK
theorem Qj (q:Bool) (H:List aa):aU none (.ah (.bool q)) H φ=φ (.bool q):=by simp [aU,AV.one,pJ]
theorem Vx (H:List aa):aU none (.ah (.int k a)) H φ=φ (.int k a):=by simp [aU,AV.one,nw]
theorem Vy (s:ByteArray) (H:List aa):aU none (.ah (.str s)) H φ=φ (.str s):=by simp [aU,AV.one,BY]
theorem Vz (o:Nat) (xs:List AV) (H:List aa):aU none (.ah (.ak o xs)) H φ=φ (.ak 0 xs):=by simp [aU,AV.one,xy]
theorem Qk (H:List aa):aU none (.ah .ag) H φ=φ .ag:=by simp [aU,AV.one,Is]
theorem YC (f:Fn) (x y:List AV) (H:List aa):aU none (.ah (.fn f x y)) H φ=φ (.fn f x y):=by simp [aU,AV.one,S6]
theorem VA (x y:Nat):b9 (.ptr x y) φ=φ (.ptr x y):=agK
theorem Ql (x:AV):b9 (.ah x) φ=φ (.ah x):=agK
theorem Mf (xs:List AV) (i:Nat):bH (.tuple xs) i φ=(i < xs.length∧φ (xs.getD i .any).ab):=agK
theorem VB (id o off:Nat) (sz:Option Nat):al off sz (.ptr id o) φ=φ (.ptr id (o + off)):=by simp [al]
end
section
variable {P:Px} {n0:Nat} {env:Env} {H:List aa} {Q:Exit→Env→List aa→Prop}
theorem Mg (pass:Option Nat) (j:Nat):aL env pass j []=[]:=agK
theorem VC (pass:Option Nat) (j:Nat) (v:AV) (xs:List IX):aL env pass j (.c v::xs)=v.ab::aL env pass (j + 1) xs:=agK
theorem VD (j s:Nat) (xs:List IX):aL env none j (.t s::xs)=(get env s).ab::aL env none (j + 1) xs:=by simp [aL]
theorem VE (j s:Nat) (xs:List IX):aL env (some 1999) j (.t s::xs)=(if 1999=j then get env s else (get env s).ab)::aL env (some 1999) (j + 1) xs:=by simp [aL]
theorem VF (p j s:Nat) (xs:List IX):aL env (some p) j (.t s::xs)=(if p=j then get env s else (get env s).ab)::aL env (some p) (j + 1) xs:=by simp [aL]
theorem JV (args:List IX):bj args none=none:=agK
theorem Qm (x:Nat) (xs:List IX):bj (.t x::xs) (some 0)=some x:=by simp [bj]
theorem Qn (x:Nat) (y:IX) (xs:List IX):bj (y::.t x::xs) (some 1)=some x:=by simp [bj]
theorem Qo (x:Nat) (y z:IX) (xs:List IX):bj (y::z::.t x::xs) (some 2)=some x:=by simp [bj]
theorem JW:bj [] (some 1999)=none:=agK
theorem JX (x:IX):bj [x] (some 1999)=none:=agK
theorem JY (x y:IX):bj [x,y] (some 1999)=none:=agK
theorem JZ (x y z:IX):bj [x,y,z] (some 1999)=none:=agK
theorem J0 (x y z u:IX):bj [x,y,z,u] (some 1999)=none:=agK
theorem DX:cW env none=env:=agK
theorem DY (d:Nat):cW env (some d)=(d,(get env d).ab)::env:=agK
theorem Mh (z:AV):put none z env=env:=agK
theorem Mi (d:Nat) (z:AV):put (some d) z env=(d,z)::env:=agK
theorem ay (k:Nat) (v:AV) (t:Nat):get ((k,v)::env) t=if t=k then v else get env t:=agK
theorem VG (t:Nat):get [] t=.any:=agK
theorem aP {s:Nat} {R:AV→List aa→Prop} (m:Nat) (h0:n0≤m) (hb:(get env s).aW m=true) (h:R (get env s) (H.take m)):bT n0 [.t s] env H R:=
 ⟨m,h0,_,le_refl _,hb,h⟩
end
def Pure (P:Program) (g:FuncId) (xs:List AV) (v:AV):Prop:=∀ H,aw P g xs H fun r H'=>r=v∧H'=H
theorem Pure.mk {P:Program} {g:FuncId} {xs:List AV} {v:AV} (hb:aj 0 xs=true) (h:aw P g xs [] fun r H'=>r=v∧H'=[]):Pure P g xs v:=
 aw.frame (fun x hx=>(bc 0 xs).1 hb x hx) h
def jP (n:Nat) (env:Env):Bool:=env.all fun p=>p.2.aW n
theorem GC {n:Nat} {env:Env} (h:jP n env=true) (t:Nat):(get env t).aW n=true:=by
 rcases get_mem (env:=env) (t:=t) rfl with h' | h'
 ·rw [h'];rfl
 ·exact abo.1 h _ h'
theorem B0 (n:Nat):jP n []=true:=agK
theorem we (n k:Nat) (v:AV) (env:Env):jP n ((k,v)::env)=(v.aW n && jP n env):=agK
theorem fK {n0:Nat} {env aI:Env} {H H':List aa} (he:env=aI) (h0:n0≤H'.length) (hb:jP H'.length aI=true) (e:List aa) (hH:H=H'++e):sle n0 env H aI H':=by
 subst he;subst hH
 exact ⟨fun t=>le_refl _,.inr ⟨H'.length,h0,by simp,GC hb⟩⟩
theorem aE {n0:Nat} {env aI:Env} {H H':List aa} (he:env=aI) (hH:H=H'):sle n0 env H aI H':=by
 subst he;subst hH;exact ax _ _ _
theorem aq (i:Nat) (h:i + 1 < 9223372036854775808):IntKind.i64.wrap ((i:Int) + 1)=((i + 1:Nat):Int):=by
 show IntKind.wrap .i64 ((i:Int) + 1)=_
 unfold IntKind.wrap
 simp [IntKind.signed,IntKind.bits]
 omega
end Go.aK
end
section
namespace Go.aK
open Go
def hJ {α:Type} (x:α):α:=x
theorem VH {α:Type} (x:α):hJ x=x:=agK
section
variable {φ:AV→Prop}
theorem Mj {op:BinOp} {x y:AV} (h:dk op x y φ):∃ z,dk op x y (fun w=>w=z)∧φ z:=by
 unfold dk at *
 split at h <;> (try exact h.elim)
 ·obtain ⟨h0,h⟩:=h
  split at h <;> first | exact ⟨_,⟨h0,rfl⟩,h⟩ | exact ⟨_,⟨h0,h.1,rfl⟩,h.2⟩ | exact h.elim
 ·split at h <;> first | exact ⟨_,rfl,h⟩ | exact ⟨_,⟨h.1,rfl⟩,h.2⟩ | exact h.elim
theorem GD {op:BinOp} {x y:AV} (h:ey op x y φ):∃ z,ey op x y (fun w=>w=z)∧φ z:=by
 unfold ey at *
 split at h <;> (try exact h.elim)
 obtain ⟨h0,h⟩:=h
 split at h <;> first | exact ⟨_,⟨h0,rfl⟩,h⟩ | exact h.elim
theorem DZ {neq:Bool} {x y:AV} (h:dd neq x y φ):∃ z,dd neq x y (fun w=>w=z)∧φ z:=by
 unfold dd at *
 split at h <;> first | exact ⟨_,rfl,h⟩ | exact h.elim
theorem Qp {op:UnOp} {x:AV} (h:Bh op x φ):∃ z,Bh op x (fun w=>w=z)∧φ z:=by
 unfold Bh at *
 split at h <;> first | exact ⟨_,rfl,h⟩ | exact h.elim
theorem J1 {sz:Option Nat} {x:AV} {H:List aa} (h:aU sz x H φ):∃ z,aU sz x H (fun w=>w=z)∧φ z:=by
 unfold aU at *
 split at h <;> (try exact h.elim) <;> (split at h <;> (try exact h.elim)) <;> first | exact ⟨_,⟨h.1,rfl⟩,h.2⟩ | (split at h <;> exact ⟨_,⟨h.1,rfl⟩,h.2⟩)
theorem Ad {off:Nat} {sz:Option Nat} {xs:List AV} {g:AV→AV} (h:apart off sz xs fun z=>φ (g z)):∃ z,(apart off sz xs fun w=>g w=z)∧φ z:=by
 unfold apart at *
 split at h <;> first | exact ⟨_,⟨h.1,rfl⟩,h.2⟩ | exact ⟨_,⟨h.1,h.2.1,rfl⟩,h.2.2⟩
theorem GF {off:Nat} {sz:Option Nat} {x:AV} (h:fD off sz x φ):∃ z,fD off sz x (fun w=>w=z)∧φ z:=by
 unfold fD at *
 split at h <;> (try exact h.elim)
 exact Ad h
theorem xz {off:Nat} {sz:Option Nat} {x:AV} (h:al off sz x φ):∃ z,al off sz x (fun w=>w=z)∧φ z:=by
 unfold al at *
 split at h <;> (try exact h.elim)
 ·exact ⟨_,rfl,h⟩
 ·exact Ad h
theorem xA {esz:Nat} {x i:AV} (h:aA esz x i φ):∃ z,aA esz x i (fun w=>w=z)∧φ z:=by
 unfold aA at *
 split at h <;> first | exact ⟨_,⟨h.1,h.2.1,rfl⟩,h.2.2⟩ | exact h.elim
theorem zc {x i:AV} (h:bO x i φ):∃ z,bO x i (fun w=>w=z)∧φ z:=by
 unfold bO at *
 split at h <;> first | exact ⟨_,⟨h.1,h.2.1,rfl⟩,h.2.2⟩ | exact h.elim
theorem zd {n:Nat} {x i:AV} (h:b8 n x i φ):∃ z,b8 n x i (fun w=>w=z)∧φ z:=by
 unfold b8 at *
 split at h <;> first | exact ⟨_,⟨h.1,h.2.1,h.2.2.1,rfl⟩,h.2.2.2⟩ | exact h.elim
theorem B1 {x:AV} {i:Nat} (h:bH x i φ):∃ z,bH x i (fun w=>w=z)∧φ z:=by
 unfold bH at *
 split at h <;> first | exact ⟨_,⟨h.1,rfl⟩,h.2⟩ | exact h.elim
theorem ze {x:AV} (h:b9 x φ):∃ z,b9 x (fun w=>w=z)∧φ z:=by
 unfold b9 at *
 split at h <;> first | exact ⟨_,rfl,h⟩ | exact h.elim
theorem B2 {k:IntKind} {x:AV} (h:cJ k x φ):∃ z,cJ k x (fun w=>w=z)∧φ z:=by
 unfold cJ at *
 split at h <;> first | exact ⟨_,rfl,h⟩ | exact h.elim
theorem Qq {big:Bool} {x y:AV} (h:yM big x y φ):∃ z,yM big x y (fun w=>w=z)∧φ z:=by
 unfold yM at *
 split at h <;> first | exact ⟨_,rfl,h⟩ | exact h.elim
theorem pK {x:Option AV} {d:Nat} {c1 c2:Nat→Prop} {g:Nat→AV} (h:dV x d fun k=>c1 k∧c2 k∧φ (g k)):∃ z,(dV x d fun k=>c1 k∧c2 k∧g k=z)∧φ z:=by
 unfold dV at *
 split at h
 ·exact ⟨_,⟨h.1,h.2.1,rfl⟩,h.2.2⟩
 ·exact ⟨_,⟨h.1,h.2.1,h.2.2.1,rfl⟩,h.2.2.2⟩
 ·exact h.elim
theorem jr {x:Option AV} {d:Nat} {ψ:(AV→Prop)→Nat→Prop} (h:dV x d (ψ φ)) (hd:∀ k,ψ φ k→∃ z,ψ (fun w=>w=z) k∧φ z):∃ z,dV x d (ψ fun w=>w=z)∧φ z:=by
 unfold dV at *
 split at h
 ·exact hd _ h
 ·obtain ⟨z,h2,h3⟩:=hd _ h.2;exact ⟨z,⟨h.1,h2⟩,h3⟩
 ·exact h.elim
theorem GG {esz:Nat} {x:AV} {lo hi mx:Option AV} (h:ff esz x lo hi mx φ):∃ z,ff esz x lo hi mx (fun w=>w=z)∧φ z:=by
 unfold ff at *
 split at h <;> (try exact h.elim)
 rename_i xs eK
 cases mx with
 | none=>exact jr (ψ:=fun φ h=>dV lo 0 fun l=>l≤h∧h≤xs.length∧φ (.ak 0 ((xs.take h).drop l))) h fun k h=>pK (c1:=fun l=>l≤k) (c2:=fun _=>k≤xs.length) (g:=fun l=>.ak 0 ((xs.take k).drop l)) h
 | some m=>
   refine jr (ψ:=fun φ h=>dV lo 0 fun l=>l≤h∧h≤xs.length∧hi.isSome=true∧dV (some m) 0 fun m=>m=h∧(∀ y∈xs,y.cells.length=esz)∧φ (.ak esz ((xs.take h).drop l))) h fun k h=>?_
   refine jr (ψ:=fun φ l=>l≤k∧k≤xs.length∧hi.isSome=true∧dV (some m) 0 fun m=>m=k∧(∀ y∈xs,y.cells.length=esz)∧φ (.ak esz ((xs.take k).drop l))) h fun l h=>?_
   obtain ⟨h1,h2,h3,h4⟩:=h
   obtain ⟨z,k1,k2⟩:=pK (g:=fun _=>.ak esz ((xs.take k).drop l)) h4
   exact ⟨z,⟨h1,h2,h3,k1⟩,k2⟩
theorem D0 {esz:Nat} {x:AV} {lo hi mx:Option AV} (h:bo esz x lo hi mx φ):∃ z,bo esz x lo hi mx (fun w=>w=z)∧φ z:=by
 unfold bo iw px at *
 split at h
 ·rename_i id off len cap
  split at h
  rotate_left
  ·rename_i m
   obtain ⟨h1,h2⟩:=h
   have:=jr (ψ:=fun φ m=>dV hi len fun h=>dV lo 0 fun l=>l≤h∧h≤m∧m≤cap∧φ (.ba id (if m=l then off else off + l * esz) (h - l) (m - l))) h2 fun m h=>
    jr (ψ:=fun φ h=>dV lo 0 fun l=>l≤h∧h≤m∧m≤cap∧φ (.ba id (if m=l then off else off + l * esz) (h - l) (m - l))) h fun k h=>
     jr (ψ:=fun φ l=>l≤k∧k≤m∧m≤cap∧φ (.ba id (if m=l then off else off + l * esz) (k - l) (m - l))) h fun l h=>⟨_,⟨h.1,h.2.1,h.2.2.1,rfl⟩,h.2.2.2⟩
   obtain ⟨z,k1,k2⟩:=this
   exact ⟨z,⟨h1,k1⟩,k2⟩
  have h2:=h
  have:=jr (ψ:=fun φ h=>dV lo 0 fun l=>l≤h∧h≤cap∧φ (.ba id (if cap=l then off else off + l * esz) (h - l) (cap - l))) h2 fun k h=>pK (c1:=fun l=>l≤k) (c2:=fun _=>k≤cap) (g:=fun l=>.ba id (if cap=l then off else off + l * esz) (k - l) (cap - l)) h
  obtain ⟨z,k1,k2⟩:=this
  exact ⟨z,k1,k2⟩
 ·obtain ⟨z,k1,k2⟩:=GG h.2
  exact ⟨z,⟨h.1,k1⟩,k2⟩
theorem zg {x:AV} {lo hi:Option AV} (h:cu x lo hi φ):∃ z,cu x lo hi (fun w=>w=z)∧φ z:=by
 unfold cu at *
 split at h <;> (try exact h.elim)
 rename_i s
 exact jr (ψ:=fun φ h=>dV lo 0 fun l=>l≤h∧h≤s.size∧φ (.str (s.extract l h))) h fun k h=>pK (c1:=fun l=>l≤k) (c2:=fun _=>k≤s.size) (g:=fun l=>.str (s.extract l k)) h
theorem D1 {kd:Nat} {z m k:AV} {ok:Bool} {H:List aa} (h:cB kd z m k ok H φ):∃ y,cB kd z m k ok H (fun w=>w=y)∧φ y:=by
 unfold cB at *
 split at h <;> (try exact h.elim) <;> first | exact ⟨_,rfl,h⟩ | exact ⟨_,⟨h.1,rfl⟩,h.2⟩ | (split at h <;> (try exact h.elim) <;> first | exact ⟨_,rfl,h⟩ | exact ⟨_,⟨h.1,rfl⟩,h.2⟩ | (split at h <;> (try exact h.elim) <;> first | exact ⟨_,rfl,h⟩ | exact ⟨_,⟨h.1,rfl⟩,h.2⟩))
theorem uY {esz:Nat} {own:Nat}:∀ {ps:List (Nat×AV)} {zs:List AV},bm zs esz ps (fun v=>φ (.ak own v))→∃ z,bm zs esz ps (fun v=>.ak own v=z)∧φ z
 | [],zs,h=>⟨_,rfl,h⟩
 | (i,x)::r,zs,h=>by
   obtain ⟨z,k1,k2⟩:=uY h.2.2.2
   exact ⟨z,⟨h.1,h.2.1,h.2.2.1,k1⟩,k2⟩
theorem Ae:∀ {ps:List (Nat×Nat×AV)} {zs:List AV},iu zs ps (fun v=>φ (.agg v))→∃ z,iu zs ps (fun v=>.agg v=z)∧φ z
 | [],zs,h=>⟨_,rfl,h⟩
 | (off,sz,x)::r,zs,h=>by
   obtain ⟨z,k1,k2⟩:=Ae h.2.2.2
   exact ⟨z,⟨h.1,h.2.1,h.2.2.1,k1⟩,k2⟩
end
def gE (v:AV) (A B:Prop):Prop:=fC v fun q=>(q=true→A)∧(q=false→B)
@[congr] theorem S7 {v v':AV} {A B:Prop} (h:hJ v=v'):gE v A B=gE v' A B:=by subst h;rfl
theorem Qr (A B:Prop):gE (.bool true) A B=A:=by simp [gE,fC]
theorem Qs (A B:Prop):gE (.bool false) A B=B:=by simp [gE,fC]
theorem Qt (b:Bool) (A B:Prop):gE (.bool (!b)) A B=gE (.bool b) B A:=by cases b <;> simp [gE,fC]
theorem Qu (p:Prop) [Decidable p] (A B:Prop):gE (.bool (decide p)) A B=((p→A)∧(¬ p→B)):=by simp [gE,fC]
theorem pL {b:Bool} {A B:Prop} (h1:b=true→A) (h2:b=false→B):gE (.bool b) A B:=⟨h1,h2⟩
def dX (v:AV) (g:Nat) (want:Bool) (env:Env) (yes no:Env→Prop):Prop:=
 match v with
 | .bool b=>(b=want→yes ((g,.bool want)::env))∧(b=(!want)→no ((g,.bool (!want))::env))
 | .tuple []=>no env
 | _=>False
@[congr] theorem Qv {v v':AV} {g:Nat} {want:Bool} {env:Env} {yes no:Env→Prop} (h:hJ v=v'):dX v g want env yes no=dX v' g want env yes no:=by subst h;rfl
section
variable (g:Nat) (env:Env) (yes no:Env→Prop)
theorem YD:dX (.bool true) g true env yes no=yes ((g,.bool true)::env):=by simp [dX]
theorem YE:dX (.bool true) g false env yes no=no ((g,.bool true)::env):=by simp [dX]
theorem YF:dX (.bool false) g true env yes no=no ((g,.bool false)::env):=by simp [dX]
theorem YG:dX (.bool false) g false env yes no=yes ((g,.bool false)::env):=by simp [dX]
theorem adQ (want:Bool):dX (.tuple []) g want env yes no=no env:=agK
theorem YH (p:Prop) [Decidable p]:dX (.bool (decide p)) g true env yes no=((p→yes ((g,.bool true)::env))∧(¬ p→no ((g,.bool false)::env))):=by simp [dX]
theorem YI (p:Prop) [Decidable p]:dX (.bool (decide p)) g false env yes no=((¬ p→yes ((g,.bool false)::env))∧(p→no ((g,.bool true)::env))):=by simp [dX]
end
def Af (P:Px) (g:FuncId) (xs:List AV) (H:List aa) (K:AV→List aa→Prop):Prop:=∃ bY,yX xs bY∧eC P g bY H K
@[congr] theorem S8 {P:Px} {g:FuncId} {xs xs':List AV} {H H':List aa} {K:AV→List aa→Prop} (h:hJ xs=xs') (h2:H=H'):Af P g xs H K=Af P g xs' H' K:=by subst h;subst h2;rfl
theorem xB {P:Program} {lo:Option Nat} {g:FuncId} {xs ys:List AV} {H:List aa} {R K:AV→List aa→Prop} (hc:aw P g ys H R) (hl:yX xs ys) (hk:∀ r H',R r H'→K r H'):Af ⟨P,lo⟩ g xs H K:=⟨ys,hl,eC.of (hc.mono hk)⟩
theorem af {P:Program} {lo:Option Nat} {g:FuncId} {xs:List AV} {H:List aa} {R K:AV→List aa→Prop} (hc:aw P g xs H R) (hk:∀ r H',R r H'→K r H'):Af ⟨P,lo⟩ g xs H K:=⟨xs,cp _,eC.of (hc.mono hk)⟩
theorem ae {P:Program} {lo:Option Nat} {g:FuncId} {xs:List AV} {v:AV} {H:List aa} {K:AV→List aa→Prop} (hc:Pure P g xs v) (hk:K v H):Af ⟨P,lo⟩ g xs H K:=
 ⟨xs,cp _,eC.of ((hc H).mono fun r H' ⟨h1,h2⟩=>by rw [h1,h2];exact hk)⟩
theorem Qw {P:Px} {env:Env} {H:List aa} (g:FuncId) (first cap:List AV) (args:List IX) (pass:Option Nat) (K:AV→Env→List aa→Prop):qg P (.fn (.func g) first cap) args pass env H K =
 Af P g (first.map AV.ab++aL env pass 0 args++cap.map AV.ab) H (fun r H'=>K r (cW env (bj args pass)) H'):=agK
@[congr] theorem S9 {P:Px} {f f':AV} {args:List IX} {pass:Option Nat} {env:Env} {H:List aa} {K:AV→Env→List aa→Prop} (h:hJ f=f'):qg P f args pass env H K=qg P f' args pass env H K:=by subst h;rfl
def D2 (P:Px) (st:Bool) (g:FuncId) (xs:List AV) (H:List aa) (K:AV→Prop):Prop:=
 ∃ x,(match st with
  | true=>∃ bY,yX xs bY∧aw P.prog g bY H (fun r H'=>r=x∧H'=H)
  | false=>∀ H,∃ bY,yX xs bY∧aw P.prog g bY H (fun r H'=>r=x∧H'=H))∧K x
@[congr] theorem Ta {P:Px} {st:Bool} {g:FuncId} {xs xs':List AV} {H:List aa} {K:AV→Prop} (h:hJ xs=xs'):D2 P st g xs H K=D2 P st g xs' H K:=by subst h;rfl
theorem aF {P:Program} {lo:Option Nat} {st:Bool} {g:FuncId} {xs:List AV} {v:AV} {H:List aa} {K:AV→Prop} (hc:Pure P g xs v) (hk:K v):D2 ⟨P,lo⟩ st g xs H K:=
 ⟨v,(by cases st <;> first | exact ⟨xs,cp _,hc H⟩ | exact fun H=>⟨xs,cp _,hc H⟩),hk⟩
def qQ (P:Px) (st:Bool) (f:AV) (xs:List AV) (H:List aa) (K:AV→Prop):Prop:=
 match f with
 | .fn (.func g) first cap=>D2 P st g (first.map AV.ab++xs++cap.map AV.ab) H K
 | _=>False
@[congr] theorem Qx {P:Px} {st:Bool} {f f':AV} {xs xs':List AV} {H:List aa} {K:AV→Prop} (h:hJ f=f') (h2:xs=xs'):qQ P st f xs H K=qQ P st f' xs' H K:=by subst h;subst h2;rfl
theorem J2 {P:Px} {st:Bool} (g:FuncId) (first cap xs:List AV) (H:List aa) (K:AV→Prop):qQ P st (.fn (.func g) first cap) xs H K=D2 P st g (first.map AV.ab++xs++cap.map AV.ab) H K:=agK
def iT (x:AV) (H:List aa) (φ:AV→Prop):Prop:=match x with | .ak _ xs=>φ (.int .i64 xs.length) | x=>fT x H φ
@[congr] theorem Tb {x x':AV} {H:List aa} {φ:AV→Prop} (h:hJ x=x'):iT x H φ=iT x' H φ:=by subst h;rfl
theorem J3 {x:AV} {H:List aa} {φ:AV→Prop} (h:iT x H φ):∃ z,fT x H (fun w=>w=z)∧φ z:=by
 cases x with
 | ak o xs=>exact ⟨_,fun _=>rfl,h⟩
 | map id=>
   simp only [iT,fT] at h ⊢
   split at h
   ·exact ⟨_,rfl,h⟩
   ·exact h.elim
 | _=>first | exact ⟨_,rfl,h⟩ | exact False.elim h
def pM (kd:Nat) (neq:Bool) (x:AV) (φ:AV→Prop):Prop:=match isNil kd x with | some b=>φ (.bool (if neq then !b else b)) | none=>False
@[congr] theorem O0 {kd:Nat} {neq:Bool} {x x':AV} {φ:AV→Prop} (h:hJ x=x'):pM kd neq x φ=pM kd neq x' φ:=by subst h;rfl
def xC (o:cq) (ρ:IX→AV) (H:List aa) (K:AV→Prop):Prop:=
 match o with
 | .set i false=>K (ρ i).ab
 | .pick c a b=>gE (ρ c) (K (ρ a).ab) (K (ρ b).ab)
 | .bin op i j=>dk op (ρ i) (ρ j) K
 | .shift op i j=>ey op (ρ i) (ρ j) K
 | .iX neq i j=>dd neq (ρ i) (ρ j) K
 | .jW kd neq i=>pM kd neq (ρ i) K
 | .un op i=>Bh op (ρ i) K
 | .mR i=>(ρ i).val=true∧K (.ah (ρ i))
 | .build z ps=>cE z.cells (ps.map fun q=>(q.1,q.2.1,ρ q.2.2)) K
 | .buildSlice own esz z len ps=>bm (List.replicate len (aR z)) esz (ps.map fun q=>(q.1,ρ q.2)) fun xs=>K (.ak own xs)
 | .load sz i=>aU sz (ρ i) H K
 | .nilCheck i=>b9 (ρ i) K
 | .fieldAddr off sz i=>al off sz (ρ i) K
 | .field off sz i=>fD off sz (ρ i) K
 | .indexAddr esz i j=>(∀ own xs,ρ i=.ak own xs→∀ z∈xs,z.cells.length=esz)∧aA esz (ρ i) (ρ j) K
 | .dn i j=>bO (ρ i) (ρ j) K
 | .eh n i j=>b8 n (ρ i) (ρ j) K
 | .slice esz i lo hi mx=>bo esz (ρ i) (lo.map ρ) (hi.map ρ) (mx.map ρ) K
 | .ej i lo hi=>cu (ρ i) (lo.map ρ) (hi.map ρ) K
 | .len kd i=>aN kd (ρ i)∧iT (ρ i) H K
 | .lookup kd z m k ok=>cB kd z (ρ m) (ρ k) ok H K
 | .fn f first cap=>K (.fn f (first.map fun x=>(ρ x).ab) (cap.map fun x=>(ρ x).ab))
 | .extract i k=>bH (ρ i) k K
 | .fq k i=>cJ k (ρ i) K
 | .mx big i j=>yM big (ρ i) (ρ j) K
 | _=>False
theorem D3 {P:Px} {o:cq} {ρ:IX→AV} {H:List aa} {K:AV→Prop} (h:xC o ρ H K):∃ x,dh P o ρ H x∧K x:=by
 unfold xC at h
 split at h
 ·exact ⟨_,rfl,h⟩
 ·unfold gE fC at h
  simp only [dh,fC]
  split at h
  ·rename_i b hb
   cases b with
   | true=>exact ⟨_,⟨fun _=>rfl,fun e=>by cases e⟩,h.1 rfl⟩
   | false=>exact ⟨_,⟨fun e=>(by cases e),fun _=>rfl⟩,h.2 rfl⟩
  ·exact h.elim
 ·exact Mj h
 ·exact GD h
 ·exact DZ h
 ·unfold pM at h
  split at h
  ·rename_i b hb
   refine ⟨_,?_,h⟩
   simp only [dh,dw,hb]
  ·exact h.elim
 ·exact Qp h
 ·exact ⟨_,⟨h.1,rfl⟩,h.2⟩
 ·exact Ae h
 ·exact uY h
 ·exact J1 h
 ·exact ze h
 ·exact xz h
 ·exact GF h
 ·obtain ⟨z,k1,k2⟩:=xA h.2
  exact ⟨z,⟨h.1,k1⟩,k2⟩
 ·exact zc h
 ·exact zd h
 ·exact D0 h
 ·exact zg h
 ·obtain ⟨z,k1,k2⟩:=J3 h.2
  exact ⟨z,⟨h.1,k1⟩,k2⟩
 ·exact D1 h
 ·exact ⟨_,rfl,h⟩
 ·exact B1 h
 ·exact B2 h
 ·exact Qq h
 ·exact h.elim
theorem J4 {P:Px} {o:cq} {ρ:IX→AV} {K:AV→Prop} (h:xC o ρ [] K):∃ x,(∀ H,dh P o ρ H x)∧K x:=by
 obtain ⟨x,h1,h2⟩:=D3 (P:=P) h
 have hs:o.stays=true:=by
  cases o <;> first | rfl | exact h.elim
 exact ⟨x,fun H=>by have:=zZ (e:=H) hs h1;simpa using this,h2⟩
def mN (P:Px) (st:Bool) (o:cq) (ρ:IX→AV) (H:List aa) (K:AV→Prop):Prop:=
 match o with
 | .call f args none=>qQ P st (ρ f) (args.map fun x=>(ρ x).ab) H K
 | o=>xC o ρ (match st with | true=>H | false=>[]) K
theorem Mk {P:Px} {st:Bool} {o:cq} {ρ:IX→AV} {H:List aa} {K:AV→Prop} (h:mN P st o ρ H K):∃ x,dv P st o ρ H x∧K x:=by
 unfold mN at h
 split at h
 ·rename_i f args
  unfold qQ at h
  split at h
  ·rename_i g first cap e
   obtain ⟨x,h1,h2⟩:=h
   cases st with
   | true=>exact ⟨x,by simp only [dv,dh,e];exact h1,h2⟩
   | false=>exact ⟨x,by simp only [dv,dh,e];exact h1,h2⟩
  ·exact h.elim
 ·cases st with
  | true=>exact D3 h
  | false=>exact J4 h
def Iv (P:Px) (st:Bool) (o:bE) (env:Env) (H:List aa) (K:Env→Prop):Prop:=
 match o.g with
 | none=>mN P st o.op (ap env) H fun x=>K (put o.dst x env)
 | some (g,want)=>dX (get env g) g want env (fun _=>mN P st o.op (ap env) H fun x=>K (put o.dst x env)) (fun _=>K (put o.dst (.tuple []) env))
theorem D4 {P:Px} {st:Bool} {o:bE} {env:Env} {H:List aa} {K1 K2:Env→Prop} (h:Iv P st o env H K1) (hK:∀ e,K1 e→K2 e):uK P st o env H K2:=by
 unfold Iv at h
 unfold uK
 split at h
 ·rename_i e
  rw [e]
  obtain ⟨x,h1,h2⟩:=Mk h
  exact ⟨x,h1,hK _ h2⟩
 ·rename_i g want e
  rw [e]
  unfold dX at h
  unfold ja
  dsimp only
  split at h
  ·rename_i b hb
   rw [hb]
   refine ⟨fun eb=>?_,fun eb=>hK _ (h.2 eb)⟩
   obtain ⟨x,h1,h2⟩:=Mk (h.1 eb)
   exact ⟨x,h1,hK _ h2⟩
  ·rename_i hb
   rw [hb]
   exact hK _ h
  ·exact h.elim
theorem D5 {P:Px} {o:cq} {dst:Option Nat} {env:Env} {H:List aa} {K1 K2:Env→List aa→Prop} (h:bC P o dst env H K1) (hK:∀ e H',K1 e H'→K2 e H'):bC P o dst env H K2:=
 pC (fun _ _=>rfl) h fun mods H' _ _ _ hk=>hK _ _ hk
theorem tJ {P:Px} {o:bE} {env:Env} {H:List aa} {K1 K2:Env→List aa→Prop} (h:tu P o env H K1) (hK:∀ e H',K1 e H'→K2 e H'):tu P o env H K2:=by
 unfold tu at *
 split at h
 ·exact D5 h hK
 ·rename_i g want e
  unfold ja at *
  split at h
  ·exact ⟨fun eb=>D5 (h.1 eb) hK,fun eb=>hK _ _ (h.2 eb)⟩
  ·exact hK _ _ h
  ·exact h.elim
theorem tK {P:Px}:∀ {ops:List bE} {env:Env} {H:List aa} {K1 K2:Env→List aa→Prop},kc P ops env H K1→(∀ e H',K1 e H'→K2 e H')→kc P ops env H K2
 | [],_,_,_,_,h,hK=>hK _ _ h
 | o::r,_,_,_,_,h,hK=>tJ h fun _ _ h=>tK h hK
def jQ (P:Px):DT→Env→List aa→(Env→List aa→Prop)→Prop
 | .done,env,H,K=>K env H
 | .take st o r,env,H,K=>Iv P st o env H fun env=>jQ P r env H K
 | .br o t rest,env,H,K=>tu P o env H (fun env H=>jQ P t env H K)∧jQ P rest env H K
 | .nil,_,_,_=>True
theorem sg {P:Px}:∀ {t:DT} {env:Env} {H:List aa} {K1 K2:Env→List aa→Prop},jQ P t env H K1→(∀ e H',K1 e H'→K2 e H')→vR P t env H K2
 | .done,_,_,_,_,h,hK=>hK _ _ h
 | .take st o r,_,_,_,_,h,hK=>D4 h fun _ h=>sg h hK
 | .br o t rest,_,_,_,_,h,hK=>⟨tJ h.1 fun _ _ h=>sg h hK,sg h.2 hK⟩
 | .nil,_,_,_,_,h,hK=>trivial
def xD (P:Px) (f:AV) (lc:jm) (env:Env) (H:List aa) (K:Option Code→List aa→Prop):Prop:=
 match f with
 | .fn (.func g) first cap=>(∀ (as:Array Value) (w:World),(callFunc g as).run P.prog w=.ok (.enter g as) w)∧
    ∃ bY,yX (first.map AV.ab++[.oC H.length]++cap.map AV.ab) bY∧eC P g bY (H++[.loop .ready lc (lN lc.n env)]) fun _ H'=>behind H.length H' K
 | _=>False
theorem Ag {j:Option Code} {Q1 Q2:Exit→Env→List aa→Prop} {env:Env} {H:List aa} (h:qG j Q1 env H) (hQ:∀ x e H',Q1 x e H'→Q2 x e H'):qG j Q2 env H:=by
 unfold qG at *
 split at h <;> first | exact hQ _ _ _ h | exact h.elim
theorem uZ {id:Nat} {H:List aa} {K1 K2:Option Code→List aa→Prop} (h:behind id H K1) (hK:∀ j H',K1 j H'→K2 j H'):behind id H K2:=by
 unfold behind at *
 split at h <;> first | exact hK _ _ h | exact h.elim
def mO (P:Px) (n0:Nat):IR→Env→List aa→(Exit→Env→List aa→Prop)→Prop
 | .skip,env,H,Q=>Q .normal env H
 | .region ops live,env,H,Q=>kc P ops env H fun aI H'=>Q .normal (eX live aI) H'
 | .draw t live,env,H,Q=>jQ P t env H fun aI H'=>Q .normal (eX live aI) H'
 | .seq a b,env,H,Q=>mO P n0 a env H fun e aI H'=>match e with
   | .normal=>mO P n0 b aI H' Q
   | e=>Q e aI H'
 | .cond x a b,env,H,Q=>gE (ap env x) (mO P n0 a env H Q) (mO P n0 b env H Q)
 | .block id a,env,H,Q=>mO P n0 a env H fun e aI H'=>match e with
   | .exit id'=>if id'=id then Q .normal aI H' else Q (.exit id') aI H'
   | e=>Q e aI H'
 | .loop a,env,H,Q=>∃ (ι:Type) (I:ι→Prop) (se:ι→Env) (sh:ι→List aa) (μ:ι→Nat),(∃ i,I i∧Jz P.lo n0 env H (se i) (sh i))∧
    ∀ i,I i→mO P n0 a (se i) (sh i) fun e aI H'=>match e with
     | .normal=>∃ j,I j∧μ j < μ i∧Jz P.lo n0 aI H' (se j) (sh j)
     | e=>Q e aI H'
 | .exit id,env,H,Q=>Q (.exit id) env H
 | .ret,env,H,Q=>Q .ret env H
 | .never,env,H,Q=>False
 | .jL f lc,env,H,Q=>xD P (ap env f) lc env H fun j H''=>qG j Q env H''
theorem wg {P:Px} {n0:Nat}:∀ {ir:IR} {env:Env} {H:List aa} {Q1 Q2:Exit→Env→List aa→Prop},mO P n0 ir env H Q1→(∀ x e H',Q1 x e H'→Q2 x e H')→n7 P n0 ir env H Q2:=by
 intro ir
 induction ir with
 | skip=>exact fun h hQ=>hQ _ _ _ h
 | region ops live=>exact fun h hQ=>tK h fun _ _ h=>hQ _ _ _ h
 | draw t live=>exact fun h hQ=>sg h fun _ _ h=>hQ _ _ _ h
 | seq a b GH VI=>
   exact fun h hQ=>GH h fun x e H' h=>by
    cases x with
    | normal=>exact VI h hQ
    | _=>exact hQ _ _ _ h
 | cond x a b GH VI=>
   intro env H Q1 Q2 h hQ
   unfold mO gE fC at h
   unfold n7 fC
   split at h
   ·exact ⟨fun e=>GH (h.1 e) hQ,fun e=>VI (h.2 e) hQ⟩
   ·exact h.elim
 | block id a GH=>
   exact fun h hQ=>GH h fun x e H' h=>by
    cases x with
    | exit id'=>
      dsimp only at h ⊢
      split
      ·rename_i bu;rw [if_pos bu] at h;exact hQ _ _ _ h
      ·rename_i bu;rw [if_neg bu] at h;exact hQ _ _ _ h
    | _=>exact hQ _ _ _ h
 | loop a GH=>
   intro env H Q1 Q2 h hQ
   obtain ⟨ι,I,se,sh,μ,h0,hs⟩:=h
   exact ⟨ι,I,se,sh,μ,h0,fun i hi=>GH (hs i hi) fun x e H' h=>by
    cases x with
    | normal=>exact h
    | _=>exact hQ _ _ _ h⟩
 | exit id=>exact fun h hQ=>hQ _ _ _ h
 | ret=>exact fun h hQ=>hQ _ _ _ h
 | never=>exact fun h _=>h.elim
 | jL f lc=>
   intro env H Q1 Q2 h hQ
   unfold mO xD at h
   unfold n7
   split at h
   ·rename_i g first cap e
    obtain ⟨h1,bY,h2,h3⟩:=h
    rw [e]
    exact ⟨h1,bY,h2,h3.mono fun _ H' hb=>uZ hb fun j H'' hg=>Ag hg hQ⟩
   ·exact h.elim
theorem jq.calls {P:Program} {f:FuncId} {fi:sc} (h:jq P f fi) {args:List AV} {H:List aa} {R:AV→List aa→Prop} (hn:Nat.ble args.length fi.n=true)
 (hw:mO P H.length fi.ir (cj 0 args) H fun e env H'=>(e=.normal∨e=.ret)∧bT H.length fi.rs env H' R):aw P f args H R:=
 h.BT (aeF hn) (wg hw fun _ _ _ h=>h)
theorem jq.xE {P:Program} {f:FuncId} {fi:sc} (h:jq P f fi) {args:List AV} {H:List aa} {R:AV→List aa→Prop} (hn:Nat.ble args.length fi.n=true)
 (hw:mO ⟨P,some H.length⟩ H.length fi.ir (cj 0 args) H fun e env H'=>(e=.normal∨e=.ret)∧mj (lh H.length) H.length fi.rs env H' R):aw P f args H R:=
 h.PW (aeF hn) (wg hw fun _ _ _ h=>h)
section
variable {P:Px} {n0:Nat} {env:Env} {H:List aa} {Q:Exit→Env→List aa→Prop}
theorem Ml:mO P n0 .skip env H Q=Q .normal env H:=agK
theorem GI (ops:List bE) (live:Option (List Nat)):mO P n0 (.region ops live) env H Q=kc P ops env H fun aI H'=>Q .normal (eX live aI) H':=agK
theorem Mm (t:DT) (live:Option (List Nat)):mO P n0 (.draw t live) env H Q=jQ P t env H fun aI H'=>Q .normal (eX live aI) H':=agK
theorem Qy (a b:IR):mO P n0 (.seq a b) env H Q=mO P n0 a env H fun e aI H'=>match e with
 | .normal=>mO P n0 b aI H' Q
 | e=>Q e aI H':=agK
theorem D6 (x:IX) (a b:IR):mO P n0 (.cond x a b) env H Q=gE (ap env x) (mO P n0 a env H Q) (mO P n0 b env H Q):=agK
theorem J5 (id:Nat) (a:IR):mO P n0 (.block id a) env H Q=mO P n0 a env H fun e aI H'=>match e with
 | .exit id'=>if id'=id then Q .normal aI H' else Q (.exit id') aI H'
 | e=>Q e aI H':=agK
theorem Ah (f:IX) (lc:jm):mO P n0 (.jL f lc) env H Q=xD P (ap env f) lc env H fun j H''=>qG j Q env H'':=agK
theorem Mn (id:Nat):mO P n0 (.exit id) env H Q=Q (.exit id) env H:=agK
theorem Qz:mO P n0 .ret env H Q=Q .ret env H:=agK
@[congr] theorem XM {ir:IR} {aI:Env} {H':List aa} (h:hJ env=aI) (h2:H=H'):mO P n0 ir env H Q=mO P n0 ir aI H' Q:=by subst h;subst h2;rfl
@[congr] theorem VJ {ops:List bE} {aI:Env} {H':List aa} {K:Env→List aa→Prop} (h:hJ env=aI) (h2:H=H'):kc P ops env H K=kc P ops aI H' K:=by subst h;subst h2;rfl
@[congr] theorem VK {t:DT} {aI:Env} {H':List aa} {K:Env→List aa→Prop} (h:hJ env=aI) (h2:H=H'):jQ P t env H K=jQ P t aI H' K:=by subst h;subst h2;rfl
theorem Mo (K:Env→List aa→Prop):kc P [] env H K=K env H:=agK
theorem VL (d:Option Nat) (op:cq) (r:List bE) (K:Env→List aa→Prop):kc P (⟨none,d,op⟩::r) env H K=bC P op d env H fun env H=>kc P r env H K:=agK
theorem VM (g:Nat) (w:Bool) (d:Option Nat) (op:cq) (r:List bE) (K:Env→List aa→Prop):kc P (⟨some (g,w),d,op⟩::r) env H K =
 dX (get env g) g w env (fun env=>bC P op d env H fun env H=>kc P r env H K) (fun env=>kc P r (put d (.tuple []) env) H K):=agK
theorem YJ (d:Option Nat) (op:cq) (K:Env→List aa→Prop):tu P ⟨none,d,op⟩ env H K=bC P op d env H K:=agK
theorem YK (g:Nat) (w:Bool) (d:Option Nat) (op:cq) (K:Env→List aa→Prop):tu P ⟨some (g,w),d,op⟩ env H K =
 dX (get env g) g w env (fun env=>bC P op d env H K) (fun env=>K (put d (.tuple []) env) H):=agK
@[congr] theorem XN {o:bE} {K:Env→List aa→Prop} {H':List aa} (h:hJ H=H'):tu P o env H K=tu P o env H' K:=by subst h;rfl
@[congr] theorem XO {o:cq} {d:Option Nat} {K:Env→List aa→Prop} {H':List aa} (h:hJ H=H'):bC P o d env H K=bC P o d env H' K:=by subst h;rfl
theorem J6 (K:Env→List aa→Prop):jQ P .done env H K=K env H:=agK
theorem Mq (K:Env→List aa→Prop):jQ P .nil env H K=True:=agK
theorem VN (st:Bool) (d:Option Nat) (op:cq) (r:DT) (K:Env→List aa→Prop):jQ P (.take st ⟨none,d,op⟩ r) env H K=mN P st op (ap env) H fun x=>jQ P r (put d x env) H K:=agK
theorem VO (st:Bool) (g:Nat) (w:Bool) (d:Option Nat) (op:cq) (r:DT) (K:Env→List aa→Prop):jQ P (.take st ⟨some (g,w),d,op⟩ r) env H K =
 dX (get env g) g w env (fun _=>mN P st op (ap env) H fun x=>jQ P r (put d x env) H K) (fun _=>jQ P r (put d (.tuple []) env) H K):=agK
theorem QA (o:bE) (t rest:DT) (K:Env→List aa→Prop):jQ P (.br o t rest) env H K=(tu P o env H (fun env H=>jQ P t env H K)∧jQ P rest env H K):=agK
@[congr] theorem XP {st:Bool} {o:cq} {ρ:IX→AV} {K:AV→Prop} {H':List aa} (h:hJ H=H'):mN P st o ρ H K=mN P st o ρ H' K:=by subst h;rfl
theorem Mr {P:Program} {a:IR} (ι:Type) (I:ι→Prop) (se:ι→Env) (sh:ι→List aa) (μ:ι→Nat) (i0:ι) (h0:I i0) (XJ:sle n0 env H (se i0) (sh i0))
 (hs:∀ i,I i→mO P n0 a (se i) (sh i) fun e aI H'=>match e with
   | .normal=>∃ j,I j∧μ j < μ i∧sle n0 aI H' (se j) (sh j)
   | e=>Q e aI H'):mO P n0 (.loop a) env H Q:=⟨ι,I,se,sh,μ,⟨i0,h0,XJ⟩,hs⟩
theorem aB {P:Program} {a:IR} (N:Nat) (I:Nat→Prop) (se:Nat→Env) (sh:Nat→List aa) (h0:I 0∧sle n0 env H (se 0) (sh 0))
 (hs:∀ i,i≤N→I i→mO P n0 a (se i) (sh i) fun e aI H'=>match e with
   | .normal=>∃ j,(j≤N∧I j)∧N - j < N - i∧sle n0 aI H' (se j) (sh j)
   | e=>Q e aI H'):mO P n0 (.loop a) env H Q:=
 ⟨Nat,fun i=>i≤N∧I i,se,sh,fun i=>N - i,⟨0,⟨ac4 _,h0.1⟩,h0.2⟩,fun i hi=>hs i hi.1 hi.2⟩
end
section
variable {φ:AV→Prop}
@[congr] theorem Tc {v v':AV} {ψ:Bool→Prop} (h:hJ v=v'):fC v ψ=fC v' ψ:=by subst h;rfl
@[congr] theorem VP {op:BinOp} {x x' y y':AV} (h:hJ x=x') (h2:y=y'):dk op x y φ=dk op x' y' φ:=by subst h;subst h2;rfl
@[congr] theorem QB {op:BinOp} {x x' y y':AV} (h:hJ x=x') (h2:y=y'):ey op x y φ=ey op x' y' φ:=by subst h;subst h2;rfl
@[congr] theorem O4 {n:Bool} {x x' y y':AV} (h:hJ x=x') (h2:y=y'):dd n x y φ=dd n x' y' φ:=by subst h;subst h2;rfl
@[congr] theorem QC {k:Nat} {n:Bool} {x x':AV} (h:hJ x=x'):dw k n x φ=dw k n x' φ:=by subst h;rfl
@[congr] theorem XQ {op:UnOp} {x x':AV} (h:hJ x=x'):Bh op x φ=Bh op x' φ:=by subst h;rfl
@[congr] theorem Td {sz:Option Nat} {x x':AV} {H H':List aa} (h:hJ x=x') (h2:H=H'):aU sz x H φ=aU sz x' H' φ:=by subst h;subst h2;rfl
@[congr] theorem J7 {off:Nat} {sz:Option Nat} {x x':AV} (h:hJ x=x'):al off sz x φ=al off sz x' φ:=by subst h;rfl
@[congr] theorem QD {off:Nat} {sz:Option Nat} {x x':AV} (h:hJ x=x'):fD off sz x φ=fD off sz x' φ:=by subst h;rfl
@[congr] theorem J8 {e:Nat} {x x' y y':AV} (h:hJ x=x') (h2:y=y'):aA e x y φ=aA e x' y' φ:=by subst h;subst h2;rfl
@[congr] theorem Ld {n:Nat} {x x' y y':AV} (h:hJ x=x') (h2:y=y'):b8 n x y φ=b8 n x' y' φ:=by subst h;subst h2;rfl
@[congr] theorem Lf {x x' y y':AV} (h:hJ x=x') (h2:y=y'):bO x y φ=bO x' y' φ:=by subst h;subst h2;rfl
@[congr] theorem VQ {x x':AV} {H H':List aa} (h:hJ x=x') (h2:H=H'):fT x H φ=fT x' H' φ:=by subst h;subst h2;rfl
@[congr] theorem Ms {x x':AV} {i:Nat} (h:hJ x=x'):bH x i φ=bH x' i φ:=by subst h;rfl
@[congr] theorem Lg {x x':AV} (h:hJ x=x'):b9 x φ=b9 x' φ:=by subst h;rfl
@[congr] theorem Mt {k:IntKind} {x x':AV} (h:hJ x=x'):cJ k x φ=cJ k x' φ:=by subst h;rfl
@[congr] theorem XR {b:Bool} {x x' y y':AV} (h:hJ x=x') (h2:y=y'):yM b x y φ=yM b x' y' φ:=by subst h;subst h2;rfl
@[congr] theorem O5 {kd:Nat} {z m m' k k':AV} {ok:Bool} {H H':List aa} (h:hJ m=m') (h2:k=k') (h3:H=H'):cB kd z m k ok H φ=cB kd z m' k' ok H' φ:=by subst h;subst h2;subst h3;rfl
@[congr] theorem O6 {kd:Nat} {m m' k k' x x':AV} {H H':List aa} {K:List aa→Prop} (h:hJ m=m') (h2:k=k') (h3:x=x') (h4:H=H'):fW kd m k x H K=fW kd m' k' x' H' K:=by subst h;subst h2;subst h3;subst h4;rfl
@[congr] theorem QE {m:Nat} {p p' x x':AV} {H H':List aa} {K:List aa→Prop} (h:hJ p=p') (h2:x=x') (h3:H=H'):iZ m p x H K=iZ m p' x' H' K:=by subst h;subst h2;subst h3;rfl
@[congr] theorem Mv {p p' x x':AV} {H H':List aa} {K:List aa→Prop} (h:hJ p=p') (h2:x=x') (h3:H=H'):eB p x H K=eB p' x' H' K:=by subst h;subst h2;subst h3;rfl
@[congr] theorem O7 {e b:Nat} {s s' x x':AV} {ψ:List AV→Prop} (h:hJ s=s') (h2:x=x'):bp e b s x ψ=bp e b s' x' ψ:=by subst h;subst h2;rfl
@[congr] theorem QF {e b:Nat} {z n n':AV} {H H':List aa} {K:AV→List aa→Prop} (h:hJ n=n') (h2:H=H'):fG e b z n H K=fG e b z n' H' K:=by subst h;subst h2;rfl
@[congr] theorem Mw {e b:Nat} {z s s' x x':AV} {H H':List aa} {K:AV→List aa→Prop} (h:hJ s=s') (h2:x=x') (h3:H=H'):ch e b z s x H K=ch e b z s' x' H' K:=by subst h;subst h2;subst h3;rfl
@[congr] theorem O8 {e:Nat} {z x x':AV} {H H':List aa} {K:List aa→Prop} (h:hJ x=x') (h2:H=H'):jh e z x H K=jh e z x' H' K:=by subst h;subst h2;rfl
@[congr] theorem Te {xs xs':List AV} {H H':List aa} {K:AV→List aa→Prop} (h:hJ xs=xs') (h2:H=H'):uF xs H K=uF xs' H' K:=by subst h;subst h2;rfl
@[congr] theorem QG {e b:Nat} {n n':AV} (h:hJ n=n'):jJ e b n φ=jJ e b n' φ:=by subst h;rfl
@[congr] theorem Tf {e:Nat} {d d' s s':AV} {H H':List aa} {K:AV→List aa→Prop} (h:hJ d=d') (h2:s=s') (h3:H=H'):kC e d s H K=kC e d' s' H' K:=by subst h;subst h2;subst h3;rfl
@[congr] theorem Tg {e:Nat} {x x':AV} {H H':List aa} {K:AV→List aa→Prop} (h:hJ x=x') (h2:H=H'):ft e x H K=ft e x' H' K:=by subst h;subst h2;rfl
@[congr] theorem O9 {e:Nat} {x x':AV} {lo lo' hi mV m m':Option AV} (h:hJ x=x') (h1:lo=lo') (h2:hi=mV) (h3:m=m'):bo e x lo hi m φ=bo e x' lo' mV m' φ:=by subst h;subst h1;subst h2;subst h3;rfl
@[congr] theorem Lh {x x':AV} {lo lo' hi mV:Option AV} (h:hJ x=x') (h1:lo=lo') (h2:hi=mV):cu x lo hi φ=cu x lo' mV φ:=by subst h;subst h1;subst h2;rfl
@[congr] theorem VR {n0:Nat} {rs:List RX} {env aI:Env} {H H':List aa} {R:AV→List aa→Prop} (h:hJ env=aI) (h2:H=H'):bT n0 rs env H R=bT n0 rs aI H' R:=by subst h;subst h2;rfl
end
end Go.aK
end
section
namespace Go.aK
open Go
section
variable {P:Px} {env:Env} {H:List aa} {dst:Option Nat} {K:Env→List aa→Prop}
theorem VS (op:BinOp) (x:IX) (y:IX):bC P (.bin op x y) dst env H K=(dk op (ap env x) (ap env y) fun z=>K (put dst z env) H):=agK
theorem Mx (op:BinOp) (x:IX) (y:IX):bC P (.shift op x y) dst env H K=(ey op (ap env x) (ap env y) fun z=>K (put dst z env) H):=agK
theorem J9 (neq:Bool) (x:IX) (y:IX):bC P (.iX neq x y) dst env H K=(dd neq (ap env x) (ap env y) fun z=>K (put dst z env) H):=agK
theorem My (kd:Nat) (neq:Bool) (x:IX):bC P (.jW kd neq x) dst env H K=(dw kd neq (ap env x) fun z=>K (put dst z env) H):=agK
theorem YL (op:UnOp) (x:IX):bC P (.un op x) dst env H K=(Bh op (ap env x) fun z=>K (put dst z env) H):=agK
theorem VT (x:IX):bC P (.box x) dst env H K=((ap env x).val=true∧aj (H.length + 1) ((ap env x).cells.map AV.ab)=true∧K (put dst (.ptr H.length 0) env) (H++[.cells ((ap env x).cells.map AV.ab)])):=agK
theorem QH (x:IX):bC P (.mR x) dst env H K=((ap env x).val=true∧K (put dst (.ah (ap env x)) env) H):=agK
theorem QI (m:Nat) (x:IX):bC P (.s7 m x) dst env H K=((ap env x).val=true∧(ap env x).cells.length=m∧(ap env x).cells.all AV.one=true∧K (put dst (.ah (ap env x)) env) H):=agK
theorem Mz (z:AV):bC P (.alloc z) dst env H K=(aj (H.length + 1) (z.cells.map AV.ab)=true∧K (put dst (.ptr H.length 0) env) (H++[.cells (z.cells.map AV.ab)])):=agK
theorem MA (z:AV) (ps:List (Nat×Nat×IX)):bC P (.build z ps) dst env H K=(cE z.cells (ps.map fun q=>(q.1,q.2.1,ap env q.2.2)) fun v=>K (put dst v env) H):=agK
theorem zh (own:Nat) (esz:Nat) (z:AV) (len:Nat) (ps:List (Nat×IX)):bC P (.buildSlice own esz z len ps) dst env H K=(bm (List.replicate len (aR z)) esz (ps.map fun q=>(q.1,ap env q.2)) fun xs=>K (put dst (.ak own xs) env) H):=agK
theorem QJ (sz:Option Nat) (a:IX):bC P (.load sz a) dst env H K=(aU sz (ap env a) H fun z=>K (put dst z env) H):=agK
theorem MB (sz:Option Nat) (esz:Nat) (a:IX):bC P (.uw sz esz a) dst env H K=(aU sz (ap env a) H fun z=>ft esz z H fun y H'=>K (put dst y env) H'):=agK
theorem MC (m:Nat) (a:IX) (x:IX):bC P (.store m a x) dst env H K=(iZ m (ap env a) (ap env x) H fun H'=>K env H'):=agK
theorem Ka {P:Program} {l:Nat} (m:Nat) (a:IX) (x:IX):bC ⟨P,some l⟩ (.oE m a x) dst env H K=(iv l m (ap env a) (ap env x) H fun H'=>K env H'):=agK
theorem GJ (a:IX) (s:Nat):bC P (.fS a s) dst env H K=(eB (ap env a) (get env s) H fun H'=>K ((s,(get env s).ab)::env) H'):=agK
theorem D7 (x:IX):bC P (.nilCheck x) dst env H K=(b9 (ap env x) fun z=>K (put dst z env) H):=agK
theorem B3 (off:Nat) (sz:Option Nat) (x:IX):bC P (.fieldAddr off sz x) dst env H K=(al off sz (ap env x) fun z=>K (put dst z env) H):=agK
theorem MD (off:Nat) (sz:Option Nat) (x:IX):bC P (.field off sz x) dst env H K=(fD off sz (ap env x) fun z=>K (put dst z env) H):=agK
theorem B4 (esz:Nat) (x:IX) (i:IX):bC P (.indexAddr esz x i) dst env H K=((∀ own xs,ap env x=.ak own xs→∀ z∈xs,z.cells.length=esz)∧aA esz (ap env x) (ap env i) fun z=>K (put dst z env) H):=agK
theorem D8 (n:Nat) (x:IX) (i:IX):bC P (.eh n x i) dst env H K=(b8 n (ap env x) (ap env i) fun z=>K (put dst z env) H):=agK
theorem Kb (esz:Nat) (x:IX) (lo:Option IX) (hi:Option IX) (mx:Option IX):bC P (.qB esz x lo hi mx) dst env H K=((∀ own xs,ap env x=.ak own xs→∀ z∈xs,z.cells.length=esz)∧ff esz (ap env x) (iz env lo) (iz env hi) (iz env mx) fun z=>z=.ak esz []∧K (put dst .pW env) H):=agK
theorem D9 (x:IX) (i:IX):bC P (.dn x i) dst env H K=(bO (ap env x) (ap env i) fun z=>K (put dst z env) H):=agK
theorem ME (esz:Nat) (x:IX) (lo:Option IX) (hi:Option IX) (mx:Option IX):bC P (.slice esz x lo hi mx) dst env H K=(bo esz (ap env x) (iz env lo) (iz env hi) (iz env mx) fun z=>K (put dst z env) H):=agK
theorem QK (esz:Nat) (d:IX) (s:IX):bC P (.copy esz d s) dst env H K=(kC esz (ap env d) (ap env s) H fun z H'=>K (put dst z env) H'):=agK
theorem Ea (x:IX) (lo:Option IX) (hi:Option IX):bC P (.ej x lo hi) dst env H K=(cu (ap env x) (iz env lo) (iz env hi) fun z=>K (put dst z env) H):=agK
theorem VU (kd:Nat) (x:IX):bC P (.len kd x) dst env H K=(aN kd (ap env x)∧fT (ap env x) H fun z=>K (put dst z env) H):=agK
theorem Kc (esz:Nat) (bytes:Nat) (s:IX) (x:IX):bC P (.append esz bytes s x) dst env H K=(bp esz bytes (ap env s) (ap env x) fun zs=>K (put dst (.ak esz zs) (cW env s.slot)) H):=agK
theorem MF (esz:Nat) (bytes:Nat) (z:AV) (n:IX):bC P (.ux esz bytes z n) dst env H K=(fG esz bytes z (ap env n) H fun v H'=>K (put dst v env) H'):=agK
theorem wh (esz:Nat) (z:AV) (len:Nat) (ps:List (Nat×IX)):bC P (.Dc esz z len ps) dst env H K=(bm (List.replicate len (aR z)) esz (ps.map fun q=>(q.1,ap env q.2)) fun xs=>uF xs H fun v H'=>K (put dst v env) H'):=agK
theorem Kd (esz:Nat) (z:AV) (x:IX):bC P (.oH esz z x) dst env H K=(jh esz z (ap env x) H fun H'=>K (put dst (.tuple []) env) H'):=agK
theorem GK (esz bytes:Nat) (z:AV) (s x:IX):bC P (.jZ esz bytes z s x) dst env H K=(ch esz bytes z (ap env s) (ap env x) H fun v H'=>K (put dst v env) H'):=agK
theorem MG (esz:Nat) (bytes:Nat) (n:IX):bC P (.oF esz bytes n) dst env H K=(jJ esz bytes (ap env n) fun v=>K (put dst v env) H):=agK
theorem MH :bC P (.oG ) dst env H K=(K (put dst (.map H.length) env) (H++[.map []])):=agK
theorem Ke (kd:Nat) (z:AV) (m:IX) (k:IX) (ok:Bool):bC P (.lookup kd z m k ok) dst env H K=(cB kd z (ap env m) (ap env k) ok H fun v=>K (put dst v env) H):=agK
theorem Kf (kd:Nat) (m:IX) (k:IX) (x:IX):bC P (.lG kd m k x) dst env H K=(fW kd (ap env m) (ap env k) (ap env x) H fun H'=>K env H'):=agK
theorem YM (f:Fn) (first:List IX) (cap:List IX):bC P (.fn f first cap) dst env H K=(K (put dst (.fn f (first.map fun x=>(ap env x).ab) (cap.map fun x=>(ap env x).ab)) env) H):=agK
theorem GL (x:IX) (i:Nat):bC P (.extract x i) dst env H K=(bH (ap env x) i fun z=>K (put dst z env) H):=agK
theorem GM (k:IntKind) (x:IX):bC P (.fq k x) dst env H K=(cJ k (ap env x) fun z=>K (put dst z env) H):=agK
theorem GN (x:IX):bC P (.iq x) dst env H K=(gv (ap env x) fun z=>K (put dst z env) H):=agK
theorem GO (x:IX):bC P (.bytesOf x) dst env H K=(fH 1 (ap env x) fun z=>K (put dst z env) H):=agK
theorem MJ (x:IX):bC P (.strOf x) dst env H K=(kA (ap env x) fun z=>K (put dst z env) H):=agK
theorem YN (big:Bool) (a:IX) (b:IX):bC P (.mx big a b) dst env H K=(yM big (ap env a) (ap env b) fun z=>K (put dst z env) H):=agK
theorem QL (esz:Nat) (x:IX):bC P (.Bf esz x) dst env H K=(ft esz (ap env x) H fun z H'=>K (put dst z env) H'):=agK
theorem MK (x:IX) (take:Bool):bC P (.set x take) none env H K=K env H:=agK
theorem VV (d:Nat) (x:IX):bC P (.set x false) (some d) env H K=K ((d,(ap env x).ab)::env) H:=by cases x <;> rfl
theorem QM (d s:Nat):bC P (.set (.t s) true) (some d) env H K=K ((d,get env s)::(s,(get env s).ab)::env) H:=agK
theorem ML (d:Nat) (v:AV):bC P (.set (.c v) true) (some d) env H K=K ((d,v.ab)::env) H:=agK
theorem QN (c a b:IX):bC P (.pick c a b) dst env H K=gE (ap env c) (K (put dst (ap env a).ab env) H) (K (put dst (ap env b).ab env) H):=agK
theorem QO (f:IX) (args:List IX) (pass:Option Nat):bC P (.call f args pass) dst env H K=qg P (ap env f) args pass env H (fun r aI H'=>K (put dst r aI) H'):=agK
end
section
variable {P:Px} {st:Bool} {ρ:IX→AV} {H:List aa} {K:AV→Prop}
theorem VW (i:IX):mN P st (.set i false) ρ H K=K (ρ i).ab:=by cases st <;> rfl
theorem QP (c:IX) (a:IX) (b:IX):mN P st (.pick c a b) ρ H K=(gE (ρ c) (K (ρ a).ab) (K (ρ b).ab)):=agK
theorem VX (op:BinOp) (i:IX) (j:IX):mN P st (.bin op i j) ρ H K=(dk op (ρ i) (ρ j) K):=agK
theorem MM (op:BinOp) (i:IX) (j:IX):mN P st (.shift op i j) ρ H K=(ey op (ρ i) (ρ j) K):=agK
theorem Kg (neq:Bool) (i:IX) (j:IX):mN P st (.iX neq i j) ρ H K=(dd neq (ρ i) (ρ j) K):=agK
theorem MN (kd:Nat) (neq:Bool) (i:IX):mN P st (.jW kd neq i) ρ H K=(pM kd neq (ρ i) K):=agK
theorem YO (op:UnOp) (i:IX):mN P st (.un op i) ρ H K=(Bh op (ρ i) K):=agK
theorem QQ (i:IX):mN P st (.mR i) ρ H K=((ρ i).val=true∧K (.ah (ρ i))):=agK
theorem MO (z:AV) (ps:List (Nat×Nat×IX)):mN P st (.build z ps) ρ H K=(cE z.cells (ps.map fun q=>(q.1,q.2.1,ρ q.2.2)) K):=agK
theorem zi (own:Nat) (esz:Nat) (z:AV) (len:Nat) (ps:List (Nat×IX)):mN P st (.buildSlice own esz z len ps) ρ H K=(bm (List.replicate len (aR z)) esz (ps.map fun q=>(q.1,ρ q.2)) fun xs=>K (.ak own xs)):=agK
theorem B5 (sz:Option Nat) (i:IX):mN P true (.load sz i) ρ H K=(aU sz (ρ i) H K):=agK
theorem zj (sz:Option Nat) (i:IX):mN P false (.load sz i) ρ H K=(aU sz (ρ i) [] K):=agK
theorem Eb (i:IX):mN P st (.nilCheck i) ρ H K=(b9 (ρ i) K):=agK
theorem B6 (off:Nat) (sz:Option Nat) (i:IX):mN P st (.fieldAddr off sz i) ρ H K=(al off sz (ρ i) K):=agK
theorem MP (off:Nat) (sz:Option Nat) (i:IX):mN P st (.field off sz i) ρ H K=(fD off sz (ρ i) K):=agK
theorem B7 (esz:Nat) (i:IX) (j:IX):mN P st (.indexAddr esz i j) ρ H K=((∀ own xs,ρ i=.ak own xs→∀ z∈xs,z.cells.length=esz)∧aA esz (ρ i) (ρ j) K):=agK
theorem Ec (n:Nat) (i:IX) (j:IX):mN P st (.eh n i j) ρ H K=(b8 n (ρ i) (ρ j) K):=agK
theorem Ed (i:IX) (j:IX):mN P st (.dn i j) ρ H K=(bO (ρ i) (ρ j) K):=agK
theorem MQ (esz:Nat) (i:IX) (lo:Option IX) (hi:Option IX) (mx:Option IX):mN P st (.slice esz i lo hi mx) ρ H K=(bo esz (ρ i) (lo.map ρ) (hi.map ρ) (mx.map ρ) K):=agK
theorem Ee (i:IX) (lo:Option IX) (hi:Option IX):mN P st (.ej i lo hi) ρ H K=(cu (ρ i) (lo.map ρ) (hi.map ρ) K):=agK
theorem Ef (kd:Nat) (i:IX):mN P true (.len kd i) ρ H K=(aN kd (ρ i)∧iT (ρ i) H K):=agK
theorem B8 (kd:Nat) (i:IX):mN P false (.len kd i) ρ H K=(aN kd (ρ i)∧iT (ρ i) [] K):=agK
theorem xF (kd:Nat) (z:AV) (m:IX) (k:IX) (ok:Bool):mN P true (.lookup kd z m k ok) ρ H K=(cB kd z (ρ m) (ρ k) ok H K):=agK
theorem vH (kd:Nat) (z:AV) (m:IX) (k:IX) (ok:Bool):mN P false (.lookup kd z m k ok) ρ H K=(cB kd z (ρ m) (ρ k) ok [] K):=agK
theorem YP (f:Fn) (first:List IX) (cap:List IX):mN P st (.fn f first cap) ρ H K=(K (.fn f (first.map fun x=>(ρ x).ab) (cap.map fun x=>(ρ x).ab))):=agK
theorem GP (i:IX) (k:Nat):mN P st (.extract i k) ρ H K=(bH (ρ i) k K):=agK
theorem GQ (k:IntKind) (i:IX):mN P st (.fq k i) ρ H K=(cJ k (ρ i) K):=agK
theorem YQ (big:Bool) (i:IX) (j:IX):mN P st (.mx big i j) ρ H K=(yM big (ρ i) (ρ j) K):=agK
theorem QR (f:IX) (args:List IX):mN P st (.call f args none) ρ H K=qQ P st (ρ f) (args.map fun x=>(ρ x).ab) H K:=agK
end
theorem GR (env:Env):eX none env=env:=agK
theorem Kh (env:Env):eX (some []) env=[]:=agK
theorem GS (env:Env) (t:Nat) (l:List Nat):eX (some (t::l)) env=(t,get env t)::eX (some l) env:=agK
theorem GU (k:Nat):cj k []=[]:=agK
theorem Eg (k:Nat) (x:AV) (xs:List AV):cj k (x::xs)=(k,x)::cj (k + 1) xs:=agK
theorem VY (env:Env) (s:Nat):ap env (.t s)=get env s:=agK
theorem VZ (env:Env) (v:AV):ap env (.c v)=v:=agK
theorem mq (o:Nat) (xs:List AV) (H:List aa) (φ:AV→Prop):iT (.ak o xs) H φ=φ (.int .i64 xs.length):=agK
theorem GV (H:List aa) (φ:AV→Prop):iT .ag H φ=φ (.int .i64 0):=agK
theorem Ki (s:ByteArray) (H:List aa) (φ:AV→Prop):iT (.str s) H φ=φ (.int .i64 s.size):=agK
theorem Kj (a b c d:Nat) (H:List aa) (φ:AV→Prop):iT (.ba a b c d) H φ=φ (.int .i64 c):=agK
theorem MR {α β:Type} (f:α→β):List.map f []=[]:=agK
theorem Kk {α β:Type} (f:α→β) (x:α) (xs:List α):List.map f (x::xs)=f x::List.map f xs:=agK
end Go.aK
end
section
namespace Go.aK
open Go
theorem ga0 (H e:List aa):(H++e)[H.length]?=e[0]?:=by
 rw [abu (sU _),afw]
theorem ga (H e:List aa) (i:Nat):(H++e)[H.length + i]?=e[i]?:=by
 rw [abu (Nat.le_add_right _ _),Nat.add_sub_cancel_left]
theorem sa0 (H e:List aa) (x:aa):(H++e).set H.length x=H++e.set 0 x:=by
 rw [ac9 _ _ (sU _),afw]
theorem sa (H e:List aa) (i:Nat) (x:aa):(H++e).set (H.length + i) x=H++e.set i x:=by
 rw [ac9 _ _ (Nat.le_add_right _ _),Nat.add_sub_cancel_left]
theorem adR (H e f:List aa):(H++e)++f=H++(e++f):=abb _ _ _
theorem Yg (H e:List aa):(H++e).length=H.length + e.length:=aaz
theorem g0 {α:Type} (x:α) (r:List α):(x::r)[0]?=some x:=by simp
theorem g1 {α:Type} (x y:α) (r:List α):(x::y::r)[1]?=some y:=by simp
theorem g2 {α:Type} (x y z:α) (r:List α):(x::y::z::r)[2]?=some z:=by simp
theorem s0 {α:Type} (x u:α) (r:List α):(x::r).set 0 u=u::r:=by simp
theorem s1 {α:Type} (x y u:α) (r:List α):(x::y::r).set 1 u=x::u::r:=by simp
theorem s2 {α:Type} (x y z u:α) (r:List α):(x::y::z::r).set 2 u=x::y::u::r:=by simp
theorem d0 {α:Type} (x d:α) (r:List α):(x::r).getD 0 d=x:=by simp
theorem d1 {α:Type} (x y d:α) (r:List α):(x::y::r).getD 1 d=y:=by simp
theorem d2 {α:Type} (x y z d:α) (r:List α):(x::y::z::r).getD 2 d=z:=by simp
theorem sp1 (x y:AV):ai [x] 0 [y]=[y]:=by simp [ai]
theorem GW {x:AV} {H:List aa} {φ ψ:AV→Prop} (hm:∀ z,φ z→ψ z) (h:iT x H φ):iT x H ψ:=by
 unfold iT at *
 split at h
 ·exact hm _ h
 ·exact tA hm h
theorem GX {o:cq} {ρ:IX→AV} {H:List aa} {K K':AV→Prop} (h:xC o ρ H K) (hK:∀ x,K x→K' x):xC o ρ H K':=by
 unfold xC at *
 split at h
 ·exact hK _ h
 ·unfold gE fC at *
  split at h
  ·exact ⟨fun e=>hK _ (h.1 e),fun e=>hK _ (h.2 e)⟩
  ·exact h.elim
 ·exact tx hK h
 ·exact oQ hK h
 ·exact m9 hK h
 ·unfold pM at *
  split at h
  ·exact hK _ h
  ·exact h.elim
 ·exact xc hK h
 ·exact ⟨h.1,hK _ h.2⟩
 ·exact ni (fun _ h=>hK _ h) h
 ·exact iB (fun _ h=>hK _ h) h
 ·exact kG hK h
 ·exact kJ hK h
 ·exact jN hK h
 ·exact oR hK h
 ·exact ⟨h.1,jO hK h.2⟩
 ·exact kH hK h
 ·exact kI hK h
 ·exact nh hK h
 ·exact kK hK h
 ·exact ⟨h.1,GW hK h.2⟩
 ·exact nc hK h
 ·exact hK _ h
 ·exact lO hK h
 ·exact lP hK h
 ·exact xd hK h
 ·exact h.elim
theorem dP {P:Px}:∀ {t:DT} {env:Env} {H:List aa} {K1 K2:Env→List aa→Prop},jQ P t env H K1→(∀ e H',K1 e H'→K2 e H')→jQ P t env H K2
 | .done,_,_,_,_,h,hK=>hK _ _ h
 | .take st o r,_,_,_,_,h,hK=>by
   unfold jQ Iv at *
   have key:∀ {env:Env} {H:List aa} {K:AV→Prop} {K':AV→Prop},mN P st o.op (ap env) H K→(∀ x,K x→K' x)→mN P st o.op (ap env) H K':=by
    intro env H K K' h hK
    unfold mN at *
    split at h
    ·unfold qQ at *
     split at h
     ·obtain ⟨x,h1,h2⟩:=h;exact ⟨x,h1,hK _ h2⟩
     ·exact h.elim
    ·exact GX h hK
   split at h
   ·exact key h fun _ h=>dP h hK
   ·unfold dX at *
    split at h
    ·exact ⟨fun e=>key (h.1 e) fun _ h=>dP h hK,fun e=>dP (h.2 e) hK⟩
    ·exact dP h hK
    ·exact h.elim
 | .br o t rest,_,_,_,_,h,hK=>⟨tJ h.1 fun _ _ h=>dP h hK,dP h.2 hK⟩
 | .nil,_,_,_,_,h,hK=>trivial
theorem mr {P:Px} {n0:Nat}:∀ {ir:IR} {env:Env} {H:List aa} {Q1 Q2:Exit→Env→List aa→Prop},mO P n0 ir env H Q1→(∀ x e H',Q1 x e H'→Q2 x e H')→mO P n0 ir env H Q2:=by
 intro ir
 induction ir with
 | skip=>exact fun h hQ=>hQ _ _ _ h
 | region ops live=>exact fun h hQ=>tK h fun _ _ h=>hQ _ _ _ h
 | draw t live=>exact fun h hQ=>dP h fun _ _ h=>hQ _ _ _ h
 | seq a b GH VI=>
   exact fun h hQ=>GH h fun x e H' h=>by
    cases x with
    | normal=>exact VI h hQ
    | _=>exact hQ _ _ _ h
 | cond x a b GH VI=>
   intro env H Q1 Q2 h hQ
   rw [D6] at *
   unfold gE fC at *
   split at h
   ·exact ⟨fun e=>GH (h.1 e) hQ,fun e=>VI (h.2 e) hQ⟩
   ·exact h.elim
 | block id a GH=>
   exact fun h hQ=>GH h fun x e H' h=>by
    cases x with
    | exit id'=>
      dsimp only at h ⊢
      split
      ·rename_i bu;rw [if_pos bu] at h;exact hQ _ _ _ h
      ·rename_i bu;rw [if_neg bu] at h;exact hQ _ _ _ h
    | _=>exact hQ _ _ _ h
 | loop a GH=>
   intro env H Q1 Q2 h hQ
   obtain ⟨ι,I,se,sh,μ,h0,hs⟩:=h
   exact ⟨ι,I,se,sh,μ,h0,fun i hi=>GH (hs i hi) fun x e H' h=>by
    cases x with
    | normal=>exact h
    | _=>exact hQ _ _ _ h⟩
 | exit id=>exact fun h hQ=>hQ _ _ _ h
 | ret=>exact fun h hQ=>hQ _ _ _ h
 | never=>exact fun h _=>h.elim
 | jL f lc=>
   intro env H Q1 Q2 h hQ
   rw [Ah] at *
   unfold xD at *
   split at h
   ·obtain ⟨h1,bY,h2,h3⟩:=h
    exact ⟨h1,bY,h2,h3.mono fun _ H' hb=>uZ hb fun j H'' hg=>Ag hg hQ⟩
   ·exact h.elim
theorem adT (a b y:AV):ai [a,b] 0 [y]=[y,b]:=by simp [ai]
theorem adU (a b y:AV):ai [a,b] 1 [y]=[a,y]:=by simp [ai]
theorem adV (a b c y:AV):ai [a,b,c] 0 [y]=[y,b,c]:=by simp [ai]
theorem adW (a b c y:AV):ai [a,b,c] 1 [y]=[a,y,c]:=by simp [ai]
theorem adX (a b c y:AV):ai [a,b,c] 2 [y]=[a,b,y]:=by simp [ai]
theorem adY (a b c x y z:AV):ai [a,b,c] 0 [x,y,z]=[x,y,z]:=by simp [ai]
theorem V0 (k k':IntKind) (a b:Int) (φ:AV→Prop):yM true (.int k a) (.int k' b) φ=φ (.int k (max a b)):=by
 have:(if a < b then b else a)=max a b:=by rw [Int.max_def];split <;> split <;> omega
 simp [yM,this]
theorem V1 (k k':IntKind) (a b:Int) (φ:AV→Prop):yM false (.int k a) (.int k' b) φ=φ (.int k (min a b)):=by
 have:(if b < a then b else a)=min a b:=by rw [Int.min_def];split <;> split <;> omega
 simp [yM,this]
def cw (o:Option aa) (sz:Option Nat) (off:Nat) (φ:AV→Prop):Prop:=
 match o with
 | some (.cells es)=>match sz with
   | some m=>off + m≤es.length∧φ (.agg (((es.drop off).take m).map AV.drop))
   | none=>off < es.length∧φ (es.getD off .any).ab
 | _=>False
@[congr] theorem Th {o o':Option aa} {sz:Option Nat} {off:Nat} {φ:AV→Prop} (h:hJ o=o'):cw o sz off φ=cw o' sz off φ:=by subst h;rfl
theorem MS (sz:Option Nat) (id off:Nat) (H:List aa) (φ:AV→Prop):aU sz (.ptr id off) H φ=cw H[id]? sz off φ:=by
 unfold aU cw;rfl
theorem QS (es:List AV) (off:Nat) (φ:AV→Prop):cw (some (.cells es)) none off φ=(off < es.length∧φ (es.getD off .any).ab):=agK
theorem Iw (a b c:AV) (φ:AV→Prop):cw (some (.cells [a,b,c])) (some 3) 0 φ=φ (.agg [a.drop,b.drop,c.drop]):=by simp [cw]
theorem QT (a b:AV) (φ:AV→Prop):cw (some (.cells [a,b])) (some 2) 0 φ=φ (.agg [a.drop,b.drop]):=by simp [cw]
def gR (o:Option aa) (m id off:Nat) (x:AV) (H:List aa) (K:List aa→Prop):Prop:=
 match o with
 | some (.cells es)=>x.val=true∧x.cells.length=m∧off + m≤es.length∧x.cells.all AV.one=true∧aj (id + 1) (x.cells.map AV.ab)=true∧
    K (H.set id (.cells (ai es off (x.cells.map AV.ab))))
 | _=>False
@[congr] theorem QU {o o':Option aa} {m id off:Nat} {x:AV} {H:List aa} {K:List aa→Prop} (h:hJ o=o') {x':AV} (h2:x=x'):gR o m id off x H K=gR o' m id off x' H K:=by subst h;subst h2;rfl
theorem Kl (m id off:Nat) (x:AV) (H:List aa) (K:List aa→Prop):iZ m (.ptr id off) x H K=gR H[id]? m id off x H K:=by
 unfold iZ gR;rfl
theorem Eh (es:List AV) (m id off:Nat) (x:AV) (H:List aa) (K:List aa→Prop):gR (some (.cells es)) m id off x H K=(x.val=true∧x.cells.length=m∧off + m≤es.length∧x.cells.all AV.one=true∧aj (id + 1) (x.cells.map AV.ab)=true∧
 K (H.set id (.cells (ai es off (x.cells.map AV.ab))))):=agK
def si (o:Option aa) (l m id off:Nat) (x:AV) (H:List aa) (K:List aa→Prop):Prop:=
 match o with
 | some (.cells es)=>l≤id∧x.val=true∧x.cells.length=m∧off + m≤es.length∧x.cells.all AV.one=true∧aj H.length (x.cells.map AV.ab)=true∧
    K (H.set id (.cells (ai es off (x.cells.map AV.ab))))
 | _=>False
@[congr] theorem Pa {o o':Option aa} {l m id off:Nat} {x:AV} {H:List aa} {K:List aa→Prop} (h:hJ o=o') {x':AV} (h2:x=x'):si o l m id off x H K=si o' l m id off x' H K:=by subst h;subst h2;rfl
theorem GY (l m id off:Nat) (x:AV) (H:List aa) (K:List aa→Prop):iv l m (.ptr id off) x H K=si H[id]? l m id off x H K:=by
 unfold iv si;rfl
theorem Km (es:List AV) (l m id off:Nat) (x:AV) (H:List aa) (K:List aa→Prop):si (some (.cells es)) l m id off x H K=(l≤id∧x.val=true∧x.cells.length=m∧off + m≤es.length∧x.cells.all AV.one=true∧aj H.length (x.cells.map AV.ab)=true∧
 K (H.set id (.cells (ai es off (x.cells.map AV.ab))))):=agK
@[congr] theorem Pb {l m:Nat} {p p' x:AV} {H H':List aa} {K:List aa→Prop} (h:hJ p=p') (h2:H=H'):iv l m p x H K=iv l m p' x H' K:=by subst h;subst h2;rfl
theorem Kn (e:Nat) (xs:List AV) (H:List aa) (K:AV→List aa→Prop):ft e (.agg xs) H K=kD e xs H fun ys H'=>K (.agg ys) H':=agK
theorem GZ (e:Nat) (H:List aa) (K:List AV→List aa→Prop):kD e [] H K=K [] H:=agK
theorem Ei (e:Nat) (x:AV) (r:List AV) (H:List aa) (K:List AV→List aa→Prop):kD e (x::r) H K=dx e x H fun y H'=>kD e r H' fun ys H''=>K (y::ys) H'':=agK
theorem G7 (e:Nat) (k:IntKind) (n:Int) (H:List aa) (K:AV→List aa→Prop):dx e (.int k n) H K=K (.int k n) H:=agK
def MT:=hV @Ka (hV @GY (hV @Km (hV @MB (hV @Kn (hV @GZ (hV @Ei @G7))))))
def gK (o:Option aa) (kd:Nat) (zero k:AV) (ok:Bool) (φ:AV→Prop):Prop:=
 match o with
 | some (.map es)=>match dt kd k es 0 with
   | some (some (_,v))=>φ (if ok then .tuple [v.drop,.bool true] else v.drop)
   | some none=>cL kd k k=some true∧φ (if ok then .tuple [aR zero,.bool false] else aR zero)
   | none=>False
 | _=>False
@[congr] theorem Pc {o o':Option aa} {kd:Nat} {z k k':AV} {ok:Bool} {φ:AV→Prop} (h:hJ o=o') (h2:k=k'):gK o kd z k ok φ=gK o' kd z k' ok φ:=by subst h;subst h2;rfl
theorem G8 (kd id:Nat) (z k:AV) (ok:Bool) (H:List aa) (φ:AV→Prop):cB kd z (.map id) k ok H φ=gK H[id]? kd z k ok φ:=by
 unfold cB gK;rfl
def fx (o:Option aa) (kd id:Nat) (k x:AV) (H:List aa) (K:List aa→Prop):Prop:=
 match o with
 | some (.map es)=>k.aW (id + 1)=true∧x.aW (id + 1)=true∧x.val=true∧match dt kd k es 0 with
    | some (some (i,_))=>K (H.set id (.map (es.set i (k,aR x))))
    | some none=>cL kd k k=some true∧K (H.set id (.map (es++[(k,aR x)])))
    | none=>False
 | _=>False
@[congr] theorem Pd {o o':Option aa} {kd id:Nat} {k k' x x':AV} {H:List aa} {K:List aa→Prop} (h:hJ o=o') (h2:k=k') (h3:x=x'):fx o kd id k x H K=fx o' kd id k' x' H K:=by subst h;subst h2;subst h3;rfl
theorem G9 (kd id:Nat) (k x:AV) (H:List aa) (K:List aa→Prop):fW kd (.map id) k x H K=fx H[id]? kd id k x H K:=by
 unfold fW fx;rfl
def Ai (o:Option aa) (d id off:Nat) (env:Env) (H:List aa) (K:Env→List aa→Prop):Prop:=
 match o with
 | some (.cells es)=>off < es.length∧K ((d,es.getD off .any)::env) (H.set id (.cells (es.set off (es.getD off .any).ab)))
 | _=>False
@[congr] theorem Ti {o o':Option aa} {d id off:Nat} {env:Env} {H:List aa} {K:Env→List aa→Prop} (h:hJ o=o'):Ai o d id off env H K=Ai o' d id off env H K:=by subst h;rfl
theorem QV (es:List AV) (d id off:Nat) (env:Env) (H:List aa) (K:Env→List aa→Prop):Ai (some (.cells es)) d id off env H K=(off < es.length∧K ((d,es.getD off .any)::env) (H.set id (.cells (es.set off (es.getD off .any).ab)))):=agK
def Ej (v:AV) (d:Nat) (env:Env) (H:List aa) (K:Env→List aa→Prop):Prop:=
 match v with
 | .ptr id off=>Ai H[id]? d id off env H K
 | _=>False
@[congr] theorem Tj {v v':AV} {d:Nat} {env:Env} {H:List aa} {K:Env→List aa→Prop} (h:hJ v=v'):Ej v d env H K=Ej v' d env H K:=by subst h;rfl
theorem QW (id off d:Nat) (env:Env) (H:List aa) (K:Env→List aa→Prop):Ej (.ptr id off) d env H K=Ai H[id]? d id off env H K:=agK
theorem MU {P:Px} (a:IX) (d:Nat) (env:Env) (H:List aa) (K:Env→List aa→Prop):bC P (.eU a) (some d) env H K=Ej (ap env a) d env H K:=by
 simp only [bC,Ej,Ai]
 cases ap env a <;> rfl
def MV (o:Option aa) (id off:Nat) (x:AV) (H:List aa) (K:List aa→Prop):Prop:=
 match o with
 | some (.cells es)=>off < es.length∧x.one=true∧x.aW (id + 1)=true∧K (H.set id (.cells (es.set off x)))
 | _=>False
@[congr] theorem V2 {o o':Option aa} {id off:Nat} {x x':AV} {H:List aa} {K:List aa→Prop} (h:hJ o=o') (h2:x=x'):MV o id off x H K=MV o' id off x' H K:=by subst h;subst h2;rfl
theorem QX (id off:Nat) (x:AV) (H:List aa) (K:List aa→Prop):eB (.ptr id off) x H K=MV H[id]? id off x H K:=by
 unfold eB MV;rfl
theorem V3 (es:List AV) (id off:Nat) (x:AV) (H:List aa) (K:List aa→Prop):MV (some (.cells es)) id off x H K=(off < es.length∧x.one=true∧x.aW (id + 1)=true∧K (H.set id (.cells (es.set off x)))):=agK
theorem bd2 (x y:AV) (φ:AV→Prop):cE [.int .i64 0,.int .i64 0,.ag] [(0,1,x),(1,1,y)] φ=(x.val=true∧x.cells.length=1∧y.val=true∧y.cells.length=1∧φ (.agg (ai (ai [.int .i64 0,.int .i64 0,.ag] 0 (x.cells.map AV.ab)) 1 (y.cells.map AV.ab)))):=by
 simp only [cE,iu,eq_iff_iff]
 constructor
 ·rintro ⟨h1,h2,h3,h4,h5,h6,h7⟩;exact ⟨h1,h2,h4,h5,h7⟩
 ·rintro ⟨h1,h2,h4,h5,h7⟩
  have e1:(x.cells.map AV.ab).length=1:=by simpa using h2
  refine ⟨h1,h2,by simp,h4,h5,?_,h7⟩
  simp [ai,h2]
theorem bd0 (cs:List AV) (φ:AV→Prop):cE cs [] φ=φ (.agg cs):=agK
theorem ln (e b:Nat) (ys:List AV) (o:Nat) (ψ:List AV→Prop):bp e b .ag (.ak o ys) ψ=(ys.length * b≤140737488355328∧sV e ys∧ψ ys):=by
 simp [bp,nZ,dG]
theorem kM (e b:Nat) (xs ys:List AV) (o:Nat) (ψ:List AV→Prop):bp e b (.ak e xs) (.ak o ys) ψ=((xs.length + ys.length) * b≤140737488355328∧sV e ys∧ψ (xs++ys)):=by
 simp [bp,nZ,dG]
theorem adZ (n:Nat):(IX.t n).slot=some n:=agK
theorem ad0 (v:AV):(IX.c v).slot=none:=agK
theorem V4 (id:Nat) (H:List aa) (φ:AV→Prop):aU none (.ah (.map id)) H φ=φ (.map id):=by simp [aU,AV.one,Mb]
theorem V5 (id off:Nat) (H:List aa) (φ:AV→Prop):aU none (.ah (.ptr id off)) H φ=φ (.ptr id off):=by simp [aU,AV.one,Ma]
theorem QY (b:Bool):(AV.bool b).one=true:=agK
theorem V6 (k:IntKind) (n:Int):(AV.int k n).one=true:=agK
theorem V7 (s:ByteArray):(AV.str s).one=true:=agK
theorem V8 (o:Nat) (xs:List AV):(AV.ak o xs).one=true:=agK
theorem QZ:AV.ag.one=true:=agK
theorem YR (f:Fn) (a b:List AV):(AV.fn f a b).one=true:=agK
theorem V9 (a b:Nat):(AV.ptr a b).one=true:=agK
theorem Q0 (x:AV):(AV.ah x).one=true:=agK
theorem Wa (a:Nat):(AV.map a).one=true:=agK
theorem ad1 {α:Type} (p:α→Bool) (x:α) (r:List α):(x::r).all p=(p x && r.all p):=agK
theorem ad2 {α:Type} (p:α→Bool):([]:List α).all p=true:=agK
theorem cZ (n:Int) (h:-9223372036854775808≤n∧n≤9223372036854775807):IntKind.i64.wrap n=n:=by
 rw [show IntKind.i64.wrap n=(n + 9223372036854775808) % 18446744073709551616 - 9223372036854775808 from IntKind.wrap_i64 n];omega
theorem aD {P:Program} {n0:Nat} {env:Env} {H:List aa} {Q:Exit→Env→List aa→Prop} {a:IR} {ι:Type} (N:Nat) (I:Nat→ι→Prop) (se:Nat→ι→Env) (sh:Nat→ι→List aa) (s0:ι) (h0:I 0 s0∧sle n0 env H (se 0 s0) (sh 0 s0))
 (hs:∀ i s,i≤N→I i s→mO P n0 a (se i s) (sh i s) fun e aI H'=>match e with
   | .normal=>∃ j t,(j≤N∧I j t)∧N - j < N - i∧sle n0 aI H' (se j t) (sh j t)
   | e=>Q e aI H'):mO P n0 (.loop a) env H Q:=
 ⟨Nat×ι,fun p=>p.1≤N∧I p.1 p.2,fun p=>se p.1 p.2,fun p=>sh p.1 p.2,fun p=>N - p.1,⟨(0,s0),⟨ac4 _,h0.1⟩,h0.2⟩,fun p hp=>mr (hs p.1 p.2 hp.1 hp.2) fun x e H' h=>by
   cases x with
   | normal=>obtain ⟨j,t,h1,h2,h3⟩:=h;exact ⟨(j,t),h1,h2,h3⟩
   | _=>exact h⟩
theorem ke {P:Program} {l:Nat} {n0:Nat} {env:Env} {H:List aa} {Q:Exit→Env→List aa→Prop} {a:IR} {ι:Type} (N:Nat) (I:Nat→ι→Prop) (se:Nat→ι→Env) (sh:Nat→ι→List aa) (s0:ι) (h0:I 0 s0∧Jy n0 env H (se 0 s0) (sh 0 s0))
 (hs:∀ i s,i≤N→I i s→mO ⟨P,some l⟩ n0 a (se i s) (sh i s) fun e aI H'=>match e with
   | .normal=>∃ j t,(j≤N∧I j t)∧N - j < N - i∧Jy n0 aI H' (se j t) (sh j t)
   | e=>Q e aI H'):mO ⟨P,some l⟩ n0 (.loop a) env H Q:=
 ⟨Nat×ι,fun p=>p.1≤N∧I p.1 p.2,fun p=>se p.1 p.2,fun p=>sh p.1 p.2,fun p=>N - p.1,⟨(0,s0),⟨ac4 _,h0.1⟩,h0.2⟩,fun p hp=>mr (hs p.1 p.2 hp.1 hp.2) fun x e H' h=>by
   cases x with
   | normal=>obtain ⟨j,t,h1,h2,h3⟩:=h;exact ⟨(j,t),h1,h2,h3⟩
   | _=>exact h⟩
theorem aS {H:List aa} {s:Nat} {v v':AV} (hb:v.aW H.length=true) (hv:v=v'):bT H.length [.t s] [(s,v)] H fun r H'=>r=v'∧H'=H:=
 aP _ (sU _) (by rw [ay,if_pos rfl];exact hb) ⟨by rw [ay,if_pos rfl];exact hv,by simp⟩
theorem MW {H e:List aa} {s:Nat} {v v':AV} (hb:v.aW H.length=true) (hv:v=v'):bT H.length [.t s] [(s,v)] (H++e) fun r H'=>r=v'∧H'=H:=
 aP _ (sU _) (by rw [ay,if_pos rfl];exact hb) ⟨by rw [ay,if_pos rfl];exact hv,by simp⟩
theorem YT {H:List aa} {s:Nat} {v v':AV} (hl:v.le v') (hb:v'.aW H.length=true):bT H.length [.t s] [(s,v)] H fun r H'=>r=v'∧H'=H:=
 ⟨H.length,sU _,_,by rw [ay,if_pos rfl];exact hl,hb,rfl,by simp⟩
theorem YU {H e:List aa} {s:Nat} {v v':AV} (hl:v.le v') (hb:v'.aW H.length=true):bT H.length [.t s] [(s,v)] (H++e) fun r H'=>r=v'∧H'=H:=
 ⟨H.length,sU _,_,by rw [ay,if_pos rfl];exact hl,hb,rfl,by simp⟩
theorem Wb {H H':List aa} {n0 s:Nat} {v v':AV} (hn:n0=H.length) (hb:v.aW n0=true) (hv:v=v') (hl:H=H'):bT n0 [.t s] [(s,v)] H fun r H''=>r=v'∧H''=H':=by
 subst hn hl;exact aS hb hv
theorem jt {H H':List aa} {n0:Nat} {env:Env} (hn:n0=H.length) (hl:H=H'):bT n0 [] env H fun r H''=>r=.tuple []∧H''=H':=by
 subst hn hl
 exact ⟨H.length,sU _,[],trivial,rfl,rfl,by simp⟩
theorem u0 {H e:List aa} {s s':Nat} {v v' x y:AV} (hs:s'≠s) (hb:x.aW H.length=true) (dZ:y.aW H.length=true) (hx:v.ab=x) (hy:v'.ab=y) :
 bT H.length [.t s,.t s'] [(s,v),(s',v')] (H++e) fun r H'=>r=.tuple [x,y]∧H'=H:=by
 subst hx hy
 refine ⟨H.length,sU _,[v.ab,v'.ab],?_,?_,rfl,by simp⟩
 ·simp only [ay,if_neg hs,if_true,List.map]
  exact cp _
 ·simp only [aj,hb,dZ,ac0]
theorem Aj {H:List aa} {s s':Nat} {v v' x y:AV} (hs:s'≠s) (hb:x.aW H.length=true) (dZ:y.aW H.length=true) (hx:v.ab=x) (hy:v'.ab=y) :
 bT H.length [.t s,.t s'] [(s,v),(s',v')] H fun r H'=>r=.tuple [x,y]∧H'=H:=by
 have:=u0 (e:=[]) hs hb dZ hx hy
 rw [acA] at this
 exact this
def Ak (n0:Nat) (x:AV) (H:List aa) (R:AV→List aa→Prop):Prop:=∃ m,n0≤m∧∃ r,x.le r∧r.aW m=true∧R r (H.take m)
@[congr] theorem Tk {n0:Nat} {x x':AV} {H H':List aa} {R:AV→List aa→Prop} (h:hJ x=x') (h2:H=H'):Ak n0 x H R=Ak n0 x' H' R:=by subst h;subst h2;rfl
def sj (n0:Nat) (xs:List AV) (H:List aa) (R:AV→List aa→Prop):Prop:=∃ m,n0≤m∧∃ ys,yX (xs.map AV.ab) ys∧aj m ys=true∧R (.tuple ys) (H.take m)
@[congr] theorem Tl {n0:Nat} {x x':List AV} {H H':List aa} {R:AV→List aa→Prop} (h:hJ x=x') (h2:H=H'):sj n0 x H R=sj n0 x' H' R:=by subst h;subst h2;rfl
theorem Wc (n0 s:Nat) (sz:Option Nat) (env:Env) (H:List aa) (R:AV→List aa→Prop):bT n0 [.c s sz] env H R=aU sz (get env s) H fun x=>Ak n0 x H R:=agK
theorem Q3 (n0 s s':Nat) (sz:Option Nat) (env:Env) (H:List aa) (R:AV→List aa→Prop):bT n0 [.c s sz,.t s'] env H R=aU sz (get env s) H fun x=>sj n0 [x,get env s'] H R:=agK
theorem sk {H e:List aa} {v v':AV} (hb:v.aW H.length=true) (hv:v=v'):Ak H.length v (H++e) fun r H'=>r=v'∧H'=H:=by
 subst hv;exact ⟨H.length,sU _,v,le_refl _,hb,rfl,by simp⟩
theorem xG {H e:List aa} {v w x y:AV} (hb:x.aW H.length=true) (dZ:y.aW H.length=true) (hx:v.ab=x) (hy:w.ab=y):sj H.length [v,w] (H++e) fun r H'=>r=.tuple [x,y]∧H'=H:=by
 subst hx hy
 exact ⟨H.length,sU _,[v.ab,w.ab],cp _,by simp only [aj,hb,dZ,ac0],rfl,by simp⟩
theorem aY {i n:Nat} (h:(i:Int) < (n:Int)):i < n:=by omega
theorem bN {i n:Nat} (h:(n:Int)≤(i:Int)):n≤i:=by omega
def nA:=(hV @D8 (hV @Ec (hV @Ah @Kb)))
def Wd:=(hV (hV (hV (hV (hV (hV (hV (hV @VH @Ml) (hV @GI @Mm)) (hV (hV @Qy @D6) (hV @J5 (hV @Mn @Qz)))) (hV (hV (hV @Mo @VL) (hV @VM @YJ)) (hV (hV @YK @J6) (hV @Mq (hV @VN @VO))))) (hV (hV (hV (hV @QA @Mh) (hV @Mi @ay)) (hV (hV @VG @VS) (hV @Mx (hV @J9 @My)))) (hV (hV (hV @YL @VT) (hV @QH (hV @QI @Mz))) (hV (hV @MA @zh) (hV @QJ (hV @MU @QW)))))) (hV (hV (hV (hV (hV @QV @QX) (hV @V3 @G8)) (hV (hV @G9 @ln) (hV @kM (hV @V4 @V5)))) (hV (hV (hV @adZ @ad0) (hV @Wc (hV @Q3 @bd0))) (hV (hV @bd2 @MC) (hV @GJ (hV @D7 @B3))))) (hV (hV (hV (hV @MD @B4) (hV @D9 @ME)) (hV (hV @QK @Ea) (hV @VU (hV @Kc (hV @MF (hV @wh @GK)))))) (hV (hV (hV @MG @MH) (hV @Ke (hV @Kf @YM))) (hV (hV @GL @GM) (hV @GN (hV @GO @MJ))))))) (hV (hV (hV (hV (hV (hV @YN @QL) (hV @MK @VV)) (hV (hV @QM @ML) (hV @QN (hV @QO @VW)))) (hV (hV (hV @QP @VX) (hV @MM @Kg)) (hV (hV @MN @YO) (hV @QQ (hV @MO @zi))))) (hV (hV (hV (hV @B5 @zj) (hV @Eb @B6)) (hV (hV @MP @B7) (hV @Ed (hV @MQ @Ee)))) (hV (hV (hV @Ef @B8) (hV @xF (hV @vH @YP))) (hV (hV @GP @GQ) (hV @YQ (hV @QR @GR)))))) (hV (hV (hV (hV (hV @Kh @GS) (hV @GU @Eg)) (hV (hV @VY @VZ) (hV @mq (hV @GV @Ki)))) (hV (hV (hV @Kj @MR) (hV @Kk (hV @Qr @Qs))) (hV (hV @Qt @Qu) (hV @YD (hV @YE @YF))))) (hV (hV (hV (hV @YG @adQ) (hV @YH @YI)) (hV (hV @Qw @J2) (hV @UK (hV @pJ @nw)))) (hV (hV (hV @BY @Is) (hV @xy (hV @UL @UM))) (hV (hV @L9 @Ma) (hV @It (hV @P1 @Mb)))))))) (hV (hV (hV (hV (hV (hV (hV @P2 @S6) (hV @P3 @P4)) (hV (hV @UN @UO) (hV @P5 (hV @UP @UQ)))) (hV (hV (hV @Yy @P6) (hV @UR @P7)) (hV (hV @US @nz) (hV @UT (hV @UU @P8))))) (hV (hV (hV (hV @UW @UX) (hV @Yz @P9)) (hV (hV @UY @Qa) (hV @UZ (hV @wc @U0)))) (hV (hV (hV @U1 @Qb) (hV @U2 (hV @U4 @YA))) (hV (hV @Qc @U5) (hV @Qd (hV @U6 @sf)))))) (hV (hV (hV (hV (hV @eE @Mc) (hV @Iu @bZ)) (hV (hV @o6 @Md) (hV @qP (hV @Me @fJ)))) (hV (hV (hV @BZ @YB) (hV @Qe (hV @cV @bJ))) (hV (hV @B0 @we) (hV @U7 (hV @U8 @U9))))) (hV (hV (hV (hV @Vb @Vc) (hV @Vd @Ve)) (hV (hV @Vf @Vg) (hV @Vh (hV @Vi @Vj)))) (hV (hV (hV @Vk @Vl) (hV @Vm (hV @Vn @Vo))) (hV (hV @Vp @adP) (hV @Vq (hV @Qf @Vr))))))) (hV (hV (hV (hV (hV (hV @Vs @Qg) (hV @Vt @Qh)) (hV (hV @Vu @Vv) (hV @Qi (hV @Vw @Qj)))) (hV (hV (hV @Vx @Vy) (hV @Vz @Qk)) (hV (hV @YC @VA) (hV @Ql (hV @Mf @VB))))) (hV (hV (hV (hV @Mg @VC) (hV @VD @VE)) (hV (hV @VF @JV) (hV @Qm (hV @Qn @Qo)))) (hV (hV (hV @JW @JX) (hV @JY (hV @JZ @J0))) (hV (hV @DX @DY) (hV @ga0 (hV @ga @sa0)))))) (hV (hV (hV (hV (hV @sa @adR) (hV @Yg @g0)) (hV (hV @g1 @g2) (hV @s0 (hV @s1 @s2)))) (hV (hV (hV @d0 @d1) (hV @d2 (hV @sp1 @adT))) (hV (hV @adU @adV) (hV @adW (hV @adX @adY))))) (hV (hV (hV (hV @V0 @V1) (hV @Iw @QT)) (hV (hV @MS @QS) (hV @Kl (hV @Eh @QY)))) (hV (hV (hV @V6 @V7) (hV @V8 (hV @QZ @YR))) (hV (hV @V9 @Q0) (hV @Wa (hV @ad1 @ad2)))))))))
end Go.aK
end
section
namespace Go.aK
open Go Go.RowKit
def dK (w:World):Mem:=fun b o=>w.cell? ⟨b,o,none⟩
def Ha (w:World):Perm:=⟨fun b=>w.heap.size≤b,fun id=>some (id + 1),(fun id n h=>by cases h;omega),0⟩
theorem B9 (w:World):(Ha w).entry false ([]:List aa).length:=⟨fun id h=>absurd h (Nat.not_lt_zero _),fun id _=>rfl⟩
theorem St.start {w:World} {vs:Array Value} {xs:List AV} (h:aM (dK w) [] vs.toList xs) (hf:∀ x∈xs,∀ own ys,x=.ak own ys→own=0) :
 St (Ha w) (dK w) [] w [] (fun t=>vs.getD t undef) (fun t=>xs.getD t .any) (fun _=>none) where
 len:=rfl
 nodup:=by simp
 env:=fun t=>by
  have:=h.getD t
  rw [sT] at this
  rw [acw]
  simpa using this
 mem:=fun b o v hv=>hv
 obj:=fun id o b ho=>by simp at ho
 bG:=fun id o ho=>by simp at ho
 lt:=fun b hb=>by cases hb
 iQ:=fun t=>by
  refine bi.free fun own ys e=>?_
  rw [sT] at e
  cases hx:xs[t]? with
  | none=>rw [hx] at e;cases e
  | some x=>rw [hx] at e;exact hf x (abJ hx) own ys e
 iL:=fun id j=>by simp [bB,bi]
 ct:=fun p q b hp=>by cases hp
 cD:=fun p b hp=>by cases hp
 fQ:=fun p b hp=>by cases hp
 La:=fun b hb=>by cases hb
 Oa:=fun p b hp=>by cases hp
 fresh:=fun b hb=>hb
theorem Ext.below {M M':Mem} {w w':World} (h:Ext (Ha w) M w M' w'):Below w.heap.size w w':=
 ⟨h.os,h.tape,h.output,h.size,fun k hk=>(h.lF k hk (by show ¬ w.heap.size≤k;omega)).1⟩
theorem Pure.lift {P:Program} {f:FuncId} {xs:List AV} {b:Bool} (hp:Pure P f xs (.bool b)) (he:∀ (as:Array Value) (w:World),(callFunc f as).run P w=.ok (.enter f as) w)
 {w:World} {vs:Array Value} (hr:aM (dK w) [] vs.toList xs) (hf:∀ x∈xs,∀ own ys,x=.ak own ys→own=0) :
 Calls P f vs w fun e w'=>e=.returned (.bool b)∧Below w.heap.size w w':=by
 have hs:vs.size=xs.length:=by have:=hr.length;simpa using this
 refine ((hp []).body he (B9 w) hs (St.start hr hf)).mono ?_
 rintro e w' ⟨v,r,H',M',L',O',rfl,⟨rfl,rfl⟩,b7,cK,_⟩
 have:=b7.env 0
 simp only [Lk] at this
 cases this
 exact ⟨rfl,cK.below⟩
theorem Ek {a:Addr} {n:Nat} (h:a.spot=none):a.add n=⟨a.block,a.off + n,none⟩:=by
 obtain ⟨b,o,s⟩:=a
 simp only at h
 subst h
 unfold Addr.add
 split
 ·rename_i e;subst e;rfl
 ·rfl
theorem Ko {w:World} {a:Addr} {v:Value} (h:w.cell? a=some v):a.spot=none:=by
 unfold World.cell? at h
 split at h
 ·split at h
  ·cases h
  ·rename_i hs;cases OV:a.spot <;> simp_all
 ·cases h
theorem Al {M:Mem} {L:List Nat}:∀ {n:Nat} {cs:Nat→List Value} {f:Nat→AV},(∀ i,i < n→aM M L (cs i) (f i).cells)→aM M L ((List.range n).flatMap cs) (flat ((List.range n).map f))
 | 0,_,_,_=>by simp [flat];exact .nil
 | n + 1,cs,f,h=>by
   have ih:=Al (n:=n) (fun i hi=>h i (by omega))
   simp only [aen,adN,acL,flat] at ih ⊢
   refine ih.append ?_
   simpa using h n (by omega)
theorem El {n e:Nat} {cs:Nat→List Value}:(∀ i,i < n→(cs i).length=e)→∀ (j:Nat) (v:Value),((List.range n).flatMap cs)[j]?=some v→∃ i k,i < n∧k < e∧j=i * e + k∧(cs i)[k]?=some v:=by
 induction n with
 | zero=>intro _ j v h;simp at h
 | succ n ih=>
   intro hl j v h
   simp only [aen,adN] at h
   have hlen:((List.range n).flatMap cs).length=n * e:=by
    clear h ih
    induction n with
    | zero=>simp
    | succ n ih2=>
      simp only [aen,adN,aaz]
      rw [ih2 (fun i hi=>hl i (by omega))]
      simp [hl n (by omega),Nat.succ_mul]
   rcases afv j (n * e) with hj | hj
   ·rw [zA (by omega)] at h
    obtain ⟨i,k,h1,h2,h3,h4⟩:=ih (fun i hi=>hl i (by omega)) j v h
    exact ⟨i,k,by omega,h2,h3,h4⟩
   ·rw [abu (by omega),hlen] at h
    simp only [List.flatMap_cons,ago,acA] at h
    have hk:=(aaH.1 h).1
    rw [hl n (by omega)] at hk
    exact ⟨n,j - n * e,by omega,hk,by omega,h⟩
theorem Am {w:World} {base e len cap:Nat} {a:Addr} (he:0 < e) (hl:len≤cap) (hc:cap≤maxLen) (cs:Nat→List Value) (f:Nat→AV)
 (h:∀ i,i < len→w.cells? base (a.add (i * e)) e=some (cs i)∧aM (dK w) [] (cs i) (f i).cells):aX (dK w) [] (.slice (some a) len cap) (.ak 0 ((List.range len).map f)):=by
 have cc:cap < 9223372036854775808:=by have:maxLen=9223372036854775807:=rfl;omega
 rcases Nat.eq_zero_or_pos len with h0 | h0
 ·subst h0
  exact .ig _ _ _ cc
 have hlen:∀ i,i < len→(cs i).length=e:=fun i hi=>(World.cells?_some (h i hi).1).2.1
 have hcell:∀ i,i < len→∀ k,k < e→w.cell? ((a.add (i * e)).add k)=(cs i)[k]?:=fun i hi=>(World.cells?_some (h i hi).1).2.2
 have hspot:a.spot=none:=by
  have h1:=hcell 0 h0 0 he
  rw [aaf (by rw [hlen 0 h0];exact he)] at h1
  have h2:=Ko h1
  simpa [Addr.add] using h2
 have key:aX (dK w) [] (.slice (some ⟨a.block,a.off,none⟩) ((List.range len).map f).length cap) (.ak 0 ((List.range len).map f)):=by
  refine .ak a.block a.off cap 0 e ((List.range len).flatMap cs) _ he ?_ (by simpa using h0) (by simpa using hl) cc (Al fun i hi=>(h i hi).2) ?_
  ·intro x hx
   obtain ⟨i,hi,rfl⟩:=aaR.1 hx
   have hi:=acz.1 hi
   rw [← (h i hi).2.length,hlen i hi]
  ·intro j v hv
   obtain ⟨i,k,h1,h2,rfl,h4⟩:=El hlen j v hv
   have:=hcell i h1 k h2
   rw [Ek hspot,Ek (by rfl)] at this
   show w.cell? ⟨a.block,a.off + (i * e + k),none⟩=some v
   rw [← adf,this,h4]
 have ea:(some a:Option Addr)=some ⟨a.block,a.off,none⟩:=by obtain ⟨b,o,s⟩:=a;simp only at hspot;rw [hspot]
 rw [ea]
 simpa using key
section
variable {H:Type} {enc:TypeId×Value→H} {P:Program}
theorem qo (hl:laidOutB P=true) {W W':World} (hb:Below W.heap.size W W'):∀ {ts:List TypeId} {vs:List Value} {ds:List (DataW H)} {ps:List MemPlace},(∀ t∈ts,P.readableRec t=true∧t < P.types.size)→
 DataW.TrodAll enc P W 0 (fun _=>true) true ts vs ds ps→(∀ x∈ps,x.block < W.heap.size)→DataW.TrodAll enc P W' 0 (fun b=>decide (b < W.heap.size)) true ts vs ds ps
 | [],[],[],_,_,h,_=>h
 | t::ts,v::vs,d::ds,_,ht,⟨p,q,h1,h2,e⟩,hp=>by
   subst e
   exact ⟨p,q,Below.trod hl (ht t (by simp)).1 (ht t (by simp)).2 h1 hb (fun x hx=>hp x (by simp [hx])),qo hl hb (fun t ht'=>ht t (by simp [ht'])) h2 (fun x hx=>hp x (by simp [hx])),rfl⟩
theorem MX {fn:Func} {s:ChangeSpec} {apart:Bool} {W W':World} {args:Array Value} {ds gs:List (DataW H)} {before:List MemPlace} {t:TypeId} (hl:laidOutB P=true) (hb:Below W.heap.size W W')
 (hW:DataW.Whole enc P fn.params.toList s.vars apart W args.toList ds gs before) (hv:s.vars=[]) (vI:fn.resultTypes=#[t]) (ht:P.underlying t=some .bool) (hs:s.fn H ds={ results:=[.lit (.bool true)],args:=ds })
 (hp:fn.params.toList.all (fun t=>P.readableRec t && decide (t < P.types.size))=true):s.post enc P fn apart true false false W args (.bool true) W':=by
 have aG:∀ x∈before,x.block < W.heap.size:=fun x hx=>by simpa using hW.lt x hx
 have hW0:=hW
 obtain ⟨p,q,h1,h2,h3,h4,h5⟩:=hW
 rw [hv] at h2
 obtain ⟨rfl,rfl⟩:=ChangeShapes.trodVars_none h2
 simp only [acA] at h3
 subst h3
 refine ⟨ds,[],before,[],before,[],hW0,?_,?_,?_,hb.frame _,fun h=>by cases h⟩
 ·simp only [acA,hs,vI]
  exact ChangeShapes.trodAll_mk1 (shut_bool ht true)
 ·simp only [acA,hs]
  exact qo hl hb (fun t ht=>by simpa using abo.1 hp t ht) h1 aG
 ·simp only [hv,acA,hs]
  rfl
end
end Go.aK
end
section
namespace Go.aK
open Go
structure FN {σ:Type} (S:σ→List aa) (p:Nat) (obj:σ→aa) (n:Nat):Prop where
 get:∀ s,(S s)[p]?=some (obj s)
 set:∀ s s',(S s).set p (obj s')=S s'
 len:∀ s,(S s).length=n
namespace FN
variable {σ:Type} {S:σ→List aa} {p:Nat} {obj:σ→aa} {n:Nat} (F:FN S p obj n)
include F
theorem lt (s:σ):p < n:=by
 have:=F.get s
 rw [← F.len s]
 exact (aaH.1 this).1
theorem get' (s:σ) (e:List aa):(S s++e)[p]?=some (obj s):=by
 rw [zA (by rw [F.len];exact F.lt s)];exact F.get s
theorem We (s s':σ) (e:List aa):(S s++e).set p (obj s')=S s'++e:=by
 rw [aeX _ _ (by rw [F.len];exact F.lt s),F.set]
theorem MY (s:σ) (e:List aa):(S s++e)[n]?=e[0]?:=by rw [← F.len s];exact ga0 _ _
theorem Wf (s:σ) (e:List aa) (i:Nat):(S s++e)[n + i]?=e[i]?:=by rw [← F.len s];exact ga _ _ _
theorem MZ (s:σ) (e:List aa) (x:aa):(S s++e).set n x=S s++e.set 0 x:=by rw [← F.len s];exact sa0 _ _ _
theorem YV (s:σ) (e:List aa) (i:Nat) (x:aa):(S s++e).set (n + i) x=S s++e.set i x:=by rw [← F.len s];exact sa _ _ _ _
theorem sl (e:List aa):FN (fun s=>S s++e) p obj (n + e.length):=
 ⟨fun s=>F.get' s e,fun s s'=>F.We s s' e,fun s=>by simp [F.len]⟩
theorem take (s:σ) (e:List aa):(S s++e).take n=S s:=by
 rw [← F.len s];simp
end FN
theorem FN.mk1 (H:List aa) {σ:Type} (obj:σ→aa) (e:List aa):FN (fun s=>H++obj s::e) H.length obj (H.length + (e.length + 1)):=
 ⟨fun s=>by simp,fun s s'=>by simp,fun s=>by simp⟩
theorem FN.mk2 (H:List aa) {σ:Type} (obj:σ→aa) (x:aa) (e:List aa):FN (fun s=>H++x::obj s::e) (H.length + 1) obj (H.length + (e.length + 1 + 1)):=
 ⟨fun s=>by simp,fun s s'=>by simp,fun s=>by simp⟩
theorem jX {Hs G:List aa} {n0:Nat} {v w x y:AV} {R:AV→List aa→Prop} (hH:Hs.take n0=G) (hb:x.aW n0=true) (dZ:y.aW n0=true) (hx:v.ab=x) (hy:w.ab=y) (hR:R (.tuple [x,y]) G) :
 sj n0 [v,w] Hs R:=by
 subst hx hy hH
 exact ⟨n0,sU _,[v.ab,w.ab],cp _,by simp only [aj,hb,dZ,ac0],hR⟩
theorem Tm {Hs G:List aa} {n0:Nat} {v x:AV} {R:AV→List aa→Prop} (hH:Hs.take n0=G) (hb:x.aW n0=true) (hx:v=x) (hR:R x G):Ak n0 v Hs R:=by
 subst hx hH
 exact ⟨n0,sU _,v,le_refl _,hb,hR⟩
theorem xH {Hs G:List aa} {n0 s:Nat} {v x:AV} {R:AV→List aa→Prop} (hH:Hs.take n0=G) (hb:x.aW n0=true) (hx:v=x) (hR:R x G):bT n0 [.t s] [(s,v)] Hs R:=by
 subst hx hH
 exact aP _ (sU _) (by rw [ay,if_pos rfl];exact hb) (by rw [ay,if_pos rfl];exact hR)
end Go.aK
end
section
namespace Go.aK
open Go
def tL (C:List aa→Nat→List aa→Prop) (n0:Nat) (v:AV) (H:List aa) (R:AV→List aa→Prop):Prop:=
 ∃ m H',n0≤m∧C H m H'∧∃ r,v.le r∧r.aW m=true∧R r H'
@[congr] theorem Q4 {C:List aa→Nat→List aa→Prop} {n0:Nat} {x x':AV} {H H':List aa} {R:AV→List aa→Prop} (h:hJ x=x') (h2:H=H'):tL C n0 x H R=tL C n0 x' H' R:=by subst h;subst h2;rfl
theorem Q5 {C:List aa→Nat→List aa→Prop} {n0 s:Nat} {sz:Option Nat} {env:Env} {H:List aa} {R:AV→List aa→Prop}:mj C n0 [.c s sz] env H R=aU sz (get env s) H fun v=>tL C n0 v H R:=agK
theorem Q6 {C:List aa→Nat→List aa→Prop} {n0 s:Nat} {env:Env} {H:List aa} {R:AV→List aa→Prop}:mj C n0 [.t s] env H R=tL C n0 (get env s) H R:=agK
theorem An {n0:Nat} {H G:List aa} (h:G.take n0=H) (hl:H.length=n0):lh n0 G n0 H:=by
 subst h
 refine ⟨by simp,fun id o ho=>?_⟩
 rw [aa7] at ho
 split at ho
 ·exact .inr ⟨ho,fun h=>by omega⟩
 ·cases ho
def only (n0 id:Nat) (G:List aa):List aa:=G.mapIdx fun j o=>if j < n0∨j=id then o else .dead
theorem xI {n0 id j:Nat} {G:List aa}:(only n0 id G)[j]?=(G[j]?).map fun o=>if j < n0∨j=id then o else .dead:=by simp [only]
theorem M4 {n0 id:Nat} {G:List aa}:(only n0 id G).length=G.length:=by simp [only]
theorem Kp {n0 id m:Nat} {G:List aa} (h:m≤n0):(only n0 id G).take m=G.take m:=by
 apply acG
 intro j
 rw [aa7,aa7]
 split
 ·rw [xI]
  cases G[j]? with
  | none=>rfl
  | some o=>simp;omega
 ·rfl
theorem Kq {n0 id:Nat} {G:List aa}:(only n0 id G)[id]?=G[id]?:=by
 rw [xI];cases G[id]? <;> simp
theorem Hb {n0 id:Nat} {G:List aa} {o:aa} (hg:G[id]?=some o) (hb:o.aW 0=true):lh n0 G G.length (only n0 id G):=by
 refine ⟨by rw [M4];simp,fun j x hx=>?_⟩
 rw [xI] at hx
 obtain ⟨y,hy,rfl⟩:=zF.1 hx
 by_cases h1:j < n0
 ·rw [if_pos (.inl h1)];exact .inr ⟨hy,fun h=>by omega⟩
 ·by_cases h2:j=id
  ·subst h2
   rw [hg] at hy;cases hy
   rw [if_pos (.inr rfl)]
   exact .inr ⟨hg,fun _=>aa.cI (ac4 _) o hb⟩
  ·rw [if_neg (by omega)];exact .inl rfl
theorem ms (n0:Nat) (env:Env) (H:List aa):Jy n0 env H env H:=⟨fun t=>le_refl _,.inl rfl⟩
theorem sm {n0:Nat} {env aI:Env} {H H':List aa} (he:env=aI) (hH:H=H'):Jy n0 env H aI H':=by
 subst he;subst hH;exact ms _ _ _
def kN:=hV @Q5 (hV @Q6 MT)
end Go.aK
end
section
namespace Go.aK
open Go
theorem ion (n:Nat):Int.ofNat (no_index (OfNat.ofNat n))=(OfNat.ofNat n:Int):=rfl
theorem YW:Int.negSucc 0=-1:=rfl
@[reducible] def aH {P:Program} {g:FuncId} {fn:Func} {n:Nat} {i:IR} {rs:List RX} (hc:∀ (as:Array Value) (w:World),(callFunc g as).run P w=.ok (.enter g as) w)
 (hf:P.funcs[g]?=some fn) (hn:fn.ntmps=n) (an:C9) (lv:nW) (pl:nX)
 (h:(fn.body.bind fun c=>comp P an lv pl n c)=some i:=by conv=>
   lhs
   reduce
   try simp only [ion,YW])
 (hr:jc P fn.results.toList=some rs:=by conv=>
   lhs
   reduce
   try simp only [ion,YW]):{fi:sc // jq P g fi}:=
 ⟨⟨n,i,rs⟩,by
   subst hn
   cases hb:fn.body with
   | none=>rw [hb] at h;cases h
   | some c=>exact ⟨hc,fn,c,an,lv,pl,hf,hb,rfl,by rw [hb] at h;exact h,hr⟩⟩
end Go.aK
end
