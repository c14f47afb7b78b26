/- Part 6 of 18 of the proof. -/
import Derived.Test.YtljchnfgjdjobaaGreatWae
set_option linter.unusedVariables false
set_option linter.unusedSimpArgs false
set_option linter.defProp false
set_option linter.unusedSectionVars false
section
namespace Go.aH
open Go
structure qz where
 n:Nat
 ir:IR
 rs:List RX
 deriving Inhabited
inductive Yf where
 | ir (fi:qz)
 | vD (g:List AV→Option AV)
 | Pg (g:List AV→List aa→Option (AV×List aa))
def ranges:Code→List (List Nat×Code×Code)
 | .seq a b=>ranges a++ranges b
 | .cond _ a b=>ranges a++ranges b
 | .block _ a=>ranges a
 | .loop a=>ranges a
 | .rangeFunc _ ps a b=>(ps.toList,a,b)::(ranges a++ranges b)
 | _=>[]
def QQ (f:Func) (k:Nat) (an:A9) (lv:mL) (pl:mM):iH:=
 match f.body with
 | some c=>match (ranges c).getD k ([],.skip,.skip) with
   | (ps,a,b)=>⟨f.ntmps,ps,a,b,an,lv,pl⟩
 | none=>⟨0,[],.skip,.skip,an,lv,pl⟩
structure iJ (P:Program) (f:FuncId) (fi:qz):Prop where
 call:∀ (as:Array Value) (w:World),(callFunc f as).run P w=.ok (.enter f as) w
 code:∃ fn c an lv pl,P.funcs[f]?=some fn∧fn.body=some c∧fn.ntmps=fi.n∧comp P an lv pl fn.ntmps c=some fi.ir∧iv P fn.results.toList=some fi.rs
theorem iJ.zU {P:Program} {f:FuncId} {fi:qz} (h:iJ P f fi) {args:List AV} {H:List aa} {R:AV→List aa→Prop} (hn:args.length≤fi.n)
 (hw:mP P H.length fi.ir (bX 0 args) H fun e env H'=>(e=.normal∨e=.ret)∧bR H.length fi.rs env H' R):aq P f args H R:=by
 obtain ⟨fn,c,an,lv,pl,h1,h2,h3,h4,h5⟩:=h.code
 exact Ha h1 h.call h2 h4 h5 (by omega) hw
theorem iJ.Ms {P:Program} {f:FuncId} {fi:qz} (h:iJ P f fi) {args:List AV} {H:List aa} {R:AV→List aa→Prop} (hn:args.length≤fi.n)
 (hw:mP ⟨P,some H.length⟩ H.length fi.ir (bX 0 args) H fun e env H'=>(e=.normal∨e=.ret)∧kZ (mQ H.length) H.length fi.rs env H' R):aq P f args H R:=by
 obtain ⟨fn,c,an,lv,pl,h1,h2,h3,h4,h5⟩:=h.code
 exact D8 h1 h.call h2 h4 h5 (by omega) hw
def tw (P:Program) (f:FuncId):Yf→Prop
 | .ir fi=>iJ P f fi
 | .vD g=>∀ args r H,g args=some r→aq P f args H fun r' H'=>r'=r∧H'=H
 | .Pg g=>∀ args H r H',g args H=some (r,H')→aq P f args H fun r' H''=>r'=r∧H''=H'
abbrev x8:=List (Nat×Yf)
def x8.find:x8→Nat→Option Yf
 | [],_=>none
 | (k,e)::r,f=>match Nat.beq k f with | true=>some e | false=>x8.find r f
def x9 (P:Program):x8→Prop
 | []=>True
 | (k,e)::r=>tw P k e∧x9 P r
theorem x8.qB {P:Program}:∀ {T:x8} {f:Nat} {e:Yf},x9 P T→T.find f=some e→tw P f e
 | [],_,_,_,h=>by simp [x8.find] at h
 | (k,e')::r,f,e,hT,h=>by
   simp only [x8.find] at h
   split at h
   ·rename_i hk
    cases h
    rw [← Nat.eq_of_beq_eq_true hk]
    exact hT.1
   ·exact x8.qB hT.2 h
def vE:List RX→Env→List aa→Option (List AV)
 | [],_,_=>some []
 | .t s::r,env,H=>match vE r env H with | some xs=>some (get env s::xs) | none=>none
 | .c s sz::r,env,H=>match px sz (get env s) H,vE r env H with | some x,some xs=>some (x::xs) | _,_=>none
theorem ui:∀ {rs:List RX} {env:Env} {H:List aa} {xs:List AV} {φ:List AV→Prop},vE rs env H=some xs→φ xs→rM rs env H φ
 | [],env,H,xs,φ,h,hφ=>by simp only [vE] at h;cases h;exact hφ
 | .t s::r,env,H,xs,φ,h,hφ=>by
   simp only [vE] at h
   split at h <;> cases h
   rename_i ys hy
   exact ui (φ:=fun xs=>φ (get env s::xs)) hy hφ
 | .c s sz::r,env,H,xs,φ,h,hφ=>by
   simp only [vE] at h
   split at h <;> cases h
   rename_i x ys hx hy
   exact nO (φ:=fun x=>rM r env H fun xs=>φ (x::xs)) hx (ui (φ:=fun xs=>φ (x::xs)) hy hφ)
def rS (n0 n:Nat) (b:Bool):Nat:=if b=true then n0 else n
def Mt (n0:Nat) (rs:List RX) (env:Env) (H:List aa):Option (AV×List aa):=
 match vE rs env H with
 | some [x]=>if n0≤H.length∧x.aZ (rS n0 H.length (x.aZ n0))=true then some (x,H.take (rS n0 H.length (x.aZ n0))) else none
 | some xs=>if n0≤H.length∧aj (rS n0 H.length (aj n0 (xs.map AV.ab))) (xs.map AV.ab)=true then some (.tuple (xs.map AV.ab),H.take (rS n0 H.length (aj n0 (xs.map AV.ab)))) else none
 | none=>none
theorem ya {n0 n:Nat} {b:Bool} (h:n0≤n):n0≤rS n0 n b:=by
 unfold rS;split <;> omega
theorem Jm {n0:Nat} {rs:List RX} {env:Env} {H H':List aa} {r:AV} {R:AV→List aa→Prop} (h:Mt n0 rs env H=some (r,H')) (hR:R r H'):bR n0 rs env H R:=by
 unfold Mt at h
 unfold bR
 split at h <;> try cases h
 ·rename_i x hx
  split at h <;> cases h
  rename_i hc
  exact ui hx ⟨_,ya hc.1,_,le_refl _,hc.2,hR⟩
 ·rename_i xs eM hx
  split at h <;> cases h
  rename_i hc
  refine ui hx ⟨_,ya (b:=aj n0 (xs.map AV.ab)) hc.1,?_⟩
  split
  ·rename_i x;exact absurd rfl (eM x)
  ·exact ⟨_,cp _,hc.2,hR⟩
abbrev Rs:=List (Exit×Env×List aa)
abbrev Ex:=IR→Env→List aa→Option Rs
def Mv (n0:Nat) (rs:List RX) (o:Exit×Env×List aa):Option (AV×List aa):=
 match o.1 with
 | .normal=>Mt n0 rs o.2.1 o.2.2
 | .ret=>Mt n0 rs o.2.1 o.2.2
 | _=>none
def Mw (n0:Nat) (rs:List RX):Rs→Option (AV×List aa)
 | []=>none
 | [o]=>Mv n0 rs o
 | o::r=>match Mv n0 rs o,Mw n0 rs r with
   | some x,some y=>if x.1.beq y.1=true∧BR x.2 y.2=true then some x else none
   | _,_=>none
theorem Jn {n0:Nat} {rs:List RX}:∀ {l:Rs} {r:AV×List aa},Mw n0 rs l=some r→∀ o∈l,Mv n0 rs o=some r
 | [],_,h=>by cases h
 | [o],r,h=>fun o' ho=>by rw [List.mem_singleton.1 ho];exact h
 | o::o2::r,x,h=>fun o' ho=>by
   simp only [Mw] at h
   split at h <;> try cases h
   rename_i x1 y1 h1 h2
   split at h <;> cases h
   rename_i hb
   have e1:=AV.qy hb.1
   have e2:=zR hb.2
   have e:x=y1:=by cases x;cases y1;simp only at e1 e2;rw [e1,e2]
   rcases List.mem_cons.1 ho with rfl | ho
   ·exact h1
   ·rw [e];exact Jn h2 o' ho
def zV (k:Env→List aa→Option Rs):Rs→Option Rs
 | []=>some []
 | (.normal,e,H)::r=>match k e H,zV k r with
   | some a,some b=>some (a++b)
   | _,_=>none
 | o::r=>match zV k r with
   | some b=>some (o::b)
   | none=>none
theorem rT {k:Env→List aa→Option Rs} {Q:Exit→Env→List aa→Prop}:∀ {l l':Rs},zV k l=some l'→(∀ o∈l',Q o.1 o.2.1 o.2.2)→
 ∀ o∈l,match o.1 with | .normal=>∃ l2,k o.2.1 o.2.2=some l2∧∀ o2∈l2,Q o2.1 o2.2.1 o2.2.2 | e=>Q e o.2.1 o.2.2
 | [],l',h,hQ=>fun o ho=>by cases ho
 | (e,env,H)::r,l',h,hQ=>fun o ho=>by
   cases e with
   | normal=>
     simp only [zV] at h
     split at h <;> cases h
     rename_i a b h1 h2
     rcases List.mem_cons.1 ho with rfl | ho
     ·exact ⟨a,h1,fun o2 h=>hQ o2 (List.mem_append.2 (.inl h))⟩
     ·exact rT h2 (fun o2 h=>hQ o2 (List.mem_append.2 (.inr h))) o ho
   | ret=>
     simp only [zV] at h
     split at h <;> cases h
     rename_i b h2
     rcases List.mem_cons.1 ho with rfl | ho
     ·exact hQ _ List.mem_cons_self
     ·exact rT h2 (fun o2 h=>hQ o2 (List.mem_cons_of_mem _ h)) o ho
   | exit i=>
     simp only [zV] at h
     split at h <;> cases h
     rename_i b h2
     rcases List.mem_cons.1 ho with rfl | ho
     ·exact hQ _ List.mem_cons_self
     ·exact rT h2 (fun o2 h=>hQ o2 (List.mem_cons_of_mem _ h)) o ho
   | _=>
     simp only [zV] at h
     split at h <;> cases h
     rename_i b h2
     rcases List.mem_cons.1 ho with rfl | ho
     ·exact hQ _ List.mem_cons_self
     ·exact rT h2 (fun o2 h=>hQ o2 (List.mem_cons_of_mem _ h)) o ho
def Ph (id:Nat) (o:Exit×Env×List aa):Exit×Env×List aa:=
 match o.1 with
 | .exit i=>if i=id then (.normal,o.2) else o
 | _=>o
def FL:AV→Bool
 | .ap own _=>own == 0
 | _=>true
theorem FM {x:AV} (h:FL x=true):x.ab=x:=by
 cases x with
 | ap own xs=>simp only [FL,beq_iff_eq] at h;subst h;rfl
 | _=>rfl
def QR (n0 id:Nat) (e:Exit) (H:List aa):Option (AV×List aa):=
 match H[id]? with
 | some (.loop .busy lc es)=>if n0≤H.length then (match e with
   | .normal=>some (.bool true,(H.set id (.loop .ready lc es)).take n0)
   | .ret=>some (.bool false,(H.set id (.loop (.jump .ret) lc es)).take n0)
   | .exit k=>some (.bool false,(H.set id (.loop (.jump (.exit k)) lc es)).take n0)
   | _=>none) else none
 | _=>none
theorem QS {n0 id:Nat} {e:Exit} {H H':List aa} {r:AV} {R:AV→List aa→Prop} (h:QR n0 id e H=some (r,H')) (hR:R r H'):qk n0 id R e H:=by
 unfold QR at h
 unfold qk
 split at h <;> try cases h
 rename_i lc es bk
 rw [bk]
 split at h <;> try cases h
 rename_i hn
 split at h <;> cases h
 ·exact ⟨by simpa using hn,hR⟩
 ·exact ⟨by simpa using hn,hR⟩
 ·exact ⟨by simpa using hn,hR⟩
def Jo (P:Program) (ex:Ex) (id:Nat) (args:List AV) (H:List aa):Option (AV×List aa):=
 match H[id]? with
 | some (.loop .ready lc es)=>match comp P lc.an lc.lv lc.pl lc.n lc.as,comp P lc.an lc.lv lc.pl lc.n lc.bd with
   | some ia,some ib=>if es.length=lc.n∧args.length=lc.ps.length∧lc.ps.all (· < lc.n)=true∧es.all FL=true∧args.all FL=true then
      match ex ia ((lc.ps.zip args).reverse++bX 0 es) H with
      | some [(.normal,env1,H1)]=>match H1[id]? with
        | some (.loop .ready lc1 es1)=>match ex ib env1 (H1.set id (.loop .busy lc1 es1)) with
          | some [(e,_,H3)]=>QR H.length id e H3
          | _=>none
        | _=>none
      | _=>none
     else none
   | _,_=>none
 | _=>none
def o8 (P:Program) (T:x8) (ex:Ex):gZ:=fun y g args H=>
 match y with
 | true=>Jo P ex g args H
 | false=>match T.find g with
   | some (.ir fi)=>if args.length≤fi.n then
      match ex fi.ir (bX 0 args) H with
      | some l=>Mw H.length fi.rs l
      | none=>none
     else none
   | some (.vD p)=>match p args with | some r=>some (r,H) | none=>none
   | some (.Pg p)=>p args H
   | none=>none
def QT (T:x8) (g:Nat):Bool:=match T.find g with | some (.ir _)=>true | _=>false
def zW (id:Nat) (env:Env) (H:List aa):Option Rs:=
 match H[id]? with
 | some (.loop .ready lc es)=>some [(.normal,env,H.set id (.loop .eI lc es))]
 | some (.loop (.jump .ret) lc es)=>some [(.ret,env,H.set id (.loop .eI lc es))]
 | some (.loop (.jump (.exit k)) lc es)=>some [(.exit k,env,H.set id (.loop .eI lc es))]
 | _=>none
theorem Hj {id:Nat} {env:Env} {H:List aa} {l:Rs} {Q:Exit→Env→List aa→Prop} (h:zW id env H=some l) (hQ:∀ o∈l,Q o.1 o.2.1 o.2.2):behind id H fun j H''=>po j Q env H'':=by
 unfold zW at h
 unfold behind
 split at h <;> try cases h
 all_goals
  rename_i bk
  rw [bk]
  exact hQ _ List.mem_cons_self
def dA (P:Program) (T:x8):Nat→Ex
 | 0,_,_,_=>none
 | f + 1,ir,env,H=>match ir with
   | .skip=>some [(.normal,env,H)]
   | .region ops live=>match zS (o8 P T (dA P T f)) ops env H with
     | some (aB,H')=>some [(.normal,eE live aB,H')]
     | none=>none
   | .draw t live=>match Dt (o8 P T (dA P T f)) live t env H with
     | some l=>some (l.map fun o=>(.normal,o.1,o.2))
     | none=>none
   | .seq a b=>match dA P T f a env H with
     | some l=>zV (dA P T f b) l
     | none=>none
   | .cond x a b=>match al env x with
     | .bool true=>dA P T f a env H
     | .bool false=>dA P T f b env H
     | _=>none
   | .block id a=>match dA P T f a env H with
     | some l=>some (l.map (Ph id))
     | none=>none
   | .loop a=>match dA P T f a env H with
     | some l=>zV (dA P T f (.loop a)) l
     | none=>none
   | .exit id=>some [(.exit id,env,H)]
   | .ret=>some [(.ret,env,H)]
   | .never=>none
   | .iY g lc=>match al env g with
     | .fn (.func g) first cap=>if QT T g=true then (match o8 P T (dA P T f) false g (first.map AV.ab++[.nk H.length]++cap.map AV.ab) (H++[.loop .ready lc (kH lc.n env)]) with
       | some (_,H')=>zW H.length env H'
       | none=>none) else none
     | _=>none
theorem uj {P:Program} {T:x8} (hT:x9 P T) {ex:Ex} (hex:∀ {ir env H l},ex ir env H=some l→∀ {n0:Nat} {Q:Exit→Env→List aa→Prop},(∀ o∈l,Q o.1 o.2.1 o.2.2)→mP P n0 ir env H Q):kL P (o8 P T ex):=by
 refine ⟨fun g args H r H' h=>?_,fun id args H r H' h=>?_⟩
 ·simp only [o8] at h
  split at h
  ·rename_i fi Y9
   have jr:=x8.qB hT Y9
   split at h <;> try cases h
   rename_i hn
   split at h <;> try cases h
   rename_i l hx
   refine jr.zU hn (hex hx fun o ho=>?_)
   have h1:=Jn h o ho
   unfold Mv at h1
   split at h1 <;> try cases h1
   ·rename_i e;exact ⟨.inl e,Jm h1 ⟨rfl,rfl⟩⟩
   ·rename_i e;exact ⟨.inr e,Jm h1 ⟨rfl,rfl⟩⟩
  ·rename_i p hp
   have jr:=x8.qB hT hp
   split at h <;> cases h
   rename_i hr
   exact jr _ _ _ hr
  ·rename_i p hp
   exact x8.qB hT hp _ _ _ _ h
  ·cases h
 ·simp only [o8,Jo] at h
  split at h <;> try cases h
  rename_i lc es bk
  split at h <;> try cases h
  rename_i ia ib ha hb
  split at h <;> try cases h
  rename_i hc
  split at h <;> try cases h
  rename_i env1 H1 s5
  split at h <;> try cases h
  rename_i lc1 es1 Ml
  split at h <;> try cases h
  rename_i e adQ H3 hx3
  obtain ⟨c1,c2,c3,c4,c5⟩:=hc
  refine ot bk ha hb ⟨c1,c2,c3,fun x hx=>FM (List.all_eq_true.1 c4 x hx),fun x hx=>FM (List.all_eq_true.1 c5 x hx)⟩ (hex s5 fun o ho=>?_)
  rw [List.mem_singleton.1 ho]
  refine ⟨rfl,?_⟩
  unfold jO
  rw [Ml]
  refine hex hx3 fun o ho=>?_
  rw [List.mem_singleton.1 ho]
  exact QS h ⟨rfl,rfl⟩
theorem QU {P:Program} {T:x8} (hT:x9 P T) {g:Nat} (h:QT T g=true):∀ (as:Array Value) (w:World),(callFunc g as).run P w=.ok (.enter g as) w:=by
 unfold QT at h
 split at h
 ·rename_i fi Y9
  exact (x8.qB hT Y9).call
 ·cases h
theorem zX {P:Program} {T:x8} (hT:x9 P T):∀ (f:Nat) {ir:IR} {env:Env} {H:List aa} {l:Rs},dA P T f ir env H=some l→∀ {n0:Nat} {Q:Exit→Env→List aa→Prop},(∀ o∈l,Q o.1 o.2.1 o.2.2)→mP P n0 ir env H Q:=by
 intro f
 induction f using Nat.strongRecOn with
 | _ f ih=>
 intro ir env H l h n0 Q hQ
 cases f with
 | zero=>simp [dA] at h
 | succ f=>
 have TS:=fun {ir:IR} {env:Env} {H:List aa} {l:Rs} (h:dA P T f ir env H=some l) {n0:Nat} {Q:Exit→Env→List aa→Prop} (hQ:∀ o∈l,Q o.1 o.2.1 o.2.2)=>ih f (Nat.lt_succ_self f) h (n0:=n0) (Q:=Q) hQ
 have hC:kL P (o8 P T (dA P T f)):=uj hT (fun {_ _ _ _} h {n0 Q} hQ=>TS h hQ)
 cases ir with
 | skip=>simp only [dA] at h;cases h;exact hQ _ List.mem_cons_self
 | exit id=>simp only [dA] at h;cases h;exact hQ _ List.mem_cons_self
 | ret=>simp only [dA] at h;cases h;exact hQ _ List.mem_cons_self
 | never=>simp [dA] at h
 | iY g lc=>
   simp only [dA] at h
   simp only [mP]
   split at h <;> try cases h
   rename_i g' first cap hg
   split at h <;> try cases h
   rename_i hir
   split at h <;> try cases h
   rename_i r H2 hr
   rw [hg]
   refine ⟨QU hT hir,_,cp _,dU.of <| (hC.1 _ _ _ _ _ hr).mono ?_⟩
   rintro r' H'' ⟨rfl,rfl⟩
   exact Hj h hQ
 | region ops live=>
   simp only [dA] at h
   split at h <;> cases h
   rename_i cP H2 hx
   exact rR (K:=fun aB H'=>Q .normal (eE live aB) H') hC hx (hQ _ List.mem_cons_self)
 | draw t live=>
   simp only [dA] at h
   split at h <;> cases h
   rename_i l2 hx
   exact UF (K:=fun aB H'=>Q .normal aB H') hC hx fun o ho=>hQ _ (List.mem_map.2 ⟨o,ho,rfl⟩)
 | seq a b=>
   simp only [dA] at h
   simp only [mP]
   split at h <;> try cases h
   rename_i l2 hx
   have hs:=rT h hQ
   refine TS hx fun o ho=>?_
   have:=hs o ho
   obtain ⟨e,cP,H2⟩:=o
   cases e with
   | normal=>obtain ⟨l3,h3,hq⟩:=this;exact TS h3 hq
   | _=>exact this
 | cond x a b=>
   simp only [dA] at h
   simp only [mP]
   split at h
   ·rename_i e;rw [e];exact ⟨fun _=>TS h hQ,fun e=>by cases e⟩
   ·rename_i e;rw [e];exact ⟨fun e=>(by cases e),fun _=>TS h hQ⟩
   ·cases h
 | block id a=>
   simp only [dA] at h
   simp only [mP]
   split at h <;> cases h
   rename_i l2 hx
   refine TS hx fun o ho=>?_
   have:=hQ _ (List.mem_map.2 ⟨o,ho,rfl⟩)
   obtain ⟨e,cP,H2⟩:=o
   cases e with
   | exit id'=>
     simp only [Ph] at this ⊢
     split at this
     ·rename_i bk;rw [if_pos bk];exact this
     ·rename_i bk;rw [if_neg bk];exact this
   | _=>exact this
 | loop a=>
   simp only [mP]
   refine ⟨Nat×Env×List aa,fun i=>i.1≤f∧∃ l',dA P T (i.1 + 1) (.loop a) i.2.1 i.2.2=some l'∧∀ o∈l',Q o.1 o.2.1 o.2.2,fun i=>i.2.1,fun i=>i.2.2,fun i=>i.1,⟨(f,env,H),⟨Nat.le_refl _,l,h,hQ⟩,aA _ _ _⟩,?_⟩
   rintro ⟨k,env1,H1⟩ ⟨hk,l1,h1,hQ1⟩
   simp only at hk h1 ⊢
   simp only [dA] at h1
   split at h1 <;> try cases h1
   rename_i l2 hx
   have hs:=rT h1 hQ1
   refine ih k (Nat.lt_succ_of_le hk) hx fun o ho=>?_
   have:=hs o ho
   obtain ⟨e,cP,H2⟩:=o
   cases e with
   | normal=>
     obtain ⟨l3,h3,hq⟩:=this
     cases k with
     | zero=>simp [dA] at h3
     | succ k=>exact ⟨(k,cP,H2),⟨by omega,l3,h3,hq⟩,Nat.lt_succ_self k,aA _ _ _⟩
   | _=>exact this
end Go.aH
end
section
namespace Go.aH
open Go
theorem ion (n:Nat):Int.ofNat (no_index (OfNat.ofNat n))=(OfNat.ofNat n:Int):=rfl
theorem UG:Int.negSucc 0=-1:=rfl
@[reducible] def aJ {P:Program} {g:FuncId} {fn:Func} {n:Nat} {i:IR} {rs:List RX} (hc:∀ (as:Array Value) (w:World),(callFunc g as).run P w=.ok (.enter g as) w)
 (hf:P.funcs[g]?=some fn) (hn:fn.ntmps=n) (an:A9) (lv:mL) (pl:mM)
 (h:(fn.body.bind fun c=>comp P an lv pl n c)=some i:=by conv=>
   lhs
   reduce
   try simp only [ion,UG])
 (hr:iv P fn.results.toList=some rs:=by conv=>
   lhs
   reduce
   try simp only [ion,UG]):{fi:qz // iJ P g fi}:=
 ⟨⟨n,i,rs⟩,by
   subst hn
   cases hb:fn.body with
   | none=>rw [hb] at h;cases h
   | some c=>exact ⟨hc,fn,c,an,lv,pl,hf,hb,rfl,by rw [hb] at h;exact h,hr⟩⟩
end Go.aH
end
