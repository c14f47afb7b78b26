/- Part 1 of 15 of the proof. -/
import Derived.WalkKit
import Derived.Laws.AppendOwn
import Derived.Laws.Cells
import Derived.Deep.Quiet
import Derived.RowKit
import Derived.RangeFuncLeaves
import Derived.RangeFuncRecord
import Derived.OrdersIn
import Derived.Laws.Strings
import Derived.Laws.Entries
import Derived.Laws.CopyRow
import Derived.Great.BuildSlice
import Derived.Laws.BytesArg
set_option linter.unusedVariables false
set_option linter.unusedSimpArgs false
set_option linter.defProp false
set_option linter.unusedSectionVars false
section
namespace Go.aL
open Go
inductive AV where
 | any
 | bool (b:Bool)
 | int (k:IntKind) (n:Int)
 | str (s:ByteArray)
 | ah
 | al (own:Nat) (xs:List AV)
 | bc (id off len cap:Nat)
 | agg (xs:List AV)
 | tuple (xs:List AV)
 | ptr (id off:Nat)
 | ai (x:AV)
 | sd
 | map (id:Nat)
 | jd
 | fn (f:Fn) (first captured:List AV)
 | fQ
 | iface (t:TypeId) (x:AV)
 | xL
 | nH (id:Nat)
 | pe
 deriving Inhabited
def AV.cells:AV→List AV
 | .agg xs=>xs
 | x=>[x]
def flat (xs:List AV):List AV:=xs.flatMap AV.cells
abbrev Mem:=Nat→Nat→Option Value
def Mem.sub (M M':Mem):Prop:=∀ b o v,M b o=some v→M' b o=some v
theorem Mem.bQ (M:Mem):M.sub M:=fun _ _ _ h=>h
theorem Mem.HR {M1 M2 M3:Mem} (h:M1.sub M2) (k:M2.sub M3):M1.sub M3:=fun b o v hv=>k b o v (h b o v hv)
def Mem.row (M:Mem) (b o:Nat) (cs:List Value):Prop:=∀ j v,cs[j]?=some v→M b (o + j)=some v
mutual
inductive aS (M:Mem) (L:List Nat):Value→AV→Prop
 | any (v:Value):aS M L v .any
 | bool (b:Bool):aS M L (.bool b) (.bool b)
 | int (k:IntKind) (n:Int):aS M L (.int k n) (.int k n)
 | str (s:ByteArray):aS M L (.string s) (.str s)
 | ah:aS M L (.slice none 0 0) .ah
 | gL (a:Option Addr) (c own:Nat) (hc:c < 9223372036854775808):aS M L (.slice a 0 c) (.al own [])
 | al (b off c own e:Nat) (cs:List Value) (xs:List AV) (he:0 < e) (hx:∀ x∈xs,x.cells.length=e) (hn:0 < xs.length) (hle:xs.length≤c) (hc:c < 9223372036854775808)
    (hr:aM M L cs (flat xs)) (hm:M.row b off cs):aS M L (.slice (some ⟨b,off,none⟩) xs.length c) (.al own xs)
 | bc (b off len cap id:Nat) (hl:L[id]?=some b) (hc:cap < 9223372036854775808):aS M L (.slice (some ⟨b,off,none⟩) len cap) (.bc id off len cap)
 | agg (cs:List Value) (xs:List AV) (hr:aM M L cs xs):aS M L (.agg cs.toArray) (.agg xs)
 | tuple (cs:List Value) (xs:List AV) (hr:aM M L cs xs):aS M L (.tuple cs.toArray) (.tuple xs)
 | ptr (b off id:Nat) (hl:L[id]?=some b):aS M L (.pointer (some ⟨b,off,none⟩)) (.ptr id off)
 | ai (b off:Nat) (cs:List Value) (x:AV) (hr:aM M L cs x.cells) (hm:M.row b off cs):aS M L (.pointer (some ⟨b,off,none⟩)) (.ai x)
 | sd:aS M L (.pointer none) .sd
 | map (b id:Nat) (hl:L[id]?=some b):aS M L (.map (some b)) (.map id)
 | jd:aS M L (.map none) .jd
 | fn (f:Fn) (fs cs:List Value) (xs ys:List AV) (h1:aM M L fs xs) (h2:aM M L cs ys):aS M L (.func f fs.toArray cs.toArray) (.fn f xs ys)
 | fQ:aS M L .nilFunc .fQ
 | iface (t:TypeId) (v:Value) (x:AV) (h:aS M L v x):aS M L (.iface t v) (.iface t x)
 | xL:aS M L .nilIface .xL
 | nH (b id:Nat) (hl:L[id]?=some b):aS M L (.func (.yield b) #[] #[]) (.nH id)
 | pe (a:Option Addr):aS M L (.slice a 0 0) .pe
inductive aM (M:Mem) (L:List Nat):List Value→List AV→Prop
 | nil:aM M L [] []
 | cons (v:Value) (x:AV) (vs:List Value) (xs:List AV) (h:aS M L v x) (t:aM M L vs xs):aM M L (v::vs) (x::xs)
end
theorem gh {L L':List Nat} (h:L <+: L') {id b:Nat} (hb:L[id]?=some b):L'[id]?=some b:=by
 obtain ⟨r,rfl⟩:=h
 rw [List.getElem?_append_left]
 ·exact hb
 ·exact (List.getElem?_eq_some_iff.1 hb).1
theorem Mem.row.mono {M M':Mem} (hs:M.sub M') {b o:Nat} {cs:List Value} (h:M.row b o cs):M'.row b o cs:=fun j v hv=>hs _ _ _ (h j v hv)
mutual
theorem aS.mono {M M':Mem} {L L':List Nat} (hs:M.sub M') (hL:L <+: L'):∀ {v:Value} {x:AV},aS M L v x→aS M' L' v x
 | _,_,.any v=>.any v
 | _,_,.bool b=>.bool b
 | _,_,.int k n=>.int k n
 | _,_,.str s=>.str s
 | _,_,.ah=>.ah
 | _,_,.gL a c o h=>.gL a c o h
 | _,_,.al b off c own e cs xs he hx hn hle hc hr hm=>.al b off c own e cs xs he hx hn hle hc (hr.mono hs hL) (hm.mono hs)
 | _,_,.bc b off len cap id hl hc=>.bc b off len cap id (gh hL hl) hc
 | _,_,.agg cs xs hr=>.agg cs xs (hr.mono hs hL)
 | _,_,.tuple cs xs hr=>.tuple cs xs (hr.mono hs hL)
 | _,_,.ptr b off id hl=>.ptr b off id (gh hL hl)
 | _,_,.ai b off cs x hr hm=>.ai b off cs x (hr.mono hs hL) (hm.mono hs)
 | _,_,.sd=>.sd
 | _,_,.map b id hl=>.map b id (gh hL hl)
 | _,_,.jd=>.jd
 | _,_,.fn f fs cs xs ys h1 h2=>.fn f fs cs xs ys (h1.mono hs hL) (h2.mono hs hL)
 | _,_,.fQ=>.fQ
 | _,_,.iface t v x h=>.iface t v x (h.mono hs hL)
 | _,_,.xL=>.xL
 | _,_,.nH b id hl=>.nH b id (gh hL hl)
 | _,_,.pe a=>.pe a
theorem aM.mono {M M':Mem} {L L':List Nat} (hs:M.sub M') (hL:L <+: L'):∀ {vs:List Value} {xs:List AV},aM M L vs xs→aM M' L' vs xs
 | _,_,.nil=>.nil
 | _,_,.cons v x vs xs h t=>.cons v x vs xs (h.mono hs hL) (t.mono hs hL)
end
section
variable {M:Mem} {L:List Nat}
theorem aM.length:∀ {vs:List Value} {xs:List AV},aM M L vs xs→vs.length=xs.length
 | _,_,.nil=>rfl
 | _,_,.cons _ _ _ _ _ t=>by simp [t.length]
theorem aM.get:∀ {vs:List Value} {xs:List AV},aM M L vs xs→∀ (j:Nat) (x:AV),xs[j]?=some x→∃ v,vs[j]?=some v∧aS M L v x
 | _,_,.nil,j,x,h=>by simp at h
 | _,_,.cons v y vs xs h t,0,x,hx=>by simp at hx;subst hx;exact ⟨v,by simp,h⟩
 | _,_,.cons v y vs xs h t,j + 1,x,hx=>by
   obtain ⟨u,hu,hr⟩:=t.get j x (by simpa using hx)
   exact ⟨u,by simpa using hu,hr⟩
theorem aM.append:∀ {vs:List Value} {xs:List AV},aM M L vs xs→∀ {us:List Value} {ys:List AV},aM M L us ys→aM M L (vs++us) (xs++ys)
 | _,_,.nil,_,_,h2=>h2
 | _,_,.cons v x vs xs h t,_,_,h2=>.cons v x _ _ h (t.append h2)
theorem aM.take:∀ {vs:List Value} {xs:List AV},aM M L vs xs→∀ n,aM M L (vs.take n) (xs.take n)
 | _,_,.nil,n=>by simp;exact .nil
 | _,_,.cons v x vs xs h t,0=>.nil
 | _,_,.cons v x vs xs h t,n + 1=>.cons v x _ _ h (t.take n)
theorem aM.drop:∀ {vs:List Value} {xs:List AV},aM M L vs xs→∀ n,aM M L (vs.drop n) (xs.drop n)
 | _,_,.nil,n=>by simp;exact .nil
 | _,_,.cons v x vs xs h t,0=>.cons v x _ _ h t
 | _,_,.cons v x vs xs h t,n + 1=>t.drop n
theorem aM.set:∀ {vs:List Value} {xs:List AV},aM M L vs xs→∀ {u:Value} {y:AV},aS M L u y→∀ n,aM M L (vs.set n u) (xs.set n y)
 | _,_,.nil,_,_,_,n=>by simp;exact .nil
 | _,_,.cons v x vs xs h t,u,y,hu,0=>.cons u y _ _ hu t
 | _,_,.cons v x vs xs h t,u,y,hu,n + 1=>.cons v x _ _ h (t.set hu n)
theorem aM.Ab:∀ {vs:List Value} {xs:List AV},vs.length=xs.length→(∀ (j:Nat) (x:AV),xs[j]?=some x→∃ v,vs[j]?=some v∧aS M L v x)→aM M L vs xs
 | [],[],_,_=>.nil
 | [],_::_,h,_=>by simp at h
 | _::_,[],h,_=>by simp at h
 | v::vs,x::xs,h,H=>by
   obtain ⟨u,hu,hr⟩:=H 0 x rfl
   simp at hu;subst hu
   exact .cons v x vs xs hr (.Ab (by simpa using h) (fun j y hy=>by obtain ⟨u,hu,hr⟩:=H (j + 1) y (by simpa using hy);exact ⟨u,by simpa using hu,hr⟩))
theorem aM.one {v:Value} {x:AV} (h:aS M L v x):aM M L [v] [x]:=.cons _ _ _ _ h .nil
theorem aM.Gx {vs:List Value} {x:AV} (h:aM M L vs [x]):∃ v,vs=[v]∧aS M L v x:=by
 cases h with
 | cons v x vs xs h t=>cases t with | nil=>exact ⟨v,rfl,h⟩
theorem aM.getD {vs:List Value} {xs:List AV} (h:aM M L vs xs) (j:Nat):aS M L (vs.getD j undef) (xs.getD j .any):=by
 rcases Nat.lt_or_ge j xs.length with hj | hj
 ·obtain ⟨v,hv,hr⟩:=h.get j xs[j] (by simp [hj])
  rw [List.getD_eq_getElem?_getD,List.getD_eq_getElem?_getD,hv]
  simpa [hj] using hr
 ·rw [List.getD_eq_getElem?_getD,List.getD_eq_getElem?_getD,List.getElem?_eq_none hj]
  exact .any _
end
def AV.ab:AV→AV
 | .al _ xs=>.al 0 xs
 | x=>x
def AV.drop:AV→AV
 | .al _ xs=>.al 0 xs
 | .ah=>.al 0 []
 | x=>x
theorem aS.Ez {M:Mem} {L:List Nat} {v:Value} {o o':Nat} {xs:List AV} (h:aS M L v (.al o xs)):aS M L v (.al o' xs):=by
 cases h with
 | gL a c _ hc=>exact .gL a c o' hc
 | al b off c _ e cs _ he hx hn hle hc hr hm=>exact .al b off c o' e cs xs he hx hn hle hc hr hm
theorem aS.ab {M:Mem} {L:List Nat} {v:Value} {x:AV} (h:aS M L v x):aS M L v x.ab:=by
 cases x <;> first | exact h | exact h.Ez
theorem aS.drop {M:Mem} {L:List Nat} {v:Value} {x:AV} (h:aS M L v x):aS M L v x.drop:=by
 cases x <;> first | exact h | exact h.Ez | (cases h;exact .gL _ _ _ (by decide))
theorem aM.map_drop {M:Mem} {L:List Nat}:∀ {vs:List Value} {xs:List AV},aM M L vs xs→aM M L vs (xs.map AV.drop)
 | _,_,.nil=>.nil
 | _,_,.cons v x vs xs h t=>.cons v _ _ _ h.drop t.map_drop
def AV.one:AV→Bool
 | .any=>false
 | .agg _=>false
 | .tuple _=>false
 | _=>true
theorem aS.gM {M:Mem} {L:List Nat} {v:Value} {x:AV} (h:aS M L v x) (h1:x.one=true):v.oneCell'=true:=by
 cases h <;> first | rfl | simp [AV.one] at h1
theorem aM.gM {M:Mem} {L:List Nat}:∀ {vs:List Value} {xs:List AV},aM M L vs xs→xs.all AV.one=true→∀ v∈vs,v.oneCell'=true
 | _,_,.nil,_,v,hv=>by simp at hv
 | _,_,.cons u x vs xs h t,h1,v,hv=>by
   simp only [List.all_cons,Bool.and_eq_true] at h1
   rcases List.mem_cons.1 hv with rfl | hv
   ·exact h.gM h1.1
   ·exact t.gM h1.2 v hv
mutual
def AV.aV (n:Nat):AV→Bool
 | .bc id _ _ _=>id < n
 | .ptr id _=>id < n
 | .map id=>id < n
 | .nH id=>id < n
 | .al _ xs=>aj n xs
 | .agg xs=>aj n xs
 | .tuple xs=>aj n xs
 | .ai x=>x.aV n
 | .fn _ xs ys=>aj n xs && aj n ys
 | .iface _ x=>x.aV n
 | _=>true
def aj (n:Nat):List AV→Bool
 | []=>true
 | x::xs=>x.aV n && aj n xs
end
theorem a8 (n:Nat):∀ xs:List AV,aj n xs=true↔∀ x∈xs,x.aV n=true
 | []=>by simp [aj]
 | x::xs=>by simp [aj,a8 n xs]
theorem kA {L:List Nat} {id n b:Nat} (h:L[id]?=some b) (hn:id < n):(L.take n)[id]?=some b:=by
 rw [List.getElem?_take];simp [hn,h]
theorem cD {n:Nat} {x:AV} (h:x.aV n=true):aj n x.cells=true:=by
 cases x <;> simp_all [AV.cells,AV.aV,aj]
theorem tv {n:Nat}:∀ {xs:List AV},aj n xs=true→aj n (flat xs)=true
 | [],_=>rfl
 | x::xs,h=>by
   simp only [aj,Bool.and_eq_true] at h
   have h1:=cD h.1
   have h2:=tv h.2
   rw [a8] at *
   intro y hy
   simp only [flat,List.flatMap_cons,List.mem_append] at hy
   rcases hy with hy | hy
   ·exact h1 y hy
   ·exact h2 y hy
mutual
theorem aS.gF {M:Mem} {L:List Nat} {n:Nat}:∀ {v:Value} {x:AV},aS M L v x→x.aV n=true→aS M (L.take n) v x
 | _,_,.any v,_=>.any v
 | _,_,.bool b,_=>.bool b
 | _,_,.int k n,_=>.int k n
 | _,_,.str s,_=>.str s
 | _,_,.ah,_=>.ah
 | _,_,.gL a c o h,_=>.gL a c o h
 | _,_,.al b off c own e cs xs he hx hn hle hc hr hm,h=>.al b off c own e cs xs he hx hn hle hc (hr.gF (tv (by simpa [AV.aV] using h))) hm
 | _,_,.bc b off len cap id hl hc,h=>.bc b off len cap id (kA hl (by simpa [AV.aV] using h)) hc
 | _,_,.agg cs xs hr,h=>.agg cs xs (hr.gF (by simpa [AV.aV] using h))
 | _,_,.tuple cs xs hr,h=>.tuple cs xs (hr.gF (by simpa [AV.aV] using h))
 | _,_,.ptr b off id hl,h=>.ptr b off id (kA hl (by simpa [AV.aV] using h))
 | _,_,.ai b off cs x hr hm,h=>.ai b off cs x (hr.gF (cD (by simpa [AV.aV] using h))) hm
 | _,_,.sd,_=>.sd
 | _,_,.map b id hl,h=>.map b id (kA hl (by simpa [AV.aV] using h))
 | _,_,.jd,_=>.jd
 | _,_,.fn f fs cs xs ys h1 h2,h=>by
   simp only [AV.aV,Bool.and_eq_true] at h
   exact .fn f fs cs xs ys (h1.gF h.1) (h2.gF h.2)
 | _,_,.fQ,_=>.fQ
 | _,_,.iface t v x h,hb=>.iface t v x (h.gF (by simpa [AV.aV] using hb))
 | _,_,.xL,_=>.xL
 | _,_,.nH b id hl,h=>.nH b id (kA hl (by simpa [AV.aV] using h))
 | _,_,.pe a,_=>.pe a
theorem aM.gF {M:Mem} {L:List Nat} {n:Nat}:∀ {vs:List Value} {xs:List AV},aM M L vs xs→aj n xs=true→aM M (L.take n) vs xs
 | _,_,.nil,_=>.nil
 | _,_,.cons v x vs xs h t,hb=>by
   simp only [aj,Bool.and_eq_true] at hb
   exact .cons v x vs xs (h.gF hb.1) (t.gF hb.2)
end
theorem aO {α:Type} {L:List α} {id:Nat} {b:α} (h:L[id]?=some b):id < L.length:=(List.getElem?_eq_some_iff.1 h).1
mutual
theorem AV.cE {m k:Nat} (h:m≤k):∀ (x:AV),x.aV m=true→x.aV k=true
 | .any,_=>rfl
 | .bool _,_=>rfl
 | .int _ _,_=>rfl
 | .str _,_=>rfl
 | .ah,_=>rfl
 | .al _ xs,hb=>by simp only [AV.aV] at hb ⊢;exact bI h xs hb
 | .bc _ _ _ _,hb=>by simp only [AV.aV,decide_eq_true_eq] at hb ⊢;omega
 | .agg xs,hb=>by simp only [AV.aV] at hb ⊢;exact bI h xs hb
 | .tuple xs,hb=>by simp only [AV.aV] at hb ⊢;exact bI h xs hb
 | .ptr _ _,hb=>by simp only [AV.aV,decide_eq_true_eq] at hb ⊢;omega
 | .ai x,hb=>by simp only [AV.aV] at hb ⊢;exact AV.cE h x hb
 | .sd,_=>rfl
 | .map _,hb=>by simp only [AV.aV,decide_eq_true_eq] at hb ⊢;omega
 | .jd,_=>rfl
 | .fn _ xs ys,hb=>by
   simp only [AV.aV,Bool.and_eq_true] at hb ⊢
   exact ⟨bI h xs hb.1,bI h ys hb.2⟩
 | .fQ,_=>rfl
 | .iface _ x,hb=>by simp only [AV.aV] at hb ⊢;exact AV.cE h x hb
 | .xL,_=>rfl
 | .nH _,hb=>by simp only [AV.aV,decide_eq_true_eq] at hb ⊢;omega
 | .pe,_=>rfl
theorem bI {m k:Nat} (h:m≤k):∀ (xs:List AV),aj m xs=true→aj k xs=true
 | [],_=>rfl
 | x::xs,hb=>by
   simp only [aj,Bool.and_eq_true] at hb ⊢
   exact ⟨AV.cE h x hb.1,bI h xs hb.2⟩
end
abbrev B9:=List (Nat×Nat×Nat)
abbrev m9:=List (Nat×List Nat)
inductive xM where
 | done
 | take (i:Nat) (st:Bool) (r:xM)
 | br (i:Nat) (t rest:xM)
 | nil
 deriving Inhabited
abbrev nc:=List (Nat×xM)
structure iT where
 n:Nat
 ps:List Nat
 as:Code
 bd:Code
 an:B9
 lv:m9
 pl:nc
inductive VL where
 | ready
 | busy
 | jump (c:Code)
 | eO
def VL.ok (st:VL) (r:Loop):Prop:=
 match st with
 | .ready=>r.state=.ready∧r.pending=none
 | .busy=>r.state=.busy
 | .jump c=>r.state=.done∧r.pending=some c
 | .eO=>True
inductive aa where
 | dead
 | cells (es:List AV)
 | map (es:List (AV×AV))
 | JS (s:ByteArray) (pos:Nat)
 | loop (st:VL) (lc:iT) (es:List AV)
 deriving Inhabited
def aa.aV (n:Nat):aa→Bool
 | .cells es=>aj n es
 | .map es=>aj n (es.map (·.1)) && aj n (es.map (·.2))
 | .loop _ _ es=>aj n es
 | _=>true
theorem aa.cE {m k:Nat} (h:m≤k) (o:aa) (ho:o.aV m=true):o.aV k=true:=by
 cases o <;> simp only [aa.aV,Bool.and_eq_true] at ho ⊢
 ·exact bI h _ ho
 ·exact ⟨bI h _ ho.1,bI h _ ho.2⟩
 ·exact bI h _ ho
def Ac (M:Mem) (L:List Nat) (w:World) (b:Nat):aa→Prop
 | .dead=>True
 | .cells es=>∃ cs e,w.heap[b]?=some (.cells cs e (0,0))∧aM M L cs.toList es∧∀ o,M b o=none
 | .map es=>∃ ents ck,w.heap[b]?=some (.map ents ck)∧aM M L (ents.toList.map (·.key)) (es.map (·.1))∧aM M L (ents.toList.map (·.val)) (es.map (·.2))
 | .JS s pos=>w.heap[b]?=some (.stringIter s pos)
 | .loop st lc es=>∃ r,w.heap[b]?=some (.loop r)∧r.params=lc.ps.toArray∧r.assign=lc.as∧r.body=lc.bd∧aM M L r.tmps.toList es∧st.ok r
theorem Ac.mono {M M':Mem} {L L':List Nat} {w w':World} {b:Nat} {o:aa} (h:Ac M L w b o) (hs:M.sub M') (hL:L <+: L')
 (hw:w'.heap[b]?=w.heap[b]?) (hM:∀ o,M' b o=M b o):Ac M' L' w' b o:=by
 cases o with
 | dead=>trivial
 | cells es=>
   obtain ⟨cs,e,h1,h2,h3⟩:=h
   exact ⟨cs,e,hw.trans h1,h2.mono hs hL,fun o=>(hM o).trans (h3 o)⟩
 | map es=>
   obtain ⟨ents,ck,h1,h2,h3⟩:=h
   exact ⟨ents,ck,hw.trans h1,h2.mono hs hL,h3.mono hs hL⟩
 | JS s pos=>exact hw.trans h
 | loop st lc es=>
   obtain ⟨r,h1,h2,h3,h4,h5,h6⟩:=h
   exact ⟨r,hw.trans h1,h2,h3,h4,h5.mono hs hL,h6⟩
theorem Ac.gF {M:Mem} {L:List Nat} {w:World} {b n:Nat} {o:aa} (h:Ac M L w b o) (hb:o.aV n=true):Ac M (L.take n) w b o:=by
 cases o with
 | dead=>trivial
 | cells es=>
   obtain ⟨cs,e,h1,h2,h3⟩:=h
   exact ⟨cs,e,h1,h2.gF (by simpa [aa.aV] using hb),h3⟩
 | map es=>
   obtain ⟨ents,ck,h1,h2,h3⟩:=h
   simp only [aa.aV,Bool.and_eq_true] at hb
   exact ⟨ents,ck,h1,h2.gF hb.1,h3.gF hb.2⟩
 | JS s pos=>exact h
 | loop st lc es=>
   obtain ⟨r,h1,h2,h3,h4,h5,h6⟩:=h
   exact ⟨r,h1,h2,h3,h4,h5.gF (by simpa [aa.aV] using hb),h6⟩
inductive Pos where
 | t (i:Nat)
 | c (id j:Nat)
 deriving DecidableEq
def NJ (fr:Nat×Nat) (n:Nat):Prop:=∀ j,j < n→¬ (fr.1≤j∧j < fr.2)
theorem oF (n:Nat):NJ (0,0) n:=fun j _ h=>by simp at h
def bg (M:Mem) (w:World) (v:Value) (x:AV) (ob:Option Nat):Prop:=
 match x with
 | .al own xs=>if own=0 then ob=none else
    (∀ y∈xs,y.cells.length=own)∧((ob=none∧∃ a n,v=.slice a n n)∨
    ∃ b off n c cs e fr,ob=some b∧v=.slice (some ⟨b,off,none⟩) n c∧w.heap[b]?=some (.cells cs e fr)∧NJ fr cs.size∧off + c * own≤cs.size∧∀ k,n * own≤k→k < c * own→M b (off + k)=none)
 | _=>ob=none
theorem bg.mono {M M':Mem} {w w':World} {v:Value} {x:AV} {ob:Option Nat} (h:bg M w v x ob)
 (hw:∀ b,ob=some b→w'.heap[b]?=w.heap[b]?∧∀ o,M' b o=M b o):bg M' w' v x ob:=by
 cases x <;> first | exact h | skip
 rename_i own xs
 unfold bg at *
 simp only at *
 split
 ·rename_i h0;simp only [h0,if_true] at h;exact h
 ·rename_i h0
  simp only [h0,if_false] at h
  refine ⟨h.1,?_⟩
  rcases h.2 with h | ⟨b,off,n,c,cs,e,fr,h1,h2,h3,h4,h5,h6⟩
  ·exact .inl h
  ·obtain ⟨hb,hm⟩:=hw b h1
   exact .inr ⟨b,off,n,c,cs,e,fr,h1,h2,hb.trans h3,h4,h5,fun k hk Sn=>(hm _).trans (h6 k hk Sn)⟩
def bM (L:List Nat) (w:World) (id j:Nat):Value:=
 match L[id]? with
 | some b=>(w.cell? ⟨b,j,none⟩).getD undef
 | none=>undef
def bw (H:List aa) (id j:Nat):AV:=
 match H[id]? with
 | some (.cells es)=>es.getD j .any
 | _=>.any
structure Perm where
 wr:Nat→Prop
 top:Nat→Option Nat
 ok:∀ id n,top id=some n→id < n
 base:Nat:=0
instance:CoeFun Perm fun _=>Nat→Prop:=⟨Perm.wr⟩
def Perm.jI (A:Perm) (len id:Nat):Nat:=match A.top id with | some n=>min n len | none=>len
theorem Perm.vr (A:Perm) (len id:Nat):A.jI len id≤len:=by unfold Perm.jI;split <;> omega
theorem Perm.lY (A:Perm) {len id:Nat} (h:id < len):id + 1≤A.jI len id:=by
 unfold Perm.jI
 split
 ·rename_i n hn;have:=A.ok _ _ hn;omega
 ·omega
theorem Perm.Ca (A:Perm) {len len':Nat} (h:len≤len') (id:Nat):A.jI len id≤A.jI len' id:=by unfold Perm.jI;split <;> omega
theorem Perm.NK (A:Perm) (len:Nat):A.jI (len + 1) len=len + 1:=by
 have h1:=A.lY (len:=len + 1) (id:=len) (by omega)
 have h2:=A.vr (len + 1) len
 omega
structure St (A:Perm) (M:Mem) (L:List Nat) (w:World) (H:List aa) (ev:Nat→Value) (ea:Nat→AV) (O:Pos→Option Nat):Prop where
 len:L.length=H.length
 nodup:L.Nodup
 env:∀ t,aS M L (ev t) (ea t)
 mem:∀ b o v,M b o=some v→w.cell? ⟨b,o,none⟩=some v
 obj:∀ (id:Nat) (o:aa) (b:Nat),H[id]?=some o→L[id]?=some b→Ac M L w b o
 bE:∀ (id:Nat) (o:aa),H[id]?=some o→o.aV (A.jI H.length id)=true
 lt:∀ b∈L,b < w.heap.size
 iq:∀ t,bg M w (ev t) (ea t) (O (.t t))
 hZ:∀ id j,bg M w (bM L w id j) (bw H id j) (O (.c id j))
 ch:∀ p q b,O p=some b→O q=some b→p=q
 cz:∀ p b,O p=some b→b∉L
 fq:∀ p b,O p=some b→b < w.heap.size
 La:∀ b∈L,A b
 Oa:∀ p b,O p=some b→A b
 fresh:∀ b,w.heap.size≤b→A b
structure Ext (A:Perm) (M:Mem) (w:World) (M':Mem) (w':World):Prop where
 ln:M.sub M'
 size:w.heap.size≤w'.heap.size
 os:w'.os=w.os
 tape:w'.tape=w.tape
 output:w'.output=w.output
 kO:∀ b,b < w.heap.size→¬ A b→w'.heap[b]?=w.heap[b]?∧∀ o,M' b o=M b o
 loops:∀ (b:Nat) (r:Loop),w.heap[b]?=some (.loop r)→∃ r',w'.heap[b]?=some (.loop r')∧r'.defers=r.defers
theorem Ext.refl (A:Perm) (M:Mem) (w:World):Ext A M w M w:=⟨Mem.bQ M,Nat.le_refl _,rfl,rfl,rfl,fun _ _ _=>⟨rfl,fun _=>rfl⟩,fun b r h=>⟨r,h,rfl⟩⟩
theorem Ext.trans {A:Perm} {M M1 M2:Mem} {w w1 w2:World} (h:Ext A M w M1 w1) (k:Ext A M1 w1 M2 w2):Ext A M w M2 w2:=
 ⟨Mem.HR h.ln k.ln,Nat.le_trans h.size k.size,k.os.trans h.os,k.tape.trans h.tape,k.output.trans h.output,fun b hb hA=>by
   obtain ⟨h1,h2⟩:=h.kO b hb hA
   obtain ⟨k1,k2⟩:=k.kO b (Nat.lt_of_lt_of_le hb h.size) hA
   exact ⟨k1.trans h1,fun o=>(k2 o).trans (h2 o)⟩,fun b r hr=>by
   obtain ⟨r1,h1,e1⟩:=h.loops b r hr
   obtain ⟨r2,h2,e2⟩:=k.loops b r1 h1
   exact ⟨r2,h2,e2.trans e1⟩⟩
end Go.aL
end
section
namespace Go.aL
open Go
def fE {α:Type} (f:Nat→α) (d:Nat) (v:α):Nat→α:=fun t=>if t=d then v else f t
def eE (O:Pos→Option Nat) (p:Pos) (ob:Option Nat):Pos→Option Nat:=fun q=>if q=p then ob else O q
theorem JT {α:Type} (f:Nat→α) (d:Nat) (v:α):fE f d v d=v:=by simp [fE]
section
variable {A:Perm} {M:Mem} {L:List Nat} {w:World} {H:List aa} {ev:Nat→Value} {ea:Nat→AV} {O:Pos→Option Nat}
theorem St.put (h:St A M L w H ev ea O) (d:Nat) {v:Value} {x:AV} (hr:aS M L v x) (ob:Option Nat) (hs:bg M w v x ob)
 (h1:∀ p b,ob=some b→O p=some b→p=.t d) (h2:∀ b,ob=some b→b∉L∧b < w.heap.size∧A b) :
 St A M L w H (fE ev d v) (fE ea d x) (eE O (.t d) ob) where
 len:=h.len
 nodup:=h.nodup
 env t:=by
  by_cases e:t=d
  ·subst e;simpa [fE] using hr
  ·simpa [fE,e] using h.env t
 mem:=h.mem
 obj:=h.obj
 bE:=h.bE
 lt:=h.lt
 iq t:=by
  by_cases e:t=d
  ·subst e;simpa [fE,eE] using hs
  ·simpa [fE,eE,e] using h.iq t
 hZ id j:=by simpa [eE] using h.hZ id j
 ch p q b hp hq:=by
  simp only [eE] at hp hq
  split at hp <;> split at hq
  ·simp_all
  ·rename_i e1 e2;exact absurd (h1 q b hp hq) e2
  ·rename_i e1 e2;exact absurd (h1 p b hq hp) e1
  ·exact h.ch p q b hp hq
 cz p b hp:=by
  simp only [eE] at hp
  split at hp
  ·exact (h2 b hp).1
  ·exact h.cz p b hp
 fq p b hp:=by
  simp only [eE] at hp
  split at hp
  ·exact (h2 b hp).2.1
  ·exact h.fq p b hp
 La:=h.La
 Oa p b hp:=by
  simp only [eE] at hp
  split at hp
  ·exact (h2 b hp).2.2
  ·exact h.Oa p b hp
 fresh:=h.fresh
theorem bg.free {v:Value} {x:AV} (hx:∀ own xs,x=.al own xs→own=0):bg M w v x none:=by
 cases x <;> first | rfl | skip
 rename_i own xs
 have:=hx own xs rfl
 simp [bg,this]
theorem AV.bL (x:AV):∀ own xs,x.ab=.al own xs→own=0:=by
 intro own xs h
 cases x <;> simp_all [AV.ab]
theorem AV.jJ (x:AV):∀ own xs,x.drop=.al own xs→own=0:=by
 intro own xs h
 cases x <;> simp_all [AV.drop]
theorem St.pf (h:St A M L w H ev ea O) (d:Nat) {v:Value} {x:AV} (hr:aS M L v x) (hx:∀ own xs,x=.al own xs→own=0) :
 St A M L w H (fE ev d v) (fE ea d x) (eE O (.t d) none):=
 h.put d hr none (bg.free hx) (fun p b e=>by cases e) (fun b e=>by cases e)
theorem St.congr (h:St A M L w H ev ea O) {ev':Nat→Value} {ea':Nat→AV} (h1:∀ t,ev' t=ev t) (h2:∀ t,ea' t=ea t):St A M L w H ev' ea' O:=by
 rw [show ev'=ev from funext h1,show ea'=ea from funext h2];exact h
theorem St.grow (h:St A M L w H ev ea O) {M':Mem} {w':World} (hs:M.sub M') (je:∀ b o v,M' b o=some v→w'.cell? ⟨b,o,none⟩=some v)
 (dc:w.heap.size≤w'.heap.size) (hw:∀ b,b < w.heap.size→w'.heap[b]?=w.heap[b]?) (hM:∀ b,b < w.heap.size→∀ o,M' b o=M b o):St A M' L w' H ev ea O where
 len:=h.len
 nodup:=h.nodup
 env t:=(h.env t).mono hs (List.prefix_refl _)
 mem:=je
 obj id o b ho hb:=by
  have aK:=h.lt b (List.mem_of_getElem? hb)
  exact (h.obj id o b ho hb).mono hs (List.prefix_refl _) (hw b aK) (hM b aK)
 bE:=h.bE
 lt b hb:=Nat.lt_of_lt_of_le (h.lt b hb) dc
 iq t:=(h.iq t).mono fun b hb=>⟨hw b (h.fq _ b hb),hM b (h.fq _ b hb)⟩
 hZ id j:=by
  have e:bM L w' id j=bM L w id j:=by
   unfold bM
   split
   ·rename_i b hb
    have aK:=h.lt b (List.mem_of_getElem? hb)
    simp [World.cell?,hw b aK]
   ·rfl
  rw [e]
  exact (h.hZ id j).mono fun b hb=>⟨hw b (h.fq _ b hb),hM b (h.fq _ b hb)⟩
 ch:=h.ch
 cz:=h.cz
 fq p b hp:=Nat.lt_of_lt_of_le (h.fq p b hp) dc
 La:=h.La
 Oa:=h.Oa
 fresh b hb:=h.fresh b (Nat.le_trans dc hb)
theorem Ext.grow {M':Mem} {w':World} (hs:M.sub M') (dc:w.heap.size≤w'.heap.size) (hos:w'.os=w.os) (htape:w'.tape=w.tape) (JU:w'.output=w.output)
 (hw:∀ b,b < w.heap.size→w'.heap[b]?=w.heap[b]?) (hM:∀ b,b < w.heap.size→∀ o,M' b o=M b o):Ext A M w M' w':=
 ⟨hs,dc,hos,htape,JU,fun b hb _=>⟨hw b hb,hM b hb⟩,fun b r h=>⟨r,(hw b (Array.getElem?_eq_some_iff.1 h).1).trans h,rfl⟩⟩
theorem St.drew (h:St A M L w H ev ea O):St A M L { w with drawn:=w.drawn + 1 } H ev ea O:=
 h.grow (Mem.bQ M) (fun b o v hv=>h.mem b o v hv) (Nat.le_refl _) (fun _ _=>rfl) (fun _ _ _=>rfl)
theorem Ext.drew:Ext A M w M { w with drawn:=w.drawn + 1 }:=Ext.grow (Mem.bQ M) (Nat.le_refl _) rfl rfl rfl (fun _ _=>rfl) (fun _ _ _=>rfl)
theorem oG (h:St A M L w H ev ea O) {b:Nat} (hb:w.heap.size≤b) (o:Nat):M b o=none:=by
 cases hm:M b o with
 | none=>rfl
 | some v=>
   have:=h.mem b o v hm
   simp [World.cell?,Array.getElem?_eq_none hb] at this
def Mem.add (M:Mem) (b:Nat) (cs:List Value):Mem:=fun b' o=>if b'=b then cs[o]? else M b' o
theorem eF (w:World) (o:Obj) {b:Nat} (hb:b < w.heap.size):(w.heap.push o)[b]?=w.heap[b]?:=by
 rw [Array.getElem?_push,if_neg (by omega)]
theorem dO (w:World) (o:Obj):(w.heap.push o)[w.heap.size]?=some o:=by simp
theorem St.qw (h:St A M L w H ev ea O) (cs:Array Value) (e:TypeId) (fr:Nat×Nat) (rw:List Value) (hrw:∀ (j:Nat) (v:Value),rw[j]?=some v→cs[j]?=some v) :
 St A (M.add w.heap.size rw) L { w with heap:=w.heap.push (.cells cs e fr) } H ev ea O∧Ext A M w (M.add w.heap.size rw) { w with heap:=w.heap.push (.cells cs e fr) }∧
 (M.add w.heap.size rw).row w.heap.size 0 rw:=by
 have fJ:M.sub (M.add w.heap.size rw):=by
  intro b o v hv
  have dW:b≠w.heap.size:=by
   rintro rfl
   rw [oG h (Nat.le_refl _)] at hv;cases hv
  simp [Mem.add,dW,hv]
 have hM:∀ b,b < w.heap.size→∀ o,(M.add w.heap.size rw) b o=M b o:=fun b hb o=>by simp [Mem.add,show b≠w.heap.size by omega]
 refine ⟨h.grow fJ ?_ (by simp) (fun b hb=>eF w _ hb) hM,Ext.grow fJ (by simp) rfl rfl rfl (fun b hb=>eF w _ hb) hM,?_⟩
 ·intro b o v hv
  by_cases e0:b=w.heap.size
  ·subst e0
   simp only [Mem.add,if_true] at hv
   simp only [World.cell?,dO]
   simpa using hrw o v hv
  ·simp only [Mem.add,e0,if_false] at hv
   have:=h.mem b o v hv
   have aK:b < w.heap.size:=by
    rcases Nat.lt_or_ge b w.heap.size with h' | h'
    ·exact h'
    ·rw [oG h h'] at hv;cases hv
   simp only [World.cell?] at this ⊢
   rw [eF w _ aK];exact this
 ·intro j v hv
  simpa [Mem.add] using hv
theorem St.EA (h:St A M L w H ev ea O) (cs:Array Value) (e:TypeId) :
 St A (M.add w.heap.size cs.toList) L { w with heap:=w.heap.push (.cells cs e) } H ev ea O∧Ext A M w (M.add w.heap.size cs.toList) { w with heap:=w.heap.push (.cells cs e) }∧
 (M.add w.heap.size cs.toList).row w.heap.size 0 cs.toList:=
 h.qw cs e (0,0) cs.toList (fun j v hv=>by simpa using hv)
def Ad (ob:Obj) (j:Nat):Value:=match ob with | .cells cs _ _=>(cs[j]?).getD undef | _=>undef
def nI (ao:aa) (j:Nat):AV:=match ao with | .cells es=>es.getD j .any | _=>.any
theorem St.sf (h:St A M L w H ev ea O) (ob:Obj) (ao:aa) (So:∀ w',w'.heap[w.heap.size]?=some ob→(∀ o,M w.heap.size o=none)→Ac M (L++[w.heap.size]) w' w.heap.size ao)
 (hb:ao.aV (H.length + 1)=true) (Nk:∀ j,bg M w (Ad ob j) (nI ao j) none) :
 St A M (L++[w.heap.size]) { w with heap:=w.heap.push ob } (H++[ao]) ev ea O∧Ext A M w M { w with heap:=w.heap.push ob }:=by
 have lZ:L <+: L++[w.heap.size]:=⟨_,rfl⟩
 have hO:∀ j,O (.c H.length j)=none:=by
  intro j
  have:=h.hZ H.length j
  simp only [bw,List.getElem?_eq_none (Nat.le_refl _)] at this
  exact this
 have hkeep:∀ b,b < w.heap.size→(w.heap.push ob)[b]?=w.heap[b]?:=fun b hb=>eF w _ hb
 refine ⟨?_,Ext.grow (Mem.bQ M) (by simp) rfl rfl rfl hkeep (fun _ _ _=>rfl)⟩
 refine { len:=by simp [h.len],nodup:=?_,env:=fun t=>(h.env t).mono (Mem.bQ M) lZ,mem:=?_,obj:=?_,bE:=?_,lt:=?_,iq:=?_,hZ:=?_,ch:=h.ch,cz:=?_,fq:=?_,La:=?_,Oa:=h.Oa,fresh:=?_ }
 ·rw [List.nodup_append]
  refine ⟨h.nodup,by simp,?_⟩
  intro a ha b dU
  simp at dU
  subst dU
  exact Nat.ne_of_lt (h.lt a ha)
 ·intro b o v hv
  have:=h.mem b o v hv
  have aK:b < w.heap.size:=by
   rcases Nat.lt_or_ge b w.heap.size with h' | h'
   ·exact h'
   ·rw [oG h h'] at hv;cases hv
  simp only [World.cell?] at this ⊢
  rw [hkeep b aK];exact this
 ·intro id o b ho dU
  by_cases e:id < H.length
  ·rw [List.getElem?_append_left e] at ho
   rw [List.getElem?_append_left (by rw [h.len];exact e)] at dU
   exact (h.obj id o b ho dU).mono (Mem.bQ M) lZ (hkeep b (h.lt b (List.mem_of_getElem? dU))) (fun _=>rfl)
  ·rw [List.getElem?_append_right (by omega)] at ho
   rw [List.getElem?_append_right (by rw [h.len];omega)] at dU
   have e0:id - H.length=0:=by
    have:=(List.getElem?_eq_some_iff.1 ho).1
    simp at this;omega
   rw [e0] at ho
   rw [h.len,e0] at dU
   simp at ho dU
   subst ho;subst dU
   exact So _ (dO w ob) (fun o=>oG h (Nat.le_refl _) o)
 ·intro id o ho
  rw [List.length_append,List.length_singleton]
  by_cases e:id < H.length
  ·rw [List.getElem?_append_left e] at ho
   exact aa.cE (A.Ca (Nat.le_succ _) id) o (h.bE id o ho)
  ·rw [List.getElem?_append_right (by omega)] at ho
   have e0:id - H.length=0:=by
    have:=(List.getElem?_eq_some_iff.1 ho).1
    simp at this;omega
   rw [e0] at ho
   simp at ho
   subst ho
   rw [show id=H.length by omega,A.NK];exact hb
 ·intro b dU
  simp at dU ⊢
  rcases dU with dU | rfl
  ·have:=h.lt b dU;omega
  ·omega
 ·intro t
  exact (h.iq t).mono fun b dU=>⟨hkeep b (h.fq _ b dU),fun _=>rfl⟩
 ·intro id j
  by_cases e:id < H.length
  ·have e1:bM (L++[w.heap.size]) { w with heap:=w.heap.push ob } id j=bM L w id j:=by
    unfold bM
    rw [List.getElem?_append_left (by rw [h.len];exact e)]
    split
    ·rename_i b dU
     simp only [World.cell?]
     rw [hkeep b (h.lt b (List.mem_of_getElem? dU))]
    ·rfl
   have e2:bw (H++[ao]) id j=bw H id j:=by
    unfold bw
    rw [List.getElem?_append_left e]
   rw [e1,e2]
   exact (h.hZ id j).mono fun b dU=>⟨hkeep b (h.fq _ b dU),fun _=>rfl⟩
  ·by_cases e0:id=H.length
   ·subst e0
    rw [hO j]
    have e1:bM (L++[w.heap.size]) { w with heap:=w.heap.push ob } H.length j=Ad ob j:=by
     unfold bM
     rw [List.getElem?_append_right (by rw [h.len];omega),h.len]
     simp only [Nat.sub_self,List.getElem?_cons_zero,World.cell?,dO]
     cases ob <;> simp [Ad]
    have e2:bw (H++[ao]) H.length j=nI ao j:=by
     unfold bw
     rw [List.getElem?_append_right (Nat.le_refl _)]
     simp only [Nat.sub_self,List.getElem?_cons_zero]
     cases ao <;> rfl
    rw [e1,e2]
    exact (Nk j).mono fun b dU=>by cases dU
   ·have hn:O (.c id j)=none:=by
     have:=h.hZ id j
     simp only [bw,List.getElem?_eq_none (show H.length≤id by omega)] at this
     exact this
    rw [hn]
    have e2:bw (H++[ao]) id j=.any:=by
     unfold bw
     rw [List.getElem?_eq_none (by simp;omega)]
    rw [e2];rfl
 ·intro p b hp je
  simp at je
  rcases je with je | rfl
  ·exact h.cz p b hp je
  ·exact absurd (h.fq p _ hp) (Nat.lt_irrefl _)
 ·intro p b hp
  have:=h.fq p b hp
  simp;omega
 ·intro b dU
  simp at dU
  rcases dU with dU | rfl
  ·exact h.La b dU
  ·exact h.fresh _ (Nat.le_refl _)
 ·intro b dU
  simp at dU
  exact h.fresh b (by omega)
structure vt (O O':Pos→Option Nat):Prop where
 inj:∀ p q b,O' p=some b→O' q=some b→p=q
 QT:∀ p b,O' p=some b→∃ q,O q=some b
theorem St.write (h:St A M L w H ev ea O) {id b:Nat} {es es':List AV} {cs cs':Array Value} {e:TypeId} {ea':Nat→AV} {O':Pos→Option Nat} (bp:H[id]?=some (.cells es)) (hL:L[id]?=some b)
 (hc:w.heap[b]?=some (.cells cs e (0,0))) (hr:aM M L cs'.toList es') (nC:aj (A.jI H.length id) es'=true) (hm:vt O O') (EB:∀ t,aS M L (ev t) (ea' t))
 (iq:∀ t,bg M w (ev t) (ea' t) (O' (.t t))) (hZ:∀ j,bg M w ((cs'[j]?).getD undef) (es'.getD j .any) (O' (.c id j))) (spo:∀ id' j,id'≠id→O' (.c id' j)=O (.c id' j)) :
 St A M L (w.setRow b cs') (H.set id (.cells es')) ev ea' O'∧Ext A M w M (w.setRow b cs'):=by
 have yA:b∈L:=List.mem_of_getElem? hL
 have dc:(w.setRow b cs').heap.size=w.heap.size:=by simp [World.setRow]
 have gk:∀ k,k≠b→(w.setRow b cs').heap[k]?=w.heap[k]?:=by
  intro k hk
  simp only [World.setRow,Array.getElem?_modify]
  rw [if_neg (fun e=>hk e.symm)]
 have nl:(w.setRow b cs').heap[b]?=some (.cells cs' e (0,0)):=by
  simp only [World.setRow,Array.getElem?_modify,if_true,hc,Option.map_some]
 obtain ⟨_,_,_,_,VM⟩:=h.obj id _ b bp hL
 have qx:id < H.length:=aO bp
 have howns:∀ p k,O' p=some k→(w.setRow b cs').heap[k]?=w.heap[k]?:=by
  intro p k hp
  obtain ⟨q,hq⟩:=hm.QT p k hp
  exact gk k (fun e0=>h.cz q k hq (e0 ▸ yA))
 refine ⟨{ len:=by simp [h.len],nodup:=h.nodup,env:=EB,mem:=?_,obj:=?_,bE:=?_,lt:=?_,iq:=?_,hZ:=?_,ch:=hm.inj,cz:=?_,fq:=?_,La:=h.La,Oa:=?_,fresh:=?_ },?_⟩
 ·intro k o v hv
  have hk:k≠b:=by rintro rfl;rw [VM o] at hv;cases hv
  have:=h.mem k o v hv
  simp only [World.cell?] at this ⊢
  rw [gk k hk];exact this
 ·intro id' o k ho hk
  by_cases e0:id'=id
  ·subst e0
   rw [hL] at hk;cases hk
   rw [List.getElem?_set_self qx] at ho
   cases ho
   exact ⟨cs',e,nl,hr,VM⟩
  ·rw [List.getElem?_set_ne (fun h'=>e0 h'.symm)] at ho
   have Es:k≠b:=by
    rintro rfl
    exact e0 ((List.getElem?_inj (aO hk) h.nodup).1 (hk.trans hL.symm))
   exact (h.obj id' o k ho hk).mono (Mem.bQ M) (List.prefix_refl _) (gk k Es) (fun _=>rfl)
 ·intro id' o ho
  rw [List.length_set]
  by_cases e0:id'=id
  ·subst e0
   rw [List.getElem?_set_self qx] at ho
   cases ho
   simpa [aa.aV] using nC
  ·rw [List.getElem?_set_ne (fun h'=>e0 h'.symm)] at ho
   exact h.bE id' o ho
 ·intro k hk;rw [dc];exact h.lt k hk
 ·intro t
  exact (iq t).mono fun k hk=>⟨howns _ k hk,fun _=>rfl⟩
 ·intro id' j
  by_cases e0:id'=id
  ·subst e0
   have e1:bM L (w.setRow b cs') id' j=(cs'[j]?).getD undef:=by
    unfold bM
    simp only [hL,World.cell?,nl]
    simp
   have e2:bw (H.set id' (.cells es')) id' j=es'.getD j .any:=by
    unfold bw
    rw [List.getElem?_set_self qx]
   rw [e1,e2]
   exact (hZ j).mono fun k hk=>⟨howns _ k hk,fun _=>rfl⟩
  ·have e1:bM L (w.setRow b cs') id' j=bM L w id' j:=by
    unfold bM
    split
    ·rename_i k hk
     have Es:k≠b:=by
      rintro rfl
      exact e0 ((List.getElem?_inj (aO hk) h.nodup).1 (hk.trans hL.symm))
     simp only [World.cell?]
     rw [gk k Es]
    ·rfl
   have e2:bw (H.set id (.cells es')) id' j=bw H id' j:=by
    unfold bw
    rw [List.getElem?_set_ne (fun h'=>e0 h'.symm)]
   rw [e1,e2,spo id' j e0]
   exact (h.hZ id' j).mono fun k hk=>⟨gk k (fun e3=>h.cz _ k hk (e3 ▸ yA)),fun _=>rfl⟩
 ·intro p k hp
  obtain ⟨q,hq⟩:=hm.QT p k hp
  exact h.cz q k hq
 ·intro p k hp
  obtain ⟨q,hq⟩:=hm.QT p k hp
  rw [dc];exact h.fq q k hq
 ·intro p k hp
  obtain ⟨q,hq⟩:=hm.QT p k hp
  exact h.Oa q k hq
 ·intro k hk;rw [dc] at hk;exact h.fresh k hk
 ·exact ⟨Mem.bQ M,by rw [dc];exact Nat.le_refl _,rfl,rfl,rfl,fun k hk hA=>⟨gk k (fun e0=>hA (e0 ▸ h.La b yA)),fun _=>rfl⟩,fun k r hk=>⟨r,(gk k (fun e0=>by rw [e0,hc] at hk;cases hk)).trans hk,rfl⟩⟩
theorem St.Cb (h:St A M L w H ev ea O) {id b:Nat} {es es':List (AV×AV)} {o':Obj} (bp:H[id]?=some (.map es)) (hL:L[id]?=some b)
 (QU:∀ cs e f,o'≠.cells cs e f) (hr:∀ w',w'.heap[b]?=some o'→Ac M L w' b (.map es')) (nC:(aa.map es').aV (A.jI H.length id)=true) :
 St A M L { w with heap:=w.heap.setIfInBounds b o' } (H.set id (.map es')) ev ea O∧Ext A M w M { w with heap:=w.heap.setIfInBounds b o' }:=by
 have yA:b∈L:=List.mem_of_getElem? hL
 have Sp:=h.lt b yA
 obtain ⟨ents,ck,hc,_,_⟩:=h.obj id _ b bp hL
 have gk:∀ k,k≠b→(w.heap.setIfInBounds b o')[k]?=w.heap[k]?:=fun k hk=>by rw [Array.getElem?_setIfInBounds_ne (fun e=>hk e.symm)]
 have nl:(w.heap.setIfInBounds b o')[b]?=some o':=by simp [Sp]
 have VM:∀ o,M b o=none:=by
  intro o
  cases hm:M b o with
  | none=>rfl
  | some v=>
    have:=h.mem b o v hm
    simp [World.cell?,hc] at this
 have qx:id < H.length:=aO bp
 refine ⟨{ len:=by simp [h.len],nodup:=h.nodup,env:=h.env,mem:=?_,obj:=?_,bE:=?_,lt:=?_,iq:=?_,hZ:=?_,ch:=h.ch,cz:=h.cz,fq:=?_,La:=h.La,Oa:=h.Oa,fresh:=?_ },?_⟩
 ·intro k o v hv
  have hk:k≠b:=by rintro rfl;rw [VM o] at hv;cases hv
  have:=h.mem k o v hv
  simp only [World.cell?] at this ⊢
  rw [gk k hk];exact this
 ·intro id' o k ho hk
  by_cases e0:id'=id
  ·subst e0
   rw [hL] at hk;cases hk
   rw [List.getElem?_set_self qx] at ho
   cases ho
   exact hr _ nl
  ·rw [List.getElem?_set_ne (fun h'=>e0 h'.symm)] at ho
   have Es:k≠b:=by
    rintro rfl
    exact e0 ((List.getElem?_inj (aO hk) h.nodup).1 (hk.trans hL.symm))
   exact (h.obj id' o k ho hk).mono (Mem.bQ M) (List.prefix_refl _) (gk k Es) (fun _=>rfl)
 ·intro id' o ho
  rw [List.length_set]
  by_cases e0:id'=id
  ·subst e0
   rw [List.getElem?_set_self qx] at ho
   cases ho
   exact nC
  ·rw [List.getElem?_set_ne (fun h'=>e0 h'.symm)] at ho
   exact h.bE id' o ho
 ·intro k hk;simpa using h.lt k hk
 ·intro t
  exact (h.iq t).mono fun k hk=>⟨gk k (fun e3=>h.cz _ k hk (e3 ▸ yA)),fun _=>rfl⟩
 ·intro id' j
  by_cases e0:id'=id
  ·subst e0
   have hn:O (.c id' j)=none:=by
    have:=h.hZ id' j
    simp only [bw,bp] at this
    exact this
   have e2:bw (H.set id' (.map es')) id' j=.any:=by
    unfold bw
    rw [List.getElem?_set_self qx]
   rw [e2,hn];rfl
  ·have e1:bM L { w with heap:=w.heap.setIfInBounds b o' } id' j=bM L w id' j:=by
    unfold bM
    split
    ·rename_i k hk
     have Es:k≠b:=by
      rintro rfl
      exact e0 ((List.getElem?_inj (aO hk) h.nodup).1 (hk.trans hL.symm))
     simp only [World.cell?]
     rw [gk k Es]
    ·rfl
   have e2:bw (H.set id (.map es')) id' j=bw H id' j:=by
    unfold bw
    rw [List.getElem?_set_ne (fun h'=>e0 h'.symm)]
   rw [e1,e2]
   exact (h.hZ id' j).mono fun k hk=>⟨gk k (fun e3=>h.cz _ k hk (e3 ▸ yA)),fun _=>rfl⟩
 ·intro p k hp;simpa using h.fq p k hp
 ·intro k hk;simp at hk;exact h.fresh k hk
 ·exact ⟨Mem.bQ M,by simp,rfl,rfl,rfl,fun k hk hA=>⟨gk k (fun e0=>hA (e0 ▸ h.La b yA)),fun _=>rfl⟩,fun k r hk=>⟨r,(gk k (fun e0=>by rw [e0,hc] at hk;cases hk)).trans hk,rfl⟩⟩
def AV.le (x y:AV):Prop:=y=x∨y=.any∨(∃ o xs,x=.al o xs∧y=.al 0 xs)∨(x=.ah∧∃ o,y=.al o [])∨(∃ xs,x=.agg xs∧y=.agg (xs.map AV.drop))
theorem aS.le {v:Value} {x y:AV} (h:aS M L v x) (hl:x.le y):aS M L v y:=by
 rcases hl with rfl | rfl | ⟨o,xs,rfl,rfl⟩ | ⟨rfl,o,rfl⟩ | ⟨xs,rfl,rfl⟩
 ·exact h
 ·exact .any _
 ·exact h.Ez
 ·cases h;exact .gL _ _ _ (by decide)
 ·cases h with
  | agg cs _ hr=>exact .agg cs _ hr.map_drop
theorem bg.le {v:Value} {x y:AV} {ob:Option Nat} (h:aS M L v x) (hs:bg M w v x ob) (hl:x.le y):∃ ob',bg M w v y ob'∧(ob'=none∨ob'=ob):=by
 rcases hl with rfl | rfl | ⟨o,xs,rfl,rfl⟩ | ⟨rfl,o,rfl⟩ | ⟨xs,rfl,rfl⟩
 ·exact ⟨ob,hs,.inr rfl⟩
 ·exact ⟨none,rfl,.inl rfl⟩
 ·exact ⟨none,by simp [bg],.inl rfl⟩
 ·cases h
  refine ⟨none,?_,.inl rfl⟩
  by_cases e:o=0
  ·simp [bg,e]
  ·simp only [bg,e,if_false];exact ⟨by simp,.inl ⟨trivial,none,0,rfl⟩⟩
 ·exact ⟨none,rfl,.inl rfl⟩
theorem St.Gy (h:St A M L w H ev ea O) {ea':Nat→AV} (hl:∀ t,(ea t).le (ea' t)):∃ O',St A M L w H ev ea' O'∧∀ p b,O' p=some b→O p=some b:=by
 have hx:∀ t,∃ ob',bg M w (ev t) (ea' t) ob'∧(ob'=none∨ob'=O (.t t)):=fun t=>(h.iq t).le (h.env t) (hl t)
 let f:Nat→Option Nat:=fun t=>Classical.choose (hx t)
 have hf:∀ t,bg M w (ev t) (ea' t) (f t)∧(f t=none∨f t=O (.t t)):=fun t=>Classical.choose_spec (hx t)
 let O':Pos→Option Nat:=fun p=>match p with | .t t=>f t | .c id j=>O (.c id j)
 have hO:∀ p b,O' p=some b→O p=some b:=by
  intro p b hp
  cases p with
  | t t=>
    rcases (hf t).2 with h0 | h0
    ·simp only [O',h0] at hp;cases hp
    ·simpa only [O',h0] using hp
  | c id j=>exact hp
 exact ⟨O',{ len:=h.len,nodup:=h.nodup,env:=fun t=>(h.env t).le (hl t),mem:=h.mem,obj:=h.obj,bE:=h.bE,lt:=h.lt,iq:=fun t=>(hf t).1,hZ:=h.hZ,ch:=fun p q b hp hq=>h.ch p q b (hO p b hp) (hO q b hq),cz:=fun p b hp=>h.cz p b (hO p b hp),fq:=fun p b hp=>h.fq p b (hO p b hp),La:=h.La,Oa:=fun p b hp=>h.Oa p b (hO p b hp),fresh:=h.fresh },hO⟩
theorem St.weaken (h:St A M L w H ev ea O) {ea':Nat→AV} (hl:∀ t,(ea t).le (ea' t)):∃ O',St A M L w H ev ea' O':=
 let ⟨O',h1,_⟩:=h.Gy hl
 ⟨O',h1⟩
theorem St.cut (h:St A M L w H ev ea O) (n:Nat) (hc:∀ id o,id < n→H[id]?=some o→o.aV n=true) (hb:∀ t,(ea t).aV n=true):∃ O',St A M (L.take n) w (H.take n) ev ea O':=by
 let O':Pos→Option Nat:=fun p=>match p with | .t t=>O (.t t) | .c id j=>if id < n then O (.c id j) else none
 have hO:∀ p b,O' p=some b→O p=some b:=by
  intro p b hp
  cases p with
  | t t=>exact hp
  | c id j=>
    simp only [O'] at hp
    split at hp
    ·exact hp
    ·cases hp
 have jQ:∀ {α:Type} {l:List α} {i:Nat} {a:α},(l.take n)[i]?=some a→i < n∧l[i]?=some a:=by
  intro α l i a hi
  rw [List.getElem?_take] at hi
  split at hi
  ·exact ⟨by assumption,hi⟩
  ·cases hi
 have je:∀ b,b∈L.take n→b∈L:=fun b hb=>List.mem_of_mem_take hb
 have NL:∀ {m k:Nat} {o:aa},m≤k→o.aV m=true→o.aV k=true:=fun hmk ho=>aa.cE hmk _ ho
 refine ⟨O',{ len:=by simp [h.len],nodup:=(List.take_sublist n L).nodup h.nodup,env:=fun t=>(h.env t).gF (hb t),mem:=h.mem,obj:=?_,bE:=?_,lt:=fun b hb=>h.lt b (je b hb),iq:=h.iq,hZ:=?_,ch:=fun p q b hp hq=>h.ch p q b (hO p b hp) (hO q b hq),cz:=fun p b hp hm=>h.cz p b (hO p b hp) (je b hm),fq:=fun p b hp=>h.fq p b (hO p b hp),La:=fun b hb=>h.La b (je b hb),Oa:=fun p b hp=>h.Oa p b (hO p b hp),fresh:=h.fresh }⟩
 ·intro id o b ho dU
  obtain ⟨hn,ho⟩:=jQ ho
  obtain ⟨_,dU⟩:=jQ dU
  exact (h.obj id o b ho dU).gF (hc id o hn ho)
 ·intro id o ho
  obtain ⟨hn,ho⟩:=jQ ho
  have h1:=h.bE id o ho
  have h2:=hc id o hn ho
  have hl:=aO ho
  rw [List.length_take]
  have e:A.jI (min n H.length) id=min n (A.jI H.length id):=by unfold Perm.jI;split <;> omega
  rw [e]
  rcases Nat.le_total n (A.jI H.length id) with h' | h'
  ·rw [Nat.min_eq_left h'];exact h2
  ·rw [Nat.min_eq_right h'];exact h1
 ·intro id j
  by_cases e:id < n
  ·have e1:bM (L.take n) w id j=bM L w id j:=by
    unfold bM
    rw [List.getElem?_take,if_pos e]
   have e2:bw (H.take n) id j=bw H id j:=by
    unfold bw
    rw [List.getElem?_take,if_pos e]
   rw [e1,e2]
   simpa [O',e] using h.hZ id j
  ·have e2:bw (H.take n) id j=.any:=by
    unfold bw
    rw [List.getElem?_take,if_neg e]
   rw [e2]
   simp [O',e,bg]
end
end Go.aL
end
section
namespace Go.aL
open Go
abbrev Env:=List (Nat×AV)
def get:Env→Nat→AV
 | [],_=>.any
 | (k,v)::r,t=>if t=k then v else get r t
inductive IX where
 | t (n:Nat)
 | c (v:AV)
 deriving Inhabited
def ap (env:Env):IX→AV
 | .t n=>get env n
 | .c v=>v
inductive ca where
 | set (x:IX) (take:Bool)
 | pick (c a b:IX)
 | bin (op:BinOp) (x y:IX)
 | shift (op:BinOp) (x y:IX)
 | iC (neq:Bool) (x y:IX)
 | jw (kd:Nat) (neq:Bool) (x:IX)
 | un (op:UnOp) (x:IX)
 | box (x:IX)
 | l7 (x:IX)
 | sg (m:Nat) (x:IX)
 | alloc (zero:AV)
 | build (zero:AV) (parts:List (Nat×Nat×IX))
 | buildSlice (own esz:Nat) (zero:AV) (len:Nat) (parts:List (Nat×IX))
 | load (sz:Option Nat) (a:IX)
 | tw (sz:Option Nat) (esz:Nat) (a:IX)
 | eH (a:IX)
 | store (n:Nat) (a x:IX)
 | nJ (n:Nat) (a x:IX)
 | fw (a:IX) (s:Nat)
 | nilCheck (x:IX)
 | fieldAddr (off:Nat) (sz:Option Nat) (x:IX)
 | field (off:Nat) (sz:Option Nat) (x:IX)
 | indexAddr (esz:Nat) (x i:IX)
 | di (x i:IX)
 | dX (n:Nat) (x i:IX)
 | pJ (esz:Nat) (x:IX) (lo hi mx:Option IX)
 | slice (esz:Nat) (x:IX) (lo hi max:Option IX)
 | dY (x:IX) (lo hi:Option IX)
 | len (kd:Nat) (x:IX)
 | append (esz bytes:Nat) (s x:IX)
 | tx (esz bytes:Nat) (zero:AV) (n:IX)
 | nK (esz bytes:Nat) (n:IX)
 | nL
 | lookup (kd:Nat) (zero:AV) (m k:IX) (ok:Bool)
 | kP (kd:Nat) (m k x:IX)
 | fn (f:Fn) (first captured:List IX)
 | extract (x:IX) (i:Nat)
 | call (f:IX) (args:List IX) (pass:Option Nat)
 | eU (k:IntKind) (x:IX)
 | gN (x:IX)
 | bytesOf (x:IX)
 | strOf (x:IX)
 | mx (big:Bool) (a b:IX)
 | copy (esz:Nat) (d s:IX)
 | Ae (esz:Nat) (x:IX)
 | Cc (esz:Nat) (zero:AV) (len:Nat) (parts:List (Nat×IX))
 | jB (esz bytes:Nat) (zero:AV) (s x:IX)
 | nM (esz:Nat) (zero:AV) (x:IX)
 | never
 deriving Inhabited
def Wb:Value→Option AV
 | .bool b=>some (.bool b)
 | .int k n=>some (.int k n)
 | .string s=>some (.str s)
 | .pointer none=>some .sd
 | .map none=>some .jd
 | .nilFunc=>some .fQ
 | .nilIface=>some .xL
 | .slice none 0 0=>some .ah
 | _=>none
def JV:List Value→Option (List AV)
 | []=>some []
 | v::vs=>match Wb v,JV vs with
   | some x,some xs=>some (x::xs)
   | _,_=>none
def ofValue:Value→Option AV
 | .agg cs=>(JV cs.toList).map .agg
 | v=>Wb v
section
variable {M:Mem} {L:List Nat}
theorem Gz {v:Value} {x:AV} (h:Wb v=some x):aS M L v x:=by
 unfold Wb at h
 split at h <;> first | (cases h;constructor) | cases h
theorem Cd:∀ {vs:List Value} {xs:List AV},JV vs=some xs→aM M L vs xs
 | [],xs,h=>by simp [JV] at h;subst h;exact .nil
 | v::vs,xs,h=>by
   unfold JV at h
   split at h
   ·rename_i x ys h1 h2
    cases h
    exact .cons _ _ _ _ (Gz h1) (Cd h2)
   ·cases h
theorem cM {v:Value} {x:AV} (h:ofValue v=some x):aS M L v x:=by
 unfold ofValue at h
 split at h
 ·rename_i cs
  obtain ⟨xs,h1,rfl⟩:=Option.map_eq_some_iff.1 h
  have:=aS.agg cs.toList xs (Cd (M:=M) (L:=L) h1)
  simpa using this
 ·exact Gz h
end
def aR:Operand→Option IX
 | .tmp t=>some (.t t)
 | .const v=>(ofValue v).map .c
 | .func f=>some (.c (.fn (.func f) [] []))
 | .global _=>none
def fK:List Operand→Option (List IX)
 | []=>some []
 | x::xs=>match aR x,fK xs with
   | some i,some is=>some (i::is)
   | _,_=>none
def JG (P:Program) (t:TypeId):Option (Option Nat):=
 match P.info? t,P.underlying t with
 | some i,some (.struct _)=>some (some i.size)
 | some i,some (.array _ _)=>some (some i.size)
 | some i,some _=>if i.size=1 then some none else none
 | _,_=>none
def fR (P:Program) (t:TypeId):Option AV:=
 match P.info? t with
 | some i=>match i.zero with
   | some v=>ofValue v
   | none=>none
 | none=>none
def dP (P:Program) (t:TypeId):Option Nat:=(P.info? t).map (·.size)
def QV (A:Perm) (w:World) (ds:List Deferred):Prop:=A.base≤w.heap.size∧ds.Nodup∧∀ d∈ds,∃ D,d={ target:=.collected D,args:=#[] }∧w.heap[D]?=some (.deferred (some []))∧¬ A D∧A.base≤D
theorem QV.ext {A:Perm} {M M':Mem} {w w':World} {ds:List Deferred} (h:QV A w ds) (hx:Ext A M w M' w'):QV A w' ds:=
 ⟨Nat.le_trans h.1 hx.size,h.2.1,fun d hd=>by
   obtain ⟨D,h1,h2,h3⟩:=h.2.2 d hd
   exact ⟨D,h1,(hx.kO D (Array.getElem?_eq_some_iff.1 h2).1 h3.1).1.trans h2,h3⟩⟩
def wf (ro:Option Nat):Fence:={ Fence.wide with round:=ro }
theorem JW {o:Oper} {ρ:Operand→Value} {P:Program} {w w':World} {x:Next} (ro:Option Nat) (h:(execOp ρ o).run P w=.ok x w') (hx:∀ d,x≠.defer d):(o.semAt (wf ro).round ρ).run P w=.ok x w':=by
 rw [Oper.semAt_eq]
 ·exact h
 ·intro c hc
  simp only [execOp,hc,Sem.run_bind] at h
  cases hr:(resolve ρ c o.type).run P w with
  | ok d w1=>rw [hr] at h;simp only [Result.andThen_ok,Sem.run_pure] at h;cases h;exact hx _ rfl
  | halt e w1=>rw [hr] at h;cases h
theorem lq {o:Oper} {P:Program} {a:Act} {w w':World} {x:Next} {ro:Option Nat} {N:Act→World→Prop} {Q:Exit→Act→World→Prop} (h:(execOp a.eval o).run P w=.ok x w') (hx:∀ d,x≠.defer d)
 (hu:o.uponIn (wf ro) 0 P a N Q (.ok x w')):o.wpIn (wf ro) 0 P a w N Q:=by
 refine ⟨fun _ _=>trivial,?_⟩
 rw [JW ro h hx]
 exact hu
structure Fr (A:Perm) (n:Nat) (M:Mem) (L:List Nat) (w:World) (H:List aa) (env:Env) (O:Pos→Option Nat) (a:Act):Prop where
 st:St A M L w H (fun t=>a.tmps.getD t undef) (get env) O
 size:a.tmps.size=n
 defers:QV A w a.defers
def nD (A:Perm) (n:Nat) (M:Mem) (L:List Nat) (w:World) (K:Env→List aa→Prop) (a':Act) (w':World):Prop:=
 ∃ M' L' H' aG O',K aG H'∧Fr A n M' L' w' H' aG O' a'∧Ext A M w M' w'∧L <+: L'
def put (dst:Option Nat) (x:AV) (env:Env):Env:=match dst with | some d=>(d,x)::env | none=>env
section
variable {ro:Option Nat} {A:Perm} {n:Nat} {M:Mem} {L:List Nat} {w:World} {H:List aa} {env:Env} {O:Pos→Option Nat} {a:Act}
theorem JX (d:Nat) (x:AV) (env:Env):get ((d,x)::env)=fE (get env) d x:=rfl
theorem Fr.eval (h:Fr A n M L w H env O a) {x:Operand} {i:IX} (hc:aR x=some i):aS M L (a.eval x) (ap env i):=by
 cases x with
 | tmp t=>simp [aR] at hc;subst hc;exact h.st.env t
 | const v=>
   simp only [aR] at hc
   obtain ⟨y,h1,rfl⟩:=Option.map_eq_some_iff.1 hc
   exact cM h1
 | func f=>simp [aR] at hc;subst hc;exact .fn _ [] [] [] [] .nil .nil
 | global g=>simp [aR] at hc
theorem Fr.QW (h:Fr A n M L w H env O a):∀ {xs:List Operand} {is:List IX},fK xs=some is→aM M L (xs.map a.eval) (is.map (ap env))
 | [],is,hc=>by simp [fK] at hc;subst hc;exact .nil
 | x::xs,is,hc=>by
   unfold fK at hc
   split at hc
   ·rename_i i is' h1 h2
    cases hc
    exact .cons _ _ _ _ (h.eval h1) (h.QW h2)
   ·cases hc
theorem vu (a:Act) (d:Nat) (v:Value) (hd:d < a.tmps.size) (t:Nat):(a.put (some d) v).tmps.getD t undef=fE (fun t=>a.tmps.getD t undef) d v t:=by
 simp only [Act.put,fE,Array.getD_eq_getD_getElem?,Array.getElem?_setIfInBounds]
 by_cases e:t=d
 ·subst e;simp [hd]
 ·simp [e,show ¬ d=t from fun h=>e h.symm]
theorem Fr.EC (h:Fr A n M L w H env O a) {d:Nat} (hd:d < n) {v:Value} {x:AV} (hr:aS M L v x) (ob:Option Nat) (hs:bg M w v x ob)
 (h1:∀ p b,ob=some b→O p=some b→p=.t d) (h2:∀ b,ob=some b→b∉L∧b < w.heap.size∧A b) :
 Fr A n M L w H ((d,x)::env) (eE O (.t d) ob) (a.put (some d) v):=by
 refine ⟨(h.st.put d hr ob hs h1 h2).congr (fun t=>vu a d v (by rw [h.size];exact hd) t) (fun t=>rfl),?_,h.defers⟩
 simp [Act.put,h.size]
theorem Fr.pf (h:Fr A n M L w H env O a) {dst:Option Nat} (hd:∀ d,dst=some d→d < n) {v:Value} {x:AV} (hr:aS M L v x) (hx:∀ own xs,x=.al own xs→own=0) :
 ∃ O',Fr A n M L w H (put dst x env) O' (a.put dst v):=by
 cases dst with
 | none=>exact ⟨O,h⟩
 | some d=>exact ⟨_,h.EC (hd d rfl) hr none (bg.free hx) (fun p b e=>by cases e) (fun b e=>by cases e)⟩
theorem Fr.GA (h:Fr A n M L w H env O a) {dst:Option Nat} (hd:∀ d,dst=some d→d < n) {ad:Option Addr} {m:Nat} {own:Nat} {xs:List AV} (hr:aS M L (.slice ad m m) (.al own xs)) (hx:own≠0→∀ y∈xs,y.cells.length=own) :
 ∃ O',Fr A n M L w H (put dst (.al own xs) env) O' (a.put dst (.slice ad m m)):=by
 cases dst with
 | none=>exact ⟨O,h⟩
 | some d=>
   refine ⟨_,h.EC (hd d rfl) hr none ?_ (fun p b e=>by cases e) (fun b e=>by cases e)⟩
   by_cases e:own=0
   ·simp [bg,e]
   ·simp only [bg,e,if_false];exact ⟨hx e,.inl ⟨trivial,ad,m,rfl⟩⟩
theorem Fr.mono (h:Fr A n M L w H env O a) {M':Mem} {w':World} {L':List Nat} {H':List aa} {O':Pos→Option Nat} (bS:St A M' L' w' H' (fun t=>a.tmps.getD t undef) (get env) O') (hx:Ext A M w M' w'):Fr A n M' L' w' H' env O' a:=
 ⟨bS,h.size,h.defers.ext hx⟩
theorem dk {P:Program} {o:Oper} {Q:Exit→Act→World→Prop} {K:Env→List aa→Prop} {v:Value} {w':World} (bJ:(execOp a.eval o).run P w=.ok (.value v) w')
 (h:nD A n M L w K (a.put o.dst v) w'):o.wpIn (wf ro) 0 P a w (nD A n M L w K) Q:=by
 exact lq bJ (by intro d e;cases e) h
theorem l8 {P:Program} {o:Oper} {Q:Exit→Act→World→Prop} {K:Env→List aa→Prop} {w':World} (bJ:(execOp a.eval o).run P w=.ok .skip w')
 (h:nD A n M L w K (a.put o.dst undef) w'):o.wpIn (wf ro) 0 P a w (nD A n M L w K) Q:=by
 exact lq bJ (by intro d e;cases e) h
theorem wp_pure {P:Program} {o:Oper} {Q:Exit→Act→World→Prop} {K:Env→List aa→Prop} {v:Value} {x:AV} (h:Fr A n M L w H env O a) (hd:∀ d,o.dst=some d→d < n)
 (bJ:(execOp a.eval o).run P w=.ok (.value v) w) (hr:aS M L v x) (hx:∀ own xs,x=.al own xs→own=0) (hK:K (put o.dst x env) H):o.wpIn (wf ro) 0 P a w (nD A n M L w K) Q:=by
 obtain ⟨O',hf⟩:=h.pf hd hr hx
 exact dk bJ ⟨M,L,H,_,O',hK,hf,Ext.refl A M w,List.prefix_refl L⟩
end
def si (env:Env) (d:Nat) (x:IX) (take:Bool):Env:=
 match x,take with
 | .t s,true=>(d,get env s)::(s,(get env s).ab)::env
 | x,_=>(d,(ap env x).ab)::env
def eI (x:AV) (φ:Bool→Prop):Prop:=match x with | .bool b=>φ b | _=>False
end Go.aL
end
section
namespace Go.aL
open Go
def AV.val:AV→Bool
 | .any=>false
 | .tuple _=>false
 | _=>true
def ag {α:Type} (zs:List α) (off:Nat) (xs:List α):List α:=zs.take off++(xs++zs.drop (off + xs.length))
section
variable {M:Mem} {L:List Nat}
theorem aS.gl {v:Value} {x:AV} (h:aS M L v x) (hv:x.val=true):aM M L v.cells.toList x.cells:=by
 cases h with
 | agg cs xs hr=>simpa [Value.cells,AV.cells] using hr
 | any v=>simp [AV.val] at hv
 | tuple=>simp [AV.val] at hv
 | al b off c own e cs xs he hx hn hle hc hr hm=>exact .one (.al b off c own e cs xs he hx hn hle hc hr hm)
 | _=>(simp only [Value.cells,AV.cells];exact .one (by constructor <;> assumption))
theorem aM.Af {cs:List Value} {xs:List AV} (h:aM M L cs xs) {zs:List Value} {ys:List AV} (off:Nat) (hz:aM M L zs ys):aM M L (ag zs off cs) (ag ys off xs):=by
 unfold ag
 rw [h.length]
 exact (hz.take off).append (h.append (hz.drop _))
theorem aM.dd:∀ {vs:List Value} {xs:List AV},aM M L vs xs→aM M L vs (xs.map AV.ab)
 | _,_,.nil=>.nil
 | _,_,.cons v x vs xs h t=>.cons v _ _ _ h.ab t.dd
end
theorem nN {α:Type} (zs:List α) (off:Nat) (xs:List α) (h:off + xs.length≤zs.length):(ag zs off xs).length=zs.length:=by
 unfold ag;simp;omega
def dg (op:BinOp) (x y:AV) (φ:AV→Prop):Prop:=
 match x,y with
 | .int k a,.int k' b=>k=k'∧
   match op with
   | .add=>φ (.int k (k.wrap (a + b)))
   | .sub=>φ (.int k (k.wrap (a - b)))
   | .mul=>φ (.int k (k.wrap (a * b)))
   | .quo=>b≠0∧φ (.int k (k.wrap (a.tdiv b)))
   | .rem=>b≠0∧φ (.int k (a.tmod b))
   | .and=>φ (.int k (k.wrap (BitVec.ofInt k.bits a &&& BitVec.ofInt k.bits b).toNat))
   | .or=>φ (.int k (k.wrap (BitVec.ofInt k.bits a ||| BitVec.ofInt k.bits b).toNat))
   | .xor=>φ (.int k (k.wrap (BitVec.ofInt k.bits a ^^^ BitVec.ofInt k.bits b).toNat))
   | .andNot=>φ (.int k (k.wrap (BitVec.ofInt k.bits a &&& ~~~ BitVec.ofInt k.bits b).toNat))
   | .eql=>φ (.bool (decide (a=b)))
   | .neq=>φ (.bool (decide (a≠b)))
   | .lss=>φ (.bool (decide (a < b)))
   | .leq=>φ (.bool (decide (a≤b)))
   | .gtr=>φ (.bool (decide (b < a)))
   | .geq=>φ (.bool (decide (b≤a)))
   | _=>False
 | .str a,.str b=>
   match op with
   | .add=>a.size + b.size < 9223372036854775808∧φ (.str (a++b))
   | .eql=>φ (.bool (decide (a=b)))
   | .neq=>φ (.bool (decide (a≠b)))
   | .lss=>φ (.bool (Op.bytesLess a.data.toList b.data.toList))
   | .geq=>φ (.bool (!Op.bytesLess a.data.toList b.data.toList))
   | .leq=>φ (.bool (!Op.bytesLess b.data.toList a.data.toList))
   | .gtr=>φ (.bool (Op.bytesLess b.data.toList a.data.toList))
   | _=>False
 | _,_=>False
def dZ (op:BinOp) (x y:AV) (φ:AV→Prop):Prop:=
 match x,y with
 | .int k a,.int _ b=>0≤b∧
   match op with
   | .shl=>φ (.int k (k.wrap (a * 2 ^ (min b.toNat k.bits))))
   | .shr=>φ (.int k (a.fdiv (2 ^ (min b.toNat k.bits))))
   | _=>False
 | _,_=>False
def cV (neq:Bool) (x y:AV) (φ:AV→Prop):Prop:=
 match x,y with
 | .bool a,.bool b=>φ (.bool (if neq then decide (a≠b) else decide (a=b)))
 | _,_=>False
def isNil (kd:Nat) (x:AV):Option Bool:=
 match kd,x with
 | 0,.ah=>some true
 | 0,.al _ (_::_)=>some false
 | 0,.bc _ _ _ _=>some false
 | 1,.sd=>some true
 | 1,.ptr _ _=>some false
 | 1,.ai _=>some false
 | 2,.jd=>some true
 | 2,.map _=>some false
 | 3,.fQ=>some true
 | 3,.fn _ _ _=>some false
 | _,_=>none
def cZ (kd:Nat) (neq:Bool) (x:AV) (φ:AV→Prop):Prop:=
 match isNil kd x with
 | some b=>φ (.bool (if neq then !b else b))
 | none=>match kd,x with
   | 0,.al _ []=>φ (.bool true)∧φ (.bool false)
   | _,_=>False
def Ag (op:UnOp) (x:AV) (φ:AV→Prop):Prop:=
 match op,x with
 | .not,.bool b=>φ (.bool (!b))
 | .neg,.int k n=>φ (.int k (k.wrap (0 - n)))
 | _,_=>False
def gO (zs:List AV):List (Nat×Nat×AV)→(List AV→Prop)→Prop
 | [],φ=>φ zs
 | (off,sz,x)::r,φ=>x.val=true∧x.cells.length=sz∧off + sz≤zs.length∧gO (ag zs off (x.cells.map AV.ab)) r φ
def aQ (sz:Option Nat) (x:AV) (H:List aa) (φ:AV→Prop):Prop:=
 match x with
 | .ptr id off=>match H[id]? with
   | some (.cells es)=>match sz with
     | some m=>off + m≤es.length∧φ (.agg (((es.drop off).take m).map AV.drop))
     | none=>off < es.length∧φ (es.getD off .any).ab
   | _=>False
 | .ai y=>match sz with
   | some m=>y.cells.length=m∧φ (.agg y.cells)
   | none=>y.one=true∧φ y.ab
 | _=>False
def apart (off:Nat) (sz:Option Nat) (xs:List AV) (φ:AV→Prop):Prop:=
 match sz with
 | some m=>off + m≤xs.length∧φ (.agg ((xs.drop off).take m))
 | none=>off < xs.length∧(xs.getD off .any).one=true∧φ (xs.getD off .any)
def ak (off:Nat) (sz:Option Nat) (x:AV) (φ:AV→Prop):Prop:=
 match x with
 | .ptr id o=>φ (.ptr id (o + off))
 | .ai y=>apart off sz y.cells fun z=>φ (.ai z)
 | _=>False
def eZ (off:Nat) (sz:Option Nat) (x:AV) (φ:AV→Prop):Prop:=
 match x with
 | .agg xs=>apart off sz xs fun z=>φ z.drop
 | _=>False
def ax (esz:Nat) (x i:AV) (φ:AV→Prop):Prop:=
 match x,i with
 | .al _ xs,.int _ i=>0≤i∧i.toNat < xs.length∧φ (.ai (xs.getD i.toNat .any))
 | .bc id off len _,.int _ i=>0≤i∧i.toNat < len∧φ (.ptr id (off + i.toNat * esz))
 | _,_=>False
def bT (n:Nat) (x i:AV) (φ:AV→Prop):Prop:=
 match x,i with
 | .agg xs,.int _ i=>xs.length=n∧0≤i∧i.toNat < n∧φ (xs.getD i.toNat .any).drop
 | _,_=>False
def bK (x i:AV) (φ:AV→Prop):Prop:=
 match x,i with
 | .str s,.int _ i=>0≤i∧i.toNat < s.size∧φ (.int .u8 (s.data.toList.getD i.toNat 0).toNat)
 | _,_=>False
def fx (x:AV) (H:List aa) (φ:AV→Prop):Prop:=
 match x with
 | .str s=>φ (.int .i64 s.size)
 | .ah=>φ (.int .i64 0)
 | .al _ xs=>xs.length < 9223372036854775808→φ (.int .i64 xs.length)
 | .bc _ _ len _=>φ (.int .i64 len)
 | .pe=>φ (.int .i64 0)
 | .jd=>φ (.int .i64 0)
 | .map id=>match H[id]? with
   | some (.map es)=>φ (.int .i64 es.length)
   | _=>False
 | _=>False
def bF (x:AV) (i:Nat) (φ:AV→Prop):Prop:=
 match x with
 | .tuple xs=>i < xs.length∧φ (xs.getD i .any).ab
 | _=>False
def bU (x:AV) (φ:AV→Prop):Prop:=
 match x with
 | .ptr .. | .ai _=>φ x
 | .fn (.func _) _ _=>φ x
 | _=>False
def cF (k:IntKind) (x:AV) (φ:AV→Prop):Prop:=
 match x with
 | .int _ n=>φ (.int k (k.wrap n))
 | _=>False
def xN (big:Bool) (x y:AV) (φ:AV→Prop):Prop:=
 match x,y with
 | .int k a,.int _ b=>φ (.int k (if big then (if b > a then b else a) else (if b < a then b else a)))
 | _,_=>False
section
variable {P:Program} {w:World} {M:Mem} {L:List Nat} {H:List aa}
theorem l9:∀ x y:List UInt8,(Op.bytesLess x y || x == y)=!Op.bytesLess y x
 | [],[]=>rfl
 | [],b::y=>by simp [Op.bytesLess]
 | a::x,[]=>by simp [Op.bytesLess]
 | a::x,b::y=>by
   have ih:=l9 x y
   simp only [Op.bytesLess,List.cons_beq_cons]
   rcases Nat.lt_trichotomy a.toNat b.toNat with h | h | h
   ·have h1:a < b:=UInt8.lt_iff_toNat_lt.2 h
    have h2:¬ b < a:=fun h'=>by have:=UInt8.lt_iff_toNat_lt.1 h';omega
    have h3:(b == a)=false:=by
     rw [beq_eq_false_iff_ne];rintro rfl;omega
    simp [h1,h2,h3]
   ·have h0:a=b:=UInt8.toNat_inj.1 h
    subst h0
    simp [ih]
   ·have h1:b < a:=UInt8.lt_iff_toNat_lt.2 h
    have h2:¬ a < b:=fun h'=>by have:=UInt8.lt_iff_toNat_lt.1 h';omega
    have h3:(a == b)=false:=by
     rw [beq_eq_false_iff_ne];rintro rfl;omega
    simp [h1,h2,h3]
theorem Ce (a b:ByteArray):(a.toList == b.toList)=decide (a=b):=by
 rw [ByteArray.toList_eq,ByteArray.toList_eq]
 by_cases e:a=b
 ·subst e;simp
 ·have h0:¬ a.data.toList=b.data.toList:=fun h=>e (by cases a;cases b;simp_all [Array.toList_inj])
  rw [show (a.data.toList == b.data.toList)=false from beq_eq_false_iff_ne.2 h0]
  simp [e]
theorem qy {α:Type} [DecidableEq α] (a b:α):(a == b)=decide (a=b):=by
 by_cases h:a=b <;> simp [h]
theorem JY {op:BinOp} {t:TypeId} {u v:Value} {x y:AV} {φ:AV→Prop} (h:dg op x y φ) (hu:aS M L u x) (hv:aS M L v y) (X Y:Operand) :
 ∃ r z,(do eqGuard op t X Y u v;binOp op t u v:Sem Value).run P w=.ok r w∧aS M L r z∧φ z∧∀ own xs,z=.al own xs→own=0:=by
 have guard_int:∀ (k k':IntKind) (a b:Int),(eqGuard op t X Y (.int k a) (.int k' b)).run P w=.ok () w:=by
  intro k k' a b;unfold eqGuard;cases op <;> rfl
 have guard_str:∀ (a b:ByteArray),(eqGuard op t X Y (.string a) (.string b)).run P w=.ok () w:=by
  intro a b;unfold eqGuard;cases op <;> rfl
 unfold dg at h
 split at h
 ·rename_i k a k' b
  cases hu;cases hv
  obtain ⟨rfl,h⟩:=h
  simp only [Sem.run_bind,guard_int,Result.andThen_ok]
  cases op <;> simp only at h <;> first
   | exact h.elim
   | exact ⟨_,_,rfl,.int _ _,h,by intro _ _ e;cases e⟩
   | (obtain ⟨h0,h⟩:=h
      refine ⟨_,_,?_,.int _ _,h,by intro _ _ e;cases e⟩
      simp [binOp,Op.intDiv,h0];done)
   | skip
  all_goals first
   | (refine ⟨_,_,?_,.int _ _,h,by intro _ _ e;cases e⟩
      simp [binOp,Op.intArith,Op.intBits];done)
   | (refine ⟨_,_,?_,.bool _,h,by intro _ _ e;cases e⟩
      simp [binOp,Op.intCmp];done)
   | skip
  all_goals
   refine ⟨_,_,?_,.bool _,h,by intro _ _ e;cases e⟩
   simp [binOp,Op.intCmp,bne,qy]
 ·rename_i a b
  cases hu;cases hv
  simp only [Sem.run_bind,guard_str,Result.andThen_ok]
  cases op <;> simp only at h <;> first
   | exact h.elim
   | skip
  ·obtain ⟨h0,h⟩:=h
   refine ⟨_,_,?_,.str _,h,by intro _ _ e;cases e⟩
   have:¬ ((a.size + b.size:Nat):Int) > IntKind.i64.max:=by
    have:IntKind.i64.max=9223372036854775807:=rfl
    rw [this];omega
   simp only [binOp,Op.stringOp,this,if_false,Sem.run_pure]
  ·exact ⟨_,_,rfl,.bool _,by rw [Ce];exact h,by intro _ _ e;cases e⟩
  ·exact ⟨_,_,rfl,.bool _,by rw [Ce];simpa using h,by intro _ _ e;cases e⟩
  ·exact ⟨_,_,rfl,.bool _,by rw [ByteArray.toList_eq,ByteArray.toList_eq];exact h,by intro _ _ e;cases e⟩
  ·exact ⟨_,_,rfl,.bool _,by rw [ByteArray.toList_eq,ByteArray.toList_eq,l9];exact h,by intro _ _ e;cases e⟩
  ·exact ⟨_,_,rfl,.bool _,by rw [ByteArray.toList_eq,ByteArray.toList_eq,l9,Bool.not_not];exact h,by intro _ _ e;cases e⟩
  ·exact ⟨_,_,rfl,.bool _,by rw [ByteArray.toList_eq,ByteArray.toList_eq];exact h,by intro _ _ e;cases e⟩
 ·exact h.elim
theorem vv {op:BinOp} {t:TypeId} {u v:Value} {x y:AV} {φ:AV→Prop} (h:dZ op x y φ) (hu:aS M L u x) (hv:aS M L v y) (X Y:Operand) :
 ∃ r z,(do eqGuard op t X Y u v;binOp op t u v:Sem Value).run P w=.ok r w∧aS M L r z∧φ z∧∀ own xs,z=.al own xs→own=0:=by
 unfold dZ at h
 split at h
 ·rename_i k a k' b
  cases hu;cases hv
  obtain ⟨h0,h⟩:=h
  have guard_int:(eqGuard op t X Y (.int k a) (.int k' b)).run P w=.ok () w:=by
   unfold eqGuard;cases op <;> rfl
  simp only [Sem.run_bind,guard_int,Result.andThen_ok]
  have hn:¬ b < 0:=by omega
  cases op <;> simp only at h <;> first
   | exact h.elim
   | (refine ⟨_,_,?_,.int _ _,h,by intro _ _ e;cases e⟩
      simp [binOp,Op.shift,hn];done)
 ·exact h.elim
theorem run_equalIn_bool (d:Nat) {t:TypeId} (ht:P.underlying t=some .bool) (a b:Bool):(Op.equalIn (d + 1) t (.bool a) (.bool b)).run P w=.ok (a == b) w:=by
 simp only [Op.equalIn,Sem.run_bind,run_underlying ht,Result.andThen_ok,Sem.run_pure]
theorem run_equal_bool {t:TypeId} (ht:P.underlying t=some .bool) (a b:Bool):(Op.equal t (.bool a) (.bool b)).run P w=.ok (a == b) w:=run_equalIn_bool 9999 ht a b
theorem tA {neq:Bool} {t:TypeId} (ht:P.underlying t=some .bool) {u v:Value} {x y:AV} {φ:AV→Prop} (h:cV neq x y φ) (hu:aS M L u x) (hv:aS M L v y) (X Y:Operand) :
 ∃ r z,(do eqGuard (if neq then .neq else .eql) t X Y u v;binOp (if neq then .neq else .eql) t u v:Sem Value).run P w=.ok r w∧aS M L r z∧φ z∧∀ own xs,z=.al own xs→own=0:=by
 unfold cV at h
 split at h
 ·rename_i a b
  cases hu;cases hv
  cases neq
  ·refine ⟨_,.bool (a == b),?_,.bool (a == b),?_,by intro _ _ e;cases e⟩
   ·simp only [Bool.false_eq_true,if_false,Sem.run_bind,eqGuard,Sem.run_pure,Result.andThen_ok,binOp,run_equal_bool ht];rfl
   ·rw [qy];exact h
  ·refine ⟨_,.bool (!(a == b)),?_,.bool (!(a == b)),?_,by intro _ _ e;cases e⟩
   ·simp only [if_true,Sem.run_bind,eqGuard,Sem.run_pure,Result.andThen_ok,binOp,run_equal_bool ht];rfl
   ·rw [qy];simpa using h
 ·exact h.elim
theorem NM {op:UnOp} {u:Value} {x:AV} {φ:AV→Prop} (h:Ag op x φ) (hu:aS M L u x) :
 ∃ r z,(Op.unary op u).run P w=.ok r w∧aS M L r z∧φ z∧∀ own xs,z=.al own xs→own=0:=by
 unfold Ag at h
 split at h
 ·cases hu;exact ⟨_,_,rfl,.bool _,h,by intro _ _ e;cases e⟩
 ·cases hu;exact ⟨_,_,rfl,.int _ _,h,by intro _ _ e;cases e⟩
 ·exact h.elim
theorem iD {cs:List Value} {b off:Nat} (hm:M.row b off cs) (je:∀ b o v,M b o=some v→w.cell? ⟨b,o,none⟩=some v) :
 ∀ j v,cs[j]?=some v→w.cell? ((⟨b,off,none⟩:Addr).add j)=some v:=by
 intro j v hv
 rw [Addr.add_lit]
 exact je _ _ _ (hm j v hv)
theorem eJ {t:TypeId} {m:Nat} (h:JG P t=some none):(isAgg t).run P w=.ok false w∧(P.info? t).map (·.size)=some 1:=by
 unfold JG at h
 split at h <;> try cases h
 rename_i i d h1 h2 hi hd
 split at h
 ·rename_i h3
  refine ⟨?_,by simp [hi,h3]⟩
  simp only [isAgg,Sem.run_bind,run_underlying hd,Result.andThen_ok]
  cases d <;> first | rfl | (exact absurd rfl (h1 _)) | (exact absurd rfl (h2 _ _))
 ·cases h
theorem jR {t:TypeId} {m:Nat} (h:JG P t=some (some m)):(isAgg t).run P w=.ok true w∧(sizeOf t).run P w=.ok m w:=by
 unfold JG at h
 split at h <;> try cases h
 ·rename_i i f hi hd
  refine ⟨?_,?_⟩
  ·simp only [isAgg,Sem.run_bind,run_underlying hd,Result.andThen_ok];rfl
  ·simp [sizeOf,typeInfo,hi]
 ·rename_i i l e hi hd
  refine ⟨?_,?_⟩
  ·simp only [isAgg,Sem.run_bind,run_underlying hd,Result.andThen_ok];rfl
  ·simp [sizeOf,typeInfo,hi]
 ·split at h <;> cases h
end
end Go.aL
end
section
namespace Go.aL
open Go
section
variable {P:Program} {w:World} {M:Mem} {L:List Nat} {H:List aa} {A:Perm} {ev:Nat→Value} {ea:Nat→AV} {O:Pos→Option Nat}
theorem fy (hs:St A M L w H ev ea O) {id b:Nat} {es:List AV} (bp:H[id]?=some (.cells es)) (hL:L[id]?=some b) :
 ∃ cs e,w.heap[b]?=some (.cells cs e (0,0))∧aM M L cs.toList es∧∀ j v,cs.toList[j]?=some v→w.cell? ⟨b,j,none⟩=some v:=by
 obtain ⟨cs,e,h1,h2,_⟩:=hs.obj id _ b bp hL
 exact ⟨cs,e,h1,h2,fun j v hv=>by simpa [World.cell?,h1] using hv⟩
theorem dy {α:Type} (l:List α) (off m j:Nat) (v:α) (h:((l.drop off).take m)[j]?=some v):l[off + j]?=some v:=by
 rw [List.getElem?_take] at h
 split at h
 ·rwa [List.getElem?_drop] at h
 ·cases h
theorem sj {sz:Option Nat} {t:TypeId} (ht:JG P t=some sz) {u:Value} {x:AV} {φ:AV→Prop} (hs:St A M L w H ev ea O) (h:aQ sz x H φ) (hu:aS M L u x) :
 ∃ r z,(Instr.loadAt t u).run P w=.ok r w∧aS M L r z∧φ z∧∀ own xs,z=.al own xs→own=0:=by
 unfold aQ at h
 split at h
 ·rename_i id off
  cases hu with
  | ptr b _ _ hl=>
  split at h
  ·rename_i es bp
   obtain ⟨cs,e,h1,h2,h3⟩:=fy hs bp hl
   have hlen:=h2.length
   cases sz with
   | some m=>
     obtain ⟨hm,hφ⟩:=h
     obtain ⟨r1,r2⟩:=jR (w:=w) ht
     have jc:((cs.toList.drop off).take m).length=m:=by simp at hlen ⊢;omega
     have JZ:=run_loadCells_list (P:=P) w ⟨b,off,none⟩ ((cs.toList.drop off).take m) (fun j v hv=>by rw [Addr.add_lit];exact h3 _ _ (dy _ _ _ _ _ hv))
     rw [jc] at JZ
     refine ⟨.agg ((cs.toList.drop off).take m).toArray,.agg (((es.drop off).take m).map AV.drop),?_,?_,hφ,by intro _ _ e;cases e⟩
     ·simp only [Instr.loadAt,Instr.sureAddr,loadVar,Sem.run_bind,Sem.run_pure,Result.andThen_ok,r1,if_true,r2,JZ]
     ·have:=aS.agg _ _ (((h2.drop off).take m).map_drop)
      simpa using this
   | none=>
     obtain ⟨hm,hφ⟩:=h
     obtain ⟨r1,r2⟩:=eJ (w:=w) (m:=0) ht
     have pg:off < cs.toList.length:=by omega
     have hcell:=h3 off cs.toList[off] (by simp)
     have fL:=h2.getD off
     refine ⟨cs.toList[off],_,?_,?_,hφ,AV.bL _⟩
     ·simp only [Instr.loadAt,Instr.sureAddr,loadVar,Sem.run_bind,Sem.run_pure,Result.andThen_ok,r1,Bool.false_eq_true,if_false,run_load,hcell]
     ·have e0:cs.toList.getD off undef=cs.toList[off]:=by rw [List.getD_eq_getElem?_getD,List.getElem?_eq_getElem pg];rfl
      rw [e0] at fL
      exact fL.ab
  ·exact h.elim
 ·rename_i y
  cases hu with
  | ai b off cs _ hr hm=>
  have hcells:=iD hm hs.mem
  cases sz with
  | some m=>
    obtain ⟨NN,hφ⟩:=h
    obtain ⟨r1,r2⟩:=jR (w:=w) ht
    have jc:cs.length=m:=hr.length.trans NN
    have JZ:=run_loadCells_list (P:=P) w ⟨b,off,none⟩ cs hcells
    rw [jc] at JZ
    refine ⟨.agg cs.toArray,.agg y.cells,?_,.agg cs y.cells hr,hφ,by intro _ _ e;cases e⟩
    simp only [Instr.loadAt,Instr.sureAddr,loadVar,Sem.run_bind,Sem.run_pure,Result.andThen_ok,r1,if_true,r2,JZ]
  | none=>
    obtain ⟨NN,hφ⟩:=h
    obtain ⟨r1,r2⟩:=eJ (w:=w) (m:=0) ht
    have hy:y.cells=[y]:=by cases y <;> first | rfl | simp [AV.one] at NN
    rw [hy] at hr
    obtain ⟨v,rfl,hv⟩:=hr.Gx
    have hcell:=hcells 0 v (by simp)
    rw [Addr.add_lit,Nat.add_zero] at hcell
    refine ⟨v,_,?_,hv.ab,hφ,AV.bL _⟩
    simp only [Instr.loadAt,Instr.sureAddr,loadVar,Sem.run_bind,Sem.run_pure,Result.andThen_ok,r1,Bool.false_eq_true,if_false,run_load,hcell]
 ·exact h.elim
def sk (P:Program) (s:TypeId) (f:Nat):Option (Nat×Option Nat):=
 match P.underlying s with
 | some (.struct fields)=>match fields[f]? with
   | some fd=>match JG P fd.type,dP P fd.type with
     | some sz,some k=>if k=0 then none else some (fd.offset,sz)
     | _,_=>none
   | none=>none
 | _=>none
theorem tB {s:TypeId} {f off:Nat} {sz:Option Nat} (h:sk P s f=some (off,sz)) :
 ∃ fields fd k,P.underlying s=some (.struct fields)∧fields[f]?=some fd∧fd.offset=off∧JG P fd.type=some sz∧(P.info? fd.type).map (·.size)=some k∧k≠0:=by
 unfold sk at h
 split at h <;> try cases h
 rename_i fields hu
 split at h <;> try cases h
 rename_i fd hf
 split at h <;> try cases h
 rename_i sz' k hs hk
 split at h <;> cases h
 rename_i HS
 exact ⟨fields,fd,k,hu,hf,rfl,hs,hk,HS⟩
theorem vw {s:TypeId} {f off:Nat} {sz:Option Nat} (ht:sk P s f=some (off,sz)) {u:Value} {x:AV} {φ:AV→Prop} (h:ak off sz x φ) (hu:aS M L u x) :
 ∃ r z,(Instr.fieldAt s u f).run P w=.ok r w∧aS M L r z∧φ z∧∀ own xs,z=.al own xs→own=0:=by
 obtain ⟨fields,fd,k,J0,hf,rfl,hs,hk,HS⟩:=tB ht
 have bJ:∀ b o,(Instr.fieldAt s (.pointer (some ⟨b,o,none⟩)) f).run P w=.ok (.pointer (some ⟨b,o + fd.offset,none⟩)) w:=by
  intro b o
  obtain ⟨i,hi,NO⟩:=Option.map_eq_some_iff.1 hk
  have dc:(sizeOf fd.type).run P w=.ok k w:=by simp [sizeOf,typeInfo,hi,NO]
  simp only [Instr.fieldAt,Instr.sureAddr,Sem.run_bind,run_underlying J0,Result.andThen_ok,hf,Sem.run_pure,fieldPlace,dc,HS,if_false,Addr.add_lit]
 unfold ak at h
 split at h
 ·rename_i id o
  cases hu with
  | ptr b _ _ hl=>exact ⟨_,_,bJ b o,.ptr b (o + fd.offset) id hl,h,by intro _ _ e;cases e⟩
 ·rename_i y
  cases hu with
  | ai b o cs _ hr hm=>
  refine ⟨.pointer (some ⟨b,o + fd.offset,none⟩),?_⟩
  unfold apart at h
  cases sz with
  | some m=>
    obtain ⟨hle,hφ⟩:=h
    refine ⟨_,bJ b o,.ai b (o + fd.offset) ((cs.drop fd.offset).take m) _ (by simpa [AV.cells] using (hr.drop fd.offset).take m) ?_,hφ,by intro _ _ e;cases e⟩
    intro j v hv
    have:=hm _ _ (dy _ _ _ _ _ hv)
    rwa [← Nat.add_assoc] at this
  | none=>
    obtain ⟨hle,h1,hφ⟩:=h
    have hl:=hr.length
    have pg:fd.offset < cs.length:=by omega
    have hx:∃ z,y.cells[fd.offset]?=some z:=⟨_,List.getElem?_eq_getElem hle⟩
    obtain ⟨z,hz⟩:=hx
    obtain ⟨v,hv,fL⟩:=hr.get _ z hz
    have e0:y.cells.getD fd.offset .any=z:=by rw [List.getD_eq_getElem?_getD,hz];rfl
    rw [e0] at hφ h1
    have hag:z.cells=[z]:=by cases z <;> first | rfl | simp [AV.one] at h1
    refine ⟨_,bJ b o,.ai b (o + fd.offset) [v] z (by rw [hag];exact .one fL) ?_,hφ,by intro _ _ e;cases e⟩
    intro j u' HT
    cases j with
    | zero=>simp at HT;subst HT;simpa using hm _ _ hv
    | succ j=>simp at HT
 ·exact h.elim
theorem ED {s:TypeId} {f off:Nat} {sz:Option Nat} (ht:sk P s f=some (off,sz)) {u:Value} {x:AV} {φ:AV→Prop} (h:eZ off sz x φ) (hu:aS M L u x) :
 ∃ r z,(Instr.field s u f).run P w=.ok r w∧aS M L r z∧φ z∧∀ own xs,z=.al own xs→own=0:=by
 obtain ⟨fields,fd,k,J0,hf,rfl,hs,hk,HS⟩:=tB ht
 unfold eZ at h
 split at h
 ·rename_i xs
  cases hu with
  | agg cs _ hr=>
  unfold apart at h
  cases sz with
  | some m=>
    obtain ⟨hle,hφ⟩:=h
    obtain ⟨r1,r2⟩:=jR (w:=w) hs
    refine ⟨.agg ((cs.drop fd.offset).take m).toArray,_,?_,(aS.agg _ _ ((hr.drop fd.offset).take m)).drop,hφ,AV.jJ _⟩
    simp only [Instr.field,Sem.run_bind,run_underlying J0,Result.andThen_ok,hf,part,r1,if_true,asAgg,Sem.run_pure,r2]
    congr 2
    apply Array.ext'
    simp []
  | none=>
    obtain ⟨hle,h1,hφ⟩:=h
    obtain ⟨r1,r2⟩:=eJ (w:=w) (m:=0) hs
    have pg:fd.offset < cs.length:=by have:=hr.length;omega
    have fL:=hr.getD fd.offset
    have e0:cs.getD fd.offset undef=cs[fd.offset]:=by rw [List.getD_eq_getElem?_getD,List.getElem?_eq_getElem pg];rfl
    rw [e0] at fL
    refine ⟨cs[fd.offset],_,?_,fL.drop,hφ,AV.jJ _⟩
    simp [Instr.field,run_underlying J0,hf,part,r1,asAgg,pg]
 ·exact h.elim
theorem flat_get:∀ (xs:List AV) (e:Nat),(∀ x∈xs,x.cells.length=e)→∀ i j x,xs[i]?=some x→j < e→(flat xs)[i * e + j]?=x.cells[j]?
 | [],e,_,i,j,x,h,_=>by simp at h
 | y::ys,e,hx,0,j,x,h,hj=>by
   simp at h;subst h
   have:=hx y (by simp)
   simp only [flat,List.flatMap_cons,Nat.zero_mul,Nat.zero_add]
   rw [List.getElem?_append_left (by omega)]
 | y::ys,e,hx,i + 1,j,x,h,hj=>by
   have hy:=hx y (by simp)
   have ih:=flat_get ys e (fun x h=>hx x (by simp [h])) i j x (by simpa using h) hj
   simp only [flat,List.flatMap_cons]
   rw [List.getElem?_append_right (by rw [hy,Nat.add_mul];omega),hy,show (i + 1) * e + j - e=i * e + j by rw [Nat.add_mul];omega]
   exact ih
theorem J1 {b off e:Nat} {cs:List Value} {xs:List AV} (hx:∀ x∈xs,x.cells.length=e) (hr:aM M L cs (flat xs)) (hm:M.row b off cs) {i:Nat} {x:AV} (hi:xs[i]?=some x) :
 aS M L (.pointer (some ⟨b,off + i * e,none⟩)) (.ai x):=by
 have hlen:=hx x (List.mem_of_getElem? hi)
 refine .ai b (off + i * e) ((cs.drop (i * e)).take e) x ?_ ?_
 ·have h2:=(hr.drop (i * e)).take e
  have:((flat xs).drop (i * e)).take e=x.cells:=by
   apply List.ext_getElem?
   intro j
   rw [List.getElem?_take]
   split
   ·rename_i hj
    rw [List.getElem?_drop,flat_get xs e hx i j x hi hj]
   ·rename_i hj
    rw [List.getElem?_eq_none (by omega)]
  rwa [this] at h2
 ·intro j v hv
  have:=hm _ _ (dy _ _ _ _ _ hv)
  rwa [← Nat.add_assoc] at this
theorem vx {t e esz:Nat} (ht:P.underlying t=some (.slice e)) (hz:dP P e=some esz) {u v:Value} {x y:AV} {φ:AV→Prop} (h:ax esz x y φ)
 (Sq:∀ own xs,x=.al own xs→∀ z∈xs,z.cells.length=esz) (hu:aS M L u x) (hv:aS M L v y) :
 ∃ r z,(Instr.indexAt t u v).run P w=.ok r w∧aS M L r z∧φ z∧∀ own xs,z=.al own xs→own=0:=by
 have dc:(sizeOf e).run P w=.ok esz w:=by
  obtain ⟨i,hi,NO⟩:=Option.map_eq_some_iff.1 hz
  simp [sizeOf,typeInfo,hi,NO]
 have bJ:∀ (b o len cap:Nat) (k:IntKind) (i:Int),0≤i→i.toNat < len→(Instr.indexAt t (.slice (some ⟨b,o,none⟩) len cap) (.int k i)).run P w=.ok (.pointer (some ⟨b,o + i.toNat * esz,none⟩)) w:=by
  intro b o len cap k i h0 h1
  have hc:0≤i∧i < (len:Int):=⟨h0,by omega⟩
  simp only [Instr.indexAt,asIntOf,Sem.run_bind,Sem.run_pure,Result.andThen_ok,run_underlying ht,hc,and_self,if_true,dc,Addr.add_lit]
 unfold ax at h
 split at h
 ·rename_i own xs k i
  obtain ⟨h0,h1,hφ⟩:=h
  cases hv
  have hi:xs[i.toNat]?=some (xs.getD i.toNat .any):=by rw [List.getD_eq_getElem?_getD,List.getElem?_eq_getElem h1];rfl
  cases hu with
  | gL=>simp at h1
  | al b off c _ e' cs _ he hx hn hle hc hr hm=>
    have e0:e'=esz:=by
     have h2:=hx _ (List.mem_of_getElem? hi)
     have h3:=Sq own xs rfl _ (List.mem_of_getElem? hi)
     omega
    subst e0
    exact ⟨_,_,bJ b off _ c _ i h0 h1,J1 hx hr hm hi,hφ,by intro _ _ e;cases e⟩
 ·rename_i id off len cap k i
  obtain ⟨h0,h1,hφ⟩:=h
  cases hv
  cases hu with
  | bc b _ _ _ _ hl hc=>exact ⟨_,_,bJ b off len cap _ i h0 h1,.ptr b _ id hl,hφ,by intro _ _ e;cases e⟩
 ·exact h.elim
theorem xO {t e:TypeId} {n:Nat} (ht:P.underlying t=some (.array n e)) (he:JG P e=some none) {u v:Value} {x y:AV} {φ:AV→Prop} (h:bT n x y φ) (hu:aS M L u x) (hv:aS M L v y) :
 ∃ r z,(Instr.index t u v).run P w=.ok r w∧aS M L r z∧φ z∧∀ own xs,z=.al own xs→own=0:=by
 unfold bT at h
 split at h
 ·rename_i xs k i
  obtain ⟨hn,h0,h1,hφ⟩:=h
  cases hv
  cases hu with
  | agg cs _ hr=>
  obtain ⟨r1,r2⟩:=eJ (w:=w) (m:=1) he
  have xP:i.toNat < cs.length:=by have:=hr.length;omega
  have fL:=hr.getD i.toNat
  have e0:cs.getD i.toNat undef=cs[i.toNat]:=by rw [List.getD_eq_getElem?_getD,List.getElem?_eq_getElem xP];rfl
  rw [e0] at fL
  refine ⟨cs[i.toNat],_,?_,fL.drop,hφ,AV.jJ _⟩
  have aK:i < (n:Int):=by omega
  obtain ⟨inf,jf,dc⟩:=Option.map_eq_some_iff.1 r2
  have rz:(sizeOf e).run P w=.ok 1 w:=by simp [sizeOf,typeInfo,jf,dc]
  simp [Instr.index,asIntOf,run_underlying ht,h0,aK,part,r1,rz,xP]
 ·exact h.elim
theorem xQ {t:TypeId} (ht:P.underlying t=some .string) {u v:Value} {x y:AV} {φ:AV→Prop} (h:bK x y φ) (hu:aS M L u x) (hv:aS M L v y) :
 ∃ r z,(Instr.index t u v).run P w=.ok r w∧aS M L r z∧φ z∧∀ own xs,z=.al own xs→own=0:=by
 unfold bK at h
 split at h
 ·rename_i s k i
  obtain ⟨h0,h1,hφ⟩:=h
  cases hu;cases hv
  have e1:s[i.toNat]?=some s[i.toNat]:=by simp [h1]
  have e2:s.data.toList.getD i.toNat 0=s[i.toNat]:=by
   have:i.toNat < s.data.size:=h1
   rw [List.getD_eq_getElem?_getD,Array.getElem?_toList,Array.getElem?_eq_getElem this];rfl
  rw [e2] at hφ
  refine ⟨_,_,?_,.int _ _,hφ,by intro _ _ e;cases e⟩
  simp only [Instr.index,asIntOf,Sem.run_bind,Sem.run_pure,Result.andThen_ok,run_underlying ht,h0,if_true,e1]
 ·exact h.elim
def jg (d:TypeDesc) (x:AV):Bool:=
 match d,x with
 | .string,.str _=>true
 | .slice _,.ah=>true
 | .slice _,.al _ _=>true
 | .slice _,.bc _ _ _ _=>true
 | .slice _,.pe=>true
 | .map _ _,.jd=>true
 | .map _ _,.map _=>true
 | _,_=>false
theorem J2 {t:TypeId} {d:TypeDesc} (ht:P.underlying t=some d) {u:Value} {x:AV} {φ:AV→Prop} (hs:St A M L w H ev ea O)
 (hk:jg d x=true)
 (h:fx x H φ) (hu:aS M L u x) (ty:TypeId) :
 ∃ r z,(Builtin.len_ #[t] ty #[u]).run P w=.ok r w∧aS M L r z∧φ z∧∀ own xs,z=.al own xs→own=0:=by
 unfold fx at h
 split at h
 ·cases hu
  cases d <;> simp [jg] at hk
  exact ⟨_,_,by simp [Builtin.len_,run_underlying ht,goInt],.int _ _,h,by intro _ _ e;cases e⟩
 ·cases hu
  cases d <;> simp [jg] at hk
  exact ⟨_,_,by simp [Builtin.len_,run_underlying ht,goInt],.int _ _,h,by intro _ _ e;cases e⟩
 ·rename_i own xs
  cases d <;> simp [jg] at hk
  cases hu with
  | gL a c _ hc=>exact ⟨_,_,by simp [Builtin.len_,run_underlying ht,goInt],.int _ _,h (by decide),by intro _ _ e;cases e⟩
  | al b off c _ e' cs _ he hx hn hle hc hr hm=>exact ⟨_,_,by simp [Builtin.len_,run_underlying ht,goInt],.int _ _,h (by omega),by intro _ _ e;cases e⟩
 ·cases d <;> simp [jg] at hk
  cases hu with
  | bc b off len cap id hl hc=>exact ⟨_,_,by simp [Builtin.len_,run_underlying ht,goInt],.int _ _,h,by intro _ _ e;cases e⟩
 ·cases d <;> simp [jg] at hk
  cases hu with
  | pe a=>exact ⟨_,_,by simp [Builtin.len_,run_underlying ht,goInt],.int _ _,h,by intro _ _ e;cases e⟩
 ·cases d <;> simp [jg] at hk
  cases hu
  exact ⟨_,_,by simp [Builtin.len_,run_underlying ht,goInt],.int _ _,h,by intro _ _ e;cases e⟩
 ·rename_i id
  cases d <;> simp [jg] at hk
  cases hu with
  | map b _ hl=>
  split at h
  ·rename_i es bp
   obtain ⟨ents,ck,h1,h2,h3⟩:=hs.obj id _ b bp hl
   have hlen:ents.size=es.length:=by have:=h2.length;simpa using this
   refine ⟨_,_,?_,.int _ _,h,by intro _ _ e;cases e⟩
   simp [Builtin.len_,run_underlying ht,goInt,getObj,Sem.run,h1,hlen]
  ·exact h.elim
 ·exact h.elim
theorem Ah {i:Nat} {u:Value} {x:AV} {φ:AV→Prop} (h:bF x i φ) (hu:aS M L u x) :
 ∃ r z,(Instr.extract u i).run P w=.ok r w∧aS M L r z∧φ z∧∀ own xs,z=.al own xs→own=0:=by
 unfold bF at h
 split at h
 ·rename_i xs
  obtain ⟨hi,hφ⟩:=h
  cases hu with
  | tuple cs _ hr=>
  have hl:=hr.length
  have fL:=hr.getD i
  have e0:cs.getD i undef=cs[i]:=by rw [List.getD_eq_getElem?_getD,List.getElem?_eq_getElem (by omega)];rfl
  rw [e0] at fL
  exact ⟨_,_,by simp [Instr.extract,show i < cs.length by omega],fL.ab,hφ,AV.bL _⟩
 ·exact h.elim
theorem xR {o:Oper} {X:Operand} {ρ:Operand→Value} (ho:o.op=.nilCheck X) {x:AV} {φ:AV→Prop} (h:bU x φ) (hu:aS M L (ρ X) x) :
 ∃ r z,(execOp ρ o).run P w=.ok (.value r) w∧aS M L r z∧φ z∧∀ own xs,z=.al own xs→own=0:=by
 unfold bU at h
 simp only [execOp,ho]
 generalize hρ:ρ X=u at hu
 split at h
 ·cases hu;exact ⟨_,_,rfl,.ptr _ _ _ (by assumption),h,by intro _ _ e;cases e⟩
 ·cases hu;exact ⟨_,_,rfl,.ai _ _ _ _ (by assumption) (by assumption),h,by intro _ _ e;cases e⟩
 ·cases hu;exact ⟨_,_,rfl,.fn _ _ _ _ _ (by assumption) (by assumption),h,by intro _ _ e;cases e⟩
 ·exact h.elim
theorem Ai {src dst:TypeId} {d:TypeDesc} {k:IntKind} (hs:P.underlying src=some d) (hd:P.underlying dst=some (.int k)) {u:Value} {x:AV} {φ:AV→Prop} (h:cF k x φ) (hu:aS M L u x) :
 ∃ r z,(convert src dst u).run P w=.ok r w∧aS M L r z∧φ z∧∀ own xs,z=.al own xs→own=0:=by
 unfold cF at h
 split at h
 ·rename_i k' n'
  cases hu
  refine ⟨_,_,?_,.int _ _,h,by intro _ _ e;cases e⟩
  simp [convert,run_underlying hs,run_underlying hd,Conv.intToInt]
 ·exact h.elim
theorem GB {big:Bool} {u v:Value} {x y:AV} {φ:AV→Prop} (h:xN big x y φ) (hu:aS M L u x) (hv:aS M L v y) (ts:Array TypeId) (ty:TypeId) :
 ∃ r z,(if big then Builtin.max_ ts ty #[u,v] else Builtin.min_ ts ty #[u,v]).run P w=.ok r w∧aS M L r z∧φ z∧∀ own xs,z=.al own xs→own=0:=by
 unfold xN at h
 split at h
 ·cases hu;cases hv
  cases big
  ·exact ⟨_,_,rfl,.int _ _,h,by intro _ _ e;cases e⟩
  ·exact ⟨_,_,rfl,.int _ _,h,by intro _ _ e;cases e⟩
 ·exact h.elim
end
end Go.aL
end
section
namespace Go.aL
open Go
def cA (zero:List AV) (parts:List (Nat×Nat×AV)) (φ:AV→Prop):Prop:=gO zero parts fun xs=>φ (.agg xs)
def bj (xs:List AV) (esz:Nat):List (Nat×AV)→(List AV→Prop)→Prop
 | [],φ=>φ xs
 | (i,x)::r,φ=>x.val=true∧x.cells.length=esz∧i < xs.length∧bj (xs.set i (aT x)) esz r φ
where aT:AV→AV
 | .agg ys=>.agg (ys.map AV.drop)
 | x=>x.drop
abbrev aT:=bj.aT
section
variable {M:Mem} {L:List Nat}
theorem aS.aT {v:Value} {x:AV} (h:aS M L v x):aS M L v (aT x):=by
 cases x <;> first | exact h.drop | skip
 cases h with
 | agg cs _ hr=>exact .agg cs _ hr.map_drop
theorem fa (x:AV):(aT x).cells.length=x.cells.length:=by
 cases x <;> simp [bj.aT,AV.cells,AV.drop]
theorem sl {x:AV} (h:x.val=true):(aT x).val=true:=by
 cases x <;> simp_all [bj.aT,AV.val,AV.drop]
theorem EE (x:AV):∀ own xs,aT x=.al own xs→own=0:=by
 intro own xs h
 cases x <;> simp_all [bj.aT,AV.drop]
end
section
variable {P:Program} {w:World} {M:Mem} {L:List Nat} {H:List aa} {A:Perm} {ev:Nat→Value} {ea:Nat→AV} {O:Pos→Option Nat}
theorem HU (hs:St A M L w H ev ea O) (e:TypeId) {u:Value} {x:AV} (hu:aS M L u x) (hv:x.val=true) :
 ∃ r M' w',(Instr.box e u).run P w=.ok r w'∧aS M' L r (.ai x)∧St A M' L w' H ev ea O∧Ext A M w M' w':=by
 obtain ⟨h1,h2,h3⟩:=hs.EA u.cells e
 exact ⟨_,_,_,rfl,.ai _ _ _ _ ((hu.gl hv).mono h2.ln (List.prefix_refl _)) h3,h1,h2⟩
theorem Cf (hs:St A M L w H ev ea O) (e:TypeId) {u:Value} {x:AV} (hu:aS M L u x) (hv:x.val=true) (hb:aj (H.length + 1) (x.cells.map AV.ab)=true) :
 ∃ r L' w',(Instr.box e u).run P w=.ok r w'∧aS M L' r (.ptr H.length 0)∧St A M L' w' (H++[.cells (x.cells.map AV.ab)]) ev ea O∧Ext A M w M w'∧L <+: L':=by
 obtain ⟨h1,h2⟩:=hs.sf (.cells u.cells e) (.cells (x.cells.map AV.ab)) (fun w' hw hM=>⟨u.cells,e,hw,((hu.gl hv).dd).mono (Mem.bQ M) ⟨_,rfl⟩,hM⟩) hb (fun j=>by
  simp only [nI]
  refine bg.free ?_
  intro own xs h
  rw [List.getD_eq_getElem?_getD,List.getElem?_map] at h
  cases hx:x.cells[j]? with
  | none=>simp [hx] at h
  | some y=>simp [hx] at h;exact AV.bL y own xs h)
 refine ⟨_,_,_,rfl,.ptr _ _ _ ?_,h1,h2,⟨_,rfl⟩⟩
 rw [List.getElem?_append_right (by rw [hs.len];exact Nat.le_refl _),hs.len];simp
theorem EF (hs:St A M L w H ev ea O) {e:TypeId} {z:AV} (hz:fR P e=some z) (hv:z.val=true) (hb:aj (H.length + 1) (z.cells.map AV.ab)=true) :
 ∃ r L' w',(Instr.alloc e true (.tuple #[])).run P w=.ok r w'∧aS M L' r (.ptr H.length 0)∧St A M L' w' (H++[.cells (z.cells.map AV.ab)]) ev ea O∧Ext A M w M w'∧L <+: L':=by
 unfold fR at hz
 split at hz
 ·rename_i i hi
  split at hz
  ·rename_i v tC
   obtain ⟨r,L',w',h1,h2⟩:=Cf (P:=P) hs e (cM hz) hv hb
   refine ⟨r,L',w',?_,h2⟩
   rw [← h1]
   simp only [Instr.alloc,Instr.box,zeroValue,typeInfo,Sem.run_bind,run_program,Result.andThen_ok,hi,Sem.run_pure,tC]
  ·cases hz
 ·cases hz
theorem vz (vs:List Value):∀ (off k:Nat) (cs:Array Value),off + k + vs.length≤cs.size→
 ((vs.zipIdx k).foldl (fun cs (x:Value×Nat)=>cs.setIfInBounds (off + x.2) x.1) cs).toList=ag cs.toList (off + k) vs:=by
 induction vs with
 | nil=>intro off k cs h;simp [ag]
 | cons v vs ih=>
   intro off k cs h
   simp only [List.zipIdx_cons,List.foldl_cons]
   rw [ih off (k + 1) _ (by simp at h ⊢;omega)]
   simp only [Array.toList_setIfInBounds,ag]
   simp only [List.length_cons] at h
   apply List.ext_getElem?
   intro j
   simp only [List.getElem?_append,List.getElem?_take,List.length_take,List.length_set,Array.length_toList,List.getElem?_drop,List.length_cons]
   by_cases h1:j < off + k
   ·have:j < min (off + k) cs.size:=by omega
    have:j < min (off + (k + 1)) cs.size:=by omega
    simp only [*,if_true]
    rw [if_pos (by omega),List.getElem?_set_ne (by omega)]
   ·by_cases h2:j=off + k
    ·subst h2
     have:off + k < min (off + (k + 1)) cs.size:=by omega
     simp only [this,if_true]
     rw [if_pos (by omega),List.getElem?_set_self (by simp;omega),if_neg (by omega)]
     rw [show off + k - min (off + k) cs.size=0 by omega]
     simp
    ·have n1:¬ j < min (off + (k + 1)) cs.size:=by omega
     have n2:¬ j < min (off + k) cs.size:=by omega
     simp only [n1,n2,if_false]
     rw [show j - min (off + k) cs.size=(j - min (off + (k + 1)) cs.size) + 1 by omega]
     simp only [Nat.add_lt_add_iff_right,List.getElem?_cons_succ]
     split
     ·rfl
     ·rw [List.getElem?_set_ne (by omega)]
      congr 1
      omega
theorem yB {place:Nat→Option (Nat×Nat)}:∀ (parts:List (Nat×Nat×AV)) (vs:List (Nat×Value)) {cs:Array Value} {zs:List AV} {φ:List AV→Prop},
 (∀ (j:Nat) (p:Nat×Nat×AV),parts[j]?=some p→∃ i v,vs[j]?=some (i,v)∧place i=some (p.1,p.2.1)∧aS M L v p.2.2)→vs.length=parts.length→aM M L cs.toList zs→gO zs parts φ→
 ∃ cs' zs',Instr.fill place cs vs=some cs'∧aM M L cs'.toList zs'∧φ zs'
 | [],[],cs,zs,φ,_,_,hr,h=>⟨cs,zs,rfl,hr,h⟩
 | [],_::_,_,_,_,_,hl,_,_=>by simp at hl
 | _::_,[],_,_,_,_,hl,_,_=>by simp at hl
 | (off,sz,x)::r,(i,v)::vs,cs,zs,φ,H,hl,hr,h=>by
   obtain ⟨hv,dc,hle,h⟩:=h
   obtain ⟨i',v',e1,e2,e3⟩:=H 0 _ rfl
   simp at e1
   obtain ⟨rfl,rfl⟩:=e1
   have hlen:=hr.length
   have hc:=e3.gl hv
   have jc:v.cells.size=sz:=by have:=hc.length;simp at this;rw [this];exact dc
   have nl:aM M L (v.cells.zipIdx.foldl (fun cs (x:Value×Nat)=>cs.setIfInBounds (off + x.2) x.1) cs).toList (ag zs off (x.cells.map AV.ab)):=by
    have h0:=vz v.cells.toList off 0 cs (by simp at hlen ⊢;omega)
    have h1:v.cells.zipIdx.foldl (fun cs (x:Value×Nat)=>cs.setIfInBounds (off + x.2) x.1) cs=(v.cells.toList.zipIdx 0).foldl (fun cs (x:Value×Nat)=>cs.setIfInBounds (off + x.2) x.1) cs:=by
     rw [← Array.foldl_toList,Array.toList_zipIdx]
    rw [h1,h0]
    exact hc.dd.Af off hr
   obtain ⟨cs',zs',f1,f2,f3⟩:=yB r vs (fun j p hp=>by
    obtain ⟨i,v,a1,a2⟩:=H (j + 1) p (by simpa using hp)
    exact ⟨i,v,by simpa using a1,a2⟩) (by simpa using hl) nl h
   refine ⟨cs',zs',?_,f2,f3⟩
   unfold Instr.fill
   simp only [e2]
   have Wc:off + v.cells.size≤cs.size:=by simp at hlen;omega
   simp only [jc,ne_eq,not_true_eq_false,decide_false,Bool.false_or]
   rw [if_neg (by simp;omega)]
   exact f1
def EG (P:Program) (t:TypeId):Option (AV×List (Nat×Nat)):=
 match P.info? t,P.underlying t,fR P t with
 | some _,some (.struct fields),some z=>match fields.toList.mapM (fun f=>(P.info? f.type).map fun i=>(f.offset,i.size)) with
   | some places=>some (z,places)
   | none=>none
 | some _,some (.array n e),some z=>match P.info? e with
   | some ie=>some (z,(List.range n).map fun i=>(i * ie.size,ie.size))
   | none=>none
 | _,_,_=>none
def fB (places:List (Nat×Nat)):List (Nat×Operand)→Option (List (Nat×Nat×IX))
 | []=>some []
 | (i,x)::r=>match places[i]?,aR x,fB places r with
   | some (off,sz),some ix,some rest=>some ((off,sz,ix)::rest)
   | _,_,_=>none
theorem nO {n:Nat} {env:Env} {a:Act} (hf:Fr A n M L w H env O a) {places:List (Nat×Nat)} {place:Nat→Option (Nat×Nat)} (hp:∀ i q,places[i]?=some q→place i=some q) :
 ∀ (parts:List (Nat×Operand)) (ps:List (Nat×Nat×IX)),fB places parts=some ps→
  ∀ (j:Nat) (p:Nat×Nat×AV),(ps.map fun q=>(q.1,q.2.1,ap env q.2.2))[j]?=some p→∃ i v,(parts.map fun q=>(q.1,a.eval q.2))[j]?=some (i,v)∧place i=some (p.1,p.2.1)∧aS M L v p.2.2
 | [],ps,h,j,p,hj=>by simp [fB] at h;subst h;simp at hj
 | (i,x)::r,ps,h,j,p,hj=>by
   unfold fB at h
   split at h
   ·rename_i off sz ix rest h1 h2 h3
    cases h
    cases j with
    | zero=>
      simp at hj;subst hj
      exact ⟨i,a.eval x,by simp,hp _ _ h1,hf.eval h2⟩
    | succ j=>
      obtain ⟨i',v',a1,a2⟩:=nO hf hp r rest h3 j p (by simpa using hj)
      exact ⟨i',v',by simpa using a1,a2⟩
   ·cases h
theorem lr {places:List (Nat×Nat)}:∀ (parts:List (Nat×Operand)) (ps:List (Nat×Nat×IX)),fB places parts=some ps→ps.length=parts.length
 | [],ps,h=>by simp [fB] at h;subst h;rfl
 | (i,x)::r,ps,h=>by
   unfold fB at h
   split at h
   ·rename_i off sz ix rest h1 h2 h3
    cases h
    simp [lr r rest h3]
   ·cases h
theorem EH {n:Nat} {env:Env} {a:Act} (hf:Fr A n M L w H env O a) {t:TypeId} {z:AV} {places:List (Nat×Nat)} (ht:EG P t=some (z,places)) {parts:Array (Nat×Operand)} {ps:List (Nat×Nat×IX)}
 (hc:fB places parts.toList=some ps) {φ:AV→Prop} (h:cA z.cells (ps.map fun q=>(q.1,q.2.1,ap env q.2.2)) φ) (tC:z.val=true) :
 ∃ r x,(Instr.build t (parts.map fun (i,x)=>(i,a.eval x))).run P w=.ok r w∧aS M L r x∧φ x∧∀ own xs,x=.al own xs→own=0:=by
 have hparts:(parts.map fun (i,x)=>(i,a.eval x)).toList=parts.toList.map fun q=>(q.1,a.eval q.2):=by simp
 have key:∀ (place:Nat→Option (Nat×Nat)) (v:Value),(∀ i q,places[i]?=some q→place i=some q)→ofValue v=some z→
  ∃ cs' x,Instr.fill place v.cells (parts.toList.map fun q=>(q.1,a.eval q.2))=some cs'∧aS M L (.agg cs') x∧φ x∧∀ own xs,x=.al own xs→own=0:=by
  intro place v hp hv
  obtain ⟨cs',zs',f1,f2,f3⟩:=yB (M:=M) (L:=L) (place:=place) _ (parts.toList.map fun q=>(q.1,a.eval q.2)) (nO hf hp _ _ hc) (by simp [lr _ _ hc]) ((cM hv).gl tC) h
  exact ⟨cs',_,f1,by simpa using aS.agg cs'.toList zs' f2,f3,by intro _ _ e;cases e⟩
 unfold EG at ht
 split at ht
 ·rename_i it fields z' hi hu hz
  split at ht
  ·rename_i pl vA
   cases ht
   unfold fR at hz
   simp only [hi] at hz
   split at hz
   ·rename_i v hv
    obtain ⟨cs',x,f1,f2,f3,f4⟩:=key (places.toArray[·]?) v (fun i q h=>by simpa using h) hz
    refine ⟨_,x,run_build w t _ cs' ?_,f2,f3,f4⟩
    rw [hparts]
    unfold Program.built
    simp only [hi,hu,hv,vA]
    exact f1
   ·cases hz
  ·cases ht
 ·rename_i it m e z' hi hu hz
  split at ht
  ·rename_i ie J3
   cases ht
   unfold fR at hz
   simp only [hi] at hz
   split at hz
   ·rename_i v hv
    obtain ⟨cs',x,f1,f2,f3,f4⟩:=key (fun i=>some (i * ie.size,ie.size)) v (fun i q h=>by
     rw [List.getElem?_map] at h
     obtain ⟨k,hk,rfl⟩:=Option.map_eq_some_iff.1 h
     rw [List.getElem?_range (by rcases Nat.lt_or_ge i m with h' | h';exact h';rw [List.getElem?_eq_none (by simpa using h')] at hk;cases hk)] at hk
     cases hk;rfl) hz
    refine ⟨_,x,run_build w t _ cs' ?_,f2,f3,f4⟩
    rw [hparts]
    unfold Program.built
    simp only [hi,hu,hv,J3]
    exact f1
   ·cases hz
  ·cases ht
 ·cases ht
theorem Cg:∀ (xs:List AV) (e i:Nat) (x:AV),(∀ y∈xs,y.cells.length=e)→x.cells.length=e→i < xs.length→flat (xs.set i x)=ag (flat xs) (i * e) x.cells
 | [],_,_,_,_,_,h=>by simp at h
 | y::ys,e,0,x,hx,hc,_=>by
   have:=hx y (by simp)
   simp [flat,ag,hc,this]
 | y::ys,e,i + 1,x,hx,hc,h=>by
   have hy:=hx y (by simp)
   have ih:=Cg ys e i x (fun z hz=>hx z (by simp [hz])) hc (by simpa using h)
   simp only [flat] at ih
   simp only [List.set_cons_succ,flat,List.flatMap_cons,ih,ag]
   rw [List.take_append,List.take_of_length_le (l:=y.cells) (by rw [hy,Nat.add_mul];omega),List.drop_append,List.drop_eq_nil_of_le (as:=y.cells) (by rw [hy,Nat.add_mul];omega),hy]
   simp only [List.nil_append,List.append_assoc]
   rw [show (i + 1) * e - e=i * e by rw [Nat.add_mul];omega,show (i + 1) * e + x.cells.length - e=i * e + x.cells.length by rw [Nat.add_mul];omega]
theorem cN:∀ (xs:List AV) (e:Nat),(∀ y∈xs,y.cells.length=e)→(flat xs).length=xs.length * e
 | [],e,_=>by simp [flat]
 | y::ys,e,hx=>by
   have hy:=hx y (by simp)
   have ih:=cN ys e (fun z hz=>hx z (by simp [hz]))
   simp only [flat] at ih
   simp only [flat,List.flatMap_cons,List.length_append,hy,ih,List.length_cons,Nat.add_mul,Nat.one_mul]
   omega
theorem Ch {place:Nat→Option (Nat×Nat)} {i off:Nat} {v:Value} {vs:List (Nat×Value)} {cs:Array Value} (hp:place i=some (off,v.cells.size)) (hle:off + v.cells.size≤cs.size) :
 Instr.fill place cs ((i,v)::vs)=Instr.fill place (ag cs.toList off v.cells.toList).toArray vs:=by
 have h0:=vz v.cells.toList off 0 cs (by simpa using hle)
 have h1:v.cells.zipIdx.foldl (fun cs (x:Value×Nat)=>cs.setIfInBounds (off + x.2) x.1) cs=(v.cells.toList.zipIdx 0).foldl (fun cs (x:Value×Nat)=>cs.setIfInBounds (off + x.2) x.1) cs:=by
  rw [← Array.foldl_toList,Array.toList_zipIdx]
 rw [← h1] at h0
 conv=>lhs;unfold Instr.fill
 simp only [hp,ne_eq,not_true_eq_false,decide_false,Bool.false_or]
 rw [if_neg (by simp;omega)]
 congr 1
 apply Array.ext'
 simpa using h0
theorem nP (e:Nat):∀ (parts:List (Nat×AV)) (vs:List (Nat×Value)) {cs:Array Value} {xs:List AV} {φ:List AV→Prop},
 (∀ (j:Nat) (p:Nat×AV),parts[j]?=some p→∃ v,vs[j]?=some (p.1,v)∧aS M L v p.2)→vs.length=parts.length→aM M L cs.toList (flat xs)→(∀ y∈xs,y.cells.length=e)→bj xs e parts φ→
 ∃ cs' xs',Instr.fill (fun i=>some (i * e,e)) cs vs=some cs'∧aM M L cs'.toList (flat xs')∧(∀ y∈xs',y.cells.length=e)∧xs'.length=xs.length∧φ xs'
 | [],[],cs,xs,φ,_,_,hr,hx,h=>⟨cs,xs,rfl,hr,hx,rfl,h⟩
 | [],_::_,_,_,_,_,hl,_,_,_=>by simp at hl
 | _::_,[],_,_,_,_,hl,_,_,_=>by simp at hl
 | (i,x)::r,(i',v)::vs,cs,xs,φ,H,hl,hr,hx,h=>by
   obtain ⟨hv,dc,hi,h⟩:=h
   obtain ⟨v',e1,e3⟩:=H 0 _ rfl
   simp at e1
   obtain ⟨rfl,rfl⟩:=e1
   have hc:=(e3.aT).gl (sl hv)
   have jc:v.cells.size=e:=by have:=hc.length;simp at this;rw [this,fa];exact dc
   have hlen:=hr.length
   rw [cN xs e hx] at hlen
   simp only [Array.length_toList] at hlen
   have hle:i' * e + v.cells.size≤cs.size:=by
    rw [jc,hlen]
    calc i' * e + e=(i' + 1) * e:=by rw [Nat.add_mul];omega
     _≤xs.length * e:=Nat.mul_le_mul_right _ hi
   rw [Ch (place:=fun i=>some (i * e,e)) (by rw [jc]) hle]
   have xH:∀ y∈xs.set i' (aT x),y.cells.length=e:=by
    intro y hy
    rcases List.mem_or_eq_of_mem_set hy with h' | rfl
    ·exact hx y h'
    ·rw [fa];exact dc
   have nl:aM M L (ag cs.toList (i' * e) v.cells.toList).toArray.toList (flat (xs.set i' (aT x))):=by
    rw [Cg xs e i' _ hx (by rw [fa];exact dc) hi]
    exact hc.Af _ hr
   obtain ⟨cs',xs',f1,f2,f3,f4,f5⟩:=nP e r vs (fun j p hp=>by
    obtain ⟨v,a1,a2⟩:=H (j + 1) p (by simpa using hp)
    exact ⟨v,by simpa using a1,a2⟩) (by simpa using hl) nl xH h
   exact ⟨cs',xs',f1,f2,f3,by simpa using f4,f5⟩
def jS:List (Nat×Operand)→Option (List (Nat×IX))
 | []=>some []
 | (i,x)::r=>match aR x,jS r with
   | some ix,some rest=>some ((i,ix)::rest)
   | _,_=>none
theorem nh {n:Nat} {env:Env} {a:Act} (hf:Fr A n M L w H env O a) :
 ∀ (parts:List (Nat×Operand)) (ps:List (Nat×IX)),jS parts=some ps→
  (∀ (j:Nat) (p:Nat×AV),(ps.map fun q=>(q.1,ap env q.2))[j]?=some p→∃ v,(parts.map fun q=>(q.1,a.eval q.2))[j]?=some (p.1,v)∧aS M L v p.2)∧ps.length=parts.length
 | [],ps,h=>by simp [jS] at h;subst h;simp
 | (i,x)::r,ps,h=>by
   unfold jS at h
   split at h
   ·rename_i ix rest h2 h3
    cases h
    obtain ⟨i1,i2⟩:=nh hf r rest h3
    refine ⟨fun j p hj=>?_,by simp [i2]⟩
    cases j with
    | zero=>
      simp at hj;subst hj
      exact ⟨a.eval x,by simp,hf.eval h2⟩
    | succ j=>
      obtain ⟨v',a1,a2⟩:=i1 j p (by simpa using hj)
      exact ⟨v',by simpa using a1,a2⟩
   ·cases h
theorem jT (z:Array Value) (e len:Nat) (hz:z.size=e) (he:0 < e) (x:AV) (hr:aM M L z.toList x.cells) :
 aM M L (((Array.range (len * e)).map (z[· % z.size]!)).toList) (flat (List.replicate len x)):=by
 have J4:x.cells.length=e:=by rw [← hr.length];simpa using hz
 have jU:∀ y∈List.replicate len x,y.cells.length=e:=fun y hy=>by rw [List.eq_of_mem_replicate hy];exact J4
 apply aM.Ab
 ·rw [cN _ e jU];simp
 ·intro j y hj
  have qq:j < len * e:=by have:=aO hj;rw [cN _ e jU] at this;simpa using this
  have hq:j / e < len:=Nat.div_lt_of_lt_mul (by rw [Nat.mul_comm];exact qq)
  have hm:j % e < e:=Nat.mod_lt _ he
  have h1:=flat_get (List.replicate len x) e jU (j / e) (j % e) x (by simp [hq]) hm
  rw [show j / e * e + j % e=j from Nat.div_add_mod' j e] at h1
  rw [h1] at hj
  obtain ⟨v,hv,fL⟩:=hr.get _ _ hj
  refine ⟨v,?_,fL⟩
  have jh:j % e < z.size:=by omega
  simp only [Array.toList_map,Array.toList_range,List.getElem?_map,List.getElem?_range qq,Option.map_some,hz]
  simp only [Array.getElem?_toList] at hv
  simp [getElem!_pos,jh] at hv ⊢
  exact hv
theorem uq (hs:St A M L w H ev ea O) {t e:TypeId} (ht:P.underlying t=some (.slice e)) {esz:Nat} (he:dP P e=some esz) (h0:0 < esz) {z:AV} (hz:fR P e=some z) (jh:z.cells.length=esz) (tC:z.val=true) (own:Nat)
 {len:Nat} (hlen:len * esz≤16777216) {parts:List (Nat×AV)} {vs:Array (Nat×Value)} (hp:∀ (j:Nat) (p:Nat×AV),parts[j]?=some p→∃ v,vs.toList[j]?=some (p.1,v)∧aS M L v p.2) (hl:vs.toList.length=parts.length)
 {φ:List AV→Prop} (h:bj (List.replicate len (aT z)) esz parts φ) :
 ∃ m xs M' w' ad,(Instr.buildSlice t len vs).run P w=.ok (.slice ad m m) w'∧aS M' L (.slice ad m m) (.al own xs)∧(∀ y∈xs,y.cells.length=esz)∧φ xs∧St A M' L w' H ev ea O∧Ext A M w M' w':=by
 unfold fR at hz
 obtain ⟨ie,J3,dc⟩:=Option.map_eq_some_iff.1 he
 simp only [J3] at hz
 split at hz
 ·rename_i zv vB
  have Ci:=(cM (M:=M) (L:=L) hz).aT.gl (sl tC)
  have uH:zv.cells.size=esz:=by have:=Ci.length;rw [fa,jh] at this;simpa using this
  obtain ⟨cs',xs',f1,f2,f3,f4,f5⟩:=nP (M:=M) (L:=L) esz parts vs.toList hp hl (jT zv.cells esz len uH h0 (aT z) Ci) (fun y hy=>by rw [List.eq_of_mem_replicate hy,fa];exact jh) h
  simp only [List.length_replicate] at f4
  obtain ⟨g1,g2,g3⟩:=hs.EA cs' e
  have bJ:(Instr.buildSlice t len vs).run P w=.ok (.slice (some ⟨w.heap.size,0,none⟩) len len) { w with heap:=w.heap.push (.cells cs' e) }:=by
   by_cases nr:len * ie.size=0
   ·have Aj:len=0:=by
     rcases Nat.mul_eq_zero.1 nr with h' | h'
     ·exact h'
     ·omega
    subst Aj
    have NP:cs'=#[]:=by
     have:=f2.length
     rw [cN _ esz f3,f4] at this
     simp at this
     exact this
    have Wd:vs.toList=[]:=by
     cases xS:vs.toList with
     | nil=>rfl
     | cons q r=>
       rw [xS] at hl
       cases parts with
       | nil=>simp at hl
       | cons p ps=>obtain ⟨_,_,h3,_⟩:=h;simp at h3
    subst NP
    have hf:Instr.fill (fun i=>some (i * ie.size,ie.size)) #[] vs.toList=some #[]:=by rw [Wd];rfl
    simp [Instr.buildSlice,run_underlying ht,sizeOf,typeInfo,J3,newRow,Wd,Instr.fill]
    congr 2
    apply Array.ext'
    simp
   ·rw [run_buildSlice w t e len vs cs' ie zv ht J3 vB (by rw [dc];omega) nr (by rw [dc];exact f1)]
    rfl
  refine ⟨len,xs',_,_,_,bJ,?_,f3,f5,g1,g2⟩
  by_cases Aj:len=0
  ·subst Aj
   have:xs'=[]:=List.eq_nil_of_length_eq_zero f4
   subst this
   exact .gL _ _ _ (by decide)
  ·have:=aS.al (M:=M.add w.heap.size cs'.toList) (L:=L) w.heap.size 0 len own esz cs'.toList xs' h0 f3 (by omega) (by omega) (by
    have:len≤len * esz:=Nat.le_mul_of_pos_right _ h0
    omega) (f2.mono g2.ln (List.prefix_refl _)) g3
   rw [f4] at this
   exact this
 ·cases hz
end
end Go.aL
end
section
namespace Go.aL
open Go
def iE (m:Nat) (p x:AV) (H:List aa) (K:List aa→Prop):Prop:=
 match p with
 | .ptr id off=>match H[id]? with
   | some (.cells es)=>x.val=true∧x.cells.length=m∧off + m≤es.length∧x.cells.all AV.one=true∧aj (id + 1) (x.cells.map AV.ab)=true∧
      K (H.set id (.cells (ag es off (x.cells.map AV.ab))))
   | _=>False
 | _=>False
theorem aY {n:Nat} {xs ys:List AV}:aj n (xs++ys)=true↔aj n xs=true∧aj n ys=true:=by
 simp only [a8,List.mem_append]
 constructor
 ·intro h;exact ⟨fun x hx=>h x (.inl hx),fun x hx=>h x (.inr hx)⟩
 ·rintro ⟨h1,h2⟩ x (hx | hx)
  ·exact h1 x hx
  ·exact h2 x hx
theorem tD {n m:Nat} {xs:List AV} (h:aj n xs=true):aj n (xs.take m)=true:=by
 rw [a8] at *;exact fun x hx=>h x (List.mem_of_mem_take hx)
theorem tE {n m:Nat} {xs:List AV} (h:aj n xs=true):aj n (xs.drop m)=true:=by
 rw [a8] at *;exact fun x hx=>h x (List.mem_of_mem_drop hx)
theorem fc {α:Type} (zs:List α) (off:Nat) (xs:List α) (h:off + xs.length≤zs.length) (j:Nat) :
 (ag zs off xs)[j]?=if off≤j∧j < off + xs.length then xs[j - off]? else zs[j]?:=by
 unfold ag
 simp only [List.getElem?_append,List.length_take,List.getElem?_take,List.getElem?_drop]
 by_cases h1:j < off
 ·rw [if_pos (by omega),if_pos h1,if_neg (by omega)]
 ·rw [if_neg (by omega),show j - min off zs.length=j - off by omega]
  by_cases h2:j < off + xs.length
  ·rw [if_pos (by omega),if_pos ⟨by omega,h2⟩]
  ·rw [if_neg (by omega),if_neg (by omega)]
   congr 1;omega
section
variable {P:Program} {w:World} {M:Mem} {L:List Nat} {H:List aa} {A:Perm} {ev:Nat→Value} {ea:Nat→AV} {O:Pos→Option Nat}
theorem vt.sub {O O':Pos→Option Nat} (Sr:∀ p q b,O p=some b→O q=some b→p=q) (h:∀ p b,O' p=some b→O p=some b):vt O O':=
 ⟨fun p q b hp hq=>Sr p q b (h p b hp) (h q b hq),fun p b hp=>⟨p,h p b hp⟩⟩
theorem yC (hs:St A M L w H ev ea O) {t:TypeId} {m:Nat} (ht:dP P t=some m) {v:Value} {x:AV} {id off b:Nat} {es:List AV} (hl:L[id]?=some b) (bp:H[id]?=some (.cells es)) (hv:aS M L v x)
 (ic:x.val=true) (hlen:x.cells.length=m) (hle:off + m≤es.length) (kQ:x.cells.all AV.one=true) (nC:aj (A.jI H.length id) (x.cells.map AV.ab)=true) :
 ∃ w' O',(Instr.storeAt t (.pointer (some ⟨b,off,none⟩)) v).run P w=.ok () w'∧St A M L w' (H.set id (.cells (ag es off (x.cells.map AV.ab)))) ev ea O'∧Ext A M w M w':=by
 obtain ⟨cs,e,h1,h2,h3⟩:=hs.obj id _ b bp hl
 have NQ:=hv.gl ic
 have qz:=NQ.length
 have jc:=h2.length
 obtain ⟨i,hi,J5⟩:=Option.map_eq_some_iff.1 ht
 have dc:(sizeOf t).run P w=.ok m w:=by simp [sizeOf,typeInfo,hi,J5]
 have bS:=run_storeCells_at P b off e v.cells.toList 0 cs w h1 (by simp at jc ⊢;simp at qz;omega) (NQ.gM kQ)
 have bJ:(Instr.storeAt t (.pointer (some ⟨b,off,none⟩)) v).run P w=.ok () (w.setRow b (ag cs.toList off v.cells.toList).toArray):=by
  simp only [Instr.storeAt,Instr.sureAddr,storeVar,Sem.run_bind,Sem.run_pure,Result.andThen_ok,dc,ne_eq]
  rw [if_neg (by simp at qz;omega)]
  simpa [ag] using bS
 let O':Pos→Option Nat:=fun q=>match q with
  | .t t=>O (.t t)
  | .c id' j=>if id'=id∧off≤j∧j < off + m then none else O (.c id' j)
 have hO:∀ q b,O' q=some b→O q=some b:=by
  intro q b hq
  cases q with
  | t t=>exact hq
  | c id' j=>
    simp only [O'] at hq
    split at hq
    ·cases hq
    ·exact hq
 have Nk:off + (x.cells.map AV.ab).length≤es.length:=by simp;omega
 have hsv:off + v.cells.toList.length≤cs.toList.length:=by omega
 obtain ⟨g1,g2⟩:=hs.write (cs':=(ag cs.toList off v.cells.toList).toArray) (es':=ag es off (x.cells.map AV.ab)) (O':=O') bp hl h1
  (by simpa using NQ.dd.Af off h2)
  (by
    have bS:=hs.bE id _ bp
    simp only [aa.aV] at bS
    unfold ag
    exact aY.2 ⟨tD bS,aY.2 ⟨nC,tE bS⟩⟩)
  (vt.sub hs.ch hO) hs.env hs.iq (by
  intro j
  have e1:((ag cs.toList off v.cells.toList).toArray)[j]?=(ag cs.toList off v.cells.toList)[j]?:=by simp
  rw [e1,fc _ _ _ hsv,List.getD_eq_getElem?_getD,fc _ _ _ Nk]
  simp only [List.length_map]
  have e2:v.cells.toList.length=x.cells.length:=qz
  rw [e2,hlen]
  by_cases hj:off≤j∧j < off + m
  ·simp only [hj,and_self,if_true]
   have:O' (.c id j)=none:=by simp [O',hj]
   rw [this]
   refine bg.free ?_
   intro own xs hh
   rw [List.getElem?_map] at hh
   cases hx:x.cells[j - off]? with
   | none=>simp [hx] at hh
   | some y=>simp [hx] at hh;exact AV.bL y own xs hh
  ·simp only [hj,if_false]
   have:O' (.c id j)=O (.c id j):=by simp only [O'];rw [if_neg (by intro h';exact hj h'.2)]
   rw [this]
   have h0:=hs.hZ id j
   have e3:bM L w id j=(cs.toList[j]?).getD undef:=by
    unfold bM;simp [hl,World.cell?,h1]
   have e4:bw H id j=(es[j]?).getD .any:=by
    unfold bw;simp [bp,List.getD_eq_getElem?_getD]
   rw [e3,e4] at h0
   exact h0)
  (by intro id' j dW;simp [O',dW])
 exact ⟨_,_,bJ,g1,g2⟩
theorem EI (hs:St A M L w H ev ea O) {t:TypeId} {m:Nat} (ht:dP P t=some m) {u v:Value} {p x:AV} {K:List aa→Prop} (h:iE m p x H K) (hu:aS M L u p) (hv:aS M L v x) :
 ∃ w' H' O',(Instr.storeAt t u v).run P w=.ok () w'∧K H'∧St A M L w' H' ev ea O'∧Ext A M w M w':=by
 unfold iE at h
 split at h <;> try exact h.elim
 rename_i id off
 cases hu with
 | ptr b _ _ hl=>
 split at h <;> try exact h.elim
 rename_i es bp
 obtain ⟨ic,hlen,hle,kQ,nC,hK⟩:=h
 obtain ⟨w',O',h1,h2,h3⟩:=yC hs ht hl bp hv ic hlen hle kQ (bI (A.lY (aO bp)) _ nC)
 exact ⟨w',_,O',h1,hK,h2,h3⟩
def gP (lo m:Nat) (p x:AV) (H:List aa) (K:List aa→Prop):Prop:=
 match p with
 | .ptr id off=>match H[id]? with
   | some (.cells es)=>lo≤id∧x.val=true∧x.cells.length=m∧off + m≤es.length∧x.cells.all AV.one=true∧aj H.length (x.cells.map AV.ab)=true∧
      K (H.set id (.cells (ag es off (x.cells.map AV.ab))))
   | _=>False
 | _=>False
theorem Cj (hs:St A M L w H ev ea O) {t:TypeId} {m lo:Nat} (vC:∀ id,lo≤id→A.top id=none) (ht:dP P t=some m) {u v:Value} {p x:AV} {K:List aa→Prop} (h:gP lo m p x H K) (hu:aS M L u p) (hv:aS M L v x) :
 ∃ w' H' O',(Instr.storeAt t u v).run P w=.ok () w'∧K H'∧St A M L w' H' ev ea O'∧Ext A M w M w':=by
 unfold gP at h
 split at h <;> try exact h.elim
 rename_i id off
 cases hu with
 | ptr b _ _ hl=>
 split at h <;> try exact h.elim
 rename_i es bp
 obtain ⟨hi,ic,hlen,hle,kQ,nC,hK⟩:=h
 have e:A.jI H.length id=H.length:=by unfold Perm.jI;rw [vC id hi]
 obtain ⟨w',O',h1,h2,h3⟩:=yC hs ht hl bp hv ic hlen hle kQ (by rw [e];exact nC)
 exact ⟨w',_,O',h1,hK,h2,h3⟩
theorem St.HV (hs:St A M L w H ev ea O) {id b off:Nat} {es:List AV} (bp:H[id]?=some (.cells es)) (hl:L[id]?=some b) (pg:off < es.length) :
 St A M L w (H.set id (.cells (es.set off (es.getD off .any).ab))) ev ea (eE O (.c id off) none):=by
 obtain ⟨cs,e,h1,h2,h3⟩:=hs.obj id _ b bp hl
 have jc:=h2.length
 have hO:∀ q b,eE O (.c id off) none q=some b→O q=some b:=by
  intro q b hq
  simp only [eE] at hq
  split at hq
  ·cases hq
  ·exact hq
 have hgetD:es.getD off .any=es[off]:=by rw [List.getD_eq_getElem?_getD,List.getElem?_eq_getElem pg];rfl
 have fL:aM M L cs.toList (es.set off (es.getD off .any).ab):=by
  have hg:=(h2.getD off).ab
  have:=h2.set hg off
  have Ak:off < cs.toList.length:=by omega
  have e0:cs.toList.set off (cs.toList.getD off undef)=cs.toList:=by
   rw [List.getD_eq_getElem?_getD,List.getElem?_eq_getElem Ak]
   exact List.set_getElem_self Ak
  rwa [e0] at this
 obtain ⟨g1,g2⟩:=hs.write (cs':=cs) (es':=es.set off (es.getD off .any).ab) (O':=eE O (.c id off) none) bp hl h1 fL (by
  have bS:=hs.bE id _ bp
  simp only [aa.aV] at bS
  rw [a8] at bS ⊢
  intro y hy
  rcases List.mem_or_eq_of_mem_set hy with h' | rfl
  ·exact bS y h'
  ·have hb:=bS es[off] (List.getElem_mem pg)
   rw [hgetD]
   revert hb
   cases es[off] <;> simp [AV.ab,AV.aV]) (vt.sub hs.ch hO) hs.env (fun t=>by simpa [eE] using hs.iq t) (fun j=>by
  by_cases hj:j=off
  ·subst hj
   have e1:(es.set j (es.getD j .any).ab).getD j .any=(es.getD j .any).ab:=by
    rw [List.getD_eq_getElem?_getD,List.getElem?_set_self pg];rfl
   rw [e1]
   simp only [eE,if_true]
   exact bg.free (AV.bL _)
  ·have e1:(es.set off (es.getD off .any).ab).getD j .any=es.getD j .any:=by
    rw [List.getD_eq_getElem?_getD,List.getElem?_set_ne (fun e=>hj e.symm),List.getD_eq_getElem?_getD]
   rw [e1]
   have h0:=hs.hZ id j
   have e3:bM L w id j=(cs[j]?).getD undef:=by unfold bM;simp [hl,World.cell?,h1]
   have e4:bw H id j=es.getD j .any:=by unfold bw;simp [bp]
   rw [e3,e4] at h0
   simpa [eE,hj] using h0) (fun id' j dW=>by simp [eE,dW])
 rwa [setRow_self w b cs e (0,0) h1] at g1
def ee (p x:AV) (H:List aa) (K:List aa→Prop):Prop:=
 match p with
 | .ptr id off=>match H[id]? with
   | some (.cells es)=>off < es.length∧x.one=true∧x.aV (id + 1)=true∧K (H.set id (.cells (es.set off x)))
   | _=>False
 | _=>False
theorem Al (hs:St A M L w H ev ea O) {t:TypeId} (ht:dP P t=some 1) {u v:Value} {p x:AV} {K:List aa→Prop} (h:ee p x H K) (hu:aS M L u p) (s:Nat) (We:ev s=v) (hea:ea s=x) :
 ∃ w' H' O',(Instr.storeAt t u v).run P w=.ok () w'∧K H'∧St A M L w' H' ev (fE ea s x.ab) O'∧Ext A M w M w':=by
 unfold ee at h
 split at h <;> try exact h.elim
 rename_i id off
 cases hu with
 | ptr b _ _ hl=>
 split at h <;> try exact h.elim
 rename_i es bp
 obtain ⟨pg,kQ,nC,hK⟩:=h
 obtain ⟨cs,e,h1,h2,h3⟩:=hs.obj id _ b bp hl
 have hv:aS M L v x:=by have:=hs.env s;rwa [We,hea] at this
 have jc:=h2.length
 have hv1:v.oneCell'=true:=hv.gM kQ
 have NQ:v.cells=#[v]:=by cases v <;> first | rfl | simp [Value.oneCell'] at hv1
 obtain ⟨i,hi,J5⟩:=Option.map_eq_some_iff.1 ht
 have dc:(sizeOf t).run P w=.ok 1 w:=by simp [sizeOf,typeInfo,hi,J5]
 have Ak:off < cs.toList.length:=by omega
 have bS:=run_storeCells_at P b off e [v] 0 cs w h1 (by simp at Ak ⊢;omega) (by simpa using hv1)
 have gI:cs.toList.take off++[v]++cs.toList.drop (off + 1)=cs.toList.set off v:=by
  rw [List.set_eq_take_append_cons_drop,if_pos Ak];simp
 have bJ:(Instr.storeAt t (.pointer (some ⟨b,off,none⟩)) v).run P w=.ok () (w.setRow b (cs.toList.set off v).toArray):=by
  simp only [Instr.storeAt,Instr.sureAddr,storeVar,Sem.run_bind,Sem.run_pure,Result.andThen_ok,dc,ne_eq,NQ]
  rw [if_neg (by simp)]
  rw [← gI]
  simpa using bS
 -- the slot forgets, the cell takes over
 have nQ:=hs.pf s (v:=v) (x:=x.ab) hv.ab (AV.bL x)
 have Ss:fE ev s v=ev:=by funext t';simp only [fE];split;rename_i e0;rw [e0,We];rfl
 rw [Ss] at nQ
 let O':Pos→Option Nat:=fun q=>if q=.c id off then O (.t s) else eE O (.t s) none q
 have Sr:vt O O':=by
  refine ⟨fun q r b hq hr=>?_,fun q b hq=>?_⟩
  ·simp only [O',eE] at hq hr
   split at hq <;> split at hr
   ·simp_all
   ·split at hr
    ·cases hr
    ·rename_i n1 n2;exact absurd (hs.ch _ _ b hr hq) n2
   ·split at hq
    ·cases hq
    ·rename_i n1 n2;exact absurd (hs.ch _ _ b hq hr) (by assumption)
   ·split at hq
    ·cases hq
    ·split at hr
     ·cases hr
     ·exact hs.ch _ _ b hq hr
  ·simp only [O',eE] at hq
   split at hq
   ·exact ⟨_,hq⟩
   ·split at hq
    ·cases hq
    ·exact ⟨_,hq⟩
 obtain ⟨g1,g2⟩:=St.write (h:=hs) (cs':=(cs.toList.set off v).toArray) (es':=es.set off x) (ea':=fE ea s x.ab) (O':=O') bp hl h1 (by simpa using h2.set hv off) (by
  have bS:=hs.bE id _ bp
  simp only [aa.aV] at bS
  rw [a8] at bS ⊢
  intro y hy
  rcases List.mem_or_eq_of_mem_set hy with h' | rfl
  ·exact bS y h'
  ·exact AV.cE (A.lY (aO bp)) _ nC) Sr nQ.env (fun t'=>by simpa [O',eE] using nQ.iq t') (fun j=>by
  by_cases hj:j=off
  ·subst hj
   have e1:((cs.toList.set j v).toArray)[j]?=some v:=by rw [List.getElem?_toArray,List.getElem?_set_self Ak]
   have e2:(es.set j x).getD j .any=x:=by rw [List.getD_eq_getElem?_getD,List.getElem?_set_self pg];rfl
   rw [e1,e2]
   have:=hs.iq s
   rw [We,hea] at this
   simpa [O'] using this
  ·have e1:((cs.toList.set off v).toArray)[j]?=cs[j]?:=by
    simp [List.getElem?_set_ne (fun e=>hj e.symm)]
   have e2:(es.set off x).getD j .any=es.getD j .any:=by rw [List.getD_eq_getElem?_getD,List.getElem?_set_ne (fun e=>hj e.symm),List.getD_eq_getElem?_getD]
   rw [e1,e2]
   have h0:=hs.hZ id j
   have e3:bM L w id j=(cs[j]?).getD undef:=by unfold bM;simp [hl,World.cell?,h1]
   have e4:bw H id j=es.getD j .any:=by unfold bw;simp [bp]
   rw [e3,e4] at h0
   simpa [O',eE,hj] using h0) (fun id' j dW=>by simp [O',eE,dW])
 exact ⟨_,_,_,bJ,hK,g1,g2⟩
theorem kB (P:Program) (g o:Nat) (t:TypeId) (fr:Nat×Nat):∀ (vs:List Value) (i:Nat) (cur:Array Value) (w:World),w.heap[g]?=some (.cells cur t fr)→NJ fr cur.size→o + i + vs.length≤cur.size→(∀ v∈vs,v.oneCell'=true)→
 (storeCells ⟨g,o,none⟩ vs i).run P w=.ok () (w.setRow g (ag cur.toList (o + i) vs).toArray)
 | [],i,cur,w,hg,_,_,_=>by
   simp only [storeCells,ag,List.length_nil,Nat.add_zero,List.nil_append,List.take_append_drop,Array.toArray_toList]
   rw [setRow_self w g cur t fr hg]
   rfl
 | v::rest,i,cur,w,hg,hf,hl,h1=>by
   have hi:o + i < cur.size:=by simp at hl;omega
   have aa7:(⟨g,o,none⟩:Addr).add i=⟨g,o + i,none⟩:=Addr.add_lit _ _ _
   have hcell:w.cell? ⟨g,o + i,none⟩=some cur[o + i]:=by simp [World.cell?,hg,hi]
   have aa8:w.frozen? ⟨g,o + i,none⟩=false:=by
    have:=hf (o + i) hi
    simp only [World.frozen?,hg]
    cases h:(decide (fr.1≤o + i) && decide (o + i < fr.2)) with
    | false=>rfl
    | true=>simp at h;exact absurd h this
   have bS:(store ((⟨g,o,none⟩:Addr).add i) v).run P w=.ok () (w.setRow g (cur.setIfInBounds (o + i) v)):=by
    rw [aa7,run_store P w _ v _ (h1 v (by simp)),hcell]
    simp [aa8,setCell_eq_setRow w g (o + i) cur t fr v hg]
   have ih:=kB P g o t fr rest (i + 1) (cur.setIfInBounds (o + i) v) (w.setRow g (cur.setIfInBounds (o + i) v)) (setRow_heap w g cur _ t _ hg) (by simpa using hf) (by simp at hl ⊢;omega) (fun x hx=>h1 x (by simp [hx]))
   simp only [storeCells,Sem.run_bind,bS,Result.andThen_ok,ih,setRow_setRow]
   congr 3
   apply List.ext_getElem?
   intro j
   rw [fc _ _ _ (by simp at hl ⊢;omega),fc _ _ _ (by simpa using hl)]
   simp only [Array.toList_setIfInBounds,List.length_cons]
   by_cases h2:j=o + i
   ·subst h2
    rw [if_neg (by omega),if_pos (by omega),List.getElem?_set_self (by simpa using hi)]
    simp
   ·by_cases h3:o + i < j∧j < o + i + (rest.length + 1)
    ·rw [if_pos (by omega),if_pos (by omega),show j - (o + i)=(j - (o + (i + 1))) + 1 by omega]
     simp
    ·rw [if_neg (by omega),if_neg (by omega),List.getElem?_set_ne (by omega)]
theorem gn {t ty e e':TypeId} {i:TypeInfo} (ht:P.underlying t=some (.slice e)) (hi:P.info? e=some i) (w:World)
 (g o sLen sCap:Nat) (cur:Array Value) (fr:Nat×Nat) (hg:w.heap[g]?=some (.cells cur e' fr)) (Et:NJ fr cur.size)
 (a:Addr) (m c:Nat) (news:List Value) (hl:news.length=m * i.size) (hnews:∀ j u,news[j]?=some u→w.cell? (a.add j)=some u) (h1:∀ u∈news,u.oneCell'=true)
 (hroom:sLen + m≤sCap) (ur:o + sLen * i.size + news.length≤cur.size) :
 (Builtin.append_ #[t,t] ty #[.slice (some ⟨g,o,none⟩) sLen sCap,.slice (some a) m c]).run P w =
   .ok (.slice (some ⟨g,o,none⟩) (sLen + m) sCap) (w.setRow g (ag cur.toList (o + sLen * i.size) news).toArray):=by
 have hf:=run_firstCells_some (P:=P) w i.size m a m c news hl hnews
 have bS:=kB P g (o + sLen * i.size) e' fr news 0 cur w hg Et (by simpa using ur) h1
 simp only [Nat.add_zero] at bS
 simp [Builtin.append_,run_underlying ht,sizeOf,typeInfo,hi,Builtin.lenOf,hroom,hf,Addr.add_lit,bS]
theorem dz {t ty e:TypeId} {i:TypeInfo} (ht:P.underlying t=some (.slice e)) (hi:P.info? e=some i) (w:World) (b:Option Addr) (n c:Nat) (QU:n≤c) (b':Option Addr) (c':Nat) :
 (Builtin.append_ #[t,t] ty #[.slice b n c,.slice b' 0 c']).run P w=.ok (.slice b n c) w:=by
 have hf:(Builtin.firstCells i.size 0 (.slice b' 0 c')).run P w=.ok #[] w:=by
  cases b' with
  | none=>exact run_firstCells_none w _ _ _ _
  | some a=>exact run_firstCells_some w i.size 0 a 0 c' [] (by simp) (by simp)
 cases b with
 | none=>simp [Builtin.append_,run_underlying ht,sizeOf,typeInfo,hi,Builtin.lenOf,QU,hf]
 | some a=>simp [Builtin.append_,run_underlying ht,sizeOf,typeInfo,hi,Builtin.lenOf,QU,hf,storeCells]
def kC (esz:Nat):AV→Option (List AV)
 | .ah=>some []
 | .al own xs=>if own=esz then some xs else none
 | _=>none
def dl:AV→Option (List AV)
 | .ah=>some []
 | .al _ xs=>some xs
 | _=>none
def qB (esz:Nat) (ys:List AV):Prop:=∀ y∈ys,y.cells.length=esz∧y.cells.all AV.one=true
def Mem.lz (M:Mem) (b off:Nat) (cs:List Value):Mem:=fun b' o=>if b'=b∧off≤o∧o < off + cs.length then cs[o - off]? else M b' o
theorem St.inPlace (hs:St A M L w H ev ea O) {p:Pos} {b:Nat} (hp:O p=some b) {cur:Array Value} {e:TypeId} {fr:Nat×Nat} (hg:w.heap[b]?=some (.cells cur e fr)) {off:Nat} {news:List Value}
 (ur:off + news.length≤cur.size) (hnone:∀ k,k < news.length→M b (off + k)=none)
 {ea':Nat→AV} (EB:∀ t,aS M L (ev t) (ea' t)) (aa9:∀ t,bg M w (ev t) (ea' t) (eE O p none (.t t))) (aba:∀ id j,bg M w (bM L w id j) (bw H id j) (eE O p none (.c id j))) :
 St A (M.lz b off news) L (w.setRow b (ag cur.toList off news).toArray) H ev ea' (eE O p none)∧Ext A M w (M.lz b off news) (w.setRow b (ag cur.toList off news).toArray)∧(M.lz b off news).row b off news:=by
 have yA:b∉L:=hs.cz p b hp
 have dc:(w.setRow b (ag cur.toList off news).toArray).heap.size=w.heap.size:=by simp [World.setRow]
 have gk:∀ k,k≠b→(w.setRow b (ag cur.toList off news).toArray).heap[k]?=w.heap[k]?:=fun k hk=>setRow_other w b k _ hk
 have nl:=setRow_heap w b cur (ag cur.toList off news).toArray e fr hg
 have fJ:M.sub (M.lz b off news):=by
  intro b' o v hv
  unfold Mem.lz
  split
  ·rename_i h
   obtain ⟨rfl,h1,h2⟩:=h
   have:=hnone (o - off) (by omega)
   rw [show off + (o - off)=o by omega,hv] at this
   cases this
  ·exact hv
 have Wf:∀ k,k≠b→∀ o,(M.lz b off news) k o=M k o:=by
  intro k hk o
  unfold Mem.lz
  rw [if_neg (fun h=>hk h.1)]
 have qC:∀ q k,eE O p none q=some k→k≠b:=by
  intro q k hq hk
  subst hk
  simp only [eE] at hq
  split at hq
  ·cases hq
  ·rename_i n;exact n (hs.ch _ _ _ hq hp)
 have hO:∀ q k,eE O p none q=some k→O q=some k:=by
  intro q k hq
  simp only [eE] at hq
  split at hq
  ·cases hq
  ·exact hq
 have EJ:off + news.length≤cur.toList.length:=by simpa using ur
 refine ⟨{ len:=hs.len,nodup:=hs.nodup,env:=fun t=>(EB t).mono fJ (List.prefix_refl _),mem:=?_,obj:=?_,bE:=hs.bE,lt:=?_,iq:=?_,hZ:=?_,ch:=fun q r k hq hr=>hs.ch q r k (hO q k hq) (hO r k hr),cz:=fun q k hq=>hs.cz q k (hO q k hq),fq:=?_,La:=hs.La,Oa:=fun q k hq=>hs.Oa q k (hO q k hq),fresh:=?_ },?_,?_⟩
 ·intro b' o v hv
  by_cases hb:b'=b
  ·subst hb
   simp only [World.cell?,nl]
   have e1:((ag cur.toList off news).toArray)[o]?=(ag cur.toList off news)[o]?:=by simp
   simp only [Option.isSome_none,Bool.false_eq_true,if_false]
   rw [e1,fc _ _ _ EJ]
   unfold Mem.lz at hv
   split at hv
   ·rename_i h;rw [if_pos h.2];exact hv
   ·rename_i h
    rw [if_neg (fun h'=>h ⟨rfl,h'⟩)]
    have:=hs.mem _ o v hv
    simpa [World.cell?,hg] using this
  ·rw [Wf b' hb o] at hv
   have:=hs.mem b' o v hv
   simp only [World.cell?] at this ⊢
   rw [gk b' hb];exact this
 ·intro id o k ho hk
  have Es:k≠b:=by rintro rfl;exact yA (List.mem_of_getElem? hk)
  exact (hs.obj id o k ho hk).mono fJ (List.prefix_refl _) (gk k Es) (Wf k Es)
 ·intro k hk;rw [dc];exact hs.lt k hk
 ·intro t
  exact (aa9 t).mono fun k hk=>⟨gk k (qC _ k hk),Wf k (qC _ k hk)⟩
 ·intro id j
  have e1:bM L (w.setRow b (ag cur.toList off news).toArray) id j=bM L w id j:=by
   unfold bM
   split
   ·rename_i k hk
    have Es:k≠b:=by rintro rfl;exact yA (List.mem_of_getElem? hk)
    simp only [World.cell?]
    rw [gk k Es]
   ·rfl
  rw [e1]
  exact (aba id j).mono fun k hk=>⟨gk k (qC _ k hk),Wf k (qC _ k hk)⟩
 ·intro q k hq;rw [dc];exact hs.fq q k (hO q k hq)
 ·intro k hk;rw [dc] at hk;exact hs.fresh k hk
 ·exact ⟨fJ,by rw [dc];exact Nat.le_refl _,rfl,rfl,rfl,fun k hk hA=>⟨gk k (fun e0=>hA (e0 ▸ hs.Oa p b hp)),Wf k (fun e0=>hA (e0 ▸ hs.Oa p b hp))⟩,fun k r hk=>⟨r,(gk k (fun e0=>by rw [e0,hg] at hk;cases hk)).trans hk,rfl⟩⟩
 ·intro j v hv
  have hj:=aO hv
  show Mem.lz M b off news b (off + j)=some v
  unfold Mem.lz
  rw [if_pos ⟨rfl,by omega,by omega⟩,show off + j - off=j by omega]
  exact hv
theorem St.newRow (hs:St A M L w H ev ea O) (e:TypeId) {esz need cap:Nat} (h0:0 < esz) {rw rest:List Value} {zs:List AV} (hl:rw.length=need * esz) (hc:rw.length + rest.length=cap * esz) (cj:cap < 9223372036854775808) (QU:need≤cap) (hn:0 < need)
 (hz:zs.length=need) (hx:∀ y∈zs,y.cells.length=esz) (hr:aM M L rw (flat zs)) (cs:Array Value) (yD:cs.toList=rw++rest) :
 ∃ M',aS M' L (.slice (some ⟨w.heap.size,0,none⟩) need cap) (.al esz zs)∧bg M' { w with heap:=w.heap.push (.cells cs e) } (.slice (some ⟨w.heap.size,0,none⟩) need cap) (.al esz zs) (some w.heap.size)∧
  St A M' L { w with heap:=w.heap.push (.cells cs e) } H ev ea O∧Ext A M w M' { w with heap:=w.heap.push (.cells cs e) }:=by
 obtain ⟨g1,g2,g3⟩:=hs.qw cs e (0,0) rw (fun j v hv=>by
  have:cs.toList[j]?=some v:=by rw [yD,List.getElem?_append_left (aO hv)];exact hv
  simpa using this)
 refine ⟨_,?_,?_,g1,g2⟩
 ·subst hz
  exact .al _ _ _ _ esz rw zs h0 hx hn QU cj (hr.mono g2.ln (List.prefix_refl _)) g3
 ·unfold bg
  simp only [Nat.ne_of_gt h0,if_false]
  refine ⟨hx,.inr ⟨_,0,need,cap,cs,e,(0,0),rfl,rfl,dO w _,oF _,?_,?_⟩⟩
  ·have:cs.size=cap * esz:=by rw [← Array.length_toList,yD,List.length_append];exact hc
   omega
  ·intro k hk _
   simp only [Mem.add,if_true,Nat.zero_add]
   exact List.getElem?_eq_none (by omega)
theorem uI {bs:Option Addr} {n c own:Nat} {xs:List AV} (h:aS M L (.slice bs n c) (.al own xs)) :
 n=xs.length∧((xs=[]∧n=0)∨∃ b off cs,bs=some ⟨b,off,none⟩∧aM M L cs (flat xs)∧M.row b off cs):=by
 generalize hv:Value.slice bs n c=v at h
 cases h with
 | gL a c _ hc=>cases hv;exact ⟨rfl,.inl ⟨rfl,rfl⟩⟩
 | al b off c _ e cs _ he hx hn hle hc hr hm=>cases hv;exact ⟨rfl,.inr ⟨b,off,cs,rfl,hr,hm⟩⟩
def bn (esz bytes:Nat) (s x:AV) (φ:List AV→Prop):Prop:=
 match kC esz s,dl x with
 | some xs,some ys=>(xs.length + ys.length) * bytes≤140737488355328∧qB esz ys∧φ (xs++ys)
 | _,_=>False
def IX.slot:IX→Option Nat
 | .t n=>some n
 | .c _=>none
def kR (ea:Nat→AV) (s:Option Nat):Nat→AV:=match s with | some d=>fE ea d (ea d).ab | none=>ea
theorem HW {esz:Nat} {s:AV} {xs:List AV} (hs:kC esz s=some xs) {u:Value} (hu:aS M L u s):aS M L u (.al esz xs)∧(s=.ah∧u=.slice none 0 0∨s=.al esz xs):=by
 unfold kC at hs
 split at hs
 ·cases hs;cases hu;exact ⟨.gL _ _ _ (by decide),.inl ⟨rfl,rfl⟩⟩
 ·rename_i own ys
  split at hs
  ·rename_i e;cases hs;subst e;exact ⟨hu,.inr rfl⟩
  ·cases hs
 ·cases hs
theorem mc {esz:Nat} {x:AV} {ys:List AV} (hx:dl x=some ys) (jy:qB esz ys) {u:Value} (hu:aS M L u x) :
 (ys=[]∧∃ b c,u=.slice b 0 c)∨(0 < ys.length∧∃ b off c news,u=.slice (some ⟨b,off,none⟩) ys.length c∧aM M L news (flat ys)∧M.row b off news∧news.length=ys.length * esz):=by
 have key:∀ own,aS M L u (.al own ys)→(ys=[]∧∃ b c,u=.slice b 0 c)∨(0 < ys.length∧∃ b off c news,u=.slice (some ⟨b,off,none⟩) ys.length c∧aM M L news (flat ys)∧M.row b off news∧news.length=ys.length * esz):=by
  intro own h
  cases h with
  | gL a c _ hc=>exact .inl ⟨rfl,_,_,rfl⟩
  | al b off c _ e cs _ he hx hn hle hc hr hm=>
    refine .inr ⟨hn,b,off,c,cs,rfl,hr,hm,?_⟩
    rw [hr.length,cN ys esz (fun y hy=>(jy y hy).1)]
 unfold dl at hx
 split at hx
 ·cases hx;cases hu;exact .inl ⟨rfl,_,_,rfl⟩
 ·rename_i own zs;cases hx;exact key own hu
 ·cases hx
theorem tF (xs ys:List AV):flat (xs++ys)=flat xs++flat ys:=by simp [flat]
theorem Ck {ys:List AV} {esz:Nat} (h:qB esz ys):(flat ys).all AV.one=true:=by
 rw [List.all_eq_true]
 intro x hx
 simp only [flat,List.mem_flatMap] at hx
 obtain ⟨y,hy,hxy⟩:=hx
 exact List.all_eq_true.1 (h y hy).2 x hxy
theorem Cl (hs:St A M L w H ev ea O) {t ty e:TypeId} {i:TypeInfo} {z:Value} {esz bytes:Nat} (ht:P.underlying t=some (.slice e)) (hi:P.info? e=some i) (hz:i.zero=some z) (dc:i.size=esz) (yE:i.bytes=bytes) (uH:z.cells.size=esz) (h0:0 < esz) (vD:0 < bytes)
 {u v:Value} {s x:AV} {φ:List AV→Prop} (h:bn esz bytes s x φ) (slot:Option Nat) (hu:aS M L u s) (NR:match slot with | some d=>ev d=u∧ea d=s | none=>s=.ah) (hv:aS M L v x) :
 ∃ r w' M' O' ob zs,(Builtin.append_ #[t,t] ty #[u,v]).run P w=.ok r w'∧φ zs∧aS M' L r (.al esz zs)∧bg M' w' r (.al esz zs) ob∧St A M' L w' H ev (kR ea slot) O'∧Ext A M w M' w'∧
  (∀ q b,ob=some b→O' q≠some b)∧(∀ b,ob=some b→b∉L∧b < w'.heap.size∧A b):=by
 unfold bn at h
 split at h <;> try exact h.elim
 rename_i xs ys fP qt
 obtain ⟨hbound,jy,hφ⟩:=h
 obtain ⟨Am,hcase⟩:=HW fP hu
 have hesz0:esz≠0:=by omega
 -- the slot forgets what it owned
 have hforget:∃ O1 ob1,St A M L w H ev (kR ea slot) O1∧bg M w u (.al esz xs) ob1∧(∀ q b,ob1=some b→O1 q≠some b)∧(∀ b,ob1=some b→b∉L∧b < w.heap.size∧A b∧∃ d,slot=some d∧O (.t d)=some b∧O1=eE O (.t d) none):=by
  have uw:u=.slice none 0 0→s=.ah→bg M w u (.al esz xs) none:=by
   rintro rfl rfl
   simp [kC] at fP;subst fP
   simp only [bg,hesz0,if_false]
   exact ⟨by simp,.inl ⟨trivial,none,0,rfl⟩⟩
  cases slot with
  | none=>
    simp only at NR
    subst NR
    cases hu
    exact ⟨O,none,hs,uw rfl rfl,(by intro q b e;cases e),(by intro b e;cases e)⟩
  | some d=>
    simp only at NR
    have nQ:=hs.pf d (v:=u) (x:=(ea d).ab) (by rw [NR.2];exact hu.ab) (AV.bL _)
    have Ss:fE ev d u=ev:=by funext t';simp only [fE];split;rename_i e0;rw [e0,NR.1];rfl
    rw [Ss] at nQ
    rcases hcase with ⟨h1,h2⟩ | h1
    ·exact ⟨_,none,nQ,uw h2 h1,(by intro q b e;cases e),(by intro b e;cases e)⟩
    ·refine ⟨_,O (.t d),nQ,?_,?_,?_⟩
     ·have:=hs.iq d
      rwa [NR.1,NR.2,h1] at this
     ·intro q b hb hq
      simp only [eE] at hq
      split at hq
      ·cases hq
      ·rename_i n;exact n (hs.ch _ _ b hq hb)
     ·intro b hb
      exact ⟨hs.cz _ b hb,hs.fq _ b hb,hs.Oa _ b hb,d,rfl,hb,rfl⟩
 obtain ⟨O1,ob1,QX,NS,J6,HX⟩:=hforget
 have J4:∀ y∈xs,y.cells.length=esz:=by
  have:=NS
  simp only [bg,hesz0,if_false] at this
  exact this.1
 have hform:∃ bs n c,u=.slice bs n c∧n=xs.length∧n≤c∧c < 9223372036854775808:=by
  cases Am with
  | gL a c _ hc=>exact ⟨a,0,c,rfl,rfl,Nat.zero_le _,hc⟩
  | al b off c _ e cs _ he hx hn hle hc hr hm=>exact ⟨_,_,c,rfl,rfl,hle,hc⟩
 rcases mc qt jy hv with ⟨rfl,b',c',rfl⟩ | ⟨Cm,b2,o2,c2,news,rfl,An,Su,yF⟩
 ·-- nothing is appended
  obtain ⟨bs,n,c,rfl,hn,QU,hc⟩:=hform
  refine ⟨_,w,M,O1,ob1,xs++[],dz ht hi w bs n c QU b' c',hφ,by simpa using Am,by simpa using NS,QX,Ext.refl A M w,J6,fun b hb=>⟨(HX b hb).1,(HX b hb).2.1,(HX b hb).2.2.1⟩⟩
 ·have hnews:∀ j u,news[j]?=some u→w.cell? ((⟨b2,o2,none⟩:Addr).add j)=some u:=iD Su hs.mem
  have kQ:=An.gM (Ck jy)
  have hlen:(xs.length + ys.length)≤140737488355328:=Nat.le_trans (Nat.le_mul_of_pos_right _ vD) hbound
  have jh:∀ y∈xs++ys,y.cells.length=esz:=by
   intro y hy
   rcases List.mem_append.1 hy with h' | h'
   ·exact J4 y h'
   ·exact (jy y h').1
  -- a new row
  have grow:∀ (olds:List Value) (oldCap:Nat) (w':World),aM M L olds (flat xs)→olds.length=xs.length * esz→w'=w.drew.alloc (.cells (olds.toArray++news.toArray++Builtin.zeroCells z.cells (grownCap w (xs.length + ys.length) oldCap e - (xs.length + ys.length))) e)→
   (Builtin.append_ #[t,t] ty #[u,.slice (some ⟨b2,o2,none⟩) ys.length c2]).run P w=.ok (.slice (some ⟨w.heap.size,0,none⟩) (xs.length + ys.length) (grownCap w (xs.length + ys.length) oldCap e)) w'→
   ∃ r w' M' O' ob zs,(Builtin.append_ #[t,t] ty #[u,.slice (some ⟨b2,o2,none⟩) ys.length c2]).run P w=.ok r w'∧φ zs∧aS M' L r (.al esz zs)∧bg M' w' r (.al esz zs) ob∧St A M' L w' H ev (kR ea slot) O'∧Ext A M w M' w'∧
    (∀ q b,ob=some b→O' q≠some b)∧(∀ b,ob=some b→b∉L∧b < w'.heap.size∧A b):=by
   intro olds oldCap w' Wg hol J7 bJ
   have gr:=grownCap_ge w (xs.length + ys.length) oldCap e
   have hle:=grownCap_le_maxLen w (xs.length + ys.length) oldCap e (by simp only [maxLen];omega)
   simp only [maxLen] at hle
   have hd:=QX.drew
   obtain ⟨M',k1,k2,k3,k4⟩:=hd.newRow e (need:=xs.length + ys.length) (cap:=grownCap w (xs.length + ys.length) oldCap e) h0 (rw:=olds++news) (rest:=(Builtin.zeroCells z.cells (grownCap w (xs.length + ys.length) oldCap e - (xs.length + ys.length))).toList) (zs:=xs++ys)
    (by rw [List.length_append,hol,yF,Nat.add_mul]) (by
      have hzc:(Builtin.zeroCells z.cells (grownCap w (xs.length + ys.length) oldCap e - (xs.length + ys.length))).toList.length=(grownCap w (xs.length + ys.length) oldCap e - (xs.length + ys.length)) * esz:=by
       rw [Array.length_toList,size_zeroCells,uH]
      rw [List.length_append,hol,yF,hzc,← Nat.add_mul,← Nat.add_mul]
      congr 1;omega) (by omega) gr (by omega) (by simp) jh (by rw [tF];exact Wg.append An)
    (olds.toArray++news.toArray++Builtin.zeroCells z.cells (grownCap w (xs.length + ys.length) oldCap e - (xs.length + ys.length))) (by simp)
   have cG:Ext A M w M' { { w with drawn:=w.drawn + 1 } with heap:=w.heap.push (.cells (olds.toArray++news.toArray++Builtin.zeroCells z.cells (grownCap w (xs.length + ys.length) oldCap e - (xs.length + ys.length))) e) }:=Ext.drew.trans k4
   have hww:w'={ { w with drawn:=w.drawn + 1 } with heap:=w.heap.push (.cells (olds.toArray++news.toArray++Builtin.zeroCells z.cells (grownCap w (xs.length + ys.length) oldCap e - (xs.length + ys.length))) e) }:=J7
   refine ⟨_,_,M',O1,some w.heap.size,xs++ys,bJ,hφ,k1,by rw [hww];exact k2,by rw [hww];exact k3,by rw [hww];exact cG,?_,?_⟩
   ·intro q b hb hq
    cases hb
    exact absurd (QX.fq q _ hq) (Nat.lt_irrefl _)
   ·intro b hb
    cases hb
    refine ⟨fun hm=>absurd (hs.lt _ hm) (Nat.lt_irrefl _),by rw [hww];simp,hs.fresh _ (Nat.le_refl _)⟩
  obtain ⟨bs,n,c,rfl,hn,QU,hc⟩:=hform
  subst hn
  by_cases hroom:xs.length + ys.length≤c
  ·-- in place
   have EJ:=NS
   simp only [bg,hesz0,if_false] at EJ
   rcases EJ.2 with ⟨_,a,n,hn⟩ | ⟨b,off,n,c',cs,e',fr,e1,e2,e3,e4,e5,e6⟩
   ·cases hn;omega
   ·cases e2
    obtain ⟨f1,f2,f3,d,rfl,f5,rfl⟩:=HX b e1
    have abb:news.length=ys.length * i.size:=by rw [dc];exact yF
    have xT:(xs.length + ys.length) * esz≤c * esz:=Nat.mul_le_mul_right _ hroom
    rw [Nat.add_mul] at xT
    have ur:off + xs.length * esz + news.length≤cs.size:=by rw [yF];omega
    have bJ:=gn (P:=P) (ty:=ty) ht hi w b off xs.length c cs fr e3 e4 ⟨b2,o2,none⟩ ys.length c2 news abb hnews kQ hroom (by rw [dc];exact ur)
    rw [dc] at bJ
    have hnone:∀ k,k < news.length→M b (off + xs.length * esz + k)=none:=by
     intro k hk
     rw [Nat.add_assoc]
     exact e6 _ (by omega) (by rw [yF] at hk;omega)
    have Sv:∀ t',aS M L (ev t') (kR ea (some d) t'):=QX.env
    obtain ⟨g1,g2,g3⟩:=hs.inPlace (p:=.t d) f5 e3 ur hnone (ea':=kR ea (some d)) Sv QX.iq (fun id j=>by simpa [eE] using hs.hZ id j)
    refine ⟨_,_,_,_,some b,xs++ys,bJ,hφ,?_,?_,g1,g2,?_,?_⟩
    ·-- what it reads as
     have nl:aM (M.lz b (off + xs.length * esz) news) L news (flat ys):=An.mono g2.ln (List.prefix_refl _)
     have hold:∃ olds,aM M L olds (flat xs)∧M.row b off olds∧olds.length=xs.length * esz:=by
      rcases (uI Am).2 with ⟨h',_⟩ | ⟨b1,off1,cs1,Wh,hr,hm⟩
      ·subst h';exact ⟨[],.nil,by intro j v hv;simp at hv,by simp⟩
      ·cases Wh;exact ⟨cs1,hr,hm,by rw [hr.length,cN xs esz J4]⟩
     obtain ⟨olds,o1,o2',o3⟩:=hold
     have:=aS.al (M:=M.lz b (off + xs.length * esz) news) (L:=L) b off c esz esz (olds++news) (xs++ys) h0 jh (by simp;omega) (by simpa using hroom) hc (by rw [tF];exact (o1.mono g2.ln (List.prefix_refl _)).append nl) (by
      intro j v hv
      rw [List.getElem?_append] at hv
      split at hv
      ·exact g2.ln _ _ _ (o2' j v hv)
      ·rename_i hj
       have:=g3 _ v hv
       rwa [show off + xs.length * esz + (j - olds.length)=off + j by omega] at this)
     simpa using this
    ·simp only [bg,hesz0,if_false]
     refine ⟨jh,.inr ⟨b,off,xs.length + ys.length,c,(ag cs.toList (off + xs.length * esz) news).toArray,e',fr,rfl,by simp,setRow_heap w b cs _ e' fr e3,?_,?_,?_⟩⟩
     ·have:(ag cs.toList (off + xs.length * esz) news).toArray.size=cs.size:=by
       rw [List.size_toArray,nN _ _ _ (by simpa using ur)];simp
      rw [this];exact e4
     ·rw [List.size_toArray,nN _ _ _ (by simpa using ur)];simpa using e5
     ·intro k hk Sn
      unfold Mem.lz
      rw [Nat.add_mul] at hk
      rw [if_neg (by rw [yF];omega)]
      exact e6 k (by omega) Sn
    ·intro q b' hb hq
     cases hb
     exact J6 q b e1 hq
    ·intro b' hb
     cases hb
     refine ⟨f1,?_,f3⟩
     simpa [World.setRow] using f2
  ·-- a new one
   have hbound':(xs.length + ys.length) * i.bytes≤140737488355328:=by rw [yE];exact hbound
   cases bs with
   | none=>
     have J8:xs.length=0:=by
      rcases (uI Am).2 with ⟨_,h'⟩ | ⟨b1,off1,cs1,Wh,_⟩
      ·exact h'
      ·cases Wh
     have NP:c=0:=by
      have EJ:=NS
      simp only [bg,hesz0,if_false] at EJ
      rcases EJ.2 with ⟨_,a,n,hn⟩ | ⟨b,off,n,c',cs,e',fr,e1,e2,_⟩
      ·cases hn;exact J8
      ·cases e2
     have hxnil:xs=[]:=List.eq_nil_of_length_eq_zero J8
     subst hxnil
     subst NP
     have hr:=run_append_nil (P:=P) w t ty e i z ht hi hz ⟨b2,o2,none⟩ ys.length c2 news (by rw [dc];exact yF) hnews Cm (by omega) (by simp at hbound';omega)
     refine grow [] 0 _ (by exact .nil) (by simp) rfl ?_
     simpa using hr
   | some a=>
     have hold:∃ olds,aM M L olds (flat xs)∧(∀ j v,olds[j]?=some v→w.cell? (a.add j)=some v)∧olds.length=xs.length * esz:=by
      rcases (uI Am).2 with ⟨h',_⟩ | ⟨b1,off1,cs1,Wh,hr,hm⟩
      ·subst h';exact ⟨[],.nil,by intro j v hv;simp at hv,by simp⟩
      ·cases Wh;exact ⟨cs1,hr,iD hm hs.mem,by rw [hr.length,cN xs esz J4]⟩
     obtain ⟨olds,o1,o2',o3⟩:=hold
     have hr:=run_append_grow (P:=P) w t ty e i z ht hi hz a xs.length c olds (by rw [dc];exact o3) o2' ⟨b2,o2,none⟩ ys.length c2 news (by rw [dc];exact yF) hnews (by omega) (by omega) (growslice_fits (by omega) hbound')
     exact grow olds c _ o1 o3 rfl hr
end
end Go.aL
end
section
namespace Go.aL
open Go
def bO:AV→AV
 | .agg ys=>.agg (ys.map AV.drop)
 | z=>z
section
variable {P:Program} {w:World} {M:Mem} {L:List Nat} {H:List aa} {A:Perm} {ev:Nat→Value} {ea:Nat→AV} {O:Pos→Option Nat}
theorem jC (z:AV):(bO z).cells.length=z.cells.length:=by cases z <;> simp [bO,AV.cells]
theorem aS.bO {v:Value} {z:AV} (h:aS M L v z):aS M L v (bO z):=by
 cases z <;> first | exact h | skip
 cases h with
 | agg cs _ hr=>exact .agg cs _ hr.map_drop
theorem pK {x:AV} (h:x.val=true):(Go.aL.bO x).val=true:=by
 cases x <;> simp_all [Go.aL.bO,AV.val]
def gv (esz bytes:Nat) (z n:AV) (H:List aa) (K:AV→List aa→Prop):Prop:=
 match n with
 | .int .i64 n=>0≤n∧n.toNat * bytes≤140737488355328∧aj (H.length + 1) (flat (List.replicate n.toNat (bO z)))=true∧
    K (.bc H.length 0 n.toNat n.toNat) (H++[.cells (flat (List.replicate n.toNat (bO z)))])
 | _=>False
theorem run_mk {t e:TypeId} {i:TypeInfo} {z:Value} {esz bytes:Nat} (ht:P.underlying t=some (.slice e)) (hi:P.info? e=some i) (hz:i.zero=some z) (dc:i.size=esz) (yE:i.bytes=bytes) (uH:z.cells.size=esz) (h0:0 < esz) (vD:0 < bytes)
 (l c:Int) (Aj:0≤l) (Ak:l≤c) (hc:c.toNat * bytes≤140737488355328) (w:World) :
 ∃ cs:Array Value,(Instr.makeSlice t (.int .i64 l) (.int .i64 c)).run P w=.ok (.slice (some ⟨w.heap.size,0,none⟩) l.toNat c.toNat) { w with heap:=w.heap.push (.cells cs e) }∧cs=(Array.range (c.toNat * esz)).map (z.cells[· % z.cells.size]!):=by
 have jc:c.toNat≤140737488355328:=Nat.le_trans (Nat.le_mul_of_pos_right _ vD) hc
 have NP:0≤c:=by omega
 have w1:IntKind.i64.wrap l=l:=by
  have:IntKind.i64.bits=64:=rfl
  have:IntKind.i64.signed=true:=rfl
  simp only [IntKind.wrap, *]
  have:l % 2 ^ 64=l:=Int.emod_eq_of_lt Aj (by omega)
  rw [this]
  rw [if_neg (by simp;omega)]
 have w2:IntKind.i64.wrap c=c:=by
  have:IntKind.i64.bits=64:=rfl
  have:IntKind.i64.signed=true:=rfl
  simp only [IntKind.wrap, *]
  have:c % 2 ^ 64=c:=Int.emod_eq_of_lt NP (by omega)
  rw [this]
  rw [if_neg (by simp;omega)]
 have hcn:(c.toNat:Int)=c:=Int.toNat_of_nonneg NP
 have NT:¬ ((bytes:Int) * c > 2 ^ 48):=by
  have:(bytes:Int) * c=((c.toNat * bytes:Nat):Int):=by rw [Int.natCast_mul,hcn,Int.mul_comm]
  rw [this];omega
 have xU:¬ c < 0:=by omega
 have hneg2:¬ l < 0:=by omega
 have hgt:¬ l > c:=by omega
 refine ⟨_,?_,rfl⟩
 simp only [Instr.makeSlice,Sem.run_bind,run_underlying ht,Result.andThen_ok,asInt,asIntOf,Sem.run_pure,typeInfo,run_program,hi,yE,w1,w2,xU,hneg2,hgt,NT,decide_false,Bool.or_self,Bool.false_eq_true,if_false,run_askRoom,sizeOf,dc]
 by_cases hn:c.toNat * esz=0
 ·simp [hn,newRow]
  congr 2
  apply Array.ext'
  simp
 ·simp [hn,zeroValue,typeInfo,hi,hz,newRow]
theorem EK (hs:St A M L w H ev ea O) {t e:TypeId} {i:TypeInfo} {zv:Value} {esz bytes:Nat} (ht:P.underlying t=some (.slice e)) (hi:P.info? e=some i) (hz:i.zero=some zv) (dc:i.size=esz) (yE:i.bytes=bytes) (h0:0 < esz) (vD:0 < bytes)
 {z:AV} (Nl:ofValue zv=some z) (tC:z.val=true) (jh:z.cells.length=esz) (J9:∀ y∈z.cells,∀ own xs,y=.al own xs→own=0) {u:Value} {n:AV} {K:AV→List aa→Prop} (h:gv esz bytes z n H K) (hu:aS M L u n) :
 ∃ r x L' w' H',(Instr.makeSlice t u u).run P w=.ok r w'∧aS M L' r x∧(∀ own xs,x=.al own xs→own=0)∧K x H'∧St A M L' w' H' ev ea O∧Ext A M w M w'∧L <+: L':=by
 unfold gv at h
 split at h <;> try exact h.elim
 rename_i n
 obtain ⟨Nm,Wi,nC,hK⟩:=h
 cases hu
 have Ci:=(cM (M:=M) (L:=L) Nl).bO.gl (pK tC)
 have uH:zv.cells.size=esz:=by have:=Ci.length;rw [jC,jh] at this;simpa using this
 obtain ⟨cs,bJ,rfl⟩:=run_mk ht hi hz dc yE uH h0 vD n n Nm (Int.le_refl _) Wi w
 have hcells:=jT (M:=M) (L:=L) zv.cells esz n.toNat uH h0 (bO z) Ci
 have hcn:n.toNat≤140737488355328:=Nat.le_trans (Nat.le_mul_of_pos_right _ vD) Wi
 obtain ⟨g1,g2⟩:=hs.sf (.cells ((Array.range (n.toNat * esz)).map (zv.cells[· % zv.cells.size]!)) e) (.cells (flat (List.replicate n.toNat (bO z)))) (fun w' hw hM=>⟨_,e,hw,hcells.mono (Mem.bQ M) ⟨_,rfl⟩,hM⟩) (by simpa [aa.aV] using nC) (fun j=>by
  simp only [nI]
  refine bg.free ?_
  intro own xs hh
  rw [List.getD_eq_getElem?_getD] at hh
  cases hx:(flat (List.replicate n.toNat (bO z)))[j]? with
  | none=>simp [hx] at hh
  | some y=>
    simp [hx] at hh
    have hy:=List.mem_of_getElem? hx
    simp only [flat,List.mem_flatMap] at hy
    obtain ⟨q,hq,NU⟩:=hy
    rw [List.eq_of_mem_replicate hq] at NU
    subst hh
    cases z <;> simp only [bO,AV.cells] at NU J9
    case agg ys=>
     obtain ⟨y',_,hy'⟩:=List.mem_map.1 NU
     exact AV.jJ y' own xs hy'
    all_goals exact J9 _ NU own xs rfl)
 refine ⟨_,.bc H.length 0 n.toNat n.toNat,_,_,_,bJ,.bc w.heap.size 0 _ _ H.length ?_ (by omega),(by intro _ _ e;cases e),hK,g1,g2,⟨_,rfl⟩⟩
 rw [List.getElem?_append_right (by rw [hs.len];exact Nat.le_refl _),hs.len];simp
def ji (esz bytes:Nat) (n:AV) (φ:AV→Prop):Prop:=
 match n with
 | .int .i64 n=>0≤n∧n.toNat * bytes≤140737488355328∧φ (.al esz [])
 | _=>False
theorem EL (hs:St A M L w H ev ea O) {t e:TypeId} {i:TypeInfo} {zv:Value} {esz bytes:Nat} (ht:P.underlying t=some (.slice e)) (hi:P.info? e=some i) (hz:i.zero=some zv) (dc:i.size=esz) (yE:i.bytes=bytes) (h0:0 < esz) (vD:0 < bytes)
 (uH:zv.cells.size=esz) {u:Value} {n:AV} {φ:AV→Prop} (h:ji esz bytes n φ) (hu:aS M L u n) :
 ∃ r w' M' b,(Instr.makeSlice t (.int .i64 0) u).run P w=.ok r w'∧aS M' L r (.al esz [])∧φ (.al esz [])∧bg M' w' r (.al esz []) (some b)∧St A M' L w' H ev ea O∧Ext A M w M' w'∧
  (∀ q,O q≠some b)∧b∉L∧b < w'.heap.size∧A b:=by
 unfold ji at h
 split at h <;> try exact h.elim
 rename_i n
 obtain ⟨Nm,Wi,hφ⟩:=h
 cases hu
 obtain ⟨cs,bJ,yD⟩:=run_mk ht hi hz dc yE uH h0 vD 0 n (Int.le_refl _) Nm Wi w
 have hcn:n.toNat≤140737488355328:=Nat.le_trans (Nat.le_mul_of_pos_right _ vD) Wi
 obtain ⟨g1,g2,g3⟩:=hs.qw cs e (0,0) [] (fun j v hv=>by simp at hv)
 refine ⟨_,_,_,w.heap.size,bJ,.gL _ _ _ (by omega),hφ,?_,g1,g2,fun q hq=>absurd (hs.fq q _ hq) (Nat.lt_irrefl _),fun hm=>absurd (hs.lt _ hm) (Nat.lt_irrefl _),by simp,hs.fresh _ (Nat.le_refl _)⟩
 unfold bg
 simp only [Nat.ne_of_gt h0,if_false]
 refine ⟨by simp,.inr ⟨_,0,0,n.toNat,cs,e,(0,0),rfl,by simp,dO w _,oF _,?_,?_⟩⟩
 ·rw [yD];simp
 ·intro k _ _
  simp [Mem.add]
def dQ (x:Option AV) (d:Nat) (φ:Nat→Prop):Prop:=
 match x with
 | none=>φ d
 | some (.int _ i)=>0≤i∧φ i.toNat
 | _=>False
def eR (esz:Nat) (x:AV) (lo hi mx:Option AV) (φ:AV→Prop):Prop:=
 match dl x with
 | some xs=>dQ hi xs.length fun h=>dQ lo 0 fun l=>l≤h∧h≤xs.length∧
    match mx with
    | none=>φ (.al 0 ((xs.take h).drop l))
    | some m=>hi.isSome=true∧dQ (some m) 0 fun m=>m=h∧(∀ y∈xs,y.cells.length=esz)∧φ (.al esz ((xs.take h).drop l))
 | none=>False
theorem yG:∀ (xs:List AV) (e n:Nat),(∀ y∈xs,y.cells.length=e)→flat (xs.take n)=(flat xs).take (n * e)
 | [],e,n,_=>by simp [flat]
 | y::ys,e,0,_=>by simp [flat]
 | y::ys,e,n + 1,hx=>by
   have hy:=hx y (by simp)
   have ih:=yG ys e n (fun z hz=>hx z (by simp [hz]))
   simp only [flat] at ih
   simp only [List.take_succ_cons,flat,List.flatMap_cons,ih]
   rw [List.take_append,List.take_of_length_le (l:=y.cells) (by rw [hy,Nat.add_mul];omega),hy,show (n + 1) * e - e=n * e by rw [Nat.add_mul];omega]
theorem yH:∀ (xs:List AV) (e n:Nat),(∀ y∈xs,y.cells.length=e)→flat (xs.drop n)=(flat xs).drop (n * e)
 | [],e,n,_=>by simp [flat]
 | y::ys,e,0,_=>by simp [flat]
 | y::ys,e,n + 1,hx=>by
   have hy:=hx y (by simp)
   have ih:=yH ys e n (fun z hz=>hx z (by simp [hz]))
   simp only [flat] at ih
   simp only [List.drop_succ_cons,flat,List.flatMap_cons]
   rw [ih,List.drop_append,List.drop_eq_nil_of_le (as:=y.cells) (by rw [hy,Nat.add_mul];omega),hy,show (n + 1) * e - e=n * e by rw [Nat.add_mul];omega]
   rfl
def jj (M:Mem) (L:List Nat) (x:Option AV) (v:Option Value):Prop:=match x,v with | none,none=>True | some x,some v=>aS M L v x | _,_=>False
theorem dR {x:Option AV} {v:Option Value} (hx:jj M L x v) {d:Nat} {φ:Nat→Prop} (h:dQ x d φ) :
 ∃ k,φ k∧((x=none∧v=none∧k=d)∨∃ kd i,v=some (.int kd i)∧0≤i∧i.toNat=k):=by
 unfold dQ at h
 split at h
 ·cases v with
  | none=>exact ⟨d,h,.inl ⟨rfl,rfl,rfl⟩⟩
  | some v=>exact hx.elim
 ·rename_i kd i
  cases v with
  | none=>exact hx.elim
  | some v=>
    have xH:aS M L v (.int kd i):=hx
    cases xH
    exact ⟨_,h.2,.inr ⟨_,_,rfl,h.1,rfl⟩⟩
 ·exact h.elim
theorem run_sliceBound (w:World) (kd:IntKind) (i:Int) (y:Nat) (code:BoundsCode) (h0:0≤i) (h1:i.toNat≤y):(Instr.sliceBound (.int kd i) y code).run P w=.ok i.toNat w:=by
 have:0≤i∧i≤(y:Int):=⟨h0,by omega⟩
 simp [Instr.sliceBound,asIntOf,this]
theorem vE (hs:St A M L w H ev ea O) {t e:TypeId} {esz:Nat} (ht:P.underlying t=some (.slice e)) (he:dP P e=some esz) (h0:0 < esz) {u:Value} {x:AV} {lo hi mx:Option AV} {vlo vhi vmx:Option Value} {φ:AV→Prop}
 (h:eR esz x lo hi mx φ) (hu:aS M L u x) (Sq:∀ own xs,x=.al own xs→∀ z∈xs,z.cells.length=esz)
 (h1:jj M L lo vlo) (h2:jj M L hi vhi) (h3:jj M L mx vmx) :
 ∃ a n c own ys,(Instr.sliceAt t u vlo vhi vmx).run P w=.ok (.slice a n c) w∧aS M L (.slice a n c) (.al own ys)∧φ (.al own ys)∧(own≠0→n=c∧∀ y∈ys,y.cells.length=own):=by
 unfold eR at h
 split at h <;> try exact h.elim
 rename_i xs fP
 have dc:(sizeOf e).run P w=.ok esz w:=by
  obtain ⟨i,hi,NO⟩:=Option.map_eq_some_iff.1 he
  simp [sizeOf,typeInfo,hi,NO]
 obtain ⟨hh,h,Ka⟩:=dR h2 h
 obtain ⟨ll,h,vC⟩:=dR h1 h
 obtain ⟨hle,hhl,h⟩:=h
 have Am:∃ own,aS M L u (.al own xs):=by
  unfold dl at fP
  split at fP
  ·cases fP;cases hu;exact ⟨0,.gL _ _ _ (by decide)⟩
  ·cases fP;exact ⟨_,hu⟩
  ·cases fP
 obtain ⟨own0,Am⟩:=Am
 have J4:∀ z∈xs,z.cells.length=esz:=by
  unfold dl at fP
  split at fP
  ·cases fP;simp
  ·cases fP;exact Sq _ _ rfl
  ·cases fP
 have hform:∃ bs c,u=.slice bs xs.length c∧xs.length≤c∧c < 9223372036854775808:=by
  cases Am with
  | gL a c _ hc=>exact ⟨a,c,rfl,Nat.zero_le _,hc⟩
  | al b off c _ e cs _ he hx hn hle hc hr hm=>exact ⟨_,c,rfl,hle,hc⟩
 obtain ⟨bs,c,rfl,hxc,hc⟩:=hform
 have Wj:∀ (own m:Nat),hh≤m→m≤c→aS M L (.slice (if m=ll then bs else bs.map (·.add (ll * esz))) (hh - ll) (m - ll)) (.al own ((xs.take hh).drop ll)):=by
  intro own m hm1 hm2
  have hlen:((xs.take hh).drop ll).length=hh - ll:=by simp;omega
  by_cases hz:hh - ll=0
  ·have:(xs.take hh).drop ll=[]:=List.eq_nil_of_length_eq_zero (by omega)
   rw [this,hz]
   exact .gL _ _ _ (by omega)
  ·rcases (uI Am).2 with ⟨h',_⟩ | ⟨b,off,cs,rfl,hr,hm⟩
   ·subst h';simp at hlen;omega
   ·rw [if_neg (by omega)]
    simp only [Option.map_some,Addr.add_lit]
    have xH:∀ z∈(xs.take hh).drop ll,z.cells.length=esz:=fun z hz=>J4 z (List.mem_of_mem_take (List.mem_of_mem_drop hz))
    have:=aS.al (M:=M) (L:=L) b (off + ll * esz) (m - ll) own esz ((cs.take (hh * esz)).drop (ll * esz)) ((xs.take hh).drop ll) h0 xH (by omega) (by omega) (by omega) (by
     rw [yH _ esz ll (fun z hz=>J4 z (List.mem_of_mem_take hz)),yG _ esz hh J4]
     exact (hr.take _).drop _) (by
     intro j v hv
     rw [List.getElem?_drop,List.getElem?_take] at hv
     split at hv
     ·have:=hm _ v hv
      rwa [← Nat.add_assoc] at this
     ·cases hv)
    rwa [hlen] at this
 cases mx with
 | none=>
   cases vmx with
   | some v=>exact h3.elim
   | none=>
     refine ⟨_,_,_,0,_,?_,Wj 0 c (by omega) (Nat.le_refl _),h,fun h=>absurd rfl h⟩
     have hb:(Instr.sliceBounds true xs.length c vlo vhi none).run P w=.ok (ll,hh,c) w:=by
      rcases Ka with ⟨_,rfl,rfl⟩ | ⟨kd,i,rfl,uJ,rfl⟩ <;> rcases vC with ⟨_,rfl,rfl⟩ | ⟨kd',i',rfl,ux,rfl⟩
      ·rfl
      ·have pL:=run_sliceBound (P:=P) w kd' i' xs.length .sliceB ux hle
       simp [Instr.sliceBounds,pL]
      ·have pL:=run_sliceBound (P:=P) w kd i c .sliceAcap uJ (by omega)
       simp [Instr.sliceBounds,pL]
      ·have pL:=run_sliceBound (P:=P) w kd i c .sliceAcap uJ (by omega)
       have qv:=run_sliceBound (P:=P) w kd' i' i.toNat .sliceB ux hle
       simp [Instr.sliceBounds,pL,qv]
     simp only [Instr.sliceAt,Instr.slice,Sem.run_bind,run_underlying ht,Result.andThen_ok,hb,dc,Sem.run_pure]
 | some m=>
   cases vmx with
   | none=>exact h3.elim
   | some vm=>
     obtain ⟨hsome,h⟩:=h
     obtain ⟨mm,⟨rfl,_,hφ⟩,VN⟩:=dR (v:=some vm) h3 h
     rcases VN with ⟨hh',_⟩ | ⟨kdm,im,hvm,abf,J5⟩
     ·cases hh'
     cases hvm
     refine ⟨_,_,_,esz,_,?_,Wj esz mm (Nat.le_refl _) (by omega),hφ,fun _=>⟨rfl,fun y hy=>J4 y (List.mem_of_mem_take (List.mem_of_mem_drop hy))⟩⟩
     have hb:(Instr.sliceBounds true xs.length c vlo vhi (some (.int kdm im))).run P w=.ok (ll,mm,mm) w:=by
      have NN:=run_sliceBound (P:=P) w kdm im c .slice3Acap abf (by omega)
      rw [J5] at NN
      rcases Ka with ⟨hn,rfl,hd⟩ | ⟨kd,i,rfl,uJ,hi1⟩
      ·rw [hn] at hsome;cases hsome
      ·have pL:=run_sliceBound (P:=P) w kd i mm .slice3B uJ (by omega)
       rw [hi1] at pL
       rcases vC with ⟨_,rfl,rfl⟩ | ⟨kd',i',rfl,ux,rfl⟩
       ·simp [Instr.sliceBounds,NN,pL]
       ·have qv:=run_sliceBound (P:=P) w kd' i' mm .slice3C ux hle
        simp [Instr.sliceBounds,NN,pL,qv]
     simp only [Instr.sliceAt,Instr.slice,Sem.run_bind,run_underlying ht,Result.andThen_ok,hb,dc,Sem.run_pure]
def cn (x:AV) (lo hi:Option AV) (φ:AV→Prop):Prop:=
 match x with
 | .str s=>dQ hi s.size fun h=>dQ lo 0 fun l=>l≤h∧h≤s.size∧φ (.str (s.extract l h))
 | _=>False
theorem xV {t:TypeId} (ht:P.underlying t=some .string) {u:Value} {x:AV} {lo hi:Option AV} {vlo vhi:Option Value} {φ:AV→Prop}
 (h:cn x lo hi φ) (hu:aS M L u x) (h1:jj M L lo vlo) (h2:jj M L hi vhi) :
 ∃ r z,(Instr.sliceAt t u vlo vhi none).run P w=.ok r w∧aS M L r z∧φ z∧∀ own xs,z=.al own xs→own=0:=by
 unfold cn at h
 split at h <;> try exact h.elim
 rename_i s
 cases hu
 obtain ⟨hh,h,Ka⟩:=dR h2 h
 obtain ⟨ll,h,vC⟩:=dR h1 h
 obtain ⟨hle,hhl,hφ⟩:=h
 refine ⟨_,_,?_,.str _,hφ,by intro _ _ e;cases e⟩
 have hb:(Instr.sliceBounds false s.size s.size vlo vhi none).run P w=.ok (ll,hh,s.size) w:=by
  rcases Ka with ⟨_,rfl,rfl⟩ | ⟨kd,i,rfl,uJ,rfl⟩ <;> rcases vC with ⟨_,rfl,rfl⟩ | ⟨kd',i',rfl,ux,rfl⟩
  ·rfl
  ·have pL:=run_sliceBound (P:=P) w kd' i' s.size .sliceB ux hle
   simp [Instr.sliceBounds,pL]
  ·have pL:=run_sliceBound (P:=P) w kd i s.size .sliceAlen uJ (by omega)
   simp [Instr.sliceBounds,pL]
  ·have pL:=run_sliceBound (P:=P) w kd i s.size .sliceAlen uJ (by omega)
   have qv:=run_sliceBound (P:=P) w kd' i' i.toNat .sliceB ux hle
   simp [Instr.sliceBounds,pL,qv]
 simp only [Instr.sliceAt,Instr.slice,Sem.run_bind,run_underlying ht,Result.andThen_ok,Option.isSome_none,Bool.false_eq_true,if_false,Sem.run_pure,hb]
def bk (l:List UInt8):List AV:=l.map fun b=>.int .u8 b.toNat
def fS (x:AV) (φ:AV→Prop):Prop:=match x with | .str s=>φ (.str s) | _=>False
theorem Ao {src dst:TypeId} {d:TypeDesc} (hs:P.underlying src=some d) (hd:P.underlying dst=some .string) {u:Value} {x:AV} {φ:AV→Prop} (h:fS x φ) (hu:aS M L u x) :
 ∃ r z,(convert src dst u).run P w=.ok r w∧aS M L r z∧φ z∧∀ own xs,z=.al own xs→own=0:=by
 unfold fS at h
 split at h <;> try exact h.elim
 cases hu
 refine ⟨_,_,?_,.str _,h,by intro _ _ e;cases e⟩
 simp [convert,run_underlying hs,run_underlying hd]
def jV (x:AV) (φ:AV→Prop):Prop:=
 match dl x with
 | some ys=>∃ l,ys=bk l∧φ (.str ⟨l.toArray⟩)
 | none=>False
theorem vF (l:List UInt8):flat (bk l)=bk l:=by
 induction l with
 | nil=>rfl
 | cons b l ih=>simp only [bk,List.map_cons,flat,List.flatMap_cons,AV.cells] at ih ⊢;rw [ih];rfl
theorem aM.bytes:∀ {cs:List Value} {l:List UInt8},aM M L cs (bk l)→cs=l.map fun b=>.int .u8 b.toNat
 | [],[],_=>rfl
 | [],b::l,h=>by have:=h.length;simp [bk] at this
 | c::cs,[],h=>by have:=h.length;simp [bk] at this
 | c::cs,b::l,h=>by
   simp only [bk,List.map_cons] at h
   cases h with
   | cons _ _ _ _ h t=>cases h;simp [aM.bytes (l:=l) t]
theorem EM (hs:St A M L w H ev ea O) {src dst e:TypeId} (h1:P.underlying src=some (.slice e)) (h2:P.underlying e=some (.int .u8)) (hd:P.underlying dst=some .string) {u:Value} {x:AV} {φ:AV→Prop} (h:jV x φ) (hu:aS M L u x) :
 ∃ r z,(convert src dst u).run P w=.ok r w∧aS M L r z∧φ z∧∀ own xs,z=.al own xs→own=0:=by
 unfold jV at h
 split at h <;> try exact h.elim
 rename_i ys qt
 obtain ⟨l,rfl,hφ⟩:=h
 have Am:∃ own,aS M L u (.al own (bk l)):=by
  unfold dl at qt
  split at qt
  ·cases l with
   | nil=>cases hu;exact ⟨0,.gL _ _ _ (by decide)⟩
   | cons b l=>simp [bk] at qt
  ·cases qt;exact ⟨_,hu⟩
  ·cases qt
 obtain ⟨own,Am⟩:=Am
 refine ⟨_,_,?_,.str _,hφ,by intro _ _ e;cases e⟩
 cases l with
 | nil=>
   have:∃ a c,u=.slice a 0 c:=by
    cases Am with
    | gL a c _ hc=>exact ⟨a,c,rfl⟩
    | al b off c _ e cs _ he hx hn=>simp [bk] at hn
   obtain ⟨a,c,rfl⟩:=this
   cases a with
   | none=>rw [run_convert_bytes_nil w src e h1 h2 0 c dst hd];rfl
   | some a=>
     simp [convert,run_underlying h1,run_underlying hd,run_underlying h2,Conv.bytesToString,loadCells,loadCellsFrom]
     rfl
 | cons b0 l=>
   have:∃ b off c cs,u=.slice (some ⟨b,off,none⟩) (bk (b0::l)).length c∧aM M L cs (bk (b0::l))∧M.row b off cs:=by
    generalize hl:bk (b0::l)=q at Am
    cases Am with
    | gL=>simp [bk] at hl
    | al b off c _ e cs _ he hx hn hle hc hr hm=>
      subst hl
      rw [vF] at hr
      exact ⟨b,off,c,cs,rfl,hr,hm⟩
   obtain ⟨b,off,c,cs,rfl,hr,hm⟩:=this
   have yD:=hr.bytes
   have bJ:=run_convert_bytes_arg (P:=P) w src e h1 h2 b off (bk (b0::l)).length c ((b0::l).map fun b=>(b.toNat:Int)) (by simp [bk]) (fun i hi=>by
    have me:i < (b0::l).length:=by simpa [bk] using hi
    have:=hs.mem _ _ _ (hm i (.int .u8 ((b0::l)[i]).toNat) (by rw [yD,List.getElem?_map,List.getElem?_eq_getElem me];rfl))
    rw [this,List.getD_eq_getElem?_getD,List.getElem?_map,List.getElem?_eq_getElem me]
    rfl) dst hd
   rw [bJ]
   congr 2
   simp only [strOfNums,List.map_map]
   congr 1
   congr 1
   conv=>rhs;rw [← List.map_id (b0::l)]
   apply List.map_congr_left
   intro b _
   simp
def fe (own:Nat) (x:AV) (φ:AV→Prop):Prop:=
 match x with
 | .str s=>s.size < 9223372036854775808∧φ (.al own (bk s.data.toList))
 | _=>False
end
end Go.aL
end
section
namespace Go.aL
open Go
section
variable {P:Program} {w:World} {M:Mem} {L:List Nat} {H:List aa} {A:Perm} {ev:Nat→Value} {ea:Nat→AV} {O:Pos→Option Nat}
theorem Co (w:World) (cs:Array Value) (e:TypeId) :
 ({ w with heap:=w.heap.push (.cells cs e) }:World).freeze { block:=w.heap.size,off:=cs.size } 1={ w with heap:=w.heap.push (.cells cs e (cs.size,cs.size + 1)) }:=by
 simp only [World.freeze,Nat.one_ne_zero,if_false]
 congr 1
 apply Array.ext
 ·simp
 ·intro i h1 h2
  rw [Array.getElem_modify]
  by_cases hi:w.heap.size=i
  ·subst hi;simp
  ·simp only [hi,if_false]
   have:i < w.heap.size:=by simp at h2;omega
   rw [Array.getElem_push_lt this,Array.getElem_push_lt this]
theorem Cp (l:List UInt8):aM M L (l.map fun b=>Value.int .u8 b.toNat) (bk l):=by
 induction l with
 | nil=>exact .nil
 | cons b l ih=>exact .cons _ _ _ _ (.int _ _) ih
theorem Ap (hs:St A M L w H ev ea O) {src dst e:TypeId} (h1:P.underlying src=some .string) (hd:P.underlying dst=some (.slice e)) (h2:P.underlying e=some (.int .u8)) {u:Value} {x:AV} {φ:AV→Prop} (h:fe 1 x φ) (hu:aS M L u x) :
 ∃ r z w' M' ob,(convert src dst u).run P w=.ok r w'∧aS M' L r z∧φ z∧bg M' w' r z ob∧St A M' L w' H ev ea O∧Ext A M w M' w'∧
  (∀ q b,ob=some b→O q≠some b)∧(∀ b,ob=some b→b∉L∧b < w'.heap.size∧A b):=by
 unfold fe at h
 split at h <;> try exact h.elim
 rename_i s
 obtain ⟨dc,hφ⟩:=h
 cases hu
 let cap:=(Question.appendCap s.size 0 e).cut (w.tape w.drawn (.appendCap s.size 0 e))
 have QY:s.size≤cap:=by simp [cap,Question.cut]
 have ph:cap < 9223372036854775808:=by
  have:=Nat.mod_lt (w.tape w.drawn (.appendCap s.size 0 e)) (show 0 < 2 ^ 63 - s.size by omega)
  simp only [cap,Question.cut];omega
 let elems:Array Value:=s.data.map fun b=>.int .u8 b.toNat
 let cs:Array Value:=elems++Array.replicate (cap - s.size) (.int .u8 0)
 have yD:cs.size=cap:=by
  simp only [cs,elems,Array.size_append,Array.size_map,Array.size_replicate]
  have:s.data.size=s.size:=rfl
  omega
 have VO:elems.toList=s.data.toList.map fun b=>Value.int .u8 b.toNat:=by simp [elems]
 let W:World:={ { w with drawn:=w.drawn + 1 } with heap:=w.heap.push (.cells cs e (cs.size,cs.size + 1)) }
 have bJ:(convert src dst (.string s)).run P w=.ok (.slice (some ⟨w.heap.size,0,none⟩) s.size cap) W:=by
  have Et:=Co { w with drawn:=w.drawn + 1 } cs e
  have So:({ { w with drawn:=w.drawn + 1 } with heap:=w.heap.push (.cells cs e) }:World).shape? w.heap.size=some (e,cs.size):=by
   simp [World.shape?]
  simp only [convert,Sem.run_bind,run_underlying h1,run_underlying hd,run_underlying h2,Result.andThen_ok,Conv.stringToBytes,run_choose,Question.forced,Bool.false_eq_true,if_false]
  have An:∀ W:World,(newRow e cs).run P W=.ok ⟨W.heap.size,0,none⟩ { W with heap:=W.heap.push (.cells cs e) }:=fun _=>rfl
  refine Eq.trans (congrArg (fun r=>Result.andThen r _) (An _)) ?_
  simp only [Result.andThen_ok,Sem.run_pure,markStringish,run_shape,Sem.run_bind]
  rw [So]
  simp only [run_freeze,Result.andThen_ok]
  rw [Et]
 obtain ⟨g1,g2,g3⟩:=hs.drew.qw cs e (cs.size,cs.size + 1) elems.toList (fun j v hv=>by
  have:cs.toList[j]?=some v:=by
   simp only [cs,Array.toList_append]
   rw [List.getElem?_append_left (aO hv)];exact hv
  simpa using this)
 have fL:aM (M.add w.heap.size elems.toList) L elems.toList (bk s.data.toList):=by rw [VO];exact Cp _
 have hlen:(bk s.data.toList).length=s.size:=by simp [bk]
 have hx:∀ y∈bk s.data.toList,y.cells.length=1:=by
  intro y hy
  simp only [bk,List.mem_map] at hy
  obtain ⟨b,_,rfl⟩:=hy
  rfl
 refine ⟨_,_,W,_,some w.heap.size,bJ,?_,hφ,?_,g1,Ext.drew.trans g2,?_,?_⟩
 ·by_cases h0:s.size=0
  ·have:bk s.data.toList=[]:=List.eq_nil_of_length_eq_zero (by omega)
   rw [this,h0]
   exact .gL _ _ _ ph
  ·have:=aS.al (M:=M.add w.heap.size elems.toList) (L:=L) w.heap.size 0 cap 1 1 elems.toList (bk s.data.toList) (by omega) hx (by omega) (by omega) ph (by rw [vF];exact fL) g3
   rwa [hlen] at this
 ·unfold bg
  simp only [Nat.one_ne_zero,if_false]
  refine ⟨hx,.inr ⟨_,0,s.size,cap,cs,e,(cs.size,cs.size + 1),rfl,rfl,dO _ _,?_,by omega,?_⟩⟩
  ·intro j hj h;simp at h;omega
  ·intro k hk _
   simp only [Mem.add,if_true,Nat.zero_add]
   refine List.getElem?_eq_none ?_
   have:elems.toList.length=s.size:=by rw [VO];simp
   omega
 ·intro q b hb hq
  cases hb
  exact absurd (hs.fq q _ hq) (Nat.lt_irrefl _)
 ·intro b hb
  cases hb
  exact ⟨fun hm=>absurd (hs.lt _ hm) (Nat.lt_irrefl _),by simp [W],hs.fresh _ (Nat.le_refl _)⟩
def c8 (kd:Nat) (x y:AV):Option Bool:=
 match kd,x,y with
 | 0,.int k a,.int k' b=>if k=k' then some (decide (a=b)) else none
 | 1,.str a,.str b=>some (decide (a=b))
 | 2,.agg [.int k a,.int l b],.agg [.int k' a',.int l' b']=>if k=k'∧l=l' then some (decide (a=a'∧b=b')) else none
 | _,_,_=>none
def kS (kd:Nat) (d:TypeDesc):Prop:=match kd,d with | 0,.int _=>True | 1,.string=>True | _,_=>False
def EN (P:Program) (kd:Nat) (d:TypeDesc):Prop:=kd=2∧∃ e q,d=.array 2 e∧P.underlying e=some (.int q)∧(P.info? e).map (·.size)=some 1
theorem Aq (a b:ByteArray):(a == b)=decide (a=b):=by
 rcases a with ⟨a⟩
 rcases b with ⟨b⟩
 show (a == b)=_
 by_cases h:a=b <;> simp [h]
def oH (P:Program) (t:TypeId):Option Nat:=
 match P.underlying t with
 | some (.int _)=>some 0
 | some .string=>some 1
 | some (.array 2 e)=>match P.underlying e,(P.info? e).map (·.size) with
   | some (.int _),some 1=>some 2
   | _,_=>none
 | _=>none
def eh (kd:Nat) (k:AV):List (AV×AV)→Nat→Option (Option (Nat×AV))
 | [],_=>some none
 | (a,v)::r,i=>match c8 kd k a with
   | some true=>some (some (i,v))
   | some false=>eh kd k r (i + 1)
   | none=>none
def cv (kd:Nat) (zero m k:AV) (ok:Bool) (H:List aa) (φ:AV→Prop):Prop:=
 match m with
 | .jd=>c8 kd k k=some true∧φ (if ok then .tuple [aT zero,.bool false] else aT zero)
 | .map id=>match H[id]? with
   | some (.map es)=>match eh kd k es 0 with
     | some (some (_,v))=>φ (if ok then .tuple [v.drop,.bool true] else v.drop)
     | some none=>c8 kd k k=some true∧φ (if ok then .tuple [aT zero,.bool false] else aT zero)
     | none=>False
   | _=>False
 | _=>False
def fC (kd:Nat) (m k x:AV) (H:List aa) (K:List aa→Prop):Prop:=
 match m with
 | .map id=>match H[id]? with
   | some (.map es)=>k.aV (id + 1)=true∧x.aV (id + 1)=true∧x.val=true∧match eh kd k es 0 with
     | some (some (i,_))=>K (H.set id (.map (es.set i (k,aT x))))
     | some none=>c8 kd k k=some true∧K (H.set id (.map (es++[(k,aT x)])))
     | none=>False
   | _=>False
 | _=>False
theorem vG {kd:Nat} {d:TypeDesc} (hd:kS kd d) {k y:AV} {b:Bool} (h:c8 kd k y=some b) {u v:Value} (hu:aS M L u k) (hv:aS M L v y) :
 Instr.sameNow d u v=some b∧(b=true→v=u):=by
 unfold c8 at h
 split at h
 ·rename_i k a k' b'
  cases hu;cases hv
  split at h
  ·rename_i e;subst e
   cases h
   cases d <;> simp only [kS] at hd
   refine ⟨by simp [Instr.sameNow,qy],?_⟩
   intro h;simp at h;rw [h]
  ·cases h
 ·rename_i a b'
  cases hu;cases hv
  cases h
  cases d <;> simp only [kS] at hd
  refine ⟨by simp only [Instr.sameNow,Aq],?_⟩
  intro h;simp at h;rw [h]
 ·cases d <;> simp only [kS] at hd
 ·cases h
theorem yI {kd:Nat} {d:TypeDesc} (hd:kS kd d) {k:AV} {u:Value} (hu:aS M L u k) :
 ∀ (es:List (AV×AV)) (ents:List MapEntry) (i:Nat) (r:Option (Nat×AV)),aM M L (ents.map (·.key)) (es.map (·.1))→aM M L (ents.map (·.val)) (es.map (·.2))→eh kd k es i=some r→
  match r with
  | none=>Instr.findNow d u ents i=some none
  | some (j,x)=>i≤j∧∃ v,Instr.findNow d u ents i=some (some (j,v))∧aS M L v x∧∃ en,ents[j - i]?=some en∧en.key=u∧en.val=v∧j - i < es.length
 | [],ents,i,r,h1,h2,h=>by
   cases ents with
   | nil=>simp [eh] at h;subst h;rfl
   | cons a b=>have:=h1.length;simp at this
 | (a,x)::es,[],i,r,h1,h2,h=>by have:=h1.length;simp at this
 | (a,x)::es,en::ents,i,r,h1,h2,h=>by
   simp only [List.map_cons] at h1 h2
   cases h1 with
   | cons _ _ _ _ hk EO=>
   cases h2 with
   | cons _ _ _ _ hv xS=>
   unfold eh at h
   split at h
   ·rename_i he
    cases h
    obtain ⟨e1,e2⟩:=vG hd he hu hk
    exact ⟨Nat.le_refl _,en.val,by simp [Instr.findNow,e1],hv,en,by simp,e2 rfl,rfl,by simp⟩
   ·rename_i he
    obtain ⟨e1,_⟩:=vG hd he hu hk
    have ih:=yI hd hu es ents (i + 1) r EO xS h
    cases r with
    | none=>simp only at ih ⊢;simp [Instr.findNow,e1,ih]
    | some jx=>
      obtain ⟨j,y⟩:=jx
      simp only at ih ⊢
      obtain ⟨hij,v,f1,f2,en',f3,f4,f5,f6⟩:=ih
      refine ⟨by omega,v,by simp [Instr.findNow,e1,f1],f2,en',?_,f4,f5,by simp;omega⟩
      rw [show j - i=(j - (i + 1)) + 1 by omega]
      simpa using f3
   ·cases h
theorem qD {t:TypeId} {kd:Nat} (h:oH P t=some kd):∃ d,P.underlying t=some d∧(kS kd d∨EN P kd d):=by
 unfold oH at h
 split at h
 ·rename_i k hu;cases h;exact ⟨_,hu,.inl trivial⟩
 ·rename_i hu;cases h;exact ⟨_,hu,.inl trivial⟩
 ·rename_i e hu
  split at h <;> cases h
  rename_i q h1 h2
  exact ⟨_,hu,.inr ⟨rfl,e,q,rfl,h1,h2⟩⟩
 ·cases h
theorem qE {e:TypeId} {q:IntKind} (h2:P.underlying e=some (.int q)) {cs:Array Value} {off:Nat} {v:Value} (hv:cs[off]?=some v) (w:World):(part e cs off).run P w=.ok v w:=by
 simp [part,isAgg,run_underlying h2,hv]
theorem HY {e:TypeId} {q:IntKind} (h2:P.underlying e=some (.int q)) (d:Nat) (k:IntKind) (a a':Int) (w:World):(Op.equalIn (d + 1) e (.int k a) (.int k a')).run P w=.ok (decide (a=a')) w:=by
 rw [Op.equalIn]
 simp [run_underlying h2,qy]
theorem yJ {kt e:TypeId} {q:IntKind} (h1:P.underlying kt=some (.array 2 e)) (h2:P.underlying e=some (.int q)) (h3:(P.info? e).map (·.size)=some 1) (d:Nat) (k l:IntKind) (a b a' b':Int) (w:World) :
 (Op.equalIn (d + 1 + 1) kt (.agg #[.int k a,.int l b]) (.agg #[.int k a',.int l b'])).run P w=.ok (decide (a=a'∧b=b')) w:=by
 obtain ⟨i,hi,hs⟩:=Option.map_eq_some_iff.1 h3
 have hz:(sizeOf e).run P w=.ok 1 w:=by simp [sizeOf,typeInfo,hi,hs]
 have p0:∀ x y:Value,(part e #[x,y] 0).run P w=.ok x w:=fun x y=>qE h2 (by simp) w
 have p1:∀ x y:Value,(part e #[x,y] 1).run P w=.ok y w:=fun x y=>qE h2 (by simp) w
 rw [Op.equalIn]
 simp only [Sem.run_bind,run_underlying h1,Result.andThen_ok,hz]
 by_cases ha:a=a' <;> by_cases hb:b=b' <;>
 simp [Std.Legacy.Range.forIn_eq_forIn_range',List.range',p0,p1,HY h2,ha,hb]
theorem aM.two {vs:List Value} {x y:AV} (h:aM M L vs [x,y]):∃ u v,vs=[u,v]∧aS M L u x∧aS M L v y:=by
 cases h with
 | cons u x vs xs h1 h2=>obtain ⟨v,rfl,h3⟩:=h2.Gx;exact ⟨u,v,rfl,h1,h3⟩
theorem aS.pair {u:Value} {k l:IntKind} {a b:Int} (h:aS M L u (.agg [.int k a,.int l b])):u=.agg #[.int k a,.int l b]:=by
 cases h with
 | agg cs xs hr=>
   obtain ⟨x,y,rfl,h1,h2⟩:=hr.two
   cases h1;cases h2
   rfl
theorem pM {k y:AV} {b:Bool} (h:c8 2 k y=some b):∃ p q i j i' j',k=.agg [.int p i,.int q j]∧y=.agg [.int p i',.int q j']∧b=decide (i=i'∧j=j'):=by
 unfold c8 at h
 split at h
 ·have:(2:Nat)=0:=by assumption
  omega
 ·have:(2:Nat)=1:=by assumption
  omega
 ·split at h <;> cases h
  rename_i e
  obtain ⟨rfl,rfl⟩:=e
  exact ⟨_,_,_,_,_,_,rfl,rfl,rfl⟩
 ·cases h
def found (P:Program) (kt:TypeId) (u:Value) (ents:List MapEntry) (M:Mem) (L:List Nat) (n:Nat) (r:Option (Nat×AV)):Prop:=
 match r with
 | none=>∀ w,(Instr.findKey kt u ents).run P w=.ok none w
 | some (j,x)=>∃ v,(∀ w,(Instr.findKey kt u ents).run P w=.ok (some (j,v)) w)∧aS M L v x∧∃ en,ents[j]?=some en∧en.key=u∧en.val=v∧j < n
theorem vH {kt e:TypeId} {q:IntKind} (h1:P.underlying kt=some (.array 2 e)) (h2:P.underlying e=some (.int q)) (h3:(P.info? e).map (·.size)=some 1) {k:AV} {u:Value} (hu:aS M L u k) :
 ∀ (es:List (AV×AV)) (ents:List MapEntry) (i:Nat) (r:Option (Nat×AV)),aM M L (ents.map (·.key)) (es.map (·.1))→aM M L (ents.map (·.val)) (es.map (·.2))→eh 2 k es i=some r→
  match r with
  | none=>∀ w,(Instr.findAsking kt u ents i).run P w=.ok none w
  | some (j,x)=>i≤j∧∃ v,(∀ w,(Instr.findAsking kt u ents i).run P w=.ok (some (j,v)) w)∧aS M L v x∧∃ en,ents[j - i]?=some en∧en.key=u∧en.val=v∧j - i < es.length
 | [],ents,i,r,k1,k2,h=>by
   cases ents with
   | nil=>simp [eh] at h;subst h;exact fun w=>rfl
   | cons a b=>have:=k1.length;simp at this
 | (a,x)::es,[],i,r,k1,k2,h=>by have:=k1.length;simp at this
 | (a,x)::es,en::ents,i,r,k1,k2,h=>by
   simp only [List.map_cons] at k1 k2
   cases k1 with
   | cons _ _ _ _ hk EO=>
   cases k2 with
   | cons _ _ _ _ hv xS=>
   unfold eh at h
   split at h
   ·rename_i he
    cases h
    obtain ⟨p,q',m,n,m',n',rfl,rfl,hb⟩:=pM he
    have hd:=of_decide_eq_true hb.symm
    have e1:=hu.pair
    have e2:=hk.pair
    refine ⟨Nat.le_refl _,en.val,fun w=>?_,hv,en,by simp,?_,rfl,by simp⟩
    ·have:=yJ (P:=P) h1 h2 h3 9998 p q' m n m' n' w
     simp only [Instr.findAsking,e1,e2,Sem.run_bind,Op.equal,Op.maxDepth]
     rw [this]
     simp [hd]
    ·rw [e1,e2,hd.1,hd.2]
   ·rename_i he
    obtain ⟨p,q',m,n,m',n',rfl,rfl,hb⟩:=pM he
    have hd:=of_decide_eq_false hb.symm
    have e1:=hu.pair
    have e2:=hk.pair
    have jW:∀ w,(Instr.findAsking kt u (en::ents) i).run P w=(Instr.findAsking kt u ents (i + 1)).run P w:=fun w=>by
     have:=yJ (P:=P) h1 h2 h3 9998 p q' m n m' n' w
     rw [Instr.findAsking,Sem.run_bind,e1,e2,Op.equal,Op.maxDepth,this]
     simp only [Result.andThen_ok,hd,decide_false]
     rfl
    have ih:=vH h1 h2 h3 hu es ents (i + 1) r EO xS h
    cases r with
    | none=>exact fun w=>(jW w).trans (ih w)
    | some jx=>
      obtain ⟨j,y⟩:=jx
      simp only at ih ⊢
      obtain ⟨hij,v,f1,f2,en',f3,f4,f5,f6⟩:=ih
      refine ⟨by omega,v,fun w=>(jW w).trans (f1 w),f2,en',?_,f4,f5,by simp;omega⟩
      rw [show j - i=(j - (i + 1)) + 1 by omega]
      simpa using f3
   ·cases h
theorem kD {kt:TypeId} {kd:Nat} {d:TypeDesc} (J0:P.underlying kt=some d) (hd:kS kd d∨EN P kd d) {k:AV} {u:Value} (hu:aS M L u k) {es:List (AV×AV)} {ents:List MapEntry} {r:Option (Nat×AV)}
 (h1:aM M L (ents.map (·.key)) (es.map (·.1))) (h2:aM M L (ents.map (·.val)) (es.map (·.2))) (h:eh kd k es 0=some r):found P kt u ents M L es.length r:=by
 rcases hd with hd | ⟨rfl,e,q,rfl,k1,k2⟩
 ·have:=yI hd hu es ents 0 r h1 h2 h
  cases r with
  | none=>intro w;simp only at this;simp [Instr.findKey,run_underlying J0,this]
  | some jx=>
    obtain ⟨j,x⟩:=jx
    simp only [Nat.sub_zero] at this
    obtain ⟨_,v,f1,f2,f3⟩:=this
    exact ⟨v,fun w=>by simp [Instr.findKey,run_underlying J0,f1],f2,f3⟩
 ·have:=vH J0 k1 k2 hu es ents 0 r h1 h2 h
  have Wk:∀ en (l:List MapEntry),Instr.findNow (.array 2 e) u (en::l) 0=none:=fun en l=>rfl
  cases ents with
  | nil=>
    have Ar:es=[]:=by have:=h1.length;simpa using this.symm
    subst Ar
    simp [eh] at h;subst h
    intro w
    simp [Instr.findKey,run_underlying J0,Instr.findNow]
  | cons en l=>
    cases r with
    | none=>intro w;simp only at this;simp [Instr.findKey,run_underlying J0,Wk,this]
    | some jx=>
      obtain ⟨j,x⟩:=jx
      simp only [Nat.sub_zero] at this
      obtain ⟨_,v,f1,f2,f3⟩:=this
      exact ⟨v,fun w=>by simp [Instr.findKey,run_underlying J0,Wk,f1],f2,f3⟩
theorem run_checkKey_plain {t:TypeId} {d:TypeDesc} {kd:Nat} (ht:P.underlying t=some d) (hd:kS kd d) (w:World) (pe:Bool) (n:Nat) (v:Value) :
 (Instr.checkKey pe (n + 1) t v).run P w=.ok () w:=by
 have:d=.string∨∃ k,d=.int k:=by
  unfold kS at hd
  split at hd
  ·exact .inr ⟨_,rfl⟩
  ·exact .inl rfl
  ·exact hd.elim
 rcases this with rfl | ⟨k,rfl⟩ <;> simp [Instr.checkKey,run_underlying ht]
theorem run_checkKey {t:TypeId} {d:TypeDesc} {kd:Nat} (ht:P.underlying t=some d) (hd:kS kd d∨EN P kd d) (w:World) (pe:Bool) (n:Nat) {v:Value} {k y:AV} {b:Bool} (hv:aS M L v k) (hk:c8 kd k y=some b) :
 (Instr.checkKey pe (n + 1 + 1) t v).run P w=.ok () w:=by
 rcases hd with hd | ⟨rfl,e,q,rfl,k1,k2⟩
 ·exact run_checkKey_plain ht hd w pe _ v
 ·obtain ⟨p,q',m,n',m',n2,rfl,_⟩:=pM hk
  have e1:=hv.pair
  obtain ⟨i,hi,hs⟩:=Option.map_eq_some_iff.1 k2
  have hz:(sizeOf e).run P w=.ok 1 w:=by simp [sizeOf,typeInfo,hi,hs]
  have p0:∀ x y:Value,(part e #[x,y] 0).run P w=.ok x w:=fun x y=>qE k1 (by simp) w
  have p1:∀ x y:Value,(part e #[x,y] 1).run P w=.ok y w:=fun x y=>qE k1 (by simp) w
  have c:∀ v,(Instr.checkKey pe (n + 1) e v).run P w=.ok () w:=fun v=>run_checkKey_plain (kd:=0) k1 trivial w pe n v
  rw [Instr.checkKey,e1]
  simp only [Sem.run_bind,run_underlying ht,Result.andThen_ok]
  simp [Std.Legacy.Range.forIn_eq_forIn_range',List.range',p0,p1,c,hz]
theorem As {kd:Nat} {k:AV} (hk:∃ b,c8 kd k k=some b) {u:Value} (hu:aS M L u k) (n:Nat):Instr.sameBits (n + 1) u u=true:=by
 obtain ⟨b,hk⟩:=hk
 unfold c8 at hk
 split at hk
 ·cases hu;simp [Instr.sameBits]
 ·cases hu;simp [Instr.sameBits,Aq]
 ·rw [hu.pair];simp [Instr.sameBits]
 ·cases hk
theorem po {kd:Nat} {k y:AV} {b:Bool} (h:c8 kd k y=some b):∃ b,c8 kd k k=some b:=by
 unfold c8 at h
 split at h
 ·exact ⟨true,by simp [c8]⟩
 ·exact ⟨true,by simp [c8]⟩
 ·exact ⟨true,by simp [c8]⟩
 ·cases h
theorem sm {kd:Nat} {k:AV}:∀ (es:List (AV×AV)) (i j:Nat) (x:AV),eh kd k es i=some (some (j,x))→∃ b,c8 kd k k=some b
 | [],i,j,x,h=>by simp [eh] at h
 | (a,v)::es,i,j,x,h=>by
   unfold eh at h
   split at h
   ·rename_i he;exact po he
   ·rename_i he;exact po he
   ·cases h
theorem Cq (hs:St A M L w H ev ea O) {t kt et:TypeId} {kd:Nat} (ht:P.underlying t=some (.map kt et)) (hk:oH P kt=some kd) {zero:AV} (hz:fR P et=some zero) {u v:Value} {m k:AV} {ok:Bool} {φ:AV→Prop}
 (h:cv kd zero m k ok H φ) (hu:aS M L u m) (hv:aS M L v k) :
 ∃ r z,(Instr.lookup t u v ok).run P w=.ok r w∧aS M L r z∧φ z∧∀ own xs,z=.al own xs→own=0:=by
 obtain ⟨d,J6,HX⟩:=qD hk
 have hzero:∃ zv,(zeroValue et).run P w=.ok zv w∧aS M L zv (aT zero):=by
  unfold fR at hz
  split at hz
  ·rename_i i hi
   split at hz
   ·rename_i zv tC
    exact ⟨zv,by simp [zeroValue,typeInfo,hi,tC],(cM hz).aT⟩
   ·cases hz
  ·cases hz
 obtain ⟨zv,Ci,hzrep⟩:=hzero
 have HZ:(∃ b,c8 kd k k=some b)→∀ pe,(Instr.checkKey pe 10000 kt v).run P w=.ok () w:=fun ⟨b,hb⟩ pe=>run_checkKey (n:=9998) J6 HX w pe hv hb
 have free:∀ z own xs,(if ok then AV.tuple [aT z,.bool false] else aT z)=.al own xs→own=0:=by
  intro z own xs e
  cases ok
  ·simp at e;exact EE z own xs e
  ·simp at e
 unfold cv at h
 split at h
 ·obtain ⟨HS,hφ⟩:=h
  have NV:=HZ ⟨_,HS⟩
  cases hu
  refine ⟨if ok then .tuple #[zv,.bool false] else zv,_,?_,?_,hφ,free zero⟩
  ·have:(Instr.findKey kt v (#[]:Array MapEntry).toList).run P w=.ok none w:=by simp [Instr.findKey,run_underlying J6,Instr.findNow]
   simp only [Instr.lookup,Sem.run_bind,run_underlying ht,Result.andThen_ok,Sem.run_pure,NV,this,Ci]
  ·cases ok
   ·simpa using hzrep
   ·simpa using aS.tuple [zv,.bool false] _ (.cons _ _ _ _ hzrep (.cons _ _ _ _ (.bool _) .nil))
 ·rename_i id
  cases hu with
  | map b _ hl=>
  split at h <;> try exact h.elim
  rename_i es bp
  obtain ⟨ents,ck,h1,h2,h3⟩:=hs.obj id _ b bp hl
  have jQ:(getObj b).run P w=.ok (.map ents ck) w:=by simp [getObj,Sem.run,h1]
  split at h
  ·rename_i j x hf
   obtain ⟨y,f1,f2,_⟩:=kD J6 HX hv (ents:=ents.toList) (by simpa using h2) (by simpa using h3) hf
   have NV:=HZ (sm _ _ _ _ hf)
   refine ⟨if ok then .tuple #[y,.bool true] else y,_,?_,?_,h,?_⟩
   ·simp only [Instr.lookup,Sem.run_bind,run_underlying ht,Result.andThen_ok,Sem.run_pure,jQ,NV,f1 w]
   ·cases ok
    ·simpa using f2.drop
    ·simpa using aS.tuple [y,.bool true] _ (.cons _ _ _ _ f2.drop (.cons _ _ _ _ (.bool _) .nil))
   ·intro own xs e
    cases ok
    ·simp at e;exact AV.jJ x own xs e
    ·simp at e
  ·rename_i hf
   obtain ⟨HS,hφ⟩:=h
   have NV:=HZ ⟨_,HS⟩
   have f1:∀ w,(Instr.findKey kt v ents.toList).run P w=.ok none w:=kD J6 HX hv (ents:=ents.toList) (by simpa using h2) (by simpa using h3) hf
   refine ⟨if ok then .tuple #[zv,.bool false] else zv,_,?_,?_,hφ,free zero⟩
   ·simp only [Instr.lookup,Sem.run_bind,run_underlying ht,Result.andThen_ok,Sem.run_pure,jQ,NV,f1 w,Ci]
   ·cases ok
    ·simpa using hzrep
    ·simpa using aS.tuple [zv,.bool false] _ (.cons _ _ _ _ hzrep (.cons _ _ _ _ (.bool _) .nil))
  ·exact h.elim
 ·exact h.elim
theorem EP (hs:St A M L w H ev ea O) (t:TypeId) :
 ∃ r L' w',(Instr.makeMap t none).run P w=.ok r w'∧aS M L' r (.map H.length)∧St A M L' w' (H++[.map []]) ev ea O∧Ext A M w M w'∧L <+: L':=by
 obtain ⟨h1,h2⟩:=hs.sf (.map #[] 0) (.map []) (fun w' hw hM=>⟨#[],0,hw,.nil,.nil⟩) rfl (fun j=>rfl)
 refine ⟨_,_,_,rfl,.map _ _ ?_,h1,h2,⟨_,rfl⟩⟩
 rw [List.getElem?_append_right (by rw [hs.len];exact Nat.le_refl _),hs.len];simp
theorem Cr (hs:St A M L w H ev ea O) {t kt et:TypeId} {kd:Nat} (ht:P.underlying t=some (.map kt et)) (hk:oH P kt=some kd) {u v y:Value} {m k x:AV} {K:List aa→Prop}
 (h:fC kd m k x H K) (hu:aS M L u m) (hv:aS M L v k) (hy:aS M L y x) :
 ∃ w' H',(Instr.mapUpdate t u v y).run P w=.ok () w'∧K H'∧St A M L w' H' ev ea O∧Ext A M w M w':=by
 obtain ⟨d,J6,HX⟩:=qD hk
 have HZ:(∃ b,c8 kd k k=some b)→(Instr.checkKey false 10000 kt v).run P w=.ok () w:=fun ⟨b,hb⟩=>run_checkKey (n:=9998) J6 HX w false hv hb
 unfold fC at h
 split at h <;> try exact h.elim
 rename_i id
 cases hu with
 | map b _ hl=>
 split at h <;> try exact h.elim
 rename_i es bp
 obtain ⟨pL,qv,ic,h⟩:=h
 obtain ⟨ents,ck,h1,h2,h3⟩:=hs.obj id _ b bp hl
 have hlen:ents.size=es.length:=by have:=h2.length;simpa using this
 have bS:=hs.bE id _ bp
 replace pL:=AV.cE (A.lY (aO bp)) _ pL
 replace qv:=AV.cE (A.lY (aO bp)) _ qv
 simp only [aa.aV,Bool.and_eq_true] at bS
 have jQ:(getObj b).run P w=.ok (.map ents ck) w:=by simp [getObj,Sem.run,h1]
 have gI:∀ o,(setObj b o).run P w=.ok () { w with heap:=w.heap.setIfInBounds b o }:=by intro o;simp [setObj,Sem.run,h1]
 have hcb:(aT x).aV (A.jI H.length id)=true:=by
  have hdrop:∀ z:AV,z.aV (A.jI H.length id)=true→z.drop.aV (A.jI H.length id)=true:=by
   intro z hz;cases z <;> simp_all [AV.drop,AV.aV,aj]
  cases x <;> simp only [bj.aT] <;> first | exact hdrop _ qv | skip
  rename_i xs
  simp only [AV.aV,a8,List.mem_map] at qv ⊢
  rintro z ⟨q,hq,rfl⟩
  exact hdrop q (qv q hq)
 split at h
 ·rename_i j z hf
  obtain ⟨v0,f1,f2,en,f3,f4,f5,f6⟩:=kD J6 HX hv (ents:=ents.toList) (by simpa using h2) (by simpa using h3) hf
  have NV:=HZ (sm _ _ _ _ hf)
  have hj:j < ents.size:=by omega
  have hen:ents[j]?=some en:=by simpa using f3
  have abg:((ents[j]?).map (·.key)).getD v=v:=by simp [hen,f4]
  have hstay:(Instr.keyThatStays v v).run P w=.ok v w:=by simp [Instr.keyThatStays,As (sm es 0 j z hf) hv 9999]
  have bJ:(Instr.mapUpdate t (.map (some b)) v y).run P w=.ok () { w with heap:=w.heap.setIfInBounds b (.map (ents.modify j fun e=>{ e with key:=v,val:=y }) ck) }:=by
   simp only [Instr.mapUpdate,Sem.run_bind,run_underlying ht,Result.andThen_ok,jQ,NV]
   simp only [f1 w,Result.andThen_ok,Sem.run_bind,abg,hstay,gI]
  have Wl:(ents.modify j fun e=>{ e with key:=v,val:=y }).toList.map (·.key)=(ents.toList.map (·.key)).set j v∧(ents.modify j fun e=>{ e with key:=v,val:=y }).toList.map (·.val)=(ents.toList.map (·.val)).set j y:=by
   constructor
   ·apply List.ext_getElem?
    intro q
    simp only [List.getElem?_map,Array.getElem?_toList,Array.getElem?_modify,List.getElem?_set]
    by_cases hq:j=q
    ·subst hq;simp [hj]
    ·simp [hq]
   ·apply List.ext_getElem?
    intro q
    simp only [List.getElem?_map,Array.getElem?_toList,Array.getElem?_modify,List.getElem?_set]
    by_cases hq:j=q
    ·subst hq;simp [hj]
    ·simp [hq]
  obtain ⟨g1,g2⟩:=hs.Cb (es':=es.set j (k,aT x)) (o':=.map (ents.modify j fun e=>{ e with key:=v,val:=y }) ck) bp hl (by intro _ _ _ e;cases e) (fun w' hw=>⟨_,_,hw,by
   rw [Wl.1]
   have:=aM.set (by simpa using h2) hv j
   rwa [show (es.set j (k,aT x)).map (·.1)=(es.map (·.1)).set j k by rw [List.map_set]],by
   rw [Wl.2]
   have:=aM.set (by simpa using h3) hy.aT j
   rwa [show (es.set j (k,aT x)).map (·.2)=(es.map (·.2)).set j (aT x) by rw [List.map_set]]⟩) (by
   simp only [aa.aV,Bool.and_eq_true,List.map_set]
   rw [a8,a8] at *
   refine ⟨fun q hq=>?_,fun q hq=>?_⟩
   ·rcases List.mem_or_eq_of_mem_set hq with h' | rfl
    ·exact bS.1 q h'
    ·exact pL
   ·rcases List.mem_or_eq_of_mem_set hq with h' | rfl
    ·exact bS.2 q h'
    ·exact hcb)
  exact ⟨_,_,bJ,h,g1,g2⟩
 ·rename_i hf
  obtain ⟨HS,hK⟩:=h
  have NV:=HZ ⟨_,HS⟩
  have f1:∀ w,(Instr.findKey kt v ents.toList).run P w=.ok none w:=kD J6 HX hv (ents:=ents.toList) (by simpa using h2) (by simpa using h3) hf
  have bJ:(Instr.mapUpdate t (.map (some b)) v y).run P w=.ok () { w with heap:=w.heap.setIfInBounds b (.map (ents.push { key:=v,val:=y,born:=ck }) (ck + 1)) }:=by
   simp only [Instr.mapUpdate,Sem.run_bind,run_underlying ht,Result.andThen_ok,jQ,NV]
   simp only [f1 w,Result.andThen_ok,gI]
  obtain ⟨g1,g2⟩:=hs.Cb (es':=es++[(k,aT x)]) (o':=.map (ents.push { key:=v,val:=y,born:=ck }) (ck + 1)) bp hl (by intro _ _ _ e;cases e) (fun w' hw=>⟨_,_,hw,by
   simpa using h2.append (.one hv),by
   simpa using h3.append (.one hy.aT)⟩) (by
   simp only [aa.aV,Bool.and_eq_true,List.map_append,List.map_cons,List.map_nil]
   exact ⟨aY.2 ⟨bS.1,by simp [aj,pL]⟩,aY.2 ⟨bS.2,by simp [aj,hcb]⟩⟩)
  exact ⟨_,_,bJ,hK,g1,g2⟩
 ·exact h.elim
end
end Go.aL
end
section
namespace Go.aL
open Go
def xW (esz:Nat) (s:AV) (H:List aa):Option (Nat×List AV):=
 match s with
 | .ah=>some (0,[])
 | .al _ xs=>if xs.all (fun y=>y.cells.length == esz)=true then some (xs.length,flat xs) else none
 | .bc id off len _=>match H[id]? with
   | some (.cells es)=>if off + len * esz≤es.length then some (len,es.drop off) else none
   | _=>none
 | _=>none
def jX (esz:Nat) (d s:AV) (H:List aa) (K:AV→List aa→Prop):Prop:=
 match d,xW esz s H with
 | .bc id off len _,some (n,ys)=>match H[id]? with
   | some (.cells es)=>(ys.take (min n len * esz)).all AV.one=true∧off + min n len * esz≤es.length∧aj (id + 1) ((ys.take (min n len * esz)).map AV.ab)=true∧
      K (.int .i64 (min n len:Nat)) (H.set id (.cells (ag es off ((ys.take (min n len * esz)).map AV.ab))))
   | _=>False
 | _,_=>False
def gQ (esz:Nat) (x:AV) (lo hi:Option AV) (φ:AV→Prop):Prop:=
 match x with
 | .bc id off len cap=>dQ hi len fun h=>dQ lo 0 fun l=>l≤h∧h≤cap∧φ (.bc id (if cap=l then off else off + l * esz) (h - l) (cap - l))
 | _=>False
def oI (esz:Nat) (x:AV) (lo hi:Option AV) (m:AV) (φ:AV→Prop):Prop:=
 match x with
 | .bc id off len cap=>hi.isSome=true∧dQ (some m) 0 fun m=>dQ hi len fun h=>dQ lo 0 fun l=>l≤h∧h≤m∧m≤cap∧φ (.bc id (if m=l then off else off + l * esz) (h - l) (m - l))
 | _=>False
def bm (esz:Nat) (x:AV) (lo hi mx:Option AV) (φ:AV→Prop):Prop:=
 match x with
 | .bc a b c d=>match mx with
   | none=>gQ esz (.bc a b c d) lo hi φ
   | some m=>oI esz (.bc a b c d) lo hi m φ
 | _=>(∀ own xs,x=.al own xs→∀ z∈xs,z.cells.length=esz)∧eR esz x lo hi mx φ
section
variable {P:Program} {w:World} {M:Mem} {L:List Nat} {H:List aa} {A:Perm} {ev:Nat→Value} {ea:Nat→AV} {O:Pos→Option Nat}
theorem St.At (hs:St A M L w H ev ea O) {id off b:Nat} {es:List AV} (bp:H[id]?=some (.cells es)) (hl:L[id]?=some b) {cs:Array Value} {e:TypeId} (h1:w.heap[b]?=some (.cells cs e (0,0)))
 (h2:aM M L cs.toList es) {vs:List Value} {xs:List AV} (hv:aM M L vs xs) (hle:off + xs.length≤es.length) (nC:aj (id + 1) (xs.map AV.ab)=true) :
 ∃ O',St A M L (w.setRow b (ag cs.toList off vs).toArray) (H.set id (.cells (ag es off (xs.map AV.ab)))) ev ea O'∧Ext A M w M (w.setRow b (ag cs.toList off vs).toArray):=by
 have qz:=hv.length
 have jc:=h2.length
 let O':Pos→Option Nat:=fun q=>match q with
  | .t t=>O (.t t)
  | .c id' j=>if id'=id∧off≤j∧j < off + xs.length then none else O (.c id' j)
 have hO:∀ q b,O' q=some b→O q=some b:=by
  intro q b hq
  cases q with
  | t t=>exact hq
  | c id' j=>
    simp only [O'] at hq
    split at hq
    ·cases hq
    ·exact hq
 have Nk:off + (xs.map AV.ab).length≤es.length:=by simp;omega
 have hsv:off + vs.length≤cs.toList.length:=by omega
 exact ⟨O',hs.write (cs':=(ag cs.toList off vs).toArray) (es':=ag es off (xs.map AV.ab)) (O':=O') bp hl h1
  (by simpa using hv.dd.Af off h2)
  (by
    have bS:=hs.bE id _ bp
    simp only [aa.aV] at bS
    unfold ag
    exact aY.2 ⟨tD bS,aY.2 ⟨bI (A.lY (aO bp)) _ nC,tE bS⟩⟩)
  (vt.sub hs.ch hO) hs.env hs.iq (by
  intro j
  have e1:((ag cs.toList off vs).toArray)[j]?=(ag cs.toList off vs)[j]?:=by simp
  rw [e1,fc _ _ _ hsv,List.getD_eq_getElem?_getD,fc _ _ _ Nk]
  simp only [List.length_map]
  rw [qz]
  by_cases hj:off≤j∧j < off + xs.length
  ·simp only [hj,and_self,if_true]
   have:O' (.c id j)=none:=by simp [O',hj]
   rw [this]
   refine bg.free ?_
   intro own ys hh
   rw [List.getElem?_map] at hh
   cases hx:xs[j - off]? with
   | none=>simp [hx] at hh
   | some y=>simp [hx] at hh;exact AV.bL y own ys hh
  ·simp only [hj,if_false]
   have:O' (.c id j)=O (.c id j):=by simp only [O'];rw [if_neg (by intro h';exact hj h'.2)]
   rw [this]
   have h0:=hs.hZ id j
   have e3:bM L w id j=(cs.toList[j]?).getD undef:=by
    unfold bM;simp [hl,World.cell?,h1]
   have e4:bw H id j=(es[j]?).getD .any:=by
    unfold bw;simp [bp,List.getD_eq_getElem?_getD]
   rw [e3,e4] at h0
   exact h0)
  (by intro id' j dW;simp [O',dW])⟩
theorem Kb (hs:St A M L w H ev ea O) {esz n m:Nat} {s:AV} {ys:List AV} {v:Value} (h:xW esz s H=some (n,ys)) (hv:aS M L v s) (hm:m≤n) :
 (Builtin.lenOf v).run P w=.ok n w∧∃ vs,(Builtin.firstCells esz m v).run P w=.ok vs.toArray w∧aM M L vs (ys.take (m * esz)):=by
 unfold xW at h
 split at h
 ·cases h
  cases hv
  have:m=0:=by omega
  subst this
  refine ⟨rfl,[],?_,by simpa using aM.nil⟩
  simp [Builtin.firstCells]
 ·rename_i own xs
  split at h <;> cases h
  rename_i jU
  have Wm:∀ y∈xs,y.cells.length=esz:=by
   intro y hy
   have:=List.all_eq_true.1 jU y hy
   simpa using this
  cases hv with
  | gL a c _ hc=>
    have:m=0:=by simpa using hm
    subst this
    refine ⟨rfl,[],?_,by simpa [flat] using aM.nil⟩
    cases a with
    | none=>simp [Builtin.firstCells]
    | some a=>simpa [Builtin.firstCells] using run_loadCells_list (P:=P) w a [] (by simp)
  | al b off c _ e cs _ he hx hn hle hc hr Sw=>
    have Wn:=iD Sw hs.mem
    have jc:=hr.length
    have NW:(flat xs).length=xs.length * esz:=cN xs esz Wm
    have JZ:=run_loadCells_list (P:=P) w ⟨b,off,none⟩ (cs.take (m * esz)) (fun j v hv=>Wn j v (by
     rw [List.getElem?_take] at hv
     split at hv
     ·exact hv
     ·cases hv))
    have hlen:(cs.take (m * esz)).length=m * esz:=by
     have:m * esz≤xs.length * esz:=Nat.mul_le_mul_right _ hm
     simp;omega
    rw [hlen] at JZ
    exact ⟨rfl,cs.take (m * esz),by simpa [Builtin.firstCells] using JZ,hr.take _⟩
 ·rename_i id off len cap
  split at h <;> try cases h
  rename_i es bp
  split at h <;> cases h
  rename_i ur
  cases hv with
  | bc b _ _ _ _ hl hc=>
  obtain ⟨cs,e,h1,h2,h3⟩:=fy hs bp hl
  have jc:=h2.length
  have hlen:((cs.toList.drop off).take (m * esz)).length=m * esz:=by
   have:m * esz≤n * esz:=Nat.mul_le_mul_right _ hm
   simp at jc ⊢;omega
  have JZ:=run_loadCells_list (P:=P) w ⟨b,off,none⟩ ((cs.toList.drop off).take (m * esz)) (fun j v hv=>by rw [Addr.add_lit];exact h3 _ _ (dy _ _ _ _ _ hv))
  rw [hlen] at JZ
  exact ⟨rfl,(cs.toList.drop off).take (m * esz),by simpa [Builtin.firstCells] using JZ,(h2.drop off).take _⟩
 ·cases h
theorem H5 (hs:St A M L w H ev ea O) {t e:TypeId} {esz:Nat} (ht:P.underlying t=some (.slice e)) (he:dP P e=some esz) {u v:Value} {d s:AV} {K:AV→List aa→Prop} (h:jX esz d s H K) (hu:aS M L u d) (hv:aS M L v s) (t' ty:TypeId) :
 ∃ r z w' H' O',(Builtin.copy_ #[t,t'] ty #[u,v]).run P w=.ok r w'∧aS M L r z∧K z H'∧St A M L w' H' ev ea O'∧Ext A M w M w'∧∀ own xs,z=.al own xs→own=0:=by
 unfold jX at h
 split at h <;> try exact h.elim
 rename_i id off len cap n ys xX
 split at h <;> try exact h.elim
 rename_i es bp
 obtain ⟨kQ,hle,nC,hK⟩:=h
 cases hu with
 | bc b _ _ _ _ hl hc=>
 obtain ⟨hlen,vs,hfc,hr⟩:=Kb (P:=P) hs xX hv (Nat.min_le_left n len)
 obtain ⟨cs,e',h1,h2,h3⟩:=hs.obj id _ b bp hl
 have jc:=h2.length
 have qz:=hr.length
 have hyl:(ys.take (min n len * esz)).length≤min n len * esz:=by simp;omega
 have bS:=run_storeCells_at P b off e' vs 0 cs w h1 (by simp at jc ⊢;omega) (hr.gM kQ)
 obtain ⟨O',g1,g2⟩:=hs.At (off:=off) bp hl h1 h2 hr (by omega) nC
 obtain ⟨i,hi,J5⟩:=Option.map_eq_some_iff.1 he
 refine ⟨.int .i64 (min n len:Nat),.int .i64 (min n len:Nat),_,_,O',?_,.int _ _,hK,g1,g2,by intro _ _ e;cases e⟩
 have Sx:Nat.min n len=min n len:=rfl
 have mf:(storeCells ⟨b,off,none⟩ vs).run P w=.ok () (w.setRow b (ag cs.toList off vs).toArray):=by simpa [ag] using bS
 simp [Builtin.copy_,run_underlying ht,hlen,sizeOf,typeInfo,hi,J5,Sx,hfc,mf,goInt]
theorem Cs {t e:TypeId} {esz:Nat} (ht:P.underlying t=some (.slice e)) (he:dP P e=some esz) {u:Value} {x:AV} {lo hi:Option AV} {vlo vhi:Option Value} {φ:AV→Prop} (h:gQ esz x lo hi φ) (hu:aS M L u x) (h1:jj M L lo vlo) (h2:jj M L hi vhi) :
 ∃ r z,(Instr.sliceAt t u vlo vhi none).run P w=.ok r w∧aS M L r z∧φ z∧∀ own xs,z=.al own xs→own=0:=by
 unfold gQ at h
 split at h <;> try exact h.elim
 rename_i id off len cap
 cases hu with
 | bc b _ _ _ _ hl hc=>
 obtain ⟨hh,h,Ka⟩:=dR h2 h
 obtain ⟨ll,h,vC⟩:=dR h1 h
 obtain ⟨hle,hhl,hφ⟩:=h
 obtain ⟨i,jf,J5⟩:=Option.map_eq_some_iff.1 he
 have dc:(sizeOf e).run P w=.ok esz w:=by simp [sizeOf,typeInfo,jf,J5]
 refine ⟨_,_,?_,.bc b (if cap=ll then off else off + ll * esz) (hh - ll) (cap - ll) id hl (by omega),hφ,by intro _ _ e;cases e⟩
 have hb:(Instr.sliceBounds true len cap vlo vhi none).run P w=.ok (ll,hh,cap) w:=by
  rcases Ka with ⟨_,rfl,rfl⟩ | ⟨kd,i,rfl,uJ,rfl⟩ <;> rcases vC with ⟨_,rfl,rfl⟩ | ⟨kd',i',rfl,ux,rfl⟩
  ·rfl
  ·have pL:=run_sliceBound (P:=P) w kd' i' hh .sliceB ux hle
   simp [Instr.sliceBounds,pL]
  ·have pL:=run_sliceBound (P:=P) w kd i cap .sliceAcap uJ (by omega)
   simp [Instr.sliceBounds,pL]
  ·have pL:=run_sliceBound (P:=P) w kd i cap .sliceAcap uJ (by omega)
   have qv:=run_sliceBound (P:=P) w kd' i' i.toNat .sliceB ux hle
   simp [Instr.sliceBounds,pL,qv]
 simp only [Instr.sliceAt,Instr.slice,Sem.run_bind,run_underlying ht,Result.andThen_ok,hb,dc,Sem.run_pure]
 by_cases jc:cap=ll
 ·simp [jc]
 ·simp [jc,Addr.add_lit]
theorem Ct {t e:TypeId} {esz:Nat} (ht:P.underlying t=some (.slice e)) (he:dP P e=some esz) {u:Value} {x m:AV} {lo hi:Option AV} {vlo vhi vm:Option Value} {φ:AV→Prop} (h:oI esz x lo hi m φ) (hu:aS M L u x) (h1:jj M L lo vlo) (h2:jj M L hi vhi) (h3:jj M L (some m) vm) :
 ∃ r z,(Instr.sliceAt t u vlo vhi vm).run P w=.ok r w∧aS M L r z∧φ z∧∀ own xs,z=.al own xs→own=0:=by
 unfold oI at h
 split at h <;> try exact h.elim
 rename_i id off len cap
 cases hu with
 | bc b _ _ _ _ hl hc=>
 obtain ⟨hsome,h⟩:=h
 obtain ⟨mm,h,VP⟩:=dR h3 h
 obtain ⟨hh,h,Ka⟩:=dR h2 h
 obtain ⟨ll,h,vC⟩:=dR h1 h
 obtain ⟨hle,hhl,hmc,hφ⟩:=h
 obtain ⟨i,jf,J5⟩:=Option.map_eq_some_iff.1 he
 have dc:(sizeOf e).run P w=.ok esz w:=by simp [sizeOf,typeInfo,jf,J5]
 refine ⟨_,_,?_,.bc b (if mm=ll then off else off + ll * esz) (hh - ll) (mm - ll) id hl (by omega),hφ,by intro _ _ e;cases e⟩
 have hb:(Instr.sliceBounds true len cap vlo vhi vm).run P w=.ok (ll,hh,mm) w:=by
  rcases VP with ⟨e0,_⟩ | ⟨kd3,i3,rfl,hi3,rfl⟩
  ·cases e0
  have hb3:=run_sliceBound (P:=P) w kd3 i3 cap .slice3Acap hi3 hmc
  rcases Ka with ⟨rfl,_,_⟩ | ⟨kd,i,rfl,uJ,rfl⟩
  ·cases hsome
  have pL:=run_sliceBound (P:=P) w kd i i3.toNat .slice3B uJ hhl
  rcases vC with ⟨_,rfl,rfl⟩ | ⟨kd',i',rfl,ux,rfl⟩
  ·simp [Instr.sliceBounds,pL,hb3]
  ·have qv:=run_sliceBound (P:=P) w kd' i' i.toNat .slice3C ux hle
   simp [Instr.sliceBounds,pL,qv,hb3]
 simp only [Instr.sliceAt,Instr.slice,Sem.run_bind,run_underlying ht,Result.andThen_ok,hb,dc,Sem.run_pure]
 by_cases jc:mm=ll
 ·simp [jc]
 ·simp [jc,Addr.add_lit]
end
end Go.aL
end
section
namespace Go.aL
open Go
def chunks (esz:Nat):Nat→List AV→List AV
 | 0,_=>[]
 | n + 1,es=>(if esz=1 then (es.getD 0 .any).ab else .agg ((es.take esz).map AV.ab))::chunks esz n (es.drop esz)
def dn (esz:Nat) (x:AV) (H:List aa) (K:AV→List aa→Prop):Prop:=
 match x with
 | .bc id off len cap=>match H[id]? with
   | some (.cells es)=>0 < esz∧len≤cap∧off + len * esz≤es.length∧(es.drop off).all AV.one=true∧K (.al 0 (chunks esz len (es.drop off))) (H.set id .dead)
   | _=>False
 | .any=>False
 | .pe=>K (.al 0 []) H
 | x=>K x.ab H
def jY (esz:Nat):List AV→List aa→(List AV→List aa→Prop)→Prop
 | [],H,K=>K [] H
 | x::r,H,K=>dn esz x H fun y H'=>jY esz r H' fun ys H''=>K (y::ys) H''
def Au (e id c:Nat) (H:List aa) (K:List aa→Prop):Prop:=
 match H[id]? with
 | some (.cells es)=>match es[c]? with
   | some (.bc a1 a2 a3 a4)=>dn e (.bc a1 a2 a3 a4) H fun y H'=>H'[id]?=some (.cells es)∧y.aV (id + 1)=true∧K (H'.set id (.cells (es.set c y)))
   | some .ah=>K H
   | _=>False
 | _=>False
def fF (esz:Nat) (x:AV) (H:List aa) (K:AV→List aa→Prop):Prop:=
 match x with
 | .agg xs=>jY esz xs H fun ys H'=>K (.agg ys) H'
 | .ptr id off=>if 1000≤esz then Au (esz % 1000) id (off + esz / 1000 - 1) H (K (.ptr id off)) else dn esz (.ptr id off) H K
 | x=>dn esz x H K
theorem yK {x:AV} (h:x.one=true):x.cells=[x]:=by cases x <;> first | rfl | simp [AV.one] at h
theorem H6 {x:AV} (h:x.one=true):x.ab.one=true:=by cases x <;> first | rfl | exact h
theorem tG (esz:Nat) (h0:0 < esz):∀ (n:Nat) (es:List AV),n * esz≤es.length→es.all AV.one=true→
 flat (chunks esz n es)=(es.take (n * esz)).map AV.ab∧(chunks esz n es).length=n∧∀ x∈chunks esz n es,x.cells.length=esz
 | 0,es,_,_=>by simp [chunks,flat]
 | n + 1,es,hle,h1=>by
   have Wc:n * esz + esz≤es.length:=by rw [Nat.add_mul] at hle;omega
   obtain ⟨i1,i2,i3⟩:=tG esz h0 n (es.drop esz) (by simp;omega) (by
    rw [List.all_eq_true] at h1 ⊢
    exact fun x hx=>h1 x (List.mem_of_mem_drop hx))
   have hhead:(if esz=1 then (es.getD 0 .any).ab else AV.agg ((es.take esz).map AV.ab)).cells=(es.take esz).map AV.ab:=by
    split
    ·rename_i e
     subst e
     cases es with
     | nil=>simp at Wc
     | cons x r=>
       have hx:x.one=true:=List.all_eq_true.1 h1 x (by simp)
       simp [yK (H6 hx)]
    ·rfl
   refine ⟨?_,by simp [chunks,i2],?_⟩
   ·simp only [flat] at i1
    simp only [chunks,flat,List.flatMap_cons,hhead,i1]
    rw [← List.map_append]
    congr 1
    rw [Nat.add_mul,Nat.one_mul,Nat.add_comm (n * esz) esz,List.take_add]
   ·intro x hx
    simp only [chunks,List.mem_cons] at hx
    rcases hx with rfl | hx
    ·rw [hhead];simp;omega
    ·exact i3 x hx
section
variable {P:Program} {w:World} {M:Mem} {L:List Nat} {H:List aa} {A:Perm} {ev:Nat→Value} {ea:Nat→AV} {O:Pos→Option Nat}
theorem St.freeze (h:St A M L w H ev ea O) {id b:Nat} {es:List AV} (bp:H[id]?=some (.cells es)) (hl:L[id]?=some b) :
 ∃ (cs:Array Value) (O':Pos→Option Nat),aM M L cs.toList es∧M.sub (M.add b cs.toList)∧(M.add b cs.toList).row b 0 cs.toList∧St A (M.add b cs.toList) L w (H.set id .dead) ev ea O'∧Ext A M w (M.add b cs.toList) w∧(∀ t,O' (.t t)=O (.t t)):=by
 obtain ⟨cs,e,h1,h2,h3⟩:=h.obj id _ b bp hl
 have yA:b∈L:=List.mem_of_getElem? hl
 have fJ:M.sub (M.add b cs.toList):=by
  intro b' o v hv
  have dW:b'≠b:=by
   rintro rfl
   rw [h3] at hv;cases hv
  simp [Mem.add,dW,hv]
 have hM:∀ b',b'≠b→∀ o,(M.add b cs.toList) b' o=M b' o:=fun b' hb o=>by simp [Mem.add,hb]
 let O':Pos→Option Nat:=fun p=>match p with | .t t=>O (.t t) | .c id' j=>if id'=id then none else O (.c id' j)
 have hO:∀ q b,O' q=some b→O q=some b:=by
  intro q b hq
  cases q with
  | t t=>exact hq
  | c id' j=>
    simp only [O'] at hq
    split at hq
    ·cases hq
    ·exact hq
 have hOb:∀ q b',O q=some b'→b'≠b:=fun q b' hq e=>h.cz q b' hq (e ▸ yA)
 refine ⟨cs,O',h2,fJ,?_,?_,?_,fun t=>rfl⟩
 ·intro j v hv
  simpa [Mem.add] using hv
 ·exact { len:=by simp [h.len],nodup:=h.nodup,env:=fun t=>(h.env t).mono fJ (List.prefix_refl _)
          mem:=by
           intro b' o v hv
           by_cases e0:b'=b
           ·subst e0
            simp only [Mem.add,if_true] at hv
            simpa [World.cell?,h1] using hv
           ·rw [hM b' e0] at hv
            exact h.mem b' o v hv
          obj:=by
           intro id' o b' ho dU
           rw [List.getElem?_set] at ho
           split at ho
           ·split at ho <;> cases ho
            trivial
           ·rename_i dW
            refine (h.obj id' o b' ho dU).mono fJ (List.prefix_refl _) rfl (hM b' ?_)
            rintro rfl
            exact dW ((List.getElem?_inj (aO hl) h.nodup).1 (hl.trans dU.symm))
          bE:=by
           intro id' o ho
           rw [List.length_set]
           rw [List.getElem?_set] at ho
           split at ho
           ·split at ho <;> cases ho
            rfl
           ·exact h.bE id' o ho
          lt:=h.lt
          iq:=fun t=>(h.iq t).mono fun b' dU=>⟨rfl,hM b' (hOb _ b' dU)⟩
          hZ:=by
           intro id' j
           by_cases e0:id'=id
           ·subst e0
            have:bw (H.set id' .dead) id' j=.any:=by
             unfold bw
             rw [List.getElem?_set]
             simp
            rw [this]
            simp [O',bg]
           ·have e1:bw (H.set id .dead) id' j=bw H id' j:=by
             unfold bw
             rw [List.getElem?_set,if_neg (Ne.symm e0)]
            rw [e1]
            have:O' (.c id' j)=O (.c id' j):=by simp [O',e0]
            rw [this]
            exact (h.hZ id' j).mono fun b' dU=>⟨rfl,hM b' (hOb _ b' dU)⟩
          ch:=fun p q b hp hq=>h.ch p q b (hO p b hp) (hO q b hq)
          cz:=fun p b hp=>h.cz p b (hO p b hp)
          fq:=fun p b hp=>h.fq p b (hO p b hp)
          La:=h.La
          Oa:=fun p b hp=>h.Oa p b (hO p b hp)
          fresh:=h.fresh }
 ·exact ⟨fJ,Nat.le_refl _,rfl,rfl,rfl,fun b' _ hA=>⟨rfl,hM b' (fun e=>hA (e ▸ h.La b yA))⟩,fun k r hk=>⟨r,hk,rfl⟩⟩
theorem mg (hs:St A M L w H ev ea O) {esz:Nat} {u:Value} {x:AV} {K:AV→List aa→Prop} (h:dn esz x H K) (hu:aS M L u x) :
 ∃ z M' H' O',aS M' L u z∧K z H'∧St A M' L w H' ev ea O'∧Ext A M w M' w∧∀ own xs,z=.al own xs→own=0:=by
 unfold dn at h
 split at h
 ·rename_i id off len cap
  split at h <;> try exact h.elim
  rename_i es bp
  obtain ⟨h0,cj,hle,h1,hK⟩:=h
  cases hu with
  | bc b _ _ _ _ hl hc=>
  obtain ⟨cs,O',k1,k2,k3,k4,k5,_⟩:=hs.freeze bp hl
  obtain ⟨c1,c2,c3⟩:=tG esz h0 len (es.drop off) (by simp;omega) h1
  refine ⟨_,_,_,O',?_,hK,k4,k5,by intro own xs e;cases e;rfl⟩
  have jc:=k1.length
  by_cases hz:len=0
  ·subst hz
   simp only [chunks]
   exact .gL _ _ _ hc
  ·have hr:aM (M.add b cs.toList) L ((cs.toList.drop off).take (len * esz)) (flat (chunks esz len (es.drop off))):=by
    rw [c1]
    exact (((k1.drop off).take _).dd).mono k2 (List.prefix_refl _)
   have Sw:(M.add b cs.toList).row b off ((cs.toList.drop off).take (len * esz)):=by
    intro j v hv
    have:=k3 (off + j) v (dy _ _ _ _ _ hv)
    simpa using this
   have:=aS.al (M:=M.add b cs.toList) (L:=L) b off cap 0 esz _ (chunks esz len (es.drop off)) h0 c3 (by omega) (by omega) hc hr Sw
   rw [c2] at this
   exact this
 ·exact h.elim
 ·cases hu
  exact ⟨_,M,H,O,.gL _ 0 0 (by decide),h,hs,Ext.refl A M w,by intro _ _ e;cases e;rfl⟩
 ·rename_i agj Sy
  refine ⟨_,M,H,O,hu.ab,h,hs,Ext.refl A M w,AV.bL x⟩
theorem vI {esz:Nat}:∀ {xs:List AV} {us:List Value} {M:Mem} {H:List aa} {O:Pos→Option Nat} {K:List AV→List aa→Prop},St A M L w H ev ea O→jY esz xs H K→aM M L us xs→
 ∃ zs M' H' O',aM M' L us zs∧K zs H'∧St A M' L w H' ev ea O'∧Ext A M w M' w
 | [],us,M,H,O,K,hs,h,hu=>⟨[],M,H,O,hu,h,hs,Ext.refl A M w⟩
 | x::r,us,M,H,O,K,hs,h,hu=>by
   cases hu with
   | cons u _ us _ h1 h2=>
   obtain ⟨z,M1,H1,O1,k1,k2,k3,k4,_⟩:=mg hs h h1
   obtain ⟨zs,M2,H2,O2,g1,g2,g3,g4⟩:=vI k3 k2 (h2.mono k4.ln (List.prefix_refl L))
   exact ⟨z::zs,M2,H2,O2,.cons _ _ _ _ (k1.mono g4.ln (List.prefix_refl L)) g1,g2,g3,k4.trans g4⟩
theorem setRow_self {b:Nat} {cs:Array Value} {e:TypeId} {f:Nat×Nat} (h:w.heap[b]?=some (.cells cs e f)):w.setRow b cs=w:=by
 have:(w.setRow b cs).heap=w.heap:=by
  apply Array.ext
  ·simp [World.setRow]
  ·intro i h1 h2
   simp only [World.setRow,Array.getElem_modify]
   split
   ·rename_i e0
    subst e0
    obtain ⟨_,h'⟩:=Array.getElem?_eq_some_iff.1 h
    rw [h']
   ·rfl
 show ({ w with heap:=(w.setRow b cs).heap }:World)=w
 rw [this]
theorem Kc (hs:St A M L w H ev ea O) {e id c:Nat} {K:List aa→Prop} (h:Au e id c H K) :
 ∃ M' H' O',K H'∧St A M' L w H' ev ea O'∧Ext A M w M' w:=by
 unfold Au at h
 split at h <;> try exact h.elim
 rename_i es bp
 split at h <;> try exact h.elim
 rotate_left
 ·exact ⟨M,H,O,h,hs,.refl A M w⟩
 rename_i a1 a2 a3 a4 hc
 have hb:∃ b,L[id]?=some b:=by
  have:=aO bp
  rw [← hs.len] at this
  exact ⟨L[id],by simp [this]⟩
 obtain ⟨b,hl⟩:=hb
 obtain ⟨cs,ty,k1,k2,k3⟩:=hs.obj id _ b bp hl
 obtain ⟨u,hu,hru⟩:=k2.get c _ hc
 obtain ⟨y,M',H1,O1,g1,⟨g2,g3,g4⟩,g5,g6,g7⟩:=mg hs h hru
 obtain ⟨cs',ty',m1,m2,m3⟩:=g5.obj id _ b g2 hl
 rw [k1] at m1;cases m1
 have bS:=g5.bE id _ g2
 have jc:c < es.length:=aO hc
 have gI:cs.toList.set c u=cs.toList:=by
  apply List.ext_getElem?
  intro j
  rw [List.getElem?_set]
  split
  ·rename_i e0;subst e0
   have:c < cs.toList.length:=aO hu
   rw [if_pos this,hu]
  ·rfl
 have sn:=m2.set g1 c
 rw [gI] at sn
 have hcv:∀ j,bM L w id j=(cs[j]?).getD undef:=by
  intro j
  unfold bM
  rw [hl]
  simp [World.cell?,k1]
 have hO:O1 (.c id c)=none:=by
  have:=g5.hZ id c
  have e1:bw H1 id c=.bc a1 a2 a3 a4:=by
   unfold bw
   rw [g2]
   simp [List.getD_eq_getElem?_getD,hc]
  rw [e1] at this
  exact this
 obtain ⟨q1,q2⟩:=g5.write (es':=es.set c y) (cs':=cs) (ea':=ea) (O':=O1) g2 hl k1 sn (by
  simp only [aa.aV] at bS
  rw [a8] at bS ⊢
  intro z hz
  rcases List.mem_or_eq_of_mem_set hz with h' | rfl
  ·exact bS z h'
  ·exact AV.cE (A.lY (aO g2)) _ g3) ⟨fun p q b hp hq=>g5.ch p q b hp hq,fun p b hp=>⟨p,hp⟩⟩ g5.env g5.iq (fun j=>by
  by_cases e0:j=c
  ·subst e0
   rw [hO]
   have:(es.set j y).getD j .any=y:=by rw [List.getD_eq_getElem?_getD,List.getElem?_set_self jc];rfl
   rw [this]
   exact bg.free g7
  ·have:=g5.hZ id j
   rw [hcv j] at this
   have e1:bw H1 id j=es.getD j .any:=by unfold bw;rw [g2]
   rw [e1] at this
   rwa [List.getD_eq_getElem?_getD,List.getElem?_set_ne (fun e=>e0 e.symm),← List.getD_eq_getElem?_getD]) (fun _ _ _=>rfl)
 rw [setRow_self k1] at q1 q2
 exact ⟨M',_,O1,g4,q1,g6.trans q2⟩
theorem so (hs:St A M L w H ev ea O) {esz:Nat} {u:Value} {x:AV} {K:AV→List aa→Prop} (h:fF esz x H K) (hu:aS M L u x) :
 ∃ z M' H' O',aS M' L u z∧K z H'∧St A M' L w H' ev ea O'∧Ext A M w M' w∧∀ own xs,z=.al own xs→own=0:=by
 unfold fF at h
 split at h
 ·cases hu with
  | agg cs xs hr=>
  obtain ⟨zs,M',H',O',g1,g2,g3,g4⟩:=vI hs h hr
  exact ⟨.agg zs,M',H',O',.agg _ _ g1,g2,g3,g4,by intro own xs e;cases e⟩
 ·rename_i id off
  split at h
  ·obtain ⟨M',H',O',g1,g2,g3⟩:=Kc hs h
   exact ⟨.ptr id off,M',H',O',hu.mono g3.ln (List.prefix_refl L),g1,g2,g3,by intro own xs e;cases e⟩
  ·exact mg hs h hu
 ·exact mg hs h hu
end
end Go.aL
end
section
namespace Go.aL
open Go
def tH (xs:List AV) (H:List aa) (K:AV→List aa→Prop):Prop:=
 aj (H.length + 1) ((flat xs).map AV.ab)=true∧K (.bc H.length 0 xs.length xs.length) (H++[.cells ((flat xs).map AV.ab)])
def dh (z:AV) (n:Nat):List AV:=flat (List.replicate n (bO z))
def b7 (esz bytes:Nat) (z s x:AV) (H:List aa) (K:AV→List aa→Prop):Prop:=
 match dl x with
 | none=>(match s,xW esz x H with
   | .bc id off len cap,some (n,ys)=>match H[id]? with
     | some (.cells es)=>n * esz≤ys.length∧(ys.take (n * esz)).all AV.one=true∧len + n≤cap∧off + cap * esz≤es.length∧aj (id + 1) ((ys.take (n * esz)).map AV.ab)=true∧
        K (.bc id off (len + n) cap) (H.set id (.cells (ag es (off + len * esz) ((ys.take (n * esz)).map AV.ab))))
     | _=>False
   | _,_=>False)
 | some ys=>qB esz ys∧match s with
   | .ah=>ys.length * bytes≤140737488355328∧(ys=[]→K .ah H)∧(ys≠[]→∀ cap,ys.length≤cap→cap < 9223372036854775808→
      aj (H.length + 1) ((flat ys).map AV.ab++dh z (cap - ys.length))=true∧K (.bc H.length 0 ys.length cap) (H++[.cells ((flat ys).map AV.ab++dh z (cap - ys.length))]))
   | .pe=>ys.length * bytes≤140737488355328∧(ys=[]→K .pe H)∧(ys≠[]→∀ cap,ys.length≤cap→cap < 9223372036854775808→
      aj (H.length + 1) ((flat ys).map AV.ab++dh z (cap - ys.length))=true∧K (.bc H.length 0 ys.length cap) (H++[.cells ((flat ys).map AV.ab++dh z (cap - ys.length))]))
   | .bc id off len cap=>match H[id]? with
     | some (.cells es)=>(len + ys.length) * bytes≤140737488355328∧len≤cap∧off + cap * esz≤es.length∧
        (len + ys.length≤cap→aj (id + 1) ((flat ys).map AV.ab)=true∧K (.bc id off (len + ys.length) cap) (H.set id (.cells (ag es (off + len * esz) ((flat ys).map AV.ab)))))∧
        (cap < len + ys.length→∀ fT,len + ys.length≤fT→fT < 9223372036854775808→
          aj (H.length + 1) (((es.drop off).take (len * esz)).map AV.ab++(flat ys).map AV.ab++dh z (fT - (len + ys.length)))=true∧
          K (.bc H.length 0 (len + ys.length) fT) (H++[.cells (((es.drop off).take (len * esz)).map AV.ab++(flat ys).map AV.ab++dh z (fT - (len + ys.length)))]))
     | _=>False
   | _=>False
def iM (esz:Nat) (z x:AV) (H:List aa) (K:List aa→Prop):Prop:=
 match x with
 | .bc id off len _=>match H[id]? with
   | some (.cells es)=>off + len * esz≤es.length∧(dh z len).all AV.one=true∧aj (id + 1) ((dh z len).map AV.ab)=true∧K (H.set id (.cells (ag es off ((dh z len).map AV.ab))))
   | _=>False
 | _=>False
section
variable {P:Program} {w:World} {M:Mem} {L:List Nat} {H:List aa} {A:Perm} {ev:Nat→Value} {ea:Nat→AV} {O:Pos→Option Nat}
theorem kT {α:Type} (es:List α) (off:Nat):ag es off []=es:=by simp [ag]
theorem St.Cu (hs:St A M L w H ev ea O) (cs:Array Value) (e:TypeId) {xs:List AV} (hr:aM M L cs.toList xs) (hb:aj (H.length + 1) xs=true) (hf:∀ y∈xs,∀ own zs,y=.al own zs→own=0) :
 St A M (L++[w.heap.size]) { w with heap:=w.heap.push (.cells cs e) } (H++[.cells xs]) ev ea O∧Ext A M w M { w with heap:=w.heap.push (.cells cs e) }:=
 hs.sf (.cells cs e) (.cells xs) (fun w' hw hM=>⟨_,e,hw,hr.mono (Mem.bQ M) ⟨_,rfl⟩,hM⟩) (by simpa [aa.aV] using hb) (fun j=>by
  simp only [nI]
  refine bg.free ?_
  intro own zs hh
  rw [List.getD_eq_getElem?_getD] at hh
  cases hx:xs[j]? with
  | none=>simp [hx] at hh
  | some y=>simp [hx] at hh;exact hf y (List.mem_of_getElem? hx) own zs hh)
theorem nR (xs:List AV):∀ y∈xs.map AV.ab,∀ own zs,y=.al own zs→own=0:=by
 intro y hy own zs e
 obtain ⟨q,_,rfl⟩:=List.mem_map.1 hy
 exact AV.bL q own zs e
theorem EQ {z:AV} (J9:∀ y∈z.cells,∀ own xs,y=.al own xs→own=0) (n:Nat):∀ y∈dh z n,∀ own zs,y=.al own zs→own=0:=by
 intro y hy own zs e
 simp only [dh,flat,List.mem_flatMap] at hy
 obtain ⟨q,hq,NU⟩:=hy
 rw [List.eq_of_mem_replicate hq] at NU
 subst e
 cases z <;> simp only [bO,AV.cells] at NU J9
 case agg ys=>
  obtain ⟨y',_,hy'⟩:=List.mem_map.1 NU
  exact AV.jJ y' own zs hy'
 all_goals exact J9 _ NU own zs rfl
theorem H7 (hs:St A M L w H ev ea O) {t e:TypeId} (ht:P.underlying t=some (.slice e)) {esz:Nat} (he:dP P e=some esz) (h0:0 < esz) {z:AV} (hz:fR P e=some z) (jh:z.cells.length=esz) (tC:z.val=true)
 {len:Nat} (hlen:len * esz≤16777216) {parts:List (Nat×AV)} {vs:Array (Nat×Value)} (hp:∀ (j:Nat) (p:Nat×AV),parts[j]?=some p→∃ v,vs.toList[j]?=some (p.1,v)∧aS M L v p.2) (hl:vs.toList.length=parts.length)
 {K:AV→List aa→Prop} (h:bj (List.replicate len (aT z)) esz parts fun xs=>tH xs H K) :
 ∃ r x L' w' H',(Instr.buildSlice t len vs).run P w=.ok r w'∧aS M L' r x∧(∀ own xs,x=.al own xs→own=0)∧K x H'∧St A M L' w' H' ev ea O∧Ext A M w M w'∧L <+: L':=by
 unfold fR at hz
 obtain ⟨ie,J3,dc⟩:=Option.map_eq_some_iff.1 he
 simp only [J3] at hz
 split at hz
 ·rename_i zv vB
  have Ci:=(cM (M:=M) (L:=L) hz).aT.gl (sl tC)
  have uH:zv.cells.size=esz:=by have:=Ci.length;rw [fa,jh] at this;simpa using this
  obtain ⟨cs',xs',f1,f2,f3,f4,f5⟩:=nP (M:=M) (L:=L) esz parts vs.toList hp hl (jT zv.cells esz len uH h0 (aT z) Ci) (fun y hy=>by rw [List.eq_of_mem_replicate hy,fa];exact jh) h
  simp only [List.length_replicate] at f4
  obtain ⟨nC,hK⟩:=f5
  have bJ:(Instr.buildSlice t len vs).run P w=.ok (.slice (some ⟨w.heap.size,0,none⟩) len len) { w with heap:=w.heap.push (.cells cs' e) }:=by
   by_cases nr:len * ie.size=0
   ·have Aj:len=0:=by
     rcases Nat.mul_eq_zero.1 nr with h' | h'
     ·exact h'
     ·omega
    subst Aj
    have NP:cs'=#[]:=by
     have:=f2.length
     rw [cN _ esz f3,f4] at this
     simp at this
     exact this
    have Wd:vs.toList=[]:=by
     cases xS:vs.toList with
     | nil=>rfl
     | cons q r=>
       rw [xS] at hl
       cases parts with
       | nil=>simp at hl
       | cons p ps=>obtain ⟨_,_,h3,_⟩:=h;simp at h3
    subst NP
    have hf:Instr.fill (fun i=>some (i * ie.size,ie.size)) #[] vs.toList=some #[]:=by rw [Wd];rfl
    simp [Instr.buildSlice,run_underlying ht,sizeOf,typeInfo,J3,newRow,Wd,Instr.fill]
    congr 2
    apply Array.ext'
    simp
   ·rw [run_buildSlice w t e len vs cs' ie zv ht J3 vB (by rw [dc];omega) nr (by rw [dc];exact f1)]
    rfl
  obtain ⟨g1,g2⟩:=hs.Cu cs' e f2.dd nC (nR _)
  have hbd:len < 9223372036854775808:=by
   have:len≤len * esz:=Nat.le_mul_of_pos_right _ h0
   omega
  refine ⟨_,.bc H.length 0 len len,_,_,_,bJ,.bc w.heap.size 0 _ _ H.length ?_ hbd,(by intro _ _ e;cases e),by rw [f4] at hK;exact hK,g1,g2,⟨_,rfl⟩⟩
  rw [List.getElem?_append_right (by rw [hs.len];exact Nat.le_refl _),hs.len];simp
 ·cases hz
theorem Av (hs:St A M L w H ev ea O) {t ty e:TypeId} {i:TypeInfo} {zv:Value} {esz bytes:Nat} (ht:P.underlying t=some (.slice e)) (hi:P.info? e=some i) (hz:i.zero=some zv) (dc:i.size=esz) (yE:i.bytes=bytes) (h0:0 < esz) (vD:0 < bytes)
 {z:AV} (Nl:ofValue zv=some z) (tC:z.val=true) (jh:z.cells.length=esz) (J9:∀ y∈z.cells,∀ own xs,y=.al own xs→own=0) {u v:Value} {s x:AV} {K:AV→List aa→Prop} (h:b7 esz bytes z s x H K) (hu:aS M L u s) (hv:aS M L v x) :
 ∃ r y L' w' H' O',(Builtin.append_ #[t,t] ty #[u,v]).run P w=.ok r w'∧aS M L' r y∧(∀ own xs,y=.al own xs→own=0)∧K y H'∧St A M L' w' H' ev ea O'∧Ext A M w M w'∧L <+: L':=by
 unfold b7 at h
 split at h
 ·-- out of an object
  rename_i hnone
  split at h <;> try exact h.elim
  rename_i id off len cap n ys xX
  split at h <;> try exact h.elim
  rename_i es bp
  obtain ⟨hny,kQ,hroom,ur,nC,hK⟩:=h
  cases hu with
  | bc b _ _ _ _ hl hc=>
  obtain ⟨cs,e',h1,h2,h3⟩:=fy hs bp hl
  have jc:=h2.length
  have xT:(len + n) * esz≤cap * esz:=Nat.mul_le_mul_right _ hroom
  rw [Nat.add_mul] at xT
  unfold xW at xX
  split at xX
  ·simp [dl] at hnone
  ·simp [dl] at hnone
  ·rename_i id2 off2 Wo Wp
   split at xX <;> try cases xX
   rename_i es2 NX
   split at xX <;> cases xX
   rename_i hfit2
   cases hv with
   | bc b2 _ _ _ _ nE ph=>
   obtain ⟨cs2,e2,k1,k2,k3⟩:=fy hs NX nE
   have agn:=k2.length
   by_cases Cm:n=0
   ·subst Cm
    simp only [Nat.zero_mul,List.take_zero,List.map_nil,kT,Nat.add_zero] at hK
    have es':H.set id (.cells es)=H:=by
     obtain ⟨me,e1⟩:=List.getElem?_eq_some_iff.1 bp
     rw [← e1];simp
    rw [es'] at hK
    exact ⟨_,.bc id off len cap,L,w,H,O,dz ht hi w _ len cap (by omega) _ Wp,.bc b off len cap id hl hc,(by intro _ _ e;cases e),hK,hs,Ext.refl A M w,List.prefix_refl L⟩
   ·have yF:((cs2.toList.drop off2).take (n * esz)).length=n * esz:=by
     rw [List.length_take,List.length_drop];omega
    have hnews:∀ j u,((cs2.toList.drop off2).take (n * esz))[j]?=some u→w.cell? ((⟨b2,off2,none⟩:Addr).add j)=some u:=fun j u hu=>by
     rw [Addr.add_lit];exact k3 _ _ (dy _ _ _ _ _ hu)
    have An:aM M L ((cs2.toList.drop off2).take (n * esz)) ((es2.drop off2).take (n * esz)):=(k2.drop off2).take _
    have Wq:=An.gM kQ
    have bJ:=gn (P:=P) (ty:=ty) ht hi w b off len cap cs (0,0) h1 (oF _) ⟨b2,off2,none⟩ n Wp ((cs2.toList.drop off2).take (n * esz)) (by rw [dc];exact yF) hnews Wq hroom (by
     have:es.length=cs.size:=by rw [← jc];simp
     rw [dc,yF];omega)
    rw [dc] at bJ
    obtain ⟨O',g1,g2⟩:=hs.At (off:=off + len * esz) bp hl h1 h2 An (by rw [List.length_take,List.length_drop];omega) nC
    exact ⟨_,.bc id off (len + n) cap,L,_,_,O',bJ,.bc b off _ cap id hl hc,(by intro _ _ e;cases e),hK,g1,g2,List.prefix_refl L⟩
  ·cases xX
 rename_i ys qt
 obtain ⟨jy,h⟩:=h
 have Ci:=(cM (M:=M) (L:=L) Nl).bO.gl (pK tC)
 have uH:zv.cells.size=esz:=by have:=Ci.length;rw [jC,jh] at this;simpa using this
 have hesz0:esz≠0:=by omega
 have Kd:∀ n,aM M L (Builtin.zeroCells zv.cells n).toList (dh z n):=fun n=>by
  have:=jT (M:=M) (L:=L) zv.cells esz n uH h0 (bO z) Ci
  rw [Builtin.zeroCells,uH]
  rw [uH] at this
  exact this
 -- a new row
 have grow:∀ (olds news:List Value) (xs:List AV) (k need oldCap:Nat) (w':World),aM M L olds xs→aM M L news (flat ys)→need≤maxLen→
  w'=w.drew.alloc (.cells (olds.toArray++news.toArray++Builtin.zeroCells zv.cells (grownCap w need oldCap e - need)) e)→
  (Builtin.append_ #[t,t] ty #[u,v]).run P w=.ok (.slice (some ⟨w.heap.size,0,none⟩) need (grownCap w need oldCap e)) w'→
  (∀ fT,need≤fT→fT < 9223372036854775808→aj (H.length + 1) (xs.map AV.ab++(flat ys).map AV.ab++dh z (fT - need))=true∧K (.bc H.length 0 need fT) (H++[.cells (xs.map AV.ab++(flat ys).map AV.ab++dh z (fT - need))]))→
  ∃ r y L' w' H' O',(Builtin.append_ #[t,t] ty #[u,v]).run P w=.ok r w'∧aS M L' r y∧(∀ own xs,y=.al own xs→own=0)∧K y H'∧St A M L' w' H' ev ea O'∧Ext A M w M w'∧L <+: L':=by
  intro olds news xs k need oldCap w' Wg An hneed J7 bJ hK
  have gr:=grownCap_ge w need oldCap e
  have hle:=grownCap_le_maxLen w need oldCap e hneed
  simp only [maxLen] at hle
  obtain ⟨nC,hK⟩:=hK _ gr (by omega)
  obtain ⟨g1,g2⟩:=hs.drew.Cu (olds.toArray++news.toArray++Builtin.zeroCells zv.cells (grownCap w need oldCap e - need)) e (xs:=xs.map AV.ab++(flat ys).map AV.ab++dh z (grownCap w need oldCap e - need))
   (by rw [Array.toList_append,Array.toList_append];exact (Wg.dd.append An.dd).append (Kd _)) nC (by
     intro y hy
     rcases List.mem_append.1 hy with hy | hy
     ·rcases List.mem_append.1 hy with hy | hy
      ·exact nR _ y hy
      ·exact nR _ y hy
     ·exact EQ J9 _ y hy)
  subst J7
  refine ⟨_,.bc H.length 0 need (grownCap w need oldCap e),L++[w.heap.size],_,_,O,bJ,.bc w.heap.size 0 _ _ H.length ?_ (by omega),(by intro _ _ e;cases e),hK,g1,Ext.drew.trans g2,⟨_,rfl⟩⟩
  rw [List.getElem?_append_right (by rw [hs.len];exact Nat.le_refl _),hs.len];simp
 split at h <;> try exact h.elim
 ·-- onto nothing
  obtain ⟨hbound,hn,hc⟩:=h
  cases hu
  rcases mc qt jy hv with ⟨rfl,b',c',rfl⟩ | ⟨Cm,b2,o2,c2,news,rfl,An,Su,yF⟩
  ·exact ⟨_,.ah,L,w,H,O,dz ht hi w none 0 0 (Nat.le_refl _) b' c',.ah,(by intro _ _ e;cases e),hn rfl,hs,Ext.refl A M w,List.prefix_refl L⟩
  ·have hnews:∀ j u,news[j]?=some u→w.cell? ((⟨b2,o2,none⟩:Addr).add j)=some u:=iD Su hs.mem
   have hlen:ys.length≤140737488355328:=Nat.le_trans (Nat.le_mul_of_pos_right _ vD) hbound
   have hbound':ys.length * i.bytes≤140737488355328:=by rw [yE];exact hbound
   have hr:=run_append_nil (P:=P) w t ty e i zv ht hi hz ⟨b2,o2,none⟩ ys.length c2 news (by rw [dc];exact yF) hnews Cm (by omega) (by first | omega | (simp at hbound';omega))
   refine grow [] news [] 0 ys.length 0 _ .nil An (by simp only [maxLen];omega) rfl (by simpa using hr) fun fT h1 h2=>?_
   have:=hc (by intro e;rw [e] at Cm;simp at Cm) fT h1 h2
   simpa using this
 ·-- onto what is empty
  obtain ⟨hbound,hn,hc⟩:=h
  cases hu with
  | pe ad=>
  rcases mc qt jy hv with ⟨rfl,b',c',rfl⟩ | ⟨Cm,b2,o2,c2,news,rfl,An,Su,yF⟩
  ·exact ⟨_,.pe,L,w,H,O,dz ht hi w ad 0 0 (Nat.le_refl _) b' c',.pe _,(by intro _ _ e;cases e),hn rfl,hs,Ext.refl A M w,List.prefix_refl L⟩
  ·have hnews:∀ j u,news[j]?=some u→w.cell? ((⟨b2,o2,none⟩:Addr).add j)=some u:=iD Su hs.mem
   have hlen:ys.length≤140737488355328:=Nat.le_trans (Nat.le_mul_of_pos_right _ vD) hbound
   have hbound':ys.length * i.bytes≤140737488355328:=by rw [yE];exact hbound
   have hK:∀ fT,ys.length≤fT→fT < 9223372036854775808→aj (H.length + 1) (([]:List AV).map AV.ab++(flat ys).map AV.ab++dh z (fT - ys.length))=true∧K (.bc H.length 0 ys.length fT) (H++[.cells (([]:List AV).map AV.ab++(flat ys).map AV.ab++dh z (fT - ys.length))]):=fun fT h1 h2=>by
    have:=hc (by intro e;rw [e] at Cm;simp at Cm) fT h1 h2
    simpa using this
   cases ad with
   | none=>
     have hr:=run_append_nil (P:=P) w t ty e i zv ht hi hz ⟨b2,o2,none⟩ ys.length c2 news (by rw [dc];exact yF) hnews Cm (by omega) (by first | omega | (simp at hbound';omega))
     exact grow [] news [] 0 ys.length 0 _ .nil An (by simp only [maxLen];omega) rfl (by simpa using hr) hK
   | some ad=>
     have hr:=run_append_grow (P:=P) w t ty e i zv ht hi hz ad 0 0 [] (by simp) (fun j v hv=>by simp at hv)
      ⟨b2,o2,none⟩ ys.length c2 news (by rw [dc];exact yF) hnews (by omega) (by omega) (growslice_fits (by omega) (by simpa using hbound'))
     simp only [Nat.zero_add] at hr
     exact grow [] news [] 0 ys.length 0 _ .nil An (by simp only [maxLen];omega) rfl hr hK
 ·rename_i id off len cap
  split at h <;> try exact h.elim
  rename_i es bp
  obtain ⟨hbound,Ak,ur,Ke,JU⟩:=h
  cases hu with
  | bc b _ _ _ _ hl hc=>
  obtain ⟨cs,e',h1,h2,h3⟩:=fy hs bp hl
  have jc:=h2.length
  rcases mc qt jy hv with ⟨rfl,b',c',rfl⟩ | ⟨Cm,b2,o2,c2,news,rfl,An,Su,yF⟩
  ·obtain ⟨_,hK⟩:=Ke (by simpa using Ak)
   simp only [flat,List.flatMap_nil,List.map_nil,kT,List.length_nil,Nat.add_zero] at hK
   have es':H.set id (.cells es)=H:=by
    obtain ⟨me,e1⟩:=List.getElem?_eq_some_iff.1 bp
    rw [← e1];simp
   rw [es'] at hK
   exact ⟨_,.bc id off len cap,L,w,H,O,dz ht hi w _ len cap Ak b' c',.bc b off len cap id hl hc,(by intro _ _ e;cases e),hK,hs,Ext.refl A M w,List.prefix_refl L⟩
  ·have hnews:∀ j u,news[j]?=some u→w.cell? ((⟨b2,o2,none⟩:Addr).add j)=some u:=iD Su hs.mem
   have kQ:=An.gM (Ck jy)
   have NW:(flat ys).length=ys.length * esz:=cN ys esz (fun y hy=>(jy y hy).1)
   by_cases hroom:len + ys.length≤cap
   ·obtain ⟨nC,hK⟩:=Ke hroom
    have xT:(len + ys.length) * esz≤cap * esz:=Nat.mul_le_mul_right _ hroom
    rw [Nat.add_mul] at xT
    have ago:es.length=cs.size:=by rw [← jc];simp
    have bJ:=gn (P:=P) (ty:=ty) ht hi w b off len cap cs (0,0) h1 (oF _) ⟨b2,o2,none⟩ ys.length c2 news (by rw [dc];exact yF) hnews kQ hroom (by rw [dc,yF];omega)
    rw [dc] at bJ
    obtain ⟨O',g1,g2⟩:=hs.At (off:=off + len * esz) bp hl h1 h2 An (by rw [NW];omega) nC
    exact ⟨_,.bc id off (len + ys.length) cap,L,_,_,O',bJ,.bc b off _ cap id hl hc,(by intro _ _ e;cases e),hK,g1,g2,List.prefix_refl L⟩
   ·have hlen:(len + ys.length)≤140737488355328:=Nat.le_trans (Nat.le_mul_of_pos_right _ vD) hbound
    have hbound':(len + ys.length) * i.bytes≤140737488355328:=by rw [yE];exact hbound
    have xT:len * esz≤cap * esz:=Nat.mul_le_mul_right _ Ak
    have abh:((cs.toList.drop off).take (len * esz)).length=len * esz:=by rw [List.length_take,List.length_drop];omega
    have hr:=run_append_grow (P:=P) w t ty e i zv ht hi hz ⟨b,off,none⟩ len cap ((cs.toList.drop off).take (len * esz)) (by rw [dc];exact abh) (fun j v hv=>by rw [Addr.add_lit];exact h3 _ _ (dy _ _ _ _ _ hv))
     ⟨b2,o2,none⟩ ys.length c2 news (by rw [dc];exact yF) hnews (by omega) (by omega) (growslice_fits (by omega) hbound')
    exact grow _ news ((es.drop off).take (len * esz)) 0 (len + ys.length) cap _ ((h2.drop off).take _) An (by simp only [maxLen];omega) rfl hr fun fT a b=>JU (by omega) fT a b
theorem Cv (hs:St A M L w H ev ea O) {t e:TypeId} {i:TypeInfo} {zv:Value} {esz:Nat} (ht:P.underlying t=some (.slice e)) (hi:P.info? e=some i) (hz:i.zero=some zv) (h0:0 < esz)
 {z:AV} (Nl:ofValue zv=some z) (tC:z.val=true) (jh:z.cells.length=esz) {v:Value} {x:AV} {K:List aa→Prop} (h:iM esz z x H K) (hv:aS M L v x) (ty:TypeId) :
 ∃ w' H' O',(Builtin.clear_ #[t] ty #[v]).run P w=.ok (.tuple #[]) w'∧K H'∧St A M L w' H' ev ea O'∧Ext A M w M w':=by
 unfold iM at h
 split at h <;> try exact h.elim
 rename_i id off len cap
 split at h <;> try exact h.elim
 rename_i es bp
 obtain ⟨ur,kQ,nC,hK⟩:=h
 cases hv with
 | bc b _ _ _ _ hl hc=>
 have Ci:=(cM (M:=M) (L:=L) Nl).bO.gl (pK tC)
 have uH:zv.cells.size=esz:=by have:=Ci.length;rw [jC,jh] at this;simpa using this
 have Kd:aM M L (Builtin.zeroCells zv.cells len).toList (dh z len):=by
  have:=jT (M:=M) (L:=L) zv.cells esz len uH h0 (bO z) Ci
  rw [Builtin.zeroCells,uH]
  rw [uH] at this
  exact this
 obtain ⟨cs,e',h1,h2,h3⟩:=hs.obj id _ b bp hl
 have jc:=h2.length
 have vA:(dh z len).length=len * esz:=by
  unfold dh
  rw [cN _ esz (fun y hy=>by rw [List.eq_of_mem_replicate hy,jC];exact jh),List.length_replicate]
 have qz:=Kd.length
 by_cases Aj:len=0
 ·subst Aj
  have e0:dh z 0=[]:=rfl
  rw [e0] at hK
  simp only [List.map_nil,kT] at hK
  have es':H.set id (.cells es)=H:=by
   obtain ⟨me,e1⟩:=List.getElem?_eq_some_iff.1 bp
   rw [← e1];simp
  rw [es'] at hK
  refine ⟨w,H,O,?_,hK,hs,Ext.refl A M w⟩
  simp [Builtin.clear_,run_underlying ht]
 ·have bS:=run_storeCells_at P b off e' (Builtin.zeroCells zv.cells len).toList 0 cs w h1 (by simp at jc ⊢;simp at qz;omega) (Kd.gM kQ)
  obtain ⟨O',g1,g2⟩:=hs.At (off:=off) bp hl h1 h2 Kd (by omega) nC
  refine ⟨_,_,O',?_,hK,g1,g2⟩
  have mf:(storeCells ⟨b,off,none⟩ (Builtin.zeroCells zv.cells len).toList).run P w=.ok () (w.setRow b (ag cs.toList off (Builtin.zeroCells zv.cells len).toList).toArray):=by simpa [ag] using bS
  have hzero:(zeroValue e).run P w=.ok zv w:=by simp [zeroValue,typeInfo,hi,hz]
  have nr:∃ m,len=m + 1:=⟨len - 1,by omega⟩
  obtain ⟨m,rfl⟩:=nr
  simp [Builtin.clear_,run_underlying ht,hzero,mf]
end
end Go.aL
end
