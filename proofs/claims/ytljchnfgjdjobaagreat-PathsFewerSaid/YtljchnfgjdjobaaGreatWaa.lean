/- Part 1 of 18 of the proof. -/
import Derived.WalkKit
import Derived.Laws.AppendOwn
import Derived.Laws.Cells
import Derived.Deep.Quiet
import Derived.RowKit
import Derived.RangeFuncLeaves
import Derived.RangeFuncRecord
import Derived.OrdersIn
import Derived.Laws.Strings
import Derived.Laws.Entries
import Derived.Laws.CopyRow
import Derived.Great.BuildSlice
import Derived.Laws.BytesArg
set_option linter.unusedVariables false
set_option linter.unusedSimpArgs false
set_option linter.defProp false
set_option linter.unusedSectionVars false
section
namespace Go.aH
open Go
inductive AV where
 | any
 | bool (b:Bool)
 | int (k:IntKind) (n:Int)
 | str (s:ByteArray)
 | ah
 | ap (own:Nat) (xs:List AV)
 | a8 (id off len cap:Nat)
 | agg (xs:List AV)
 | tuple (xs:List AV)
 | ptr (id off:Nat)
 | ai (x:AV)
 | ru
 | map (id:Nat)
 | iS
 | fn (f:Fn) (first captured:List AV)
 | fG
 | iface (t:TypeId) (x:AV)
 | wR
 | nk (id:Nat)
 | oN
 deriving Inhabited
def AV.cells:AV→List AV
 | .agg xs=>xs
 | x=>[x]
def flat (xs:List AV):List AV:=xs.flatMap AV.cells
abbrev Mem:=Nat→Nat→Option Value
def Mem.sub (M M':Mem):Prop:=∀ b o v,M b o=some v→M' b o=some v
theorem Mem.bM (M:Mem):M.sub M:=fun _ _ _ h=>h
theorem Mem.Gy {M1 M2 M3:Mem} (h:M1.sub M2) (k:M2.sub M3):M1.sub M3:=fun b o v hv=>k b o v (h b o v hv)
def Mem.row (M:Mem) (b o:Nat) (cs:List Value):Prop:=∀ j v,cs[j]?=some v→M b (o + j)=some v
mutual
inductive aS (M:Mem) (L:List Nat):Value→AV→Prop
 | any (v:Value):aS M L v .any
 | bool (b:Bool):aS M L (.bool b) (.bool b)
 | int (k:IntKind) (n:Int):aS M L (.int k n) (.int k n)
 | str (s:ByteArray):aS M L (.string s) (.str s)
 | ah:aS M L (.slice none 0 0) .ah
 | gF (a:Option Addr) (c own:Nat) (hc:c < 9223372036854775808):aS M L (.slice a 0 c) (.ap own [])
 | ap (b off c own e:Nat) (cs:List Value) (xs:List AV) (he:0 < e) (hx:∀ x∈xs,x.cells.length=e) (hn:0 < xs.length) (hle:xs.length≤c) (hc:c < 9223372036854775808)
    (hr:aG M L cs (flat xs)) (hm:M.row b off cs):aS M L (.slice (some ⟨b,off,none⟩) xs.length c) (.ap own xs)
 | a8 (b off len cap id:Nat) (hl:L[id]?=some b) (hc:cap < 9223372036854775808):aS M L (.slice (some ⟨b,off,none⟩) len cap) (.a8 id off len cap)
 | agg (cs:List Value) (xs:List AV) (hr:aG M L cs xs):aS M L (.agg cs.toArray) (.agg xs)
 | tuple (cs:List Value) (xs:List AV) (hr:aG M L cs xs):aS M L (.tuple cs.toArray) (.tuple xs)
 | ptr (b off id:Nat) (hl:L[id]?=some b):aS M L (.pointer (some ⟨b,off,none⟩)) (.ptr id off)
 | ai (b off:Nat) (cs:List Value) (x:AV) (hr:aG M L cs x.cells) (hm:M.row b off cs):aS M L (.pointer (some ⟨b,off,none⟩)) (.ai x)
 | ru:aS M L (.pointer none) .ru
 | map (b id:Nat) (hl:L[id]?=some b):aS M L (.map (some b)) (.map id)
 | iS:aS M L (.map none) .iS
 | fn (f:Fn) (fs cs:List Value) (xs ys:List AV) (h1:aG M L fs xs) (h2:aG M L cs ys):aS M L (.func f fs.toArray cs.toArray) (.fn f xs ys)
 | fG:aS M L .nilFunc .fG
 | iface (t:TypeId) (v:Value) (x:AV) (h:aS M L v x):aS M L (.iface t v) (.iface t x)
 | wR:aS M L .nilIface .wR
 | nk (b id:Nat) (hl:L[id]?=some b):aS M L (.func (.yield b) #[] #[]) (.nk id)
 | oN (a:Option Addr):aS M L (.slice a 0 0) .oN
inductive aG (M:Mem) (L:List Nat):List Value→List AV→Prop
 | nil:aG M L [] []
 | cons (v:Value) (x:AV) (vs:List Value) (xs:List AV) (h:aS M L v x) (t:aG M L vs xs):aG M L (v::vs) (x::xs)
end
theorem fR {L L':List Nat} (h:L <+: L') {id b:Nat} (hb:L[id]?=some b):L'[id]?=some b:=by
 obtain ⟨r,rfl⟩:=h
 rw [List.getElem?_append_left]
 ·exact hb
 ·exact (List.getElem?_eq_some_iff.1 hb).1
theorem Mem.row.mono {M M':Mem} (hs:M.sub M') {b o:Nat} {cs:List Value} (h:M.row b o cs):M'.row b o cs:=fun j v hv=>hs _ _ _ (h j v hv)
mutual
theorem aS.mono {M M':Mem} {L L':List Nat} (hs:M.sub M') (hL:L <+: L'):∀ {v:Value} {x:AV},aS M L v x→aS M' L' v x
 | _,_,.any v=>.any v
 | _,_,.bool b=>.bool b
 | _,_,.int k n=>.int k n
 | _,_,.str s=>.str s
 | _,_,.ah=>.ah
 | _,_,.gF a c o h=>.gF a c o h
 | _,_,.ap b off c own e cs xs he hx hn hle hc hr hm=>.ap b off c own e cs xs he hx hn hle hc (hr.mono hs hL) (hm.mono hs)
 | _,_,.a8 b off len cap id hl hc=>.a8 b off len cap id (fR hL hl) hc
 | _,_,.agg cs xs hr=>.agg cs xs (hr.mono hs hL)
 | _,_,.tuple cs xs hr=>.tuple cs xs (hr.mono hs hL)
 | _,_,.ptr b off id hl=>.ptr b off id (fR hL hl)
 | _,_,.ai b off cs x hr hm=>.ai b off cs x (hr.mono hs hL) (hm.mono hs)
 | _,_,.ru=>.ru
 | _,_,.map b id hl=>.map b id (fR hL hl)
 | _,_,.iS=>.iS
 | _,_,.fn f fs cs xs ys h1 h2=>.fn f fs cs xs ys (h1.mono hs hL) (h2.mono hs hL)
 | _,_,.fG=>.fG
 | _,_,.iface t v x h=>.iface t v x (h.mono hs hL)
 | _,_,.wR=>.wR
 | _,_,.nk b id hl=>.nk b id (fR hL hl)
 | _,_,.oN a=>.oN a
theorem aG.mono {M M':Mem} {L L':List Nat} (hs:M.sub M') (hL:L <+: L'):∀ {vs:List Value} {xs:List AV},aG M L vs xs→aG M' L' vs xs
 | _,_,.nil=>.nil
 | _,_,.cons v x vs xs h t=>.cons v x vs xs (h.mono hs hL) (t.mono hs hL)
end
section
variable {M:Mem} {L:List Nat}
theorem aG.length:∀ {vs:List Value} {xs:List AV},aG M L vs xs→vs.length=xs.length
 | _,_,.nil=>rfl
 | _,_,.cons _ _ _ _ _ t=>by simp [t.length]
theorem aG.get:∀ {vs:List Value} {xs:List AV},aG M L vs xs→∀ (j:Nat) (x:AV),xs[j]?=some x→∃ v,vs[j]?=some v∧aS M L v x
 | _,_,.nil,j,x,h=>by simp at h
 | _,_,.cons v y vs xs h t,0,x,hx=>by simp at hx;subst hx;exact ⟨v,by simp,h⟩
 | _,_,.cons v y vs xs h t,j + 1,x,hx=>by
   obtain ⟨u,hu,hr⟩:=t.get j x (by simpa using hx)
   exact ⟨u,by simpa using hu,hr⟩
theorem aG.append:∀ {vs:List Value} {xs:List AV},aG M L vs xs→∀ {us:List Value} {ys:List AV},aG M L us ys→aG M L (vs++us) (xs++ys)
 | _,_,.nil,_,_,h2=>h2
 | _,_,.cons v x vs xs h t,_,_,h2=>.cons v x _ _ h (t.append h2)
theorem aG.take:∀ {vs:List Value} {xs:List AV},aG M L vs xs→∀ n,aG M L (vs.take n) (xs.take n)
 | _,_,.nil,n=>by simp;exact .nil
 | _,_,.cons v x vs xs h t,0=>.nil
 | _,_,.cons v x vs xs h t,n + 1=>.cons v x _ _ h (t.take n)
theorem aG.drop:∀ {vs:List Value} {xs:List AV},aG M L vs xs→∀ n,aG M L (vs.drop n) (xs.drop n)
 | _,_,.nil,n=>by simp;exact .nil
 | _,_,.cons v x vs xs h t,0=>.cons v x _ _ h t
 | _,_,.cons v x vs xs h t,n + 1=>t.drop n
theorem aG.set:∀ {vs:List Value} {xs:List AV},aG M L vs xs→∀ {u:Value} {y:AV},aS M L u y→∀ n,aG M L (vs.set n u) (xs.set n y)
 | _,_,.nil,_,_,_,n=>by simp;exact .nil
 | _,_,.cons v x vs xs h t,u,y,hu,0=>.cons u y _ _ hu t
 | _,_,.cons v x vs xs h t,u,y,hu,n + 1=>.cons v x _ _ h (t.set hu n)
theorem aG.yW:∀ {vs:List Value} {xs:List AV},vs.length=xs.length→(∀ (j:Nat) (x:AV),xs[j]?=some x→∃ v,vs[j]?=some v∧aS M L v x)→aG M L vs xs
 | [],[],_,_=>.nil
 | [],_::_,h,_=>by simp at h
 | _::_,[],h,_=>by simp at h
 | v::vs,x::xs,h,H=>by
   obtain ⟨u,hu,hr⟩:=H 0 x rfl
   simp at hu;subst hu
   exact .cons v x vs xs hr (.yW (by simpa using h) (fun j y hy=>by obtain ⟨u,hu,hr⟩:=H (j + 1) y (by simpa using hy);exact ⟨u,by simpa using hu,hr⟩))
theorem aG.one {v:Value} {x:AV} (h:aS M L v x):aG M L [v] [x]:=.cons _ _ _ _ h .nil
theorem aG.Fh {vs:List Value} {x:AV} (h:aG M L vs [x]):∃ v,vs=[v]∧aS M L v x:=by
 cases h with
 | cons v x vs xs h t=>cases t with | nil=>exact ⟨v,rfl,h⟩
theorem aG.getD {vs:List Value} {xs:List AV} (h:aG M L vs xs) (j:Nat):aS M L (vs.getD j undef) (xs.getD j .any):=by
 rcases Nat.lt_or_ge j xs.length with hj | hj
 ·obtain ⟨v,hv,hr⟩:=h.get j xs[j] (by simp [hj])
  rw [List.getD_eq_getElem?_getD,List.getD_eq_getElem?_getD,hv]
  simpa [hj] using hr
 ·rw [List.getD_eq_getElem?_getD,List.getD_eq_getElem?_getD,List.getElem?_eq_none hj]
  exact .any _
end
def AV.ab:AV→AV
 | .ap _ xs=>.ap 0 xs
 | x=>x
def AV.drop:AV→AV
 | .ap _ xs=>.ap 0 xs
 | .ah=>.ap 0 []
 | x=>x
theorem aS.Dy {M:Mem} {L:List Nat} {v:Value} {o o':Nat} {xs:List AV} (h:aS M L v (.ap o xs)):aS M L v (.ap o' xs):=by
 cases h with
 | gF a c _ hc=>exact .gF a c o' hc
 | ap b off c _ e cs _ he hx hn hle hc hr hm=>exact .ap b off c o' e cs xs he hx hn hle hc hr hm
theorem aS.ab {M:Mem} {L:List Nat} {v:Value} {x:AV} (h:aS M L v x):aS M L v x.ab:=by
 cases x <;> first | exact h | exact h.Dy
theorem aS.drop {M:Mem} {L:List Nat} {v:Value} {x:AV} (h:aS M L v x):aS M L v x.drop:=by
 cases x <;> first | exact h | exact h.Dy | (cases h;exact .gF _ _ _ (by decide))
theorem aG.map_drop {M:Mem} {L:List Nat}:∀ {vs:List Value} {xs:List AV},aG M L vs xs→aG M L vs (xs.map AV.drop)
 | _,_,.nil=>.nil
 | _,_,.cons v x vs xs h t=>.cons v _ _ _ h.drop t.map_drop
def AV.one:AV→Bool
 | .any=>false
 | .agg _=>false
 | .tuple _=>false
 | _=>true
theorem aS.gG {M:Mem} {L:List Nat} {v:Value} {x:AV} (h:aS M L v x) (h1:x.one=true):v.oneCell'=true:=by
 cases h <;> first | rfl | simp [AV.one] at h1
theorem aG.gG {M:Mem} {L:List Nat}:∀ {vs:List Value} {xs:List AV},aG M L vs xs→xs.all AV.one=true→∀ v∈vs,v.oneCell'=true
 | _,_,.nil,_,v,hv=>by simp at hv
 | _,_,.cons u x vs xs h t,h1,v,hv=>by
   simp only [List.all_cons,Bool.and_eq_true] at h1
   rcases List.mem_cons.1 hv with rfl | hv
   ·exact h.gG h1.1
   ·exact t.gG h1.2 v hv
mutual
def AV.aZ (n:Nat):AV→Bool
 | .a8 id _ _ _=>id < n
 | .ptr id _=>id < n
 | .map id=>id < n
 | .nk id=>id < n
 | .ap _ xs=>aj n xs
 | .agg xs=>aj n xs
 | .tuple xs=>aj n xs
 | .ai x=>x.aZ n
 | .fn _ xs ys=>aj n xs && aj n ys
 | .iface _ x=>x.aZ n
 | _=>true
def aj (n:Nat):List AV→Bool
 | []=>true
 | x::xs=>x.aZ n && aj n xs
end
theorem ba (n:Nat):∀ xs:List AV,aj n xs=true↔∀ x∈xs,x.aZ n=true
 | []=>by simp [aj]
 | x::xs=>by simp [aj,ba n xs]
theorem ke {L:List Nat} {id n b:Nat} (h:L[id]?=some b) (hn:id < n):(L.take n)[id]?=some b:=by
 rw [List.getElem?_take];simp [hn,h]
theorem cz {n:Nat} {x:AV} (h:x.aZ n=true):aj n x.cells=true:=by
 cases x <;> simp_all [AV.cells,AV.aZ,aj]
theorem sJ {n:Nat}:∀ {xs:List AV},aj n xs=true→aj n (flat xs)=true
 | [],_=>rfl
 | x::xs,h=>by
   simp only [aj,Bool.and_eq_true] at h
   have h1:=cz h.1
   have h2:=sJ h.2
   rw [ba] at *
   intro y hy
   simp only [flat,List.flatMap_cons,List.mem_append] at hy
   rcases hy with hy | hy
   ·exact h1 y hy
   ·exact h2 y hy
mutual
theorem aS.gk {M:Mem} {L:List Nat} {n:Nat}:∀ {v:Value} {x:AV},aS M L v x→x.aZ n=true→aS M (L.take n) v x
 | _,_,.any v,_=>.any v
 | _,_,.bool b,_=>.bool b
 | _,_,.int k n,_=>.int k n
 | _,_,.str s,_=>.str s
 | _,_,.ah,_=>.ah
 | _,_,.gF a c o h,_=>.gF a c o h
 | _,_,.ap b off c own e cs xs he hx hn hle hc hr hm,h=>.ap b off c own e cs xs he hx hn hle hc (hr.gk (sJ (by simpa [AV.aZ] using h))) hm
 | _,_,.a8 b off len cap id hl hc,h=>.a8 b off len cap id (ke hl (by simpa [AV.aZ] using h)) hc
 | _,_,.agg cs xs hr,h=>.agg cs xs (hr.gk (by simpa [AV.aZ] using h))
 | _,_,.tuple cs xs hr,h=>.tuple cs xs (hr.gk (by simpa [AV.aZ] using h))
 | _,_,.ptr b off id hl,h=>.ptr b off id (ke hl (by simpa [AV.aZ] using h))
 | _,_,.ai b off cs x hr hm,h=>.ai b off cs x (hr.gk (cz (by simpa [AV.aZ] using h))) hm
 | _,_,.ru,_=>.ru
 | _,_,.map b id hl,h=>.map b id (ke hl (by simpa [AV.aZ] using h))
 | _,_,.iS,_=>.iS
 | _,_,.fn f fs cs xs ys h1 h2,h=>by
   simp only [AV.aZ,Bool.and_eq_true] at h
   exact .fn f fs cs xs ys (h1.gk h.1) (h2.gk h.2)
 | _,_,.fG,_=>.fG
 | _,_,.iface t v x h,hb=>.iface t v x (h.gk (by simpa [AV.aZ] using hb))
 | _,_,.wR,_=>.wR
 | _,_,.nk b id hl,h=>.nk b id (ke hl (by simpa [AV.aZ] using h))
 | _,_,.oN a,_=>.oN a
theorem aG.gk {M:Mem} {L:List Nat} {n:Nat}:∀ {vs:List Value} {xs:List AV},aG M L vs xs→aj n xs=true→aG M (L.take n) vs xs
 | _,_,.nil,_=>.nil
 | _,_,.cons v x vs xs h t,hb=>by
   simp only [aj,Bool.and_eq_true] at hb
   exact .cons v x vs xs (h.gk hb.1) (t.gk hb.2)
end
theorem aK {α:Type} {L:List α} {id:Nat} {b:α} (h:L[id]?=some b):id < L.length:=(List.getElem?_eq_some_iff.1 h).1
mutual
theorem AV.cN {m k:Nat} (h:m≤k):∀ (x:AV),x.aZ m=true→x.aZ k=true
 | .any,_=>rfl
 | .bool _,_=>rfl
 | .int _ _,_=>rfl
 | .str _,_=>rfl
 | .ah,_=>rfl
 | .ap _ xs,hb=>by simp only [AV.aZ] at hb ⊢;exact bD h xs hb
 | .a8 _ _ _ _,hb=>by simp only [AV.aZ,decide_eq_true_eq] at hb ⊢;omega
 | .agg xs,hb=>by simp only [AV.aZ] at hb ⊢;exact bD h xs hb
 | .tuple xs,hb=>by simp only [AV.aZ] at hb ⊢;exact bD h xs hb
 | .ptr _ _,hb=>by simp only [AV.aZ,decide_eq_true_eq] at hb ⊢;omega
 | .ai x,hb=>by simp only [AV.aZ] at hb ⊢;exact AV.cN h x hb
 | .ru,_=>rfl
 | .map _,hb=>by simp only [AV.aZ,decide_eq_true_eq] at hb ⊢;omega
 | .iS,_=>rfl
 | .fn _ xs ys,hb=>by
   simp only [AV.aZ,Bool.and_eq_true] at hb ⊢
   exact ⟨bD h xs hb.1,bD h ys hb.2⟩
 | .fG,_=>rfl
 | .iface _ x,hb=>by simp only [AV.aZ] at hb ⊢;exact AV.cN h x hb
 | .wR,_=>rfl
 | .nk _,hb=>by simp only [AV.aZ,decide_eq_true_eq] at hb ⊢;omega
 | .oN,_=>rfl
theorem bD {m k:Nat} (h:m≤k):∀ (xs:List AV),aj m xs=true→aj k xs=true
 | [],_=>rfl
 | x::xs,hb=>by
   simp only [aj,Bool.and_eq_true] at hb ⊢
   exact ⟨AV.cN h x hb.1,bD h xs hb.2⟩
end
abbrev A9:=List (Nat×Nat×Nat)
abbrev mL:=List (Nat×List Nat)
inductive wS where
 | done
 | take (i:Nat) (st:Bool) (r:wS)
 | br (i:Nat) (t rest:wS)
 | nil
 deriving Inhabited
abbrev mM:=List (Nat×wS)
structure iH where
 n:Nat
 ps:List Nat
 as:Code
 bd:Code
 an:A9
 lv:mL
 pl:mM
inductive TL where
 | ready
 | busy
 | jump (c:Code)
 | eI
def TL.ok (st:TL) (r:Loop):Prop:=
 match st with
 | .ready=>r.state=.ready∧r.pending=none
 | .busy=>r.state=.busy
 | .jump c=>r.state=.done∧r.pending=some c
 | .eI=>True
inductive aa where
 | dead
 | cells (es:List AV)
 | map (es:List (AV×AV))
 | ID (s:ByteArray) (pos:Nat)
 | loop (st:TL) (lc:iH) (es:List AV)
 deriving Inhabited
def aa.aZ (n:Nat):aa→Bool
 | .cells es=>aj n es
 | .map es=>aj n (es.map (·.1)) && aj n (es.map (·.2))
 | .loop _ _ es=>aj n es
 | _=>true
theorem aa.cN {m k:Nat} (h:m≤k) (o:aa) (ho:o.aZ m=true):o.aZ k=true:=by
 cases o <;> simp only [aa.aZ,Bool.and_eq_true] at ho ⊢
 ·exact bD h _ ho
 ·exact ⟨bD h _ ho.1,bD h _ ho.2⟩
 ·exact bD h _ ho
def yX (M:Mem) (L:List Nat) (w:World) (b:Nat):aa→Prop
 | .dead=>True
 | .cells es=>∃ cs e,w.heap[b]?=some (.cells cs e (0,0))∧aG M L cs.toList es∧∀ o,M b o=none
 | .map es=>∃ ents ck,w.heap[b]?=some (.map ents ck)∧aG M L (ents.toList.map (·.key)) (es.map (·.1))∧aG M L (ents.toList.map (·.val)) (es.map (·.2))
 | .ID s pos=>w.heap[b]?=some (.stringIter s pos)
 | .loop st lc es=>∃ r,w.heap[b]?=some (.loop r)∧r.params=lc.ps.toArray∧r.assign=lc.as∧r.body=lc.bd∧aG M L r.tmps.toList es∧st.ok r
theorem yX.mono {M M':Mem} {L L':List Nat} {w w':World} {b:Nat} {o:aa} (h:yX M L w b o) (hs:M.sub M') (hL:L <+: L')
 (hw:w'.heap[b]?=w.heap[b]?) (hM:∀ o,M' b o=M b o):yX M' L' w' b o:=by
 cases o with
 | dead=>trivial
 | cells es=>
   obtain ⟨cs,e,h1,h2,h3⟩:=h
   exact ⟨cs,e,hw.trans h1,h2.mono hs hL,fun o=>(hM o).trans (h3 o)⟩
 | map es=>
   obtain ⟨ents,ck,h1,h2,h3⟩:=h
   exact ⟨ents,ck,hw.trans h1,h2.mono hs hL,h3.mono hs hL⟩
 | ID s pos=>exact hw.trans h
 | loop st lc es=>
   obtain ⟨r,h1,h2,h3,h4,h5,h6⟩:=h
   exact ⟨r,hw.trans h1,h2,h3,h4,h5.mono hs hL,h6⟩
theorem yX.gk {M:Mem} {L:List Nat} {w:World} {b n:Nat} {o:aa} (h:yX M L w b o) (hb:o.aZ n=true):yX M (L.take n) w b o:=by
 cases o with
 | dead=>trivial
 | cells es=>
   obtain ⟨cs,e,h1,h2,h3⟩:=h
   exact ⟨cs,e,h1,h2.gk (by simpa [aa.aZ] using hb),h3⟩
 | map es=>
   obtain ⟨ents,ck,h1,h2,h3⟩:=h
   simp only [aa.aZ,Bool.and_eq_true] at hb
   exact ⟨ents,ck,h1,h2.gk hb.1,h3.gk hb.2⟩
 | ID s pos=>exact h
 | loop st lc es=>
   obtain ⟨r,h1,h2,h3,h4,h5,h6⟩:=h
   exact ⟨r,h1,h2,h3,h4,h5.gk (by simpa [aa.aZ] using hb),h6⟩
inductive Pos where
 | t (i:Nat)
 | c (id j:Nat)
 deriving DecidableEq
def LW (fr:Nat×Nat) (n:Nat):Prop:=∀ j,j < n→¬ (fr.1≤j∧j < fr.2)
theorem oc (n:Nat):LW (0,0) n:=fun j _ h=>by simp at h
def bf (M:Mem) (w:World) (v:Value) (x:AV) (ob:Option Nat):Prop:=
 match x with
 | .ap own xs=>if own=0 then ob=none else
    (∀ y∈xs,y.cells.length=own)∧((ob=none∧∃ a n,v=.slice a n n)∨
    ∃ b off n c cs e fr,ob=some b∧v=.slice (some ⟨b,off,none⟩) n c∧w.heap[b]?=some (.cells cs e fr)∧LW fr cs.size∧off + c * own≤cs.size∧∀ k,n * own≤k→k < c * own→M b (off + k)=none)
 | _=>ob=none
theorem bf.mono {M M':Mem} {w w':World} {v:Value} {x:AV} {ob:Option Nat} (h:bf M w v x ob)
 (hw:∀ b,ob=some b→w'.heap[b]?=w.heap[b]?∧∀ o,M' b o=M b o):bf M' w' v x ob:=by
 cases x <;> first | exact h | skip
 rename_i own xs
 unfold bf at *
 simp only at *
 split
 ·rename_i h0;simp only [h0,if_true] at h;exact h
 ·rename_i h0
  simp only [h0,if_false] at h
  refine ⟨h.1,?_⟩
  rcases h.2 with h | ⟨b,off,n,c,cs,e,fr,h1,h2,h3,h4,h5,h6⟩
  ·exact .inl h
  ·obtain ⟨hb,hm⟩:=hw b h1
   exact .inr ⟨b,off,n,c,cs,e,fr,h1,h2,hb.trans h3,h4,h5,fun k hk T9=>(hm _).trans (h6 k hk T9)⟩
def bJ (L:List Nat) (w:World) (id j:Nat):Value:=
 match L[id]? with
 | some b=>(w.cell? ⟨b,j,none⟩).getD undef
 | none=>undef
def bn (H:List aa) (id j:Nat):AV:=
 match H[id]? with
 | some (.cells es)=>es.getD j .any
 | _=>.any
structure Perm where
 wr:Nat→Prop
 top:Nat→Option Nat
 ok:∀ id n,top id=some n→id < n
 base:Nat:=0
instance:CoeFun Perm fun _=>Nat→Prop:=⟨Perm.wr⟩
def Perm.jo (A:Perm) (len id:Nat):Nat:=match A.top id with | some n=>min n len | none=>len
theorem Perm.uC (A:Perm) (len id:Nat):A.jo len id≤len:=by unfold Perm.jo;split <;> omega
theorem Perm.lJ (A:Perm) {len id:Nat} (h:id < len):id + 1≤A.jo len id:=by
 unfold Perm.jo
 split
 ·rename_i n hn;have:=A.ok _ _ hn;omega
 ·omega
theorem Perm.Ba (A:Perm) {len len':Nat} (h:len≤len') (id:Nat):A.jo len id≤A.jo len' id:=by unfold Perm.jo;split <;> omega
theorem Perm.LX (A:Perm) (len:Nat):A.jo (len + 1) len=len + 1:=by
 have h1:=A.lJ (len:=len + 1) (id:=len) (by omega)
 have h2:=A.uC (len + 1) len
 omega
structure St (A:Perm) (M:Mem) (L:List Nat) (w:World) (H:List aa) (ev:Nat→Value) (ea:Nat→AV) (O:Pos→Option Nat):Prop where
 len:L.length=H.length
 nodup:L.Nodup
 env:∀ t,aS M L (ev t) (ea t)
 mem:∀ b o v,M b o=some v→w.cell? ⟨b,o,none⟩=some v
 obj:∀ (id:Nat) (o:aa) (b:Nat),H[id]?=some o→L[id]?=some b→yX M L w b o
 bA:∀ (id:Nat) (o:aa),H[id]?=some o→o.aZ (A.jo H.length id)=true
 lt:∀ b∈L,b < w.heap.size
 gX:∀ t,bf M w (ev t) (ea t) (O (.t t))
 gT:∀ id j,bf M w (bJ L w id j) (bn H id j) (O (.c id j))
 b7:∀ p q b,O p=some b→O q=some b→p=q
 ct:∀ p b,O p=some b→b∉L
 fj:∀ p b,O p=some b→b < w.heap.size
 La:∀ b∈L,A b
 Oa:∀ p b,O p=some b→A b
 fresh:∀ b,w.heap.size≤b→A b
structure Ext (A:Perm) (M:Mem) (w:World) (M':Mem) (w':World):Prop where
 kR:M.sub M'
 size:w.heap.size≤w'.heap.size
 os:w'.os=w.os
 tape:w'.tape=w.tape
 output:w'.output=w.output
 kz:∀ b,b < w.heap.size→¬ A b→w'.heap[b]?=w.heap[b]?∧∀ o,M' b o=M b o
 loops:∀ (b:Nat) (r:Loop),w.heap[b]?=some (.loop r)→∃ r',w'.heap[b]?=some (.loop r')∧r'.defers=r.defers
theorem Ext.refl (A:Perm) (M:Mem) (w:World):Ext A M w M w:=⟨Mem.bM M,Nat.le_refl _,rfl,rfl,rfl,fun _ _ _=>⟨rfl,fun _=>rfl⟩,fun b r h=>⟨r,h,rfl⟩⟩
theorem Ext.trans {A:Perm} {M M1 M2:Mem} {w w1 w2:World} (h:Ext A M w M1 w1) (k:Ext A M1 w1 M2 w2):Ext A M w M2 w2:=
 ⟨Mem.Gy h.kR k.kR,Nat.le_trans h.size k.size,k.os.trans h.os,k.tape.trans h.tape,k.output.trans h.output,fun b hb hA=>by
   obtain ⟨h1,h2⟩:=h.kz b hb hA
   obtain ⟨k1,k2⟩:=k.kz b (Nat.lt_of_lt_of_le hb h.size) hA
   exact ⟨k1.trans h1,fun o=>(k2 o).trans (h2 o)⟩,fun b r hr=>by
   obtain ⟨r1,h1,e1⟩:=h.loops b r hr
   obtain ⟨r2,h2,e2⟩:=k.loops b r1 h1
   exact ⟨r2,h2,e2.trans e1⟩⟩
end Go.aH
end
section
namespace Go.aH
open Go
def fz {α:Type} (f:Nat→α) (d:Nat) (v:α):Nat→α:=fun t=>if t=d then v else f t
def eo (O:Pos→Option Nat) (p:Pos) (ob:Option Nat):Pos→Option Nat:=fun q=>if q=p then ob else O q
theorem IE {α:Type} (f:Nat→α) (d:Nat) (v:α):fz f d v d=v:=by simp [fz]
section
variable {A:Perm} {M:Mem} {L:List Nat} {w:World} {H:List aa} {ev:Nat→Value} {ea:Nat→AV} {O:Pos→Option Nat}
theorem St.put (h:St A M L w H ev ea O) (d:Nat) {v:Value} {x:AV} (hr:aS M L v x) (ob:Option Nat) (hs:bf M w v x ob)
 (h1:∀ p b,ob=some b→O p=some b→p=.t d) (h2:∀ b,ob=some b→b∉L∧b < w.heap.size∧A b) :
 St A M L w H (fz ev d v) (fz ea d x) (eo O (.t d) ob) where
 len:=h.len
 nodup:=h.nodup
 env t:=by
  by_cases e:t=d
  ·subst e;simpa [fz] using hr
  ·simpa [fz,e] using h.env t
 mem:=h.mem
 obj:=h.obj
 bA:=h.bA
 lt:=h.lt
 gX t:=by
  by_cases e:t=d
  ·subst e;simpa [fz,eo] using hs
  ·simpa [fz,eo,e] using h.gX t
 gT id j:=by simpa [eo] using h.gT id j
 b7 p q b hp hq:=by
  simp only [eo] at hp hq
  split at hp <;> split at hq
  ·simp_all
  ·rename_i e1 e2;exact absurd (h1 q b hp hq) e2
  ·rename_i e1 e2;exact absurd (h1 p b hq hp) e1
  ·exact h.b7 p q b hp hq
 ct p b hp:=by
  simp only [eo] at hp
  split at hp
  ·exact (h2 b hp).1
  ·exact h.ct p b hp
 fj p b hp:=by
  simp only [eo] at hp
  split at hp
  ·exact (h2 b hp).2.1
  ·exact h.fj p b hp
 La:=h.La
 Oa p b hp:=by
  simp only [eo] at hp
  split at hp
  ·exact (h2 b hp).2.2
  ·exact h.Oa p b hp
 fresh:=h.fresh
theorem bf.free {v:Value} {x:AV} (hx:∀ own xs,x=.ap own xs→own=0):bf M w v x none:=by
 cases x <;> first | rfl | skip
 rename_i own xs
 have:=hx own xs rfl
 simp [bf,this]
theorem AV.bI (x:AV):∀ own xs,x.ab=.ap own xs→own=0:=by
 intro own xs h
 cases x <;> simp_all [AV.ab]
theorem AV.jq (x:AV):∀ own xs,x.drop=.ap own xs→own=0:=by
 intro own xs h
 cases x <;> simp_all [AV.drop]
theorem St.oO (h:St A M L w H ev ea O) (d:Nat) {v:Value} {x:AV} (hr:aS M L v x) (hx:∀ own xs,x=.ap own xs→own=0) :
 St A M L w H (fz ev d v) (fz ea d x) (eo O (.t d) none):=
 h.put d hr none (bf.free hx) (fun p b e=>by cases e) (fun b e=>by cases e)
theorem St.congr (h:St A M L w H ev ea O) {ev':Nat→Value} {ea':Nat→AV} (h1:∀ t,ev' t=ev t) (h2:∀ t,ea' t=ea t):St A M L w H ev' ea' O:=by
 rw [show ev'=ev from funext h1,show ea'=ea from funext h2];exact h
theorem St.grow (h:St A M L w H ev ea O) {M':Mem} {w':World} (hs:M.sub M') (gU:∀ b o v,M' b o=some v→w'.cell? ⟨b,o,none⟩=some v)
 (df:w.heap.size≤w'.heap.size) (hw:∀ b,b < w.heap.size→w'.heap[b]?=w.heap[b]?) (hM:∀ b,b < w.heap.size→∀ o,M' b o=M b o):St A M' L w' H ev ea O where
 len:=h.len
 nodup:=h.nodup
 env t:=(h.env t).mono hs (List.prefix_refl _)
 mem:=gU
 obj id o b ho hb:=by
  have aX:=h.lt b (List.mem_of_getElem? hb)
  exact (h.obj id o b ho hb).mono hs (List.prefix_refl _) (hw b aX) (hM b aX)
 bA:=h.bA
 lt b hb:=Nat.lt_of_lt_of_le (h.lt b hb) df
 gX t:=(h.gX t).mono fun b hb=>⟨hw b (h.fj _ b hb),hM b (h.fj _ b hb)⟩
 gT id j:=by
  have e:bJ L w' id j=bJ L w id j:=by
   unfold bJ
   split
   ·rename_i b hb
    have aX:=h.lt b (List.mem_of_getElem? hb)
    simp [World.cell?,hw b aX]
   ·rfl
  rw [e]
  exact (h.gT id j).mono fun b hb=>⟨hw b (h.fj _ b hb),hM b (h.fj _ b hb)⟩
 b7:=h.b7
 ct:=h.ct
 fj p b hp:=Nat.lt_of_lt_of_le (h.fj p b hp) df
 La:=h.La
 Oa:=h.Oa
 fresh b hb:=h.fresh b (Nat.le_trans df hb)
theorem Ext.grow {M':Mem} {w':World} (hs:M.sub M') (df:w.heap.size≤w'.heap.size) (hos:w'.os=w.os) (htape:w'.tape=w.tape) (IF:w'.output=w.output)
 (hw:∀ b,b < w.heap.size→w'.heap[b]?=w.heap[b]?) (hM:∀ b,b < w.heap.size→∀ o,M' b o=M b o):Ext A M w M' w':=
 ⟨hs,df,hos,htape,IF,fun b hb _=>⟨hw b hb,hM b hb⟩,fun b r h=>⟨r,(hw b (Array.getElem?_eq_some_iff.1 h).1).trans h,rfl⟩⟩
theorem St.drew (h:St A M L w H ev ea O):St A M L { w with drawn:=w.drawn + 1 } H ev ea O:=
 h.grow (Mem.bM M) (fun b o v hv=>h.mem b o v hv) (Nat.le_refl _) (fun _ _=>rfl) (fun _ _ _=>rfl)
theorem Ext.drew:Ext A M w M { w with drawn:=w.drawn + 1 }:=Ext.grow (Mem.bM M) (Nat.le_refl _) rfl rfl rfl (fun _ _=>rfl) (fun _ _ _=>rfl)
theorem oe (h:St A M L w H ev ea O) {b:Nat} (hb:w.heap.size≤b) (o:Nat):M b o=none:=by
 cases hm:M b o with
 | none=>rfl
 | some v=>
   have:=h.mem b o v hm
   simp [World.cell?,Array.getElem?_eq_none hb] at this
def Mem.add (M:Mem) (b:Nat) (cs:List Value):Mem:=fun b' o=>if b'=b then cs[o]? else M b' o
theorem ep (w:World) (o:Obj) {b:Nat} (hb:b < w.heap.size):(w.heap.push o)[b]?=w.heap[b]?:=by
 rw [Array.getElem?_push,if_neg (by omega)]
theorem dJ (w:World) (o:Obj):(w.heap.push o)[w.heap.size]?=some o:=by simp
theorem St.pS (h:St A M L w H ev ea O) (cs:Array Value) (e:TypeId) (fr:Nat×Nat) (rw:List Value) (hrw:∀ (j:Nat) (v:Value),rw[j]?=some v→cs[j]?=some v) :
 St A (M.add w.heap.size rw) L { w with heap:=w.heap.push (.cells cs e fr) } H ev ea O∧Ext A M w (M.add w.heap.size rw) { w with heap:=w.heap.push (.cells cs e fr) }∧
 (M.add w.heap.size rw).row w.heap.size 0 rw:=by
 have fT:M.sub (M.add w.heap.size rw):=by
  intro b o v hv
  have eM:b≠w.heap.size:=by
   rintro rfl
   rw [oe h (Nat.le_refl _)] at hv;cases hv
  simp [Mem.add,eM,hv]
 have hM:∀ b,b < w.heap.size→∀ o,(M.add w.heap.size rw) b o=M b o:=fun b hb o=>by simp [Mem.add,show b≠w.heap.size by omega]
 refine ⟨h.grow fT ?_ (by simp) (fun b hb=>ep w _ hb) hM,Ext.grow fT (by simp) rfl rfl rfl (fun b hb=>ep w _ hb) hM,?_⟩
 ·intro b o v hv
  by_cases e0:b=w.heap.size
  ·subst e0
   simp only [Mem.add,if_true] at hv
   simp only [World.cell?,dJ]
   simpa using hrw o v hv
  ·simp only [Mem.add,e0,if_false] at hv
   have:=h.mem b o v hv
   have aX:b < w.heap.size:=by
    rcases Nat.lt_or_ge b w.heap.size with h' | h'
    ·exact h'
    ·rw [oe h h'] at hv;cases hv
   simp only [World.cell?] at this ⊢
   rw [ep w _ aX];exact this
 ·intro j v hv
  simpa [Mem.add] using hv
theorem St.Dz (h:St A M L w H ev ea O) (cs:Array Value) (e:TypeId) :
 St A (M.add w.heap.size cs.toList) L { w with heap:=w.heap.push (.cells cs e) } H ev ea O∧Ext A M w (M.add w.heap.size cs.toList) { w with heap:=w.heap.push (.cells cs e) }∧
 (M.add w.heap.size cs.toList).row w.heap.size 0 cs.toList:=
 h.pS cs e (0,0) cs.toList (fun j v hv=>by simpa using hv)
def yY (ob:Obj) (j:Nat):Value:=match ob with | .cells cs _ _=>(cs[j]?).getD undef | _=>undef
def nl (ao:aa) (j:Nat):AV:=match ao with | .cells es=>es.getD j .any | _=>.any
theorem St.rv (h:St A M L w H ev ea O) (ob:Obj) (ao:aa) (Qr:∀ w',w'.heap[w.heap.size]?=some ob→(∀ o,M w.heap.size o=none)→yX M (L++[w.heap.size]) w' w.heap.size ao)
 (hb:ao.aZ (H.length + 1)=true) (Is:∀ j,bf M w (yY ob j) (nl ao j) none) :
 St A M (L++[w.heap.size]) { w with heap:=w.heap.push ob } (H++[ao]) ev ea O∧Ext A M w M { w with heap:=w.heap.push ob }:=by
 have lK:L <+: L++[w.heap.size]:=⟨_,rfl⟩
 have hO:∀ j,O (.c H.length j)=none:=by
  intro j
  have:=h.gT H.length j
  simp only [bn,List.getElem?_eq_none (Nat.le_refl _)] at this
  exact this
 have hkeep:∀ b,b < w.heap.size→(w.heap.push ob)[b]?=w.heap[b]?:=fun b hb=>ep w _ hb
 refine ⟨?_,Ext.grow (Mem.bM M) (by simp) rfl rfl rfl hkeep (fun _ _ _=>rfl)⟩
 refine { len:=by simp [h.len],nodup:=?_,env:=fun t=>(h.env t).mono (Mem.bM M) lK,mem:=?_,obj:=?_,bA:=?_,lt:=?_,gX:=?_,gT:=?_,b7:=h.b7,ct:=?_,fj:=?_,La:=?_,Oa:=h.Oa,fresh:=?_ }
 ·rw [List.nodup_append]
  refine ⟨h.nodup,by simp,?_⟩
  intro a ha b eh
  simp at eh
  subst eh
  exact Nat.ne_of_lt (h.lt a ha)
 ·intro b o v hv
  have:=h.mem b o v hv
  have aX:b < w.heap.size:=by
   rcases Nat.lt_or_ge b w.heap.size with h' | h'
   ·exact h'
   ·rw [oe h h'] at hv;cases hv
  simp only [World.cell?] at this ⊢
  rw [hkeep b aX];exact this
 ·intro id o b ho eh
  by_cases e:id < H.length
  ·rw [List.getElem?_append_left e] at ho
   rw [List.getElem?_append_left (by rw [h.len];exact e)] at eh
   exact (h.obj id o b ho eh).mono (Mem.bM M) lK (hkeep b (h.lt b (List.mem_of_getElem? eh))) (fun _=>rfl)
  ·rw [List.getElem?_append_right (by omega)] at ho
   rw [List.getElem?_append_right (by rw [h.len];omega)] at eh
   have e0:id - H.length=0:=by
    have:=(List.getElem?_eq_some_iff.1 ho).1
    simp at this;omega
   rw [e0] at ho
   rw [h.len,e0] at eh
   simp at ho eh
   subst ho;subst eh
   exact Qr _ (dJ w ob) (fun o=>oe h (Nat.le_refl _) o)
 ·intro id o ho
  rw [List.length_append,List.length_singleton]
  by_cases e:id < H.length
  ·rw [List.getElem?_append_left e] at ho
   exact aa.cN (A.Ba (Nat.le_succ _) id) o (h.bA id o ho)
  ·rw [List.getElem?_append_right (by omega)] at ho
   have e0:id - H.length=0:=by
    have:=(List.getElem?_eq_some_iff.1 ho).1
    simp at this;omega
   rw [e0] at ho
   simp at ho
   subst ho
   rw [show id=H.length by omega,A.LX];exact hb
 ·intro b eh
  simp at eh ⊢
  rcases eh with eh | rfl
  ·have:=h.lt b eh;omega
  ·omega
 ·intro t
  exact (h.gX t).mono fun b eh=>⟨hkeep b (h.fj _ b eh),fun _=>rfl⟩
 ·intro id j
  by_cases e:id < H.length
  ·have e1:bJ (L++[w.heap.size]) { w with heap:=w.heap.push ob } id j=bJ L w id j:=by
    unfold bJ
    rw [List.getElem?_append_left (by rw [h.len];exact e)]
    split
    ·rename_i b eh
     simp only [World.cell?]
     rw [hkeep b (h.lt b (List.mem_of_getElem? eh))]
    ·rfl
   have e2:bn (H++[ao]) id j=bn H id j:=by
    unfold bn
    rw [List.getElem?_append_left e]
   rw [e1,e2]
   exact (h.gT id j).mono fun b eh=>⟨hkeep b (h.fj _ b eh),fun _=>rfl⟩
  ·by_cases e0:id=H.length
   ·subst e0
    rw [hO j]
    have e1:bJ (L++[w.heap.size]) { w with heap:=w.heap.push ob } H.length j=yY ob j:=by
     unfold bJ
     rw [List.getElem?_append_right (by rw [h.len];omega),h.len]
     simp only [Nat.sub_self,List.getElem?_cons_zero,World.cell?,dJ]
     cases ob <;> simp [yY]
    have e2:bn (H++[ao]) H.length j=nl ao j:=by
     unfold bn
     rw [List.getElem?_append_right (Nat.le_refl _)]
     simp only [Nat.sub_self,List.getElem?_cons_zero]
     cases ao <;> rfl
    rw [e1,e2]
    exact (Is j).mono fun b eh=>by cases eh
   ·have hn:O (.c id j)=none:=by
     have:=h.gT id j
     simp only [bn,List.getElem?_eq_none (show H.length≤id by omega)] at this
     exact this
    rw [hn]
    have e2:bn (H++[ao]) id j=.any:=by
     unfold bn
     rw [List.getElem?_eq_none (by simp;omega)]
    rw [e2];rfl
 ·intro p b hp gU
  simp at gU
  rcases gU with gU | rfl
  ·exact h.ct p b hp gU
  ·exact absurd (h.fj p _ hp) (Nat.lt_irrefl _)
 ·intro p b hp
  have:=h.fj p b hp
  simp;omega
 ·intro b eh
  simp at eh
  rcases eh with eh | rfl
  ·exact h.La b eh
  ·exact h.fresh _ (Nat.le_refl _)
 ·intro b eh
  simp at eh
  exact h.fresh b (by omega)
structure uD (O O':Pos→Option Nat):Prop where
 inj:∀ p q b,O' p=some b→O' q=some b→p=q
 Qs:∀ p b,O' p=some b→∃ q,O q=some b
theorem St.write (h:St A M L w H ev ea O) {id b:Nat} {es es':List AV} {cs cs':Array Value} {e:TypeId} {ea':Nat→AV} {O':Pos→Option Nat} (bk:H[id]?=some (.cells es)) (hL:L[id]?=some b)
 (hc:w.heap[b]?=some (.cells cs e (0,0))) (hr:aG M L cs'.toList es') (ni:aj (A.jo H.length id) es'=true) (hm:uD O O') (DA:∀ t,aS M L (ev t) (ea' t))
 (gX:∀ t,bf M w (ev t) (ea' t) (O' (.t t))) (gT:∀ j,bf M w ((cs'[j]?).getD undef) (es'.getD j .any) (O' (.c id j))) (spo:∀ id' j,id'≠id→O' (.c id' j)=O (.c id' j)) :
 St A M L (w.setRow b cs') (H.set id (.cells es')) ev ea' O'∧Ext A M w M (w.setRow b cs'):=by
 have xE:b∈L:=List.mem_of_getElem? hL
 have df:(w.setRow b cs').heap.size=w.heap.size:=by simp [World.setRow]
 have fU:∀ k,k≠b→(w.setRow b cs').heap[k]?=w.heap[k]?:=by
  intro k hk
  simp only [World.setRow,Array.getElem?_modify]
  rw [if_neg (fun e=>hk e.symm)]
 have mV:(w.setRow b cs').heap[b]?=some (.cells cs' e (0,0)):=by
  simp only [World.setRow,Array.getElem?_modify,if_true,hc,Option.map_some]
 obtain ⟨_,_,_,_,TM⟩:=h.obj id _ b bk hL
 have nr:id < H.length:=aK bk
 have howns:∀ p k,O' p=some k→(w.setRow b cs').heap[k]?=w.heap[k]?:=by
  intro p k hp
  obtain ⟨q,hq⟩:=hm.Qs p k hp
  exact fU k (fun e0=>h.ct q k hq (e0 ▸ xE))
 refine ⟨{ len:=by simp [h.len],nodup:=h.nodup,env:=DA,mem:=?_,obj:=?_,bA:=?_,lt:=?_,gX:=?_,gT:=?_,b7:=hm.inj,ct:=?_,fj:=?_,La:=h.La,Oa:=?_,fresh:=?_ },?_⟩
 ·intro k o v hv
  have hk:k≠b:=by rintro rfl;rw [TM o] at hv;cases hv
  have:=h.mem k o v hv
  simp only [World.cell?] at this ⊢
  rw [fU k hk];exact this
 ·intro id' o k ho hk
  by_cases e0:id'=id
  ·subst e0
   rw [hL] at hk;cases hk
   rw [List.getElem?_set_self nr] at ho
   cases ho
   exact ⟨cs',e,mV,hr,TM⟩
  ·rw [List.getElem?_set_ne (fun h'=>e0 h'.symm)] at ho
   have Dp:k≠b:=by
    rintro rfl
    exact e0 ((List.getElem?_inj (aK hk) h.nodup).1 (hk.trans hL.symm))
   exact (h.obj id' o k ho hk).mono (Mem.bM M) (List.prefix_refl _) (fU k Dp) (fun _=>rfl)
 ·intro id' o ho
  rw [List.length_set]
  by_cases e0:id'=id
  ·subst e0
   rw [List.getElem?_set_self nr] at ho
   cases ho
   simpa [aa.aZ] using ni
  ·rw [List.getElem?_set_ne (fun h'=>e0 h'.symm)] at ho
   exact h.bA id' o ho
 ·intro k hk;rw [df];exact h.lt k hk
 ·intro t
  exact (gX t).mono fun k hk=>⟨howns _ k hk,fun _=>rfl⟩
 ·intro id' j
  by_cases e0:id'=id
  ·subst e0
   have e1:bJ L (w.setRow b cs') id' j=(cs'[j]?).getD undef:=by
    unfold bJ
    simp only [hL,World.cell?,mV]
    simp
   have e2:bn (H.set id' (.cells es')) id' j=es'.getD j .any:=by
    unfold bn
    rw [List.getElem?_set_self nr]
   rw [e1,e2]
   exact (gT j).mono fun k hk=>⟨howns _ k hk,fun _=>rfl⟩
  ·have e1:bJ L (w.setRow b cs') id' j=bJ L w id' j:=by
    unfold bJ
    split
    ·rename_i k hk
     have Dp:k≠b:=by
      rintro rfl
      exact e0 ((List.getElem?_inj (aK hk) h.nodup).1 (hk.trans hL.symm))
     simp only [World.cell?]
     rw [fU k Dp]
    ·rfl
   have e2:bn (H.set id (.cells es')) id' j=bn H id' j:=by
    unfold bn
    rw [List.getElem?_set_ne (fun h'=>e0 h'.symm)]
   rw [e1,e2,spo id' j e0]
   exact (h.gT id' j).mono fun k hk=>⟨fU k (fun e3=>h.ct _ k hk (e3 ▸ xE)),fun _=>rfl⟩
 ·intro p k hp
  obtain ⟨q,hq⟩:=hm.Qs p k hp
  exact h.ct q k hq
 ·intro p k hp
  obtain ⟨q,hq⟩:=hm.Qs p k hp
  rw [df];exact h.fj q k hq
 ·intro p k hp
  obtain ⟨q,hq⟩:=hm.Qs p k hp
  exact h.Oa q k hq
 ·intro k hk;rw [df] at hk;exact h.fresh k hk
 ·exact ⟨Mem.bM M,by rw [df];exact Nat.le_refl _,rfl,rfl,rfl,fun k hk hA=>⟨fU k (fun e0=>hA (e0 ▸ h.La b xE)),fun _=>rfl⟩,fun k r hk=>⟨r,(fU k (fun e0=>by rw [e0,hc] at hk;cases hk)).trans hk,rfl⟩⟩
theorem St.Bb (h:St A M L w H ev ea O) {id b:Nat} {es es':List (AV×AV)} {o':Obj} (bk:H[id]?=some (.map es)) (hL:L[id]?=some b)
 (O6:∀ cs e f,o'≠.cells cs e f) (hr:∀ w',w'.heap[b]?=some o'→yX M L w' b (.map es')) (ni:(aa.map es').aZ (A.jo H.length id)=true) :
 St A M L { w with heap:=w.heap.setIfInBounds b o' } (H.set id (.map es')) ev ea O∧Ext A M w M { w with heap:=w.heap.setIfInBounds b o' }:=by
 have xE:b∈L:=List.mem_of_getElem? hL
 have Qt:=h.lt b xE
 obtain ⟨ents,ck,hc,_,_⟩:=h.obj id _ b bk hL
 have fU:∀ k,k≠b→(w.heap.setIfInBounds b o')[k]?=w.heap[k]?:=fun k hk=>by rw [Array.getElem?_setIfInBounds_ne (fun e=>hk e.symm)]
 have mV:(w.heap.setIfInBounds b o')[b]?=some o':=by simp [Qt]
 have TM:∀ o,M b o=none:=by
  intro o
  cases hm:M b o with
  | none=>rfl
  | some v=>
    have:=h.mem b o v hm
    simp [World.cell?,hc] at this
 have nr:id < H.length:=aK bk
 refine ⟨{ len:=by simp [h.len],nodup:=h.nodup,env:=h.env,mem:=?_,obj:=?_,bA:=?_,lt:=?_,gX:=?_,gT:=?_,b7:=h.b7,ct:=h.ct,fj:=?_,La:=h.La,Oa:=h.Oa,fresh:=?_ },?_⟩
 ·intro k o v hv
  have hk:k≠b:=by rintro rfl;rw [TM o] at hv;cases hv
  have:=h.mem k o v hv
  simp only [World.cell?] at this ⊢
  rw [fU k hk];exact this
 ·intro id' o k ho hk
  by_cases e0:id'=id
  ·subst e0
   rw [hL] at hk;cases hk
   rw [List.getElem?_set_self nr] at ho
   cases ho
   exact hr _ mV
  ·rw [List.getElem?_set_ne (fun h'=>e0 h'.symm)] at ho
   have Dp:k≠b:=by
    rintro rfl
    exact e0 ((List.getElem?_inj (aK hk) h.nodup).1 (hk.trans hL.symm))
   exact (h.obj id' o k ho hk).mono (Mem.bM M) (List.prefix_refl _) (fU k Dp) (fun _=>rfl)
 ·intro id' o ho
  rw [List.length_set]
  by_cases e0:id'=id
  ·subst e0
   rw [List.getElem?_set_self nr] at ho
   cases ho
   exact ni
  ·rw [List.getElem?_set_ne (fun h'=>e0 h'.symm)] at ho
   exact h.bA id' o ho
 ·intro k hk;simpa using h.lt k hk
 ·intro t
  exact (h.gX t).mono fun k hk=>⟨fU k (fun e3=>h.ct _ k hk (e3 ▸ xE)),fun _=>rfl⟩
 ·intro id' j
  by_cases e0:id'=id
  ·subst e0
   have hn:O (.c id' j)=none:=by
    have:=h.gT id' j
    simp only [bn,bk] at this
    exact this
   have e2:bn (H.set id' (.map es')) id' j=.any:=by
    unfold bn
    rw [List.getElem?_set_self nr]
   rw [e2,hn];rfl
  ·have e1:bJ L { w with heap:=w.heap.setIfInBounds b o' } id' j=bJ L w id' j:=by
    unfold bJ
    split
    ·rename_i k hk
     have Dp:k≠b:=by
      rintro rfl
      exact e0 ((List.getElem?_inj (aK hk) h.nodup).1 (hk.trans hL.symm))
     simp only [World.cell?]
     rw [fU k Dp]
    ·rfl
   have e2:bn (H.set id (.map es')) id' j=bn H id' j:=by
    unfold bn
    rw [List.getElem?_set_ne (fun h'=>e0 h'.symm)]
   rw [e1,e2]
   exact (h.gT id' j).mono fun k hk=>⟨fU k (fun e3=>h.ct _ k hk (e3 ▸ xE)),fun _=>rfl⟩
 ·intro p k hp;simpa using h.fj p k hp
 ·intro k hk;simp at hk;exact h.fresh k hk
 ·exact ⟨Mem.bM M,by simp,rfl,rfl,rfl,fun k hk hA=>⟨fU k (fun e0=>hA (e0 ▸ h.La b xE)),fun _=>rfl⟩,fun k r hk=>⟨r,(fU k (fun e0=>by rw [e0,hc] at hk;cases hk)).trans hk,rfl⟩⟩
def AV.le (x y:AV):Prop:=y=x∨y=.any∨(∃ o xs,x=.ap o xs∧y=.ap 0 xs)∨(x=.ah∧∃ o,y=.ap o [])∨(∃ xs,x=.agg xs∧y=.agg (xs.map AV.drop))
theorem aS.le {v:Value} {x y:AV} (h:aS M L v x) (hl:x.le y):aS M L v y:=by
 rcases hl with rfl | rfl | ⟨o,xs,rfl,rfl⟩ | ⟨rfl,o,rfl⟩ | ⟨xs,rfl,rfl⟩
 ·exact h
 ·exact .any _
 ·exact h.Dy
 ·cases h;exact .gF _ _ _ (by decide)
 ·cases h with
  | agg cs _ hr=>exact .agg cs _ hr.map_drop
theorem bf.le {v:Value} {x y:AV} {ob:Option Nat} (h:aS M L v x) (hs:bf M w v x ob) (hl:x.le y):∃ ob',bf M w v y ob'∧(ob'=none∨ob'=ob):=by
 rcases hl with rfl | rfl | ⟨o,xs,rfl,rfl⟩ | ⟨rfl,o,rfl⟩ | ⟨xs,rfl,rfl⟩
 ·exact ⟨ob,hs,.inr rfl⟩
 ·exact ⟨none,rfl,.inl rfl⟩
 ·exact ⟨none,by simp [bf],.inl rfl⟩
 ·cases h
  refine ⟨none,?_,.inl rfl⟩
  by_cases e:o=0
  ·simp [bf,e]
  ·simp only [bf,e,if_false];exact ⟨by simp,.inl ⟨trivial,none,0,rfl⟩⟩
 ·exact ⟨none,rfl,.inl rfl⟩
theorem St.Fi (h:St A M L w H ev ea O) {ea':Nat→AV} (hl:∀ t,(ea t).le (ea' t)):∃ O',St A M L w H ev ea' O'∧∀ p b,O' p=some b→O p=some b:=by
 have hx:∀ t,∃ ob',bf M w (ev t) (ea' t) ob'∧(ob'=none∨ob'=O (.t t)):=fun t=>(h.gX t).le (h.env t) (hl t)
 let f:Nat→Option Nat:=fun t=>Classical.choose (hx t)
 have hf:∀ t,bf M w (ev t) (ea' t) (f t)∧(f t=none∨f t=O (.t t)):=fun t=>Classical.choose_spec (hx t)
 let O':Pos→Option Nat:=fun p=>match p with | .t t=>f t | .c id j=>O (.c id j)
 have hO:∀ p b,O' p=some b→O p=some b:=by
  intro p b hp
  cases p with
  | t t=>
    rcases (hf t).2 with h0 | h0
    ·simp only [O',h0] at hp;cases hp
    ·simpa only [O',h0] using hp
  | c id j=>exact hp
 exact ⟨O',{ len:=h.len,nodup:=h.nodup,env:=fun t=>(h.env t).le (hl t),mem:=h.mem,obj:=h.obj,bA:=h.bA,lt:=h.lt,gX:=fun t=>(hf t).1,gT:=h.gT,b7:=fun p q b hp hq=>h.b7 p q b (hO p b hp) (hO q b hq),ct:=fun p b hp=>h.ct p b (hO p b hp),fj:=fun p b hp=>h.fj p b (hO p b hp),La:=h.La,Oa:=fun p b hp=>h.Oa p b (hO p b hp),fresh:=h.fresh },hO⟩
theorem St.weaken (h:St A M L w H ev ea O) {ea':Nat→AV} (hl:∀ t,(ea t).le (ea' t)):∃ O',St A M L w H ev ea' O':=
 let ⟨O',h1,_⟩:=h.Fi hl
 ⟨O',h1⟩
theorem St.cut (h:St A M L w H ev ea O) (n:Nat) (hc:∀ id o,id < n→H[id]?=some o→o.aZ n=true) (hb:∀ t,(ea t).aZ n=true):∃ O',St A M (L.take n) w (H.take n) ev ea O':=by
 let O':Pos→Option Nat:=fun p=>match p with | .t t=>O (.t t) | .c id j=>if id < n then O (.c id j) else none
 have hO:∀ p b,O' p=some b→O p=some b:=by
  intro p b hp
  cases p with
  | t t=>exact hp
  | c id j=>
    simp only [O'] at hp
    split at hp
    ·exact hp
    ·cases hp
 have jA:∀ {α:Type} {l:List α} {i:Nat} {a:α},(l.take n)[i]?=some a→i < n∧l[i]?=some a:=by
  intro α l i a hi
  rw [List.getElem?_take] at hi
  split at hi
  ·exact ⟨by assumption,hi⟩
  ·cases hi
 have gU:∀ b,b∈L.take n→b∈L:=fun b hb=>List.mem_of_mem_take hb
 have LY:∀ {m k:Nat} {o:aa},m≤k→o.aZ m=true→o.aZ k=true:=fun hmk ho=>aa.cN hmk _ ho
 refine ⟨O',{ len:=by simp [h.len],nodup:=(List.take_sublist n L).nodup h.nodup,env:=fun t=>(h.env t).gk (hb t),mem:=h.mem,obj:=?_,bA:=?_,lt:=fun b hb=>h.lt b (gU b hb),gX:=h.gX,gT:=?_,b7:=fun p q b hp hq=>h.b7 p q b (hO p b hp) (hO q b hq),ct:=fun p b hp hm=>h.ct p b (hO p b hp) (gU b hm),fj:=fun p b hp=>h.fj p b (hO p b hp),La:=fun b hb=>h.La b (gU b hb),Oa:=fun p b hp=>h.Oa p b (hO p b hp),fresh:=h.fresh }⟩
 ·intro id o b ho eh
  obtain ⟨hn,ho⟩:=jA ho
  obtain ⟨_,eh⟩:=jA eh
  exact (h.obj id o b ho eh).gk (hc id o hn ho)
 ·intro id o ho
  obtain ⟨hn,ho⟩:=jA ho
  have h1:=h.bA id o ho
  have h2:=hc id o hn ho
  have hl:=aK ho
  rw [List.length_take]
  have e:A.jo (min n H.length) id=min n (A.jo H.length id):=by unfold Perm.jo;split <;> omega
  rw [e]
  rcases Nat.le_total n (A.jo H.length id) with h' | h'
  ·rw [Nat.min_eq_left h'];exact h2
  ·rw [Nat.min_eq_right h'];exact h1
 ·intro id j
  by_cases e:id < n
  ·have e1:bJ (L.take n) w id j=bJ L w id j:=by
    unfold bJ
    rw [List.getElem?_take,if_pos e]
   have e2:bn (H.take n) id j=bn H id j:=by
    unfold bn
    rw [List.getElem?_take,if_pos e]
   rw [e1,e2]
   simpa [O',e] using h.gT id j
  ·have e2:bn (H.take n) id j=.any:=by
    unfold bn
    rw [List.getElem?_take,if_neg e]
   rw [e2]
   simp [O',e,bf]
end
end Go.aH
end
section
namespace Go.aH
open Go
abbrev Env:=List (Nat×AV)
def get:Env→Nat→AV
 | [],_=>.any
 | (k,v)::r,t=>if t=k then v else get r t
inductive IX where
 | t (n:Nat)
 | c (v:AV)
 deriving Inhabited
def al (env:Env):IX→AV
 | .t n=>get env n
 | .c v=>v
inductive bY where
 | set (x:IX) (take:Bool)
 | pick (c a b:IX)
 | bin (op:BinOp) (x y:IX)
 | shift (op:BinOp) (x y:IX)
 | ic (neq:Bool) (x y:IX)
 | jg (kd:Nat) (neq:Bool) (x:IX)
 | un (op:UnOp) (x:IX)
 | box (x:IX)
 | lL (x:IX)
 | ry (m:Nat) (x:IX)
 | alloc (zero:AV)
 | build (zero:AV) (parts:List (Nat×Nat×IX))
 | buildSlice (own esz:Nat) (zero:AV) (len:Nat) (parts:List (Nat×IX))
 | load (sz:Option Nat) (a:IX)
 | sK (sz:Option Nat) (esz:Nat) (a:IX)
 | eC (a:IX)
 | store (n:Nat) (a x:IX)
 | ns (n:Nat) (a x:IX)
 | fp (a:IX) (s:Nat)
 | nilCheck (x:IX)
 | fieldAddr (off:Nat) (sz:Option Nat) (x:IX)
 | field (off:Nat) (sz:Option Nat) (x:IX)
 | indexAddr (esz:Nat) (x i:IX)
 | dg (x i:IX)
 | dQ (n:Nat) (x i:IX)
 | ph (esz:Nat) (x:IX) (lo hi mx:Option IX)
 | slice (esz:Nat) (x:IX) (lo hi max:Option IX)
 | dR (x:IX) (lo hi:Option IX)
 | len (kd:Nat) (x:IX)
 | append (esz bytes:Nat) (s x:IX)
 | sL (esz bytes:Nat) (zero:AV) (n:IX)
 | nt (esz bytes:Nat) (n:IX)
 | nu
 | lookup (kd:Nat) (zero:AV) (m k:IX) (ok:Bool)
 | kA (kd:Nat) (m k x:IX)
 | fn (f:Fn) (first captured:List IX)
 | extract (x:IX) (i:Nat)
 | call (f:IX) (args:List IX) (pass:Option Nat)
 | eN (k:IntKind) (x:IX)
 | gH (x:IX)
 | bytesOf (x:IX)
 | strOf (x:IX)
 | mx (big:Bool) (a b:IX)
 | copy (esz:Nat) (d s:IX)
 | yZ (esz:Nat) (x:IX)
 | Bc (esz:Nat) (zero:AV) (len:Nat) (parts:List (Nat×IX))
 | jj (esz bytes:Nat) (zero:AV) (s x:IX)
 | nv (esz:Nat) (zero:AV) (x:IX)
 | never
 deriving Inhabited
def Ua:Value→Option AV
 | .bool b=>some (.bool b)
 | .int k n=>some (.int k n)
 | .string s=>some (.str s)
 | .pointer none=>some .ru
 | .map none=>some .iS
 | .nilFunc=>some .fG
 | .nilIface=>some .wR
 | .slice none 0 0=>some .ah
 | _=>none
def IG:List Value→Option (List AV)
 | []=>some []
 | v::vs=>match Ua v,IG vs with
   | some x,some xs=>some (x::xs)
   | _,_=>none
def ofValue:Value→Option AV
 | .agg cs=>(IG cs.toList).map .agg
 | v=>Ua v
section
variable {M:Mem} {L:List Nat}
theorem Fj {v:Value} {x:AV} (h:Ua v=some x):aS M L v x:=by
 unfold Ua at h
 split at h <;> first | (cases h;constructor) | cases h
theorem Bd:∀ {vs:List Value} {xs:List AV},IG vs=some xs→aG M L vs xs
 | [],xs,h=>by simp [IG] at h;subst h;exact .nil
 | v::vs,xs,h=>by
   unfold IG at h
   split at h
   ·rename_i x ys h1 h2
    cases h
    exact .cons _ _ _ _ (Fj h1) (Bd h2)
   ·cases h
theorem cI {v:Value} {x:AV} (h:ofValue v=some x):aS M L v x:=by
 unfold ofValue at h
 split at h
 ·rename_i cs
  obtain ⟨xs,h1,rfl⟩:=Option.map_eq_some_iff.1 h
  have:=aS.agg cs.toList xs (Bd (M:=M) (L:=L) h1)
  simpa using this
 ·exact Fj h
end
def aQ:Operand→Option IX
 | .tmp t=>some (.t t)
 | .const v=>(ofValue v).map .c
 | .func f=>some (.c (.fn (.func f) [] []))
 | .global _=>none
def fE:List Operand→Option (List IX)
 | []=>some []
 | x::xs=>match aQ x,fE xs with
   | some i,some is=>some (i::is)
   | _,_=>none
def It (P:Program) (t:TypeId):Option (Option Nat):=
 match P.info? t,P.underlying t with
 | some i,some (.struct _)=>some (some i.size)
 | some i,some (.array _ _)=>some (some i.size)
 | some i,some _=>if i.size=1 then some none else none
 | _,_=>none
def fH (P:Program) (t:TypeId):Option AV:=
 match P.info? t with
 | some i=>match i.zero with
   | some v=>ofValue v
   | none=>none
 | none=>none
def dK (P:Program) (t:TypeId):Option Nat:=(P.info? t).map (·.size)
def O7 (A:Perm) (w:World) (ds:List Deferred):Prop:=A.base≤w.heap.size∧ds.Nodup∧∀ d∈ds,∃ D,d={ target:=.collected D,args:=#[] }∧w.heap[D]?=some (.deferred (some []))∧¬ A D∧A.base≤D
theorem O7.ext {A:Perm} {M M':Mem} {w w':World} {ds:List Deferred} (h:O7 A w ds) (hx:Ext A M w M' w'):O7 A w' ds:=
 ⟨Nat.le_trans h.1 hx.size,h.2.1,fun d hd=>by
   obtain ⟨D,h1,h2,h3⟩:=h.2.2 d hd
   exact ⟨D,h1,(hx.kz D (Array.getElem?_eq_some_iff.1 h2).1 h3.1).1.trans h2,h3⟩⟩
def wf (ro:Option Nat):Fence:={ Fence.wide with round:=ro }
theorem IH {o:Oper} {ρ:Operand→Value} {P:Program} {w w':World} {x:Next} (ro:Option Nat) (h:(execOp ρ o).run P w=.ok x w') (hx:∀ d,x≠.defer d):(o.semAt (wf ro).round ρ).run P w=.ok x w':=by
 rw [Oper.semAt_eq]
 ·exact h
 ·intro c hc
  simp only [execOp,hc,Sem.run_bind] at h
  cases hr:(resolve ρ c o.type).run P w with
  | ok d w1=>rw [hr] at h;simp only [Result.andThen_ok,Sem.run_pure] at h;cases h;exact hx _ rfl
  | halt e w1=>rw [hr] at h;cases h
theorem kS {o:Oper} {P:Program} {a:Act} {w w':World} {x:Next} {ro:Option Nat} {N:Act→World→Prop} {Q:Exit→Act→World→Prop} (h:(execOp a.eval o).run P w=.ok x w') (hx:∀ d,x≠.defer d)
 (hu:o.uponIn (wf ro) 0 P a N Q (.ok x w')):o.wpIn (wf ro) 0 P a w N Q:=by
 refine ⟨fun _ _=>trivial,?_⟩
 rw [IH ro h hx]
 exact hu
structure Fr (A:Perm) (n:Nat) (M:Mem) (L:List Nat) (w:World) (H:List aa) (env:Env) (O:Pos→Option Nat) (a:Act):Prop where
 st:St A M L w H (fun t=>a.tmps.getD t undef) (get env) O
 size:a.tmps.size=n
 defers:O7 A w a.defers
def nj (A:Perm) (n:Nat) (M:Mem) (L:List Nat) (w:World) (K:Env→List aa→Prop) (a':Act) (w':World):Prop:=
 ∃ M' L' H' aB O',K aB H'∧Fr A n M' L' w' H' aB O' a'∧Ext A M w M' w'∧L <+: L'
def put (dst:Option Nat) (x:AV) (env:Env):Env:=match dst with | some d=>(d,x)::env | none=>env
section
variable {ro:Option Nat} {A:Perm} {n:Nat} {M:Mem} {L:List Nat} {w:World} {H:List aa} {env:Env} {O:Pos→Option Nat} {a:Act}
theorem II (d:Nat) (x:AV) (env:Env):get ((d,x)::env)=fz (get env) d x:=rfl
theorem Fr.eval (h:Fr A n M L w H env O a) {x:Operand} {i:IX} (hc:aQ x=some i):aS M L (a.eval x) (al env i):=by
 cases x with
 | tmp t=>simp [aQ] at hc;subst hc;exact h.st.env t
 | const v=>
   simp only [aQ] at hc
   obtain ⟨y,h1,rfl⟩:=Option.map_eq_some_iff.1 hc
   exact cI h1
 | func f=>simp [aQ] at hc;subst hc;exact .fn _ [] [] [] [] .nil .nil
 | global g=>simp [aQ] at hc
theorem Fr.O8 (h:Fr A n M L w H env O a):∀ {xs:List Operand} {is:List IX},fE xs=some is→aG M L (xs.map a.eval) (is.map (al env))
 | [],is,hc=>by simp [fE] at hc;subst hc;exact .nil
 | x::xs,is,hc=>by
   unfold fE at hc
   split at hc
   ·rename_i i is' h1 h2
    cases hc
    exact .cons _ _ _ _ (h.eval h1) (h.O8 h2)
   ·cases hc
theorem uE (a:Act) (d:Nat) (v:Value) (hd:d < a.tmps.size) (t:Nat):(a.put (some d) v).tmps.getD t undef=fz (fun t=>a.tmps.getD t undef) d v t:=by
 simp only [Act.put,fz,Array.getD_eq_getD_getElem?,Array.getElem?_setIfInBounds]
 by_cases e:t=d
 ·subst e;simp [hd]
 ·simp [e,show ¬ d=t from fun h=>e h.symm]
theorem Fr.DB (h:Fr A n M L w H env O a) {d:Nat} (hd:d < n) {v:Value} {x:AV} (hr:aS M L v x) (ob:Option Nat) (hs:bf M w v x ob)
 (h1:∀ p b,ob=some b→O p=some b→p=.t d) (h2:∀ b,ob=some b→b∉L∧b < w.heap.size∧A b) :
 Fr A n M L w H ((d,x)::env) (eo O (.t d) ob) (a.put (some d) v):=by
 refine ⟨(h.st.put d hr ob hs h1 h2).congr (fun t=>uE a d v (by rw [h.size];exact hd) t) (fun t=>rfl),?_,h.defers⟩
 simp [Act.put,h.size]
theorem Fr.oO (h:Fr A n M L w H env O a) {dst:Option Nat} (hd:∀ d,dst=some d→d < n) {v:Value} {x:AV} (hr:aS M L v x) (hx:∀ own xs,x=.ap own xs→own=0) :
 ∃ O',Fr A n M L w H (put dst x env) O' (a.put dst v):=by
 cases dst with
 | none=>exact ⟨O,h⟩
 | some d=>exact ⟨_,h.DB (hd d rfl) hr none (bf.free hx) (fun p b e=>by cases e) (fun b e=>by cases e)⟩
theorem Fr.Fk (h:Fr A n M L w H env O a) {dst:Option Nat} (hd:∀ d,dst=some d→d < n) {ad:Option Addr} {m:Nat} {own:Nat} {xs:List AV} (hr:aS M L (.slice ad m m) (.ap own xs)) (hx:own≠0→∀ y∈xs,y.cells.length=own) :
 ∃ O',Fr A n M L w H (put dst (.ap own xs) env) O' (a.put dst (.slice ad m m)):=by
 cases dst with
 | none=>exact ⟨O,h⟩
 | some d=>
   refine ⟨_,h.DB (hd d rfl) hr none ?_ (fun p b e=>by cases e) (fun b e=>by cases e)⟩
   by_cases e:own=0
   ·simp [bf,e]
   ·simp only [bf,e,if_false];exact ⟨hx e,.inl ⟨trivial,ad,m,rfl⟩⟩
theorem Fr.mono (h:Fr A n M L w H env O a) {M':Mem} {w':World} {L':List Nat} {H':List aa} {O':Pos→Option Nat} (bO:St A M' L' w' H' (fun t=>a.tmps.getD t undef) (get env) O') (hx:Ext A M w M' w'):Fr A n M' L' w' H' env O' a:=
 ⟨bO,h.size,h.defers.ext hx⟩
theorem dh {P:Program} {o:Oper} {Q:Exit→Act→World→Prop} {K:Env→List aa→Prop} {v:Value} {w':World} (bE:(execOp a.eval o).run P w=.ok (.value v) w')
 (h:nj A n M L w K (a.put o.dst v) w'):o.wpIn (wf ro) 0 P a w (nj A n M L w K) Q:=by
 exact kS bE (by intro d e;cases e) h
theorem lM {P:Program} {o:Oper} {Q:Exit→Act→World→Prop} {K:Env→List aa→Prop} {w':World} (bE:(execOp a.eval o).run P w=.ok .skip w')
 (h:nj A n M L w K (a.put o.dst undef) w'):o.wpIn (wf ro) 0 P a w (nj A n M L w K) Q:=by
 exact kS bE (by intro d e;cases e) h
theorem wp_pure {P:Program} {o:Oper} {Q:Exit→Act→World→Prop} {K:Env→List aa→Prop} {v:Value} {x:AV} (h:Fr A n M L w H env O a) (hd:∀ d,o.dst=some d→d < n)
 (bE:(execOp a.eval o).run P w=.ok (.value v) w) (hr:aS M L v x) (hx:∀ own xs,x=.ap own xs→own=0) (hK:K (put o.dst x env) H):o.wpIn (wf ro) 0 P a w (nj A n M L w K) Q:=by
 obtain ⟨O',hf⟩:=h.oO hd hr hx
 exact dh bE ⟨M,L,H,_,O',hK,hf,Ext.refl A M w,List.prefix_refl L⟩
end
def tL (env:Env) (d:Nat) (x:IX) (take:Bool):Env:=
 match x,take with
 | .t s,true=>(d,get env s)::(s,(get env s).ab)::env
 | x,_=>(d,(al env x).ab)::env
def eX (x:AV) (φ:Bool→Prop):Prop:=match x with | .bool b=>φ b | _=>False
end Go.aH
end
section
namespace Go.aH
open Go
def AV.val:AV→Bool
 | .any=>false
 | .tuple _=>false
 | _=>true
def ag {α:Type} (zs:List α) (off:Nat) (xs:List α):List α:=zs.take off++(xs++zs.drop (off + xs.length))
section
variable {M:Mem} {L:List Nat}
theorem aS.fV {v:Value} {x:AV} (h:aS M L v x) (hv:x.val=true):aG M L v.cells.toList x.cells:=by
 cases h with
 | agg cs xs hr=>simpa [Value.cells,AV.cells] using hr
 | any v=>simp [AV.val] at hv
 | tuple=>simp [AV.val] at hv
 | ap b off c own e cs xs he hx hn hle hc hr hm=>exact .one (.ap b off c own e cs xs he hx hn hle hc hr hm)
 | _=>(simp only [Value.cells,AV.cells];exact .one (by constructor <;> assumption))
theorem aG.y0 {cs:List Value} {xs:List AV} (h:aG M L cs xs) {zs:List Value} {ys:List AV} (off:Nat) (hz:aG M L zs ys):aG M L (ag zs off cs) (ag ys off xs):=by
 unfold ag
 rw [h.length]
 exact (hz.take off).append (h.append (hz.drop _))
theorem aG.dc:∀ {vs:List Value} {xs:List AV},aG M L vs xs→aG M L vs (xs.map AV.ab)
 | _,_,.nil=>.nil
 | _,_,.cons v x vs xs h t=>.cons v _ _ _ h.ab t.dc
end
theorem nw {α:Type} (zs:List α) (off:Nat) (xs:List α) (h:off + xs.length≤zs.length):(ag zs off xs).length=zs.length:=by
 unfold ag;simp;omega
def de (op:BinOp) (x y:AV) (φ:AV→Prop):Prop:=
 match x,y with
 | .int k a,.int k' b=>k=k'∧
   match op with
   | .add=>φ (.int k (k.wrap (a + b)))
   | .sub=>φ (.int k (k.wrap (a - b)))
   | .mul=>φ (.int k (k.wrap (a * b)))
   | .quo=>b≠0∧φ (.int k (k.wrap (a.tdiv b)))
   | .rem=>b≠0∧φ (.int k (a.tmod b))
   | .and=>φ (.int k (k.wrap (BitVec.ofInt k.bits a &&& BitVec.ofInt k.bits b).toNat))
   | .or=>φ (.int k (k.wrap (BitVec.ofInt k.bits a ||| BitVec.ofInt k.bits b).toNat))
   | .xor=>φ (.int k (k.wrap (BitVec.ofInt k.bits a ^^^ BitVec.ofInt k.bits b).toNat))
   | .andNot=>φ (.int k (k.wrap (BitVec.ofInt k.bits a &&& ~~~ BitVec.ofInt k.bits b).toNat))
   | .eql=>φ (.bool (decide (a=b)))
   | .neq=>φ (.bool (decide (a≠b)))
   | .lss=>φ (.bool (decide (a < b)))
   | .leq=>φ (.bool (decide (a≤b)))
   | .gtr=>φ (.bool (decide (b < a)))
   | .geq=>φ (.bool (decide (b≤a)))
   | _=>False
 | .str a,.str b=>
   match op with
   | .add=>a.size + b.size < 9223372036854775808∧φ (.str (a++b))
   | .eql=>φ (.bool (decide (a=b)))
   | .neq=>φ (.bool (decide (a≠b)))
   | .lss=>φ (.bool (Op.bytesLess a.data.toList b.data.toList))
   | .geq=>φ (.bool (!Op.bytesLess a.data.toList b.data.toList))
   | .leq=>φ (.bool (!Op.bytesLess b.data.toList a.data.toList))
   | .gtr=>φ (.bool (Op.bytesLess b.data.toList a.data.toList))
   | _=>False
 | _,_=>False
def dS (op:BinOp) (x y:AV) (φ:AV→Prop):Prop:=
 match x,y with
 | .int k a,.int _ b=>0≤b∧
   match op with
   | .shl=>φ (.int k (k.wrap (a * 2 ^ (min b.toNat k.bits))))
   | .shr=>φ (.int k (a.fdiv (2 ^ (min b.toNat k.bits))))
   | _=>False
 | _,_=>False
def cU (neq:Bool) (x y:AV) (φ:AV→Prop):Prop:=
 match x,y with
 | .bool a,.bool b=>φ (.bool (if neq then decide (a≠b) else decide (a=b)))
 | _,_=>False
def isNil (kd:Nat) (x:AV):Option Bool:=
 match kd,x with
 | 0,.ah=>some true
 | 0,.ap _ (_::_)=>some false
 | 0,.a8 _ _ _ _=>some false
 | 1,.ru=>some true
 | 1,.ptr _ _=>some false
 | 1,.ai _=>some false
 | 2,.iS=>some true
 | 2,.map _=>some false
 | 3,.fG=>some true
 | 3,.fn _ _ _=>some false
 | _,_=>none
def dj (kd:Nat) (neq:Bool) (x:AV) (φ:AV→Prop):Prop:=
 match isNil kd x with
 | some b=>φ (.bool (if neq then !b else b))
 | none=>match kd,x with
   | 0,.ap _ []=>φ (.bool true)∧φ (.bool false)
   | _,_=>False
def y7 (op:UnOp) (x:AV) (φ:AV→Prop):Prop:=
 match op,x with
 | .not,.bool b=>φ (.bool (!b))
 | .neg,.int k n=>φ (.int k (k.wrap (0 - n)))
 | _,_=>False
def gI (zs:List AV):List (Nat×Nat×AV)→(List AV→Prop)→Prop
 | [],φ=>φ zs
 | (off,sz,x)::r,φ=>x.val=true∧x.cells.length=sz∧off + sz≤zs.length∧gI (ag zs off (x.cells.map AV.ab)) r φ
def aR (sz:Option Nat) (x:AV) (H:List aa) (φ:AV→Prop):Prop:=
 match x with
 | .ptr id off=>match H[id]? with
   | some (.cells es)=>match sz with
     | some m=>off + m≤es.length∧φ (.agg (((es.drop off).take m).map AV.drop))
     | none=>off < es.length∧φ (es.getD off .any).ab
   | _=>False
 | .ai y=>match sz with
   | some m=>y.cells.length=m∧φ (.agg y.cells)
   | none=>y.one=true∧φ y.ab
 | _=>False
def apart (off:Nat) (sz:Option Nat) (xs:List AV) (φ:AV→Prop):Prop:=
 match sz with
 | some m=>off + m≤xs.length∧φ (.agg ((xs.drop off).take m))
 | none=>off < xs.length∧(xs.getD off .any).one=true∧φ (xs.getD off .any)
def ak (off:Nat) (sz:Option Nat) (x:AV) (φ:AV→Prop):Prop:=
 match x with
 | .ptr id o=>φ (.ptr id (o + off))
 | .ai y=>apart off sz y.cells fun z=>φ (.ai z)
 | _=>False
def eY (off:Nat) (sz:Option Nat) (x:AV) (φ:AV→Prop):Prop:=
 match x with
 | .agg xs=>apart off sz xs fun z=>φ z.drop
 | _=>False
def ay (esz:Nat) (x i:AV) (φ:AV→Prop):Prop:=
 match x,i with
 | .ap _ xs,.int _ i=>0≤i∧i.toNat < xs.length∧φ (.ai (xs.getD i.toNat .any))
 | .a8 id off len _,.int _ i=>0≤i∧i.toNat < len∧φ (.ptr id (off + i.toNat * esz))
 | _,_=>False
def bP (n:Nat) (x i:AV) (φ:AV→Prop):Prop:=
 match x,i with
 | .agg xs,.int _ i=>xs.length=n∧0≤i∧i.toNat < n∧φ (xs.getD i.toNat .any).drop
 | _,_=>False
def bH (x i:AV) (φ:AV→Prop):Prop:=
 match x,i with
 | .str s,.int _ i=>0≤i∧i.toNat < s.size∧φ (.int .u8 (s.data.toList.getD i.toNat 0).toNat)
 | _,_=>False
def fq (x:AV) (H:List aa) (φ:AV→Prop):Prop:=
 match x with
 | .str s=>φ (.int .i64 s.size)
 | .ah=>φ (.int .i64 0)
 | .ap _ xs=>xs.length < 9223372036854775808→φ (.int .i64 xs.length)
 | .a8 _ _ len _=>φ (.int .i64 len)
 | .oN=>φ (.int .i64 0)
 | .iS=>φ (.int .i64 0)
 | .map id=>match H[id]? with
   | some (.map es)=>φ (.int .i64 es.length)
   | _=>False
 | _=>False
def bB (x:AV) (i:Nat) (φ:AV→Prop):Prop:=
 match x with
 | .tuple xs=>i < xs.length∧φ (xs.getD i .any).ab
 | _=>False
def bQ (x:AV) (φ:AV→Prop):Prop:=
 match x with
 | .ptr .. | .ai _=>φ x
 | .fn (.func _) _ _=>φ x
 | _=>False
def cA (k:IntKind) (x:AV) (φ:AV→Prop):Prop:=
 match x with
 | .int _ n=>φ (.int k (k.wrap n))
 | _=>False
def wT (big:Bool) (x y:AV) (φ:AV→Prop):Prop:=
 match x,y with
 | .int k a,.int _ b=>φ (.int k (if big then (if b > a then b else a) else (if b < a then b else a)))
 | _,_=>False
section
variable {P:Program} {w:World} {M:Mem} {L:List Nat} {H:List aa}
theorem lN:∀ x y:List UInt8,(Op.bytesLess x y || x == y)=!Op.bytesLess y x
 | [],[]=>rfl
 | [],b::y=>by simp [Op.bytesLess]
 | a::x,[]=>by simp [Op.bytesLess]
 | a::x,b::y=>by
   have ih:=lN x y
   simp only [Op.bytesLess,List.cons_beq_cons]
   rcases Nat.lt_trichotomy a.toNat b.toNat with h | h | h
   ·have h1:a < b:=UInt8.lt_iff_toNat_lt.2 h
    have h2:¬ b < a:=fun h'=>by have:=UInt8.lt_iff_toNat_lt.1 h';omega
    have h3:(b == a)=false:=by
     rw [beq_eq_false_iff_ne];rintro rfl;omega
    simp [h1,h2,h3]
   ·have h0:a=b:=UInt8.toNat_inj.1 h
    subst h0
    simp [ih]
   ·have h1:b < a:=UInt8.lt_iff_toNat_lt.2 h
    have h2:¬ a < b:=fun h'=>by have:=UInt8.lt_iff_toNat_lt.1 h';omega
    have h3:(a == b)=false:=by
     rw [beq_eq_false_iff_ne];rintro rfl;omega
    simp [h1,h2,h3]
theorem Be (a b:ByteArray):(a.toList == b.toList)=decide (a=b):=by
 rw [ByteArray.toList_eq,ByteArray.toList_eq]
 by_cases e:a=b
 ·subst e;simp
 ·have h0:¬ a.data.toList=b.data.toList:=fun h=>e (by cases a;cases b;simp_all [Array.toList_inj])
  rw [show (a.data.toList == b.data.toList)=false from beq_eq_false_iff_ne.2 h0]
  simp [e]
theorem pT {α:Type} [DecidableEq α] (a b:α):(a == b)=decide (a=b):=by
 by_cases h:a=b <;> simp [h]
theorem IJ {op:BinOp} {t:TypeId} {u v:Value} {x y:AV} {φ:AV→Prop} (h:de op x y φ) (hu:aS M L u x) (hv:aS M L v y) (X Y:Operand) :
 ∃ r z,(do eqGuard op t X Y u v;binOp op t u v:Sem Value).run P w=.ok r w∧aS M L r z∧φ z∧∀ own xs,z=.ap own xs→own=0:=by
 have guard_int:∀ (k k':IntKind) (a b:Int),(eqGuard op t X Y (.int k a) (.int k' b)).run P w=.ok () w:=by
  intro k k' a b;unfold eqGuard;cases op <;> rfl
 have guard_str:∀ (a b:ByteArray),(eqGuard op t X Y (.string a) (.string b)).run P w=.ok () w:=by
  intro a b;unfold eqGuard;cases op <;> rfl
 unfold de at h
 split at h
 ·rename_i k a k' b
  cases hu;cases hv
  obtain ⟨rfl,h⟩:=h
  simp only [Sem.run_bind,guard_int,Result.andThen_ok]
  cases op <;> simp only at h <;> first
   | exact h.elim
   | exact ⟨_,_,rfl,.int _ _,h,by intro _ _ e;cases e⟩
   | (obtain ⟨h0,h⟩:=h
      refine ⟨_,_,?_,.int _ _,h,by intro _ _ e;cases e⟩
      simp [binOp,Op.intDiv,h0];done)
   | skip
  all_goals first
   | (refine ⟨_,_,?_,.int _ _,h,by intro _ _ e;cases e⟩
      simp [binOp,Op.intArith,Op.intBits];done)
   | (refine ⟨_,_,?_,.bool _,h,by intro _ _ e;cases e⟩
      simp [binOp,Op.intCmp];done)
   | skip
  all_goals
   refine ⟨_,_,?_,.bool _,h,by intro _ _ e;cases e⟩
   simp [binOp,Op.intCmp,bne,pT]
 ·rename_i a b
  cases hu;cases hv
  simp only [Sem.run_bind,guard_str,Result.andThen_ok]
  cases op <;> simp only at h <;> first
   | exact h.elim
   | skip
  ·obtain ⟨h0,h⟩:=h
   refine ⟨_,_,?_,.str _,h,by intro _ _ e;cases e⟩
   have:¬ ((a.size + b.size:Nat):Int) > IntKind.i64.max:=by
    have:IntKind.i64.max=9223372036854775807:=rfl
    rw [this];omega
   simp only [binOp,Op.stringOp,this,if_false,Sem.run_pure]
  ·exact ⟨_,_,rfl,.bool _,by rw [Be];exact h,by intro _ _ e;cases e⟩
  ·exact ⟨_,_,rfl,.bool _,by rw [Be];simpa using h,by intro _ _ e;cases e⟩
  ·exact ⟨_,_,rfl,.bool _,by rw [ByteArray.toList_eq,ByteArray.toList_eq];exact h,by intro _ _ e;cases e⟩
  ·exact ⟨_,_,rfl,.bool _,by rw [ByteArray.toList_eq,ByteArray.toList_eq,lN];exact h,by intro _ _ e;cases e⟩
  ·exact ⟨_,_,rfl,.bool _,by rw [ByteArray.toList_eq,ByteArray.toList_eq,lN,Bool.not_not];exact h,by intro _ _ e;cases e⟩
  ·exact ⟨_,_,rfl,.bool _,by rw [ByteArray.toList_eq,ByteArray.toList_eq];exact h,by intro _ _ e;cases e⟩
 ·exact h.elim
theorem uF {op:BinOp} {t:TypeId} {u v:Value} {x y:AV} {φ:AV→Prop} (h:dS op x y φ) (hu:aS M L u x) (hv:aS M L v y) (X Y:Operand) :
 ∃ r z,(do eqGuard op t X Y u v;binOp op t u v:Sem Value).run P w=.ok r w∧aS M L r z∧φ z∧∀ own xs,z=.ap own xs→own=0:=by
 unfold dS at h
 split at h
 ·rename_i k a k' b
  cases hu;cases hv
  obtain ⟨h0,h⟩:=h
  have guard_int:(eqGuard op t X Y (.int k a) (.int k' b)).run P w=.ok () w:=by
   unfold eqGuard;cases op <;> rfl
  simp only [Sem.run_bind,guard_int,Result.andThen_ok]
  have hn:¬ b < 0:=by omega
  cases op <;> simp only at h <;> first
   | exact h.elim
   | (refine ⟨_,_,?_,.int _ _,h,by intro _ _ e;cases e⟩
      simp [binOp,Op.shift,hn];done)
 ·exact h.elim
theorem run_equalIn_bool (d:Nat) {t:TypeId} (ht:P.underlying t=some .bool) (a b:Bool):(Op.equalIn (d + 1) t (.bool a) (.bool b)).run P w=.ok (a == b) w:=by
 simp only [Op.equalIn,Sem.run_bind,run_underlying ht,Result.andThen_ok,Sem.run_pure]
theorem run_equal_bool {t:TypeId} (ht:P.underlying t=some .bool) (a b:Bool):(Op.equal t (.bool a) (.bool b)).run P w=.ok (a == b) w:=run_equalIn_bool 9999 ht a b
theorem sM {neq:Bool} {t:TypeId} (ht:P.underlying t=some .bool) {u v:Value} {x y:AV} {φ:AV→Prop} (h:cU neq x y φ) (hu:aS M L u x) (hv:aS M L v y) (X Y:Operand) :
 ∃ r z,(do eqGuard (if neq then .neq else .eql) t X Y u v;binOp (if neq then .neq else .eql) t u v:Sem Value).run P w=.ok r w∧aS M L r z∧φ z∧∀ own xs,z=.ap own xs→own=0:=by
 unfold cU at h
 split at h
 ·rename_i a b
  cases hu;cases hv
  cases neq
  ·refine ⟨_,.bool (a == b),?_,.bool (a == b),?_,by intro _ _ e;cases e⟩
   ·simp only [Bool.false_eq_true,if_false,Sem.run_bind,eqGuard,Sem.run_pure,Result.andThen_ok,binOp,run_equal_bool ht];rfl
   ·rw [pT];exact h
  ·refine ⟨_,.bool (!(a == b)),?_,.bool (!(a == b)),?_,by intro _ _ e;cases e⟩
   ·simp only [if_true,Sem.run_bind,eqGuard,Sem.run_pure,Result.andThen_ok,binOp,run_equal_bool ht];rfl
   ·rw [pT];simpa using h
 ·exact h.elim
theorem LZ {op:UnOp} {u:Value} {x:AV} {φ:AV→Prop} (h:y7 op x φ) (hu:aS M L u x) :
 ∃ r z,(Op.unary op u).run P w=.ok r w∧aS M L r z∧φ z∧∀ own xs,z=.ap own xs→own=0:=by
 unfold y7 at h
 split at h
 ·cases hu;exact ⟨_,_,rfl,.bool _,h,by intro _ _ e;cases e⟩
 ·cases hu;exact ⟨_,_,rfl,.int _ _,h,by intro _ _ e;cases e⟩
 ·exact h.elim
theorem ig {cs:List Value} {b off:Nat} (hm:M.row b off cs) (gU:∀ b o v,M b o=some v→w.cell? ⟨b,o,none⟩=some v) :
 ∀ j v,cs[j]?=some v→w.cell? ((⟨b,off,none⟩:Addr).add j)=some v:=by
 intro j v hv
 rw [Addr.add_lit]
 exact gU _ _ _ (hm j v hv)
theorem eD {t:TypeId} {m:Nat} (h:It P t=some none):(isAgg t).run P w=.ok false w∧(P.info? t).map (·.size)=some 1:=by
 unfold It at h
 split at h <;> try cases h
 rename_i i d h1 h2 hi hd
 split at h
 ·rename_i h3
  refine ⟨?_,by simp [hi,h3]⟩
  simp only [isAgg,Sem.run_bind,run_underlying hd,Result.andThen_ok]
  cases d <;> first | rfl | (exact absurd rfl (h1 _)) | (exact absurd rfl (h2 _ _))
 ·cases h
theorem jB {t:TypeId} {m:Nat} (h:It P t=some (some m)):(isAgg t).run P w=.ok true w∧(sizeOf t).run P w=.ok m w:=by
 unfold It at h
 split at h <;> try cases h
 ·rename_i i f hi hd
  refine ⟨?_,?_⟩
  ·simp only [isAgg,Sem.run_bind,run_underlying hd,Result.andThen_ok];rfl
  ·simp [sizeOf,typeInfo,hi]
 ·rename_i i l e hi hd
  refine ⟨?_,?_⟩
  ·simp only [isAgg,Sem.run_bind,run_underlying hd,Result.andThen_ok];rfl
  ·simp [sizeOf,typeInfo,hi]
 ·split at h <;> cases h
end
end Go.aH
end
section
namespace Go.aH
open Go
section
variable {P:Program} {w:World} {M:Mem} {L:List Nat} {H:List aa} {A:Perm} {ev:Nat→Value} {ea:Nat→AV} {O:Pos→Option Nat}
theorem ft (hs:St A M L w H ev ea O) {id b:Nat} {es:List AV} (bk:H[id]?=some (.cells es)) (hL:L[id]?=some b) :
 ∃ cs e,w.heap[b]?=some (.cells cs e (0,0))∧aG M L cs.toList es∧∀ j v,cs.toList[j]?=some v→w.cell? ⟨b,j,none⟩=some v:=by
 obtain ⟨cs,e,h1,h2,_⟩:=hs.obj id _ b bk hL
 exact ⟨cs,e,h1,h2,fun j v hv=>by simpa [World.cell?,h1] using hv⟩
theorem dq {α:Type} (l:List α) (off m j:Nat) (v:α) (h:((l.drop off).take m)[j]?=some v):l[off + j]?=some v:=by
 rw [List.getElem?_take] at h
 split at h
 ·rwa [List.getElem?_drop] at h
 ·cases h
theorem rA {sz:Option Nat} {t:TypeId} (ht:It P t=some sz) {u:Value} {x:AV} {φ:AV→Prop} (hs:St A M L w H ev ea O) (h:aR sz x H φ) (hu:aS M L u x) :
 ∃ r z,(Instr.loadAt t u).run P w=.ok r w∧aS M L r z∧φ z∧∀ own xs,z=.ap own xs→own=0:=by
 unfold aR at h
 split at h
 ·rename_i id off
  cases hu with
  | ptr b _ _ hl=>
  split at h
  ·rename_i es bk
   obtain ⟨cs,e,h1,h2,h3⟩:=ft hs bk hl
   have hlen:=h2.length
   cases sz with
   | some m=>
     obtain ⟨hm,hφ⟩:=h
     obtain ⟨r1,r2⟩:=jB (w:=w) ht
     have iR:((cs.toList.drop off).take m).length=m:=by simp at hlen ⊢;omega
     have IK:=run_loadCells_list (P:=P) w ⟨b,off,none⟩ ((cs.toList.drop off).take m) (fun j v hv=>by rw [Addr.add_lit];exact h3 _ _ (dq _ _ _ _ _ hv))
     rw [iR] at IK
     refine ⟨.agg ((cs.toList.drop off).take m).toArray,.agg (((es.drop off).take m).map AV.drop),?_,?_,hφ,by intro _ _ e;cases e⟩
     ·simp only [Instr.loadAt,Instr.sureAddr,loadVar,Sem.run_bind,Sem.run_pure,Result.andThen_ok,r1,if_true,r2,IK]
     ·have:=aS.agg _ _ (((h2.drop off).take m).map_drop)
      simpa using this
   | none=>
     obtain ⟨hm,hφ⟩:=h
     obtain ⟨r1,r2⟩:=eD (w:=w) (m:=0) ht
     have mW:off < cs.toList.length:=by omega
     have hcell:=h3 off cs.toList[off] (by simp)
     have fF:=h2.getD off
     refine ⟨cs.toList[off],_,?_,?_,hφ,AV.bI _⟩
     ·simp only [Instr.loadAt,Instr.sureAddr,loadVar,Sem.run_bind,Sem.run_pure,Result.andThen_ok,r1,Bool.false_eq_true,if_false,run_load,hcell]
     ·have e0:cs.toList.getD off undef=cs.toList[off]:=by rw [List.getD_eq_getElem?_getD,List.getElem?_eq_getElem mW];rfl
      rw [e0] at fF
      exact fF.ab
  ·exact h.elim
 ·rename_i y
  cases hu with
  | ai b off cs _ hr hm=>
  have hcells:=ig hm hs.mem
  cases sz with
  | some m=>
    obtain ⟨L3,hφ⟩:=h
    obtain ⟨r1,r2⟩:=jB (w:=w) ht
    have iR:cs.length=m:=hr.length.trans L3
    have IK:=run_loadCells_list (P:=P) w ⟨b,off,none⟩ cs hcells
    rw [iR] at IK
    refine ⟨.agg cs.toArray,.agg y.cells,?_,.agg cs y.cells hr,hφ,by intro _ _ e;cases e⟩
    simp only [Instr.loadAt,Instr.sureAddr,loadVar,Sem.run_bind,Sem.run_pure,Result.andThen_ok,r1,if_true,r2,IK]
  | none=>
    obtain ⟨L3,hφ⟩:=h
    obtain ⟨r1,r2⟩:=eD (w:=w) (m:=0) ht
    have hy:y.cells=[y]:=by cases y <;> first | rfl | simp [AV.one] at L3
    rw [hy] at hr
    obtain ⟨v,rfl,hv⟩:=hr.Fh
    have hcell:=hcells 0 v (by simp)
    rw [Addr.add_lit,Nat.add_zero] at hcell
    refine ⟨v,_,?_,hv.ab,hφ,AV.bI _⟩
    simp only [Instr.loadAt,Instr.sureAddr,loadVar,Sem.run_bind,Sem.run_pure,Result.andThen_ok,r1,Bool.false_eq_true,if_false,run_load,hcell]
 ·exact h.elim
def rB (P:Program) (s:TypeId) (f:Nat):Option (Nat×Option Nat):=
 match P.underlying s with
 | some (.struct fields)=>match fields[f]? with
   | some fd=>match It P fd.type,dK P fd.type with
     | some sz,some k=>if k=0 then none else some (fd.offset,sz)
     | _,_=>none
   | none=>none
 | _=>none
theorem sN {s:TypeId} {f off:Nat} {sz:Option Nat} (h:rB P s f=some (off,sz)) :
 ∃ fields fd k,P.underlying s=some (.struct fields)∧fields[f]?=some fd∧fd.offset=off∧It P fd.type=some sz∧(P.info? fd.type).map (·.size)=some k∧k≠0:=by
 unfold rB at h
 split at h <;> try cases h
 rename_i fields hu
 split at h <;> try cases h
 rename_i fd hf
 split at h <;> try cases h
 rename_i sz' k hs hk
 split at h <;> cases h
 rename_i Lw
 exact ⟨fields,fd,k,hu,hf,rfl,hs,hk,Lw⟩
theorem uG {s:TypeId} {f off:Nat} {sz:Option Nat} (ht:rB P s f=some (off,sz)) {u:Value} {x:AV} {φ:AV→Prop} (h:ak off sz x φ) (hu:aS M L u x) :
 ∃ r z,(Instr.fieldAt s u f).run P w=.ok r w∧aS M L r z∧φ z∧∀ own xs,z=.ap own xs→own=0:=by
 obtain ⟨fields,fd,k,IM,hf,rfl,hs,hk,Lw⟩:=sN ht
 have bE:∀ b o,(Instr.fieldAt s (.pointer (some ⟨b,o,none⟩)) f).run P w=.ok (.pointer (some ⟨b,o + fd.offset,none⟩)) w:=by
  intro b o
  obtain ⟨i,hi,L4⟩:=Option.map_eq_some_iff.1 hk
  have df:(sizeOf fd.type).run P w=.ok k w:=by simp [sizeOf,typeInfo,hi,L4]
  simp only [Instr.fieldAt,Instr.sureAddr,Sem.run_bind,run_underlying IM,Result.andThen_ok,hf,Sem.run_pure,fieldPlace,df,Lw,if_false,Addr.add_lit]
 unfold ak at h
 split at h
 ·rename_i id o
  cases hu with
  | ptr b _ _ hl=>exact ⟨_,_,bE b o,.ptr b (o + fd.offset) id hl,h,by intro _ _ e;cases e⟩
 ·rename_i y
  cases hu with
  | ai b o cs _ hr hm=>
  refine ⟨.pointer (some ⟨b,o + fd.offset,none⟩),?_⟩
  unfold apart at h
  cases sz with
  | some m=>
    obtain ⟨hle,hφ⟩:=h
    refine ⟨_,bE b o,.ai b (o + fd.offset) ((cs.drop fd.offset).take m) _ (by simpa [AV.cells] using (hr.drop fd.offset).take m) ?_,hφ,by intro _ _ e;cases e⟩
    intro j v hv
    have:=hm _ _ (dq _ _ _ _ _ hv)
    rwa [← Nat.add_assoc] at this
  | none=>
    obtain ⟨hle,h1,hφ⟩:=h
    have hl:=hr.length
    have mW:fd.offset < cs.length:=by omega
    have hx:∃ z,y.cells[fd.offset]?=some z:=⟨_,List.getElem?_eq_getElem hle⟩
    obtain ⟨z,hz⟩:=hx
    obtain ⟨v,hv,fF⟩:=hr.get _ z hz
    have e0:y.cells.getD fd.offset .any=z:=by rw [List.getD_eq_getElem?_getD,hz];rfl
    rw [e0] at hφ h1
    have hag:z.cells=[z]:=by cases z <;> first | rfl | simp [AV.one] at h1
    refine ⟨_,bE b o,.ai b (o + fd.offset) [v] z (by rw [hag];exact .one fF) ?_,hφ,by intro _ _ e;cases e⟩
    intro j u' Gz
    cases j with
    | zero=>simp at Gz;subst Gz;simpa using hm _ _ hv
    | succ j=>simp at Gz
 ·exact h.elim
theorem DC {s:TypeId} {f off:Nat} {sz:Option Nat} (ht:rB P s f=some (off,sz)) {u:Value} {x:AV} {φ:AV→Prop} (h:eY off sz x φ) (hu:aS M L u x) :
 ∃ r z,(Instr.field s u f).run P w=.ok r w∧aS M L r z∧φ z∧∀ own xs,z=.ap own xs→own=0:=by
 obtain ⟨fields,fd,k,IM,hf,rfl,hs,hk,Lw⟩:=sN ht
 unfold eY at h
 split at h
 ·rename_i xs
  cases hu with
  | agg cs _ hr=>
  unfold apart at h
  cases sz with
  | some m=>
    obtain ⟨hle,hφ⟩:=h
    obtain ⟨r1,r2⟩:=jB (w:=w) hs
    refine ⟨.agg ((cs.drop fd.offset).take m).toArray,_,?_,(aS.agg _ _ ((hr.drop fd.offset).take m)).drop,hφ,AV.jq _⟩
    simp only [Instr.field,Sem.run_bind,run_underlying IM,Result.andThen_ok,hf,part,r1,if_true,asAgg,Sem.run_pure,r2]
    congr 2
    apply Array.ext'
    simp []
  | none=>
    obtain ⟨hle,h1,hφ⟩:=h
    obtain ⟨r1,r2⟩:=eD (w:=w) (m:=0) hs
    have mW:fd.offset < cs.length:=by have:=hr.length;omega
    have fF:=hr.getD fd.offset
    have e0:cs.getD fd.offset undef=cs[fd.offset]:=by rw [List.getD_eq_getElem?_getD,List.getElem?_eq_getElem mW];rfl
    rw [e0] at fF
    refine ⟨cs[fd.offset],_,?_,fF.drop,hφ,AV.jq _⟩
    simp [Instr.field,run_underlying IM,hf,part,r1,asAgg,mW]
 ·exact h.elim
theorem flat_get:∀ (xs:List AV) (e:Nat),(∀ x∈xs,x.cells.length=e)→∀ i j x,xs[i]?=some x→j < e→(flat xs)[i * e + j]?=x.cells[j]?
 | [],e,_,i,j,x,h,_=>by simp at h
 | y::ys,e,hx,0,j,x,h,hj=>by
   simp at h;subst h
   have:=hx y (by simp)
   simp only [flat,List.flatMap_cons,Nat.zero_mul,Nat.zero_add]
   rw [List.getElem?_append_left (by omega)]
 | y::ys,e,hx,i + 1,j,x,h,hj=>by
   have hy:=hx y (by simp)
   have ih:=flat_get ys e (fun x h=>hx x (by simp [h])) i j x (by simpa using h) hj
   simp only [flat,List.flatMap_cons]
   rw [List.getElem?_append_right (by rw [hy,Nat.add_mul];omega),hy,show (i + 1) * e + j - e=i * e + j by rw [Nat.add_mul];omega]
   exact ih
theorem IN {b off e:Nat} {cs:List Value} {xs:List AV} (hx:∀ x∈xs,x.cells.length=e) (hr:aG M L cs (flat xs)) (hm:M.row b off cs) {i:Nat} {x:AV} (hi:xs[i]?=some x) :
 aS M L (.pointer (some ⟨b,off + i * e,none⟩)) (.ai x):=by
 have hlen:=hx x (List.mem_of_getElem? hi)
 refine .ai b (off + i * e) ((cs.drop (i * e)).take e) x ?_ ?_
 ·have h2:=(hr.drop (i * e)).take e
  have:((flat xs).drop (i * e)).take e=x.cells:=by
   apply List.ext_getElem?
   intro j
   rw [List.getElem?_take]
   split
   ·rename_i hj
    rw [List.getElem?_drop,flat_get xs e hx i j x hi hj]
   ·rename_i hj
    rw [List.getElem?_eq_none (by omega)]
  rwa [this] at h2
 ·intro j v hv
  have:=hm _ _ (dq _ _ _ _ _ hv)
  rwa [← Nat.add_assoc] at this
theorem uH {t e esz:Nat} (ht:P.underlying t=some (.slice e)) (hz:dK P e=some esz) {u v:Value} {x y:AV} {φ:AV→Prop} (h:ay esz x y φ)
 (Qu:∀ own xs,x=.ap own xs→∀ z∈xs,z.cells.length=esz) (hu:aS M L u x) (hv:aS M L v y) :
 ∃ r z,(Instr.indexAt t u v).run P w=.ok r w∧aS M L r z∧φ z∧∀ own xs,z=.ap own xs→own=0:=by
 have df:(sizeOf e).run P w=.ok esz w:=by
  obtain ⟨i,hi,L4⟩:=Option.map_eq_some_iff.1 hz
  simp [sizeOf,typeInfo,hi,L4]
 have bE:∀ (b o len cap:Nat) (k:IntKind) (i:Int),0≤i→i.toNat < len→(Instr.indexAt t (.slice (some ⟨b,o,none⟩) len cap) (.int k i)).run P w=.ok (.pointer (some ⟨b,o + i.toNat * esz,none⟩)) w:=by
  intro b o len cap k i h0 h1
  have hc:0≤i∧i < (len:Int):=⟨h0,by omega⟩
  simp only [Instr.indexAt,asIntOf,Sem.run_bind,Sem.run_pure,Result.andThen_ok,run_underlying ht,hc,and_self,if_true,df,Addr.add_lit]
 unfold ay at h
 split at h
 ·rename_i own xs k i
  obtain ⟨h0,h1,hφ⟩:=h
  cases hv
  have hi:xs[i.toNat]?=some (xs.getD i.toNat .any):=by rw [List.getD_eq_getElem?_getD,List.getElem?_eq_getElem h1];rfl
  cases hu with
  | gF=>simp at h1
  | ap b off c _ e' cs _ he hx hn hle hc hr hm=>
    have e0:e'=esz:=by
     have h2:=hx _ (List.mem_of_getElem? hi)
     have h3:=Qu own xs rfl _ (List.mem_of_getElem? hi)
     omega
    subst e0
    exact ⟨_,_,bE b off _ c _ i h0 h1,IN hx hr hm hi,hφ,by intro _ _ e;cases e⟩
 ·rename_i id off len cap k i
  obtain ⟨h0,h1,hφ⟩:=h
  cases hv
  cases hu with
  | a8 b _ _ _ _ hl hc=>exact ⟨_,_,bE b off len cap _ i h0 h1,.ptr b _ id hl,hφ,by intro _ _ e;cases e⟩
 ·exact h.elim
theorem wU {t e:TypeId} {n:Nat} (ht:P.underlying t=some (.array n e)) (he:It P e=some none) {u v:Value} {x y:AV} {φ:AV→Prop} (h:bP n x y φ) (hu:aS M L u x) (hv:aS M L v y) :
 ∃ r z,(Instr.index t u v).run P w=.ok r w∧aS M L r z∧φ z∧∀ own xs,z=.ap own xs→own=0:=by
 unfold bP at h
 split at h
 ·rename_i xs k i
  obtain ⟨hn,h0,h1,hφ⟩:=h
  cases hv
  cases hu with
  | agg cs _ hr=>
  obtain ⟨r1,r2⟩:=eD (w:=w) (m:=1) he
  have A4:i.toNat < cs.length:=by have:=hr.length;omega
  have fF:=hr.getD i.toNat
  have e0:cs.getD i.toNat undef=cs[i.toNat]:=by rw [List.getD_eq_getElem?_getD,List.getElem?_eq_getElem A4];rfl
  rw [e0] at fF
  refine ⟨cs[i.toNat],_,?_,fF.drop,hφ,AV.jq _⟩
  have aX:i < (n:Int):=by omega
  obtain ⟨inf,iT,df⟩:=Option.map_eq_some_iff.1 r2
  have rz:(sizeOf e).run P w=.ok 1 w:=by simp [sizeOf,typeInfo,iT,df]
  simp [Instr.index,asIntOf,run_underlying ht,h0,aX,part,r1,rz,A4]
 ·exact h.elim
theorem wV {t:TypeId} (ht:P.underlying t=some .string) {u v:Value} {x y:AV} {φ:AV→Prop} (h:bH x y φ) (hu:aS M L u x) (hv:aS M L v y) :
 ∃ r z,(Instr.index t u v).run P w=.ok r w∧aS M L r z∧φ z∧∀ own xs,z=.ap own xs→own=0:=by
 unfold bH at h
 split at h
 ·rename_i s k i
  obtain ⟨h0,h1,hφ⟩:=h
  cases hu;cases hv
  have e1:s[i.toNat]?=some s[i.toNat]:=by simp [h1]
  have e2:s.data.toList.getD i.toNat 0=s[i.toNat]:=by
   have:i.toNat < s.data.size:=h1
   rw [List.getD_eq_getElem?_getD,Array.getElem?_toList,Array.getElem?_eq_getElem this];rfl
  rw [e2] at hφ
  refine ⟨_,_,?_,.int _ _,hφ,by intro _ _ e;cases e⟩
  simp only [Instr.index,asIntOf,Sem.run_bind,Sem.run_pure,Result.andThen_ok,run_underlying ht,h0,if_true,e1]
 ·exact h.elim
def iU (d:TypeDesc) (x:AV):Bool:=
 match d,x with
 | .string,.str _=>true
 | .slice _,.ah=>true
 | .slice _,.ap _ _=>true
 | .slice _,.a8 _ _ _ _=>true
 | .slice _,.oN=>true
 | .map _ _,.iS=>true
 | .map _ _,.map _=>true
 | _,_=>false
theorem IP {t:TypeId} {d:TypeDesc} (ht:P.underlying t=some d) {u:Value} {x:AV} {φ:AV→Prop} (hs:St A M L w H ev ea O)
 (hk:iU d x=true)
 (h:fq x H φ) (hu:aS M L u x) (ty:TypeId) :
 ∃ r z,(Builtin.len_ #[t] ty #[u]).run P w=.ok r w∧aS M L r z∧φ z∧∀ own xs,z=.ap own xs→own=0:=by
 unfold fq at h
 split at h
 ·cases hu
  cases d <;> simp [iU] at hk
  exact ⟨_,_,by simp [Builtin.len_,run_underlying ht,goInt],.int _ _,h,by intro _ _ e;cases e⟩
 ·cases hu
  cases d <;> simp [iU] at hk
  exact ⟨_,_,by simp [Builtin.len_,run_underlying ht,goInt],.int _ _,h,by intro _ _ e;cases e⟩
 ·rename_i own xs
  cases d <;> simp [iU] at hk
  cases hu with
  | gF a c _ hc=>exact ⟨_,_,by simp [Builtin.len_,run_underlying ht,goInt],.int _ _,h (by decide),by intro _ _ e;cases e⟩
  | ap b off c _ e' cs _ he hx hn hle hc hr hm=>exact ⟨_,_,by simp [Builtin.len_,run_underlying ht,goInt],.int _ _,h (by omega),by intro _ _ e;cases e⟩
 ·cases d <;> simp [iU] at hk
  cases hu with
  | a8 b off len cap id hl hc=>exact ⟨_,_,by simp [Builtin.len_,run_underlying ht,goInt],.int _ _,h,by intro _ _ e;cases e⟩
 ·cases d <;> simp [iU] at hk
  cases hu with
  | oN a=>exact ⟨_,_,by simp [Builtin.len_,run_underlying ht,goInt],.int _ _,h,by intro _ _ e;cases e⟩
 ·cases d <;> simp [iU] at hk
  cases hu
  exact ⟨_,_,by simp [Builtin.len_,run_underlying ht,goInt],.int _ _,h,by intro _ _ e;cases e⟩
 ·rename_i id
  cases d <;> simp [iU] at hk
  cases hu with
  | map b _ hl=>
  split at h
  ·rename_i es bk
   obtain ⟨ents,ck,h1,h2,h3⟩:=hs.obj id _ b bk hl
   have hlen:ents.size=es.length:=by have:=h2.length;simpa using this
   refine ⟨_,_,?_,.int _ _,h,by intro _ _ e;cases e⟩
   simp [Builtin.len_,run_underlying ht,goInt,getObj,Sem.run,h1,hlen]
  ·exact h.elim
 ·exact h.elim
theorem y8 {i:Nat} {u:Value} {x:AV} {φ:AV→Prop} (h:bB x i φ) (hu:aS M L u x) :
 ∃ r z,(Instr.extract u i).run P w=.ok r w∧aS M L r z∧φ z∧∀ own xs,z=.ap own xs→own=0:=by
 unfold bB at h
 split at h
 ·rename_i xs
  obtain ⟨hi,hφ⟩:=h
  cases hu with
  | tuple cs _ hr=>
  have hl:=hr.length
  have fF:=hr.getD i
  have e0:cs.getD i undef=cs[i]:=by rw [List.getD_eq_getElem?_getD,List.getElem?_eq_getElem (by omega)];rfl
  rw [e0] at fF
  exact ⟨_,_,by simp [Instr.extract,show i < cs.length by omega],fF.ab,hφ,AV.bI _⟩
 ·exact h.elim
theorem wW {o:Oper} {X:Operand} {ρ:Operand→Value} (ho:o.op=.nilCheck X) {x:AV} {φ:AV→Prop} (h:bQ x φ) (hu:aS M L (ρ X) x) :
 ∃ r z,(execOp ρ o).run P w=.ok (.value r) w∧aS M L r z∧φ z∧∀ own xs,z=.ap own xs→own=0:=by
 unfold bQ at h
 simp only [execOp,ho]
 generalize hρ:ρ X=u at hu
 split at h
 ·cases hu;exact ⟨_,_,rfl,.ptr _ _ _ (by assumption),h,by intro _ _ e;cases e⟩
 ·cases hu;exact ⟨_,_,rfl,.ai _ _ _ _ (by assumption) (by assumption),h,by intro _ _ e;cases e⟩
 ·cases hu;exact ⟨_,_,rfl,.fn _ _ _ _ _ (by assumption) (by assumption),h,by intro _ _ e;cases e⟩
 ·exact h.elim
theorem y9 {src dst:TypeId} {d:TypeDesc} {k:IntKind} (hs:P.underlying src=some d) (hd:P.underlying dst=some (.int k)) {u:Value} {x:AV} {φ:AV→Prop} (h:cA k x φ) (hu:aS M L u x) :
 ∃ r z,(convert src dst u).run P w=.ok r w∧aS M L r z∧φ z∧∀ own xs,z=.ap own xs→own=0:=by
 unfold cA at h
 split at h
 ·rename_i k' n'
  cases hu
  refine ⟨_,_,?_,.int _ _,h,by intro _ _ e;cases e⟩
  simp [convert,run_underlying hs,run_underlying hd,Conv.intToInt]
 ·exact h.elim
theorem Fl {big:Bool} {u v:Value} {x y:AV} {φ:AV→Prop} (h:wT big x y φ) (hu:aS M L u x) (hv:aS M L v y) (ts:Array TypeId) (ty:TypeId) :
 ∃ r z,(if big then Builtin.max_ ts ty #[u,v] else Builtin.min_ ts ty #[u,v]).run P w=.ok r w∧aS M L r z∧φ z∧∀ own xs,z=.ap own xs→own=0:=by
 unfold wT at h
 split at h
 ·cases hu;cases hv
  cases big
  ·exact ⟨_,_,rfl,.int _ _,h,by intro _ _ e;cases e⟩
  ·exact ⟨_,_,rfl,.int _ _,h,by intro _ _ e;cases e⟩
 ·exact h.elim
end
end Go.aH
end
section
namespace Go.aH
open Go
def cu (zero:List AV) (parts:List (Nat×Nat×AV)) (φ:AV→Prop):Prop:=gI zero parts fun xs=>φ (.agg xs)
def bi (xs:List AV) (esz:Nat):List (Nat×AV)→(List AV→Prop)→Prop
 | [],φ=>φ xs
 | (i,x)::r,φ=>x.val=true∧x.cells.length=esz∧i < xs.length∧bi (xs.set i (aM x)) esz r φ
where aM:AV→AV
 | .agg ys=>.agg (ys.map AV.drop)
 | x=>x.drop
abbrev aM:=bi.aM
section
variable {M:Mem} {L:List Nat}
theorem aS.aM {v:Value} {x:AV} (h:aS M L v x):aS M L v (aM x):=by
 cases x <;> first | exact h.drop | skip
 cases h with
 | agg cs _ hr=>exact .agg cs _ hr.map_drop
theorem eZ (x:AV):(aM x).cells.length=x.cells.length:=by
 cases x <;> simp [bi.aM,AV.cells,AV.drop]
theorem rC {x:AV} (h:x.val=true):(aM x).val=true:=by
 cases x <;> simp_all [bi.aM,AV.val,AV.drop]
theorem DD (x:AV):∀ own xs,aM x=.ap own xs→own=0:=by
 intro own xs h
 cases x <;> simp_all [bi.aM,AV.drop]
end
section
variable {P:Program} {w:World} {M:Mem} {L:List Nat} {H:List aa} {A:Perm} {ev:Nat→Value} {ea:Nat→AV} {O:Pos→Option Nat}
theorem GA (hs:St A M L w H ev ea O) (e:TypeId) {u:Value} {x:AV} (hu:aS M L u x) (hv:x.val=true) :
 ∃ r M' w',(Instr.box e u).run P w=.ok r w'∧aS M' L r (.ai x)∧St A M' L w' H ev ea O∧Ext A M w M' w':=by
 obtain ⟨h1,h2,h3⟩:=hs.Dz u.cells e
 exact ⟨_,_,_,rfl,.ai _ _ _ _ ((hu.fV hv).mono h2.kR (List.prefix_refl _)) h3,h1,h2⟩
theorem Bf (hs:St A M L w H ev ea O) (e:TypeId) {u:Value} {x:AV} (hu:aS M L u x) (hv:x.val=true) (hb:aj (H.length + 1) (x.cells.map AV.ab)=true) :
 ∃ r L' w',(Instr.box e u).run P w=.ok r w'∧aS M L' r (.ptr H.length 0)∧St A M L' w' (H++[.cells (x.cells.map AV.ab)]) ev ea O∧Ext A M w M w'∧L <+: L':=by
 obtain ⟨h1,h2⟩:=hs.rv (.cells u.cells e) (.cells (x.cells.map AV.ab)) (fun w' hw hM=>⟨u.cells,e,hw,((hu.fV hv).dc).mono (Mem.bM M) ⟨_,rfl⟩,hM⟩) hb (fun j=>by
  simp only [nl]
  refine bf.free ?_
  intro own xs h
  rw [List.getD_eq_getElem?_getD,List.getElem?_map] at h
  cases hx:x.cells[j]? with
  | none=>simp [hx] at h
  | some y=>simp [hx] at h;exact AV.bI y own xs h)
 refine ⟨_,_,_,rfl,.ptr _ _ _ ?_,h1,h2,⟨_,rfl⟩⟩
 rw [List.getElem?_append_right (by rw [hs.len];exact Nat.le_refl _),hs.len];simp
theorem DE (hs:St A M L w H ev ea O) {e:TypeId} {z:AV} (hz:fH P e=some z) (hv:z.val=true) (hb:aj (H.length + 1) (z.cells.map AV.ab)=true) :
 ∃ r L' w',(Instr.alloc e true (.tuple #[])).run P w=.ok r w'∧aS M L' r (.ptr H.length 0)∧St A M L' w' (H++[.cells (z.cells.map AV.ab)]) ev ea O∧Ext A M w M w'∧L <+: L':=by
 unfold fH at hz
 split at hz
 ·rename_i i hi
  split at hz
  ·rename_i v sO
   obtain ⟨r,L',w',h1,h2⟩:=Bf (P:=P) hs e (cI hz) hv hb
   refine ⟨r,L',w',?_,h2⟩
   rw [← h1]
   simp only [Instr.alloc,Instr.box,zeroValue,typeInfo,Sem.run_bind,run_program,Result.andThen_ok,hi,Sem.run_pure,sO]
  ·cases hz
 ·cases hz
theorem uI (vs:List Value):∀ (off k:Nat) (cs:Array Value),off + k + vs.length≤cs.size→
 ((vs.zipIdx k).foldl (fun cs (x:Value×Nat)=>cs.setIfInBounds (off + x.2) x.1) cs).toList=ag cs.toList (off + k) vs:=by
 induction vs with
 | nil=>intro off k cs h;simp [ag]
 | cons v vs ih=>
   intro off k cs h
   simp only [List.zipIdx_cons,List.foldl_cons]
   rw [ih off (k + 1) _ (by simp at h ⊢;omega)]
   simp only [Array.toList_setIfInBounds,ag]
   simp only [List.length_cons] at h
   apply List.ext_getElem?
   intro j
   simp only [List.getElem?_append,List.getElem?_take,List.length_take,List.length_set,Array.length_toList,List.getElem?_drop,List.length_cons]
   by_cases h1:j < off + k
   ·have:j < min (off + k) cs.size:=by omega
    have:j < min (off + (k + 1)) cs.size:=by omega
    simp only [*,if_true]
    rw [if_pos (by omega),List.getElem?_set_ne (by omega)]
   ·by_cases h2:j=off + k
    ·subst h2
     have:off + k < min (off + (k + 1)) cs.size:=by omega
     simp only [this,if_true]
     rw [if_pos (by omega),List.getElem?_set_self (by simp;omega),if_neg (by omega)]
     rw [show off + k - min (off + k) cs.size=0 by omega]
     simp
    ·have n1:¬ j < min (off + (k + 1)) cs.size:=by omega
     have n2:¬ j < min (off + k) cs.size:=by omega
     simp only [n1,n2,if_false]
     rw [show j - min (off + k) cs.size=(j - min (off + (k + 1)) cs.size) + 1 by omega]
     simp only [Nat.add_lt_add_iff_right,List.getElem?_cons_succ]
     split
     ·rfl
     ·rw [List.getElem?_set_ne (by omega)]
      congr 1
      omega
theorem xF {place:Nat→Option (Nat×Nat)}:∀ (parts:List (Nat×Nat×AV)) (vs:List (Nat×Value)) {cs:Array Value} {zs:List AV} {φ:List AV→Prop},
 (∀ (j:Nat) (p:Nat×Nat×AV),parts[j]?=some p→∃ i v,vs[j]?=some (i,v)∧place i=some (p.1,p.2.1)∧aS M L v p.2.2)→vs.length=parts.length→aG M L cs.toList zs→gI zs parts φ→
 ∃ cs' zs',Instr.fill place cs vs=some cs'∧aG M L cs'.toList zs'∧φ zs'
 | [],[],cs,zs,φ,_,_,hr,h=>⟨cs,zs,rfl,hr,h⟩
 | [],_::_,_,_,_,_,hl,_,_=>by simp at hl
 | _::_,[],_,_,_,_,hl,_,_=>by simp at hl
 | (off,sz,x)::r,(i,v)::vs,cs,zs,φ,H,hl,hr,h=>by
   obtain ⟨hv,df,hle,h⟩:=h
   obtain ⟨i',v',e1,e2,e3⟩:=H 0 _ rfl
   simp at e1
   obtain ⟨rfl,rfl⟩:=e1
   have hlen:=hr.length
   have hc:=e3.fV hv
   have iR:v.cells.size=sz:=by have:=hc.length;simp at this;rw [this];exact df
   have mV:aG M L (v.cells.zipIdx.foldl (fun cs (x:Value×Nat)=>cs.setIfInBounds (off + x.2) x.1) cs).toList (ag zs off (x.cells.map AV.ab)):=by
    have h0:=uI v.cells.toList off 0 cs (by simp at hlen ⊢;omega)
    have h1:v.cells.zipIdx.foldl (fun cs (x:Value×Nat)=>cs.setIfInBounds (off + x.2) x.1) cs=(v.cells.toList.zipIdx 0).foldl (fun cs (x:Value×Nat)=>cs.setIfInBounds (off + x.2) x.1) cs:=by
     rw [← Array.foldl_toList,Array.toList_zipIdx]
    rw [h1,h0]
    exact hc.dc.y0 off hr
   obtain ⟨cs',zs',f1,f2,f3⟩:=xF r vs (fun j p hp=>by
    obtain ⟨i,v,a1,a2⟩:=H (j + 1) p (by simpa using hp)
    exact ⟨i,v,by simpa using a1,a2⟩) (by simpa using hl) mV h
   refine ⟨cs',zs',?_,f2,f3⟩
   unfold Instr.fill
   simp only [e2]
   have Ub:off + v.cells.size≤cs.size:=by simp at hlen;omega
   simp only [iR,ne_eq,not_true_eq_false,decide_false,Bool.false_or]
   rw [if_neg (by simp;omega)]
   exact f1
def DF (P:Program) (t:TypeId):Option (AV×List (Nat×Nat)):=
 match P.info? t,P.underlying t,fH P t with
 | some _,some (.struct fields),some z=>match fields.toList.mapM (fun f=>(P.info? f.type).map fun i=>(f.offset,i.size)) with
   | some places=>some (z,places)
   | none=>none
 | some _,some (.array n e),some z=>match P.info? e with
   | some ie=>some (z,(List.range n).map fun i=>(i * ie.size,ie.size))
   | none=>none
 | _,_,_=>none
def fw (places:List (Nat×Nat)):List (Nat×Operand)→Option (List (Nat×Nat×IX))
 | []=>some []
 | (i,x)::r=>match places[i]?,aQ x,fw places r with
   | some (off,sz),some ix,some rest=>some ((off,sz,ix)::rest)
   | _,_,_=>none
theorem nz {n:Nat} {env:Env} {a:Act} (hf:Fr A n M L w H env O a) {places:List (Nat×Nat)} {place:Nat→Option (Nat×Nat)} (hp:∀ i q,places[i]?=some q→place i=some q) :
 ∀ (parts:List (Nat×Operand)) (ps:List (Nat×Nat×IX)),fw places parts=some ps→
  ∀ (j:Nat) (p:Nat×Nat×AV),(ps.map fun q=>(q.1,q.2.1,al env q.2.2))[j]?=some p→∃ i v,(parts.map fun q=>(q.1,a.eval q.2))[j]?=some (i,v)∧place i=some (p.1,p.2.1)∧aS M L v p.2.2
 | [],ps,h,j,p,hj=>by simp [fw] at h;subst h;simp at hj
 | (i,x)::r,ps,h,j,p,hj=>by
   unfold fw at h
   split at h
   ·rename_i off sz ix rest h1 h2 h3
    cases h
    cases j with
    | zero=>
      simp at hj;subst hj
      exact ⟨i,a.eval x,by simp,hp _ _ h1,hf.eval h2⟩
    | succ j=>
      obtain ⟨i',v',a1,a2⟩:=nz hf hp r rest h3 j p (by simpa using hj)
      exact ⟨i',v',by simpa using a1,a2⟩
   ·cases h
theorem kT {places:List (Nat×Nat)}:∀ (parts:List (Nat×Operand)) (ps:List (Nat×Nat×IX)),fw places parts=some ps→ps.length=parts.length
 | [],ps,h=>by simp [fw] at h;subst h;rfl
 | (i,x)::r,ps,h=>by
   unfold fw at h
   split at h
   ·rename_i off sz ix rest h1 h2 h3
    cases h
    simp [kT r rest h3]
   ·cases h
theorem DG {n:Nat} {env:Env} {a:Act} (hf:Fr A n M L w H env O a) {t:TypeId} {z:AV} {places:List (Nat×Nat)} (ht:DF P t=some (z,places)) {parts:Array (Nat×Operand)} {ps:List (Nat×Nat×IX)}
 (hc:fw places parts.toList=some ps) {φ:AV→Prop} (h:cu z.cells (ps.map fun q=>(q.1,q.2.1,al env q.2.2)) φ) (sO:z.val=true) :
 ∃ r x,(Instr.build t (parts.map fun (i,x)=>(i,a.eval x))).run P w=.ok r w∧aS M L r x∧φ x∧∀ own xs,x=.ap own xs→own=0:=by
 have hparts:(parts.map fun (i,x)=>(i,a.eval x)).toList=parts.toList.map fun q=>(q.1,a.eval q.2):=by simp
 have key:∀ (place:Nat→Option (Nat×Nat)) (v:Value),(∀ i q,places[i]?=some q→place i=some q)→ofValue v=some z→
  ∃ cs' x,Instr.fill place v.cells (parts.toList.map fun q=>(q.1,a.eval q.2))=some cs'∧aS M L (.agg cs') x∧φ x∧∀ own xs,x=.ap own xs→own=0:=by
  intro place v hp hv
  obtain ⟨cs',zs',f1,f2,f3⟩:=xF (M:=M) (L:=L) (place:=place) _ (parts.toList.map fun q=>(q.1,a.eval q.2)) (nz hf hp _ _ hc) (by simp [kT _ _ hc]) ((cI hv).fV sO) h
  exact ⟨cs',_,f1,by simpa using aS.agg cs'.toList zs' f2,f3,by intro _ _ e;cases e⟩
 unfold DF at ht
 split at ht
 ·rename_i it fields z' hi hu hz
  split at ht
  ·rename_i pl wN
   cases ht
   unfold fH at hz
   simp only [hi] at hz
   split at hz
   ·rename_i v hv
    obtain ⟨cs',x,f1,f2,f3,f4⟩:=key (places.toArray[·]?) v (fun i q h=>by simpa using h) hz
    refine ⟨_,x,run_build w t _ cs' ?_,f2,f3,f4⟩
    rw [hparts]
    unfold Program.built
    simp only [hi,hu,hv,wN]
    exact f1
   ·cases hz
  ·cases ht
 ·rename_i it m e z' hi hu hz
  split at ht
  ·rename_i ie IQ
   cases ht
   unfold fH at hz
   simp only [hi] at hz
   split at hz
   ·rename_i v hv
    obtain ⟨cs',x,f1,f2,f3,f4⟩:=key (fun i=>some (i * ie.size,ie.size)) v (fun i q h=>by
     rw [List.getElem?_map] at h
     obtain ⟨k,hk,rfl⟩:=Option.map_eq_some_iff.1 h
     rw [List.getElem?_range (by rcases Nat.lt_or_ge i m with h' | h';exact h';rw [List.getElem?_eq_none (by simpa using h')] at hk;cases hk)] at hk
     cases hk;rfl) hz
    refine ⟨_,x,run_build w t _ cs' ?_,f2,f3,f4⟩
    rw [hparts]
    unfold Program.built
    simp only [hi,hu,hv,IQ]
    exact f1
   ·cases hz
  ·cases ht
 ·cases ht
theorem Bg:∀ (xs:List AV) (e i:Nat) (x:AV),(∀ y∈xs,y.cells.length=e)→x.cells.length=e→i < xs.length→flat (xs.set i x)=ag (flat xs) (i * e) x.cells
 | [],_,_,_,_,_,h=>by simp at h
 | y::ys,e,0,x,hx,hc,_=>by
   have:=hx y (by simp)
   simp [flat,ag,hc,this]
 | y::ys,e,i + 1,x,hx,hc,h=>by
   have hy:=hx y (by simp)
   have ih:=Bg ys e i x (fun z hz=>hx z (by simp [hz])) hc (by simpa using h)
   simp only [flat] at ih
   simp only [List.set_cons_succ,flat,List.flatMap_cons,ih,ag]
   rw [List.take_append,List.take_of_length_le (l:=y.cells) (by rw [hy,Nat.add_mul];omega),List.drop_append,List.drop_eq_nil_of_le (as:=y.cells) (by rw [hy,Nat.add_mul];omega),hy]
   simp only [List.nil_append,List.append_assoc]
   rw [show (i + 1) * e - e=i * e by rw [Nat.add_mul];omega,show (i + 1) * e + x.cells.length - e=i * e + x.cells.length by rw [Nat.add_mul];omega]
theorem cJ:∀ (xs:List AV) (e:Nat),(∀ y∈xs,y.cells.length=e)→(flat xs).length=xs.length * e
 | [],e,_=>by simp [flat]
 | y::ys,e,hx=>by
   have hy:=hx y (by simp)
   have ih:=cJ ys e (fun z hz=>hx z (by simp [hz]))
   simp only [flat] at ih
   simp only [flat,List.flatMap_cons,List.length_append,hy,ih,List.length_cons,Nat.add_mul,Nat.one_mul]
   omega
theorem Bh {place:Nat→Option (Nat×Nat)} {i off:Nat} {v:Value} {vs:List (Nat×Value)} {cs:Array Value} (hp:place i=some (off,v.cells.size)) (hle:off + v.cells.size≤cs.size) :
 Instr.fill place cs ((i,v)::vs)=Instr.fill place (ag cs.toList off v.cells.toList).toArray vs:=by
 have h0:=uI v.cells.toList off 0 cs (by simpa using hle)
 have h1:v.cells.zipIdx.foldl (fun cs (x:Value×Nat)=>cs.setIfInBounds (off + x.2) x.1) cs=(v.cells.toList.zipIdx 0).foldl (fun cs (x:Value×Nat)=>cs.setIfInBounds (off + x.2) x.1) cs:=by
  rw [← Array.foldl_toList,Array.toList_zipIdx]
 rw [← h1] at h0
 conv=>lhs;unfold Instr.fill
 simp only [hp,ne_eq,not_true_eq_false,decide_false,Bool.false_or]
 rw [if_neg (by simp;omega)]
 congr 1
 apply Array.ext'
 simpa using h0
theorem nA (e:Nat):∀ (parts:List (Nat×AV)) (vs:List (Nat×Value)) {cs:Array Value} {xs:List AV} {φ:List AV→Prop},
 (∀ (j:Nat) (p:Nat×AV),parts[j]?=some p→∃ v,vs[j]?=some (p.1,v)∧aS M L v p.2)→vs.length=parts.length→aG M L cs.toList (flat xs)→(∀ y∈xs,y.cells.length=e)→bi xs e parts φ→
 ∃ cs' xs',Instr.fill (fun i=>some (i * e,e)) cs vs=some cs'∧aG M L cs'.toList (flat xs')∧(∀ y∈xs',y.cells.length=e)∧xs'.length=xs.length∧φ xs'
 | [],[],cs,xs,φ,_,_,hr,hx,h=>⟨cs,xs,rfl,hr,hx,rfl,h⟩
 | [],_::_,_,_,_,_,hl,_,_,_=>by simp at hl
 | _::_,[],_,_,_,_,hl,_,_,_=>by simp at hl
 | (i,x)::r,(i',v)::vs,cs,xs,φ,H,hl,hr,hx,h=>by
   obtain ⟨hv,df,hi,h⟩:=h
   obtain ⟨v',e1,e3⟩:=H 0 _ rfl
   simp at e1
   obtain ⟨rfl,rfl⟩:=e1
   have hc:=(e3.aM).fV (rC hv)
   have iR:v.cells.size=e:=by have:=hc.length;simp at this;rw [this,eZ];exact df
   have hlen:=hr.length
   rw [cJ xs e hx] at hlen
   simp only [Array.length_toList] at hlen
   have hle:i' * e + v.cells.size≤cs.size:=by
    rw [iR,hlen]
    calc i' * e + e=(i' + 1) * e:=by rw [Nat.add_mul];omega
     _≤xs.length * e:=Nat.mul_le_mul_right _ hi
   rw [Bh (place:=fun i=>some (i * e,e)) (by rw [iR]) hle]
   have wO:∀ y∈xs.set i' (aM x),y.cells.length=e:=by
    intro y hy
    rcases List.mem_or_eq_of_mem_set hy with h' | rfl
    ·exact hx y h'
    ·rw [eZ];exact df
   have mV:aG M L (ag cs.toList (i' * e) v.cells.toList).toArray.toList (flat (xs.set i' (aM x))):=by
    rw [Bg xs e i' _ hx (by rw [eZ];exact df) hi]
    exact hc.y0 _ hr
   obtain ⟨cs',xs',f1,f2,f3,f4,f5⟩:=nA e r vs (fun j p hp=>by
    obtain ⟨v,a1,a2⟩:=H (j + 1) p (by simpa using hp)
    exact ⟨v,by simpa using a1,a2⟩) (by simpa using hl) mV wO h
   exact ⟨cs',xs',f1,f2,f3,by simpa using f4,f5⟩
def jC:List (Nat×Operand)→Option (List (Nat×IX))
 | []=>some []
 | (i,x)::r=>match aQ x,jC r with
   | some ix,some rest=>some ((i,ix)::rest)
   | _,_=>none
theorem mN {n:Nat} {env:Env} {a:Act} (hf:Fr A n M L w H env O a) :
 ∀ (parts:List (Nat×Operand)) (ps:List (Nat×IX)),jC parts=some ps→
  (∀ (j:Nat) (p:Nat×AV),(ps.map fun q=>(q.1,al env q.2))[j]?=some p→∃ v,(parts.map fun q=>(q.1,a.eval q.2))[j]?=some (p.1,v)∧aS M L v p.2)∧ps.length=parts.length
 | [],ps,h=>by simp [jC] at h;subst h;simp
 | (i,x)::r,ps,h=>by
   unfold jC at h
   split at h
   ·rename_i ix rest h2 h3
    cases h
    obtain ⟨i1,i2⟩:=mN hf r rest h3
    refine ⟨fun j p hj=>?_,by simp [i2]⟩
    cases j with
    | zero=>
      simp at hj;subst hj
      exact ⟨a.eval x,by simp,hf.eval h2⟩
    | succ j=>
      obtain ⟨v',a1,a2⟩:=i1 j p (by simpa using hj)
      exact ⟨v',by simpa using a1,a2⟩
   ·cases h
theorem jD (z:Array Value) (e len:Nat) (hz:z.size=e) (he:0 < e) (x:AV) (hr:aG M L z.toList x.cells) :
 aG M L (((Array.range (len * e)).map (z[· % z.size]!)).toList) (flat (List.replicate len x)):=by
 have GB:x.cells.length=e:=by rw [← hr.length];simpa using hz
 have iI:∀ y∈List.replicate len x,y.cells.length=e:=fun y hy=>by rw [List.eq_of_mem_replicate hy];exact GB
 apply aG.yW
 ·rw [cJ _ e iI];simp
 ·intro j y hj
  have pO:j < len * e:=by have:=aK hj;rw [cJ _ e iI] at this;simpa using this
  have hq:j / e < len:=Nat.div_lt_of_lt_mul (by rw [Nat.mul_comm];exact pO)
  have hm:j % e < e:=Nat.mod_lt _ he
  have h1:=flat_get (List.replicate len x) e iI (j / e) (j % e) x (by simp [hq]) hm
  rw [show j / e * e + j % e=j from Nat.div_add_mod' j e] at h1
  rw [h1] at hj
  obtain ⟨v,hv,fF⟩:=hr.get _ _ hj
  refine ⟨v,?_,fF⟩
  have iV:j % e < z.size:=by omega
  simp only [Array.toList_map,Array.toList_range,List.getElem?_map,List.getElem?_range pO,Option.map_some,hz]
  simp only [Array.getElem?_toList] at hv
  simp [getElem!_pos,iV] at hv ⊢
  exact hv
theorem tM (hs:St A M L w H ev ea O) {t e:TypeId} (ht:P.underlying t=some (.slice e)) {esz:Nat} (he:dK P e=some esz) (h0:0 < esz) {z:AV} (hz:fH P e=some z) (iV:z.cells.length=esz) (sO:z.val=true) (own:Nat)
 {len:Nat} (hlen:len * esz≤16777216) {parts:List (Nat×AV)} {vs:Array (Nat×Value)} (hp:∀ (j:Nat) (p:Nat×AV),parts[j]?=some p→∃ v,vs.toList[j]?=some (p.1,v)∧aS M L v p.2) (hl:vs.toList.length=parts.length)
 {φ:List AV→Prop} (h:bi (List.replicate len (aM z)) esz parts φ) :
 ∃ m xs M' w' ad,(Instr.buildSlice t len vs).run P w=.ok (.slice ad m m) w'∧aS M' L (.slice ad m m) (.ap own xs)∧(∀ y∈xs,y.cells.length=esz)∧φ xs∧St A M' L w' H ev ea O∧Ext A M w M' w':=by
 unfold fH at hz
 obtain ⟨ie,IQ,df⟩:=Option.map_eq_some_iff.1 he
 simp only [IQ] at hz
 split at hz
 ·rename_i zv uJ
  have Bi:=(cI (M:=M) (L:=L) hz).aM.fV (rC sO)
  have tX:zv.cells.size=esz:=by have:=Bi.length;rw [eZ,iV] at this;simpa using this
  obtain ⟨cs',xs',f1,f2,f3,f4,f5⟩:=nA (M:=M) (L:=L) esz parts vs.toList hp hl (jD zv.cells esz len tX h0 (aM z) Bi) (fun y hy=>by rw [List.eq_of_mem_replicate hy,eZ];exact iV) h
  simp only [List.length_replicate] at f4
  obtain ⟨g1,g2,g3⟩:=hs.Dz cs' e
  have bE:(Instr.buildSlice t len vs).run P w=.ok (.slice (some ⟨w.heap.size,0,none⟩) len len) { w with heap:=w.heap.push (.cells cs' e) }:=by
   by_cases mX:len * ie.size=0
   ·have Dq:len=0:=by
     rcases Nat.mul_eq_zero.1 mX with h' | h'
     ·exact h'
     ·omega
    subst Dq
    have L5:cs'=#[]:=by
     have:=f2.length
     rw [cJ _ esz f3,f4] at this
     simp at this
     exact this
    have Uc:vs.toList=[]:=by
     cases wX:vs.toList with
     | nil=>rfl
     | cons q r=>
       rw [wX] at hl
       cases parts with
       | nil=>simp at hl
       | cons p ps=>obtain ⟨_,_,h3,_⟩:=h;simp at h3
    subst L5
    have hf:Instr.fill (fun i=>some (i * ie.size,ie.size)) #[] vs.toList=some #[]:=by rw [Uc];rfl
    simp [Instr.buildSlice,run_underlying ht,sizeOf,typeInfo,IQ,newRow,Uc,Instr.fill]
    congr 2
    apply Array.ext'
    simp
   ·rw [run_buildSlice w t e len vs cs' ie zv ht IQ uJ (by rw [df];omega) mX (by rw [df];exact f1)]
    rfl
  refine ⟨len,xs',_,_,_,bE,?_,f3,f5,g1,g2⟩
  by_cases Dq:len=0
  ·subst Dq
   have:xs'=[]:=List.eq_nil_of_length_eq_zero f4
   subst this
   exact .gF _ _ _ (by decide)
  ·have:=aS.ap (M:=M.add w.heap.size cs'.toList) (L:=L) w.heap.size 0 len own esz cs'.toList xs' h0 f3 (by omega) (by omega) (by
    have:len≤len * esz:=Nat.le_mul_of_pos_right _ h0
    omega) (f2.mono g2.kR (List.prefix_refl _)) g3
   rw [f4] at this
   exact this
 ·cases hz
end
end Go.aH
end
section
namespace Go.aH
open Go
def ij (m:Nat) (p x:AV) (H:List aa) (K:List aa→Prop):Prop:=
 match p with
 | .ptr id off=>match H[id]? with
   | some (.cells es)=>x.val=true∧x.cells.length=m∧off + m≤es.length∧x.cells.all AV.one=true∧aj (id + 1) (x.cells.map AV.ab)=true∧
      K (H.set id (.cells (ag es off (x.cells.map AV.ab))))
   | _=>False
 | _=>False
theorem bu {n:Nat} {xs ys:List AV}:aj n (xs++ys)=true↔aj n xs=true∧aj n ys=true:=by
 simp only [ba,List.mem_append]
 constructor
 ·intro h;exact ⟨fun x hx=>h x (.inl hx),fun x hx=>h x (.inr hx)⟩
 ·rintro ⟨h1,h2⟩ x (hx | hx)
  ·exact h1 x hx
  ·exact h2 x hx
theorem sP {n m:Nat} {xs:List AV} (h:aj n xs=true):aj n (xs.take m)=true:=by
 rw [ba] at *;exact fun x hx=>h x (List.mem_of_mem_take hx)
theorem sQ {n m:Nat} {xs:List AV} (h:aj n xs=true):aj n (xs.drop m)=true:=by
 rw [ba] at *;exact fun x hx=>h x (List.mem_of_mem_drop hx)
theorem fa {α:Type} (zs:List α) (off:Nat) (xs:List α) (h:off + xs.length≤zs.length) (j:Nat) :
 (ag zs off xs)[j]?=if off≤j∧j < off + xs.length then xs[j - off]? else zs[j]?:=by
 unfold ag
 simp only [List.getElem?_append,List.length_take,List.getElem?_take,List.getElem?_drop]
 by_cases h1:j < off
 ·rw [if_pos (by omega),if_pos h1,if_neg (by omega)]
 ·rw [if_neg (by omega),show j - min off zs.length=j - off by omega]
  by_cases h2:j < off + xs.length
  ·rw [if_pos (by omega),if_pos ⟨by omega,h2⟩]
  ·rw [if_neg (by omega),if_neg (by omega)]
   congr 1;omega
section
variable {P:Program} {w:World} {M:Mem} {L:List Nat} {H:List aa} {A:Perm} {ev:Nat→Value} {ea:Nat→AV} {O:Pos→Option Nat}
theorem uD.sub {O O':Pos→Option Nat} (Qv:∀ p q b,O p=some b→O q=some b→p=q) (h:∀ p b,O' p=some b→O p=some b):uD O O':=
 ⟨fun p q b hp hq=>Qv p q b (h p b hp) (h q b hq),fun p b hp=>⟨p,h p b hp⟩⟩
theorem xG (hs:St A M L w H ev ea O) {t:TypeId} {m:Nat} (ht:dK P t=some m) {v:Value} {x:AV} {id off b:Nat} {es:List AV} (hl:L[id]?=some b) (bk:H[id]?=some (.cells es)) (hv:aS M L v x)
 (nB:x.val=true) (hlen:x.cells.length=m) (hle:off + m≤es.length) (kB:x.cells.all AV.one=true) (ni:aj (A.jo H.length id) (x.cells.map AV.ab)=true) :
 ∃ w' O',(Instr.storeAt t (.pointer (some ⟨b,off,none⟩)) v).run P w=.ok () w'∧St A M L w' (H.set id (.cells (ag es off (x.cells.map AV.ab)))) ev ea O'∧Ext A M w M w':=by
 obtain ⟨cs,e,h1,h2,h3⟩:=hs.obj id _ b bk hl
 have L6:=hv.fV nB
 have pP:=L6.length
 have iR:=h2.length
 obtain ⟨i,hi,IS⟩:=Option.map_eq_some_iff.1 ht
 have df:(sizeOf t).run P w=.ok m w:=by simp [sizeOf,typeInfo,hi,IS]
 have bO:=run_storeCells_at P b off e v.cells.toList 0 cs w h1 (by simp at iR ⊢;simp at pP;omega) (L6.gG kB)
 have bE:(Instr.storeAt t (.pointer (some ⟨b,off,none⟩)) v).run P w=.ok () (w.setRow b (ag cs.toList off v.cells.toList).toArray):=by
  simp only [Instr.storeAt,Instr.sureAddr,storeVar,Sem.run_bind,Sem.run_pure,Result.andThen_ok,df,ne_eq]
  rw [if_neg (by simp at pP;omega)]
  simpa [ag] using bO
 let O':Pos→Option Nat:=fun q=>match q with
  | .t t=>O (.t t)
  | .c id' j=>if id'=id∧off≤j∧j < off + m then none else O (.c id' j)
 have hO:∀ q b,O' q=some b→O q=some b:=by
  intro q b hq
  cases q with
  | t t=>exact hq
  | c id' j=>
    simp only [O'] at hq
    split at hq
    ·cases hq
    ·exact hq
 have Is:off + (x.cells.map AV.ab).length≤es.length:=by simp;omega
 have YB:off + v.cells.toList.length≤cs.toList.length:=by omega
 obtain ⟨g1,g2⟩:=hs.write (cs':=(ag cs.toList off v.cells.toList).toArray) (es':=ag es off (x.cells.map AV.ab)) (O':=O') bk hl h1
  (by simpa using L6.dc.y0 off h2)
  (by
    have bO:=hs.bA id _ bk
    simp only [aa.aZ] at bO
    unfold ag
    exact bu.2 ⟨sP bO,bu.2 ⟨ni,sQ bO⟩⟩)
  (uD.sub hs.b7 hO) hs.env hs.gX (by
  intro j
  have e1:((ag cs.toList off v.cells.toList).toArray)[j]?=(ag cs.toList off v.cells.toList)[j]?:=by simp
  rw [e1,fa _ _ _ YB,List.getD_eq_getElem?_getD,fa _ _ _ Is]
  simp only [List.length_map]
  have e2:v.cells.toList.length=x.cells.length:=pP
  rw [e2,hlen]
  by_cases hj:off≤j∧j < off + m
  ·simp only [hj,and_self,if_true]
   have:O' (.c id j)=none:=by simp [O',hj]
   rw [this]
   refine bf.free ?_
   intro own xs hh
   rw [List.getElem?_map] at hh
   cases hx:x.cells[j - off]? with
   | none=>simp [hx] at hh
   | some y=>simp [hx] at hh;exact AV.bI y own xs hh
  ·simp only [hj,if_false]
   have:O' (.c id j)=O (.c id j):=by simp only [O'];rw [if_neg (by intro h';exact hj h'.2)]
   rw [this]
   have h0:=hs.gT id j
   have e3:bJ L w id j=(cs.toList[j]?).getD undef:=by
    unfold bJ;simp [hl,World.cell?,h1]
   have e4:bn H id j=(es[j]?).getD .any:=by
    unfold bn;simp [bk,List.getD_eq_getElem?_getD]
   rw [e3,e4] at h0
   exact h0)
  (by intro id' j eM;simp [O',eM])
 exact ⟨_,_,bE,g1,g2⟩
theorem DH (hs:St A M L w H ev ea O) {t:TypeId} {m:Nat} (ht:dK P t=some m) {u v:Value} {p x:AV} {K:List aa→Prop} (h:ij m p x H K) (hu:aS M L u p) (hv:aS M L v x) :
 ∃ w' H' O',(Instr.storeAt t u v).run P w=.ok () w'∧K H'∧St A M L w' H' ev ea O'∧Ext A M w M w':=by
 unfold ij at h
 split at h <;> try exact h.elim
 rename_i id off
 cases hu with
 | ptr b _ _ hl=>
 split at h <;> try exact h.elim
 rename_i es bk
 obtain ⟨nB,hlen,hle,kB,ni,hK⟩:=h
 obtain ⟨w',O',h1,h2,h3⟩:=xG hs ht hl bk hv nB hlen hle kB (bD (A.lJ (aK bk)) _ ni)
 exact ⟨w',_,O',h1,hK,h2,h3⟩
def gJ (lo m:Nat) (p x:AV) (H:List aa) (K:List aa→Prop):Prop:=
 match p with
 | .ptr id off=>match H[id]? with
   | some (.cells es)=>lo≤id∧x.val=true∧x.cells.length=m∧off + m≤es.length∧x.cells.all AV.one=true∧aj H.length (x.cells.map AV.ab)=true∧
      K (H.set id (.cells (ag es off (x.cells.map AV.ab))))
   | _=>False
 | _=>False
theorem Bj (hs:St A M L w H ev ea O) {t:TypeId} {m lo:Nat} (uK:∀ id,lo≤id→A.top id=none) (ht:dK P t=some m) {u v:Value} {p x:AV} {K:List aa→Prop} (h:gJ lo m p x H K) (hu:aS M L u p) (hv:aS M L v x) :
 ∃ w' H' O',(Instr.storeAt t u v).run P w=.ok () w'∧K H'∧St A M L w' H' ev ea O'∧Ext A M w M w':=by
 unfold gJ at h
 split at h <;> try exact h.elim
 rename_i id off
 cases hu with
 | ptr b _ _ hl=>
 split at h <;> try exact h.elim
 rename_i es bk
 obtain ⟨hi,nB,hlen,hle,kB,ni,hK⟩:=h
 have e:A.jo H.length id=H.length:=by unfold Perm.jo;rw [uK id hi]
 obtain ⟨w',O',h1,h2,h3⟩:=xG hs ht hl bk hv nB hlen hle kB (by rw [e];exact ni)
 exact ⟨w',_,O',h1,hK,h2,h3⟩
theorem St.GC (hs:St A M L w H ev ea O) {id b off:Nat} {es:List AV} (bk:H[id]?=some (.cells es)) (hl:L[id]?=some b) (mW:off < es.length) :
 St A M L w (H.set id (.cells (es.set off (es.getD off .any).ab))) ev ea (eo O (.c id off) none):=by
 obtain ⟨cs,e,h1,h2,h3⟩:=hs.obj id _ b bk hl
 have iR:=h2.length
 have hO:∀ q b,eo O (.c id off) none q=some b→O q=some b:=by
  intro q b hq
  simp only [eo] at hq
  split at hq
  ·cases hq
  ·exact hq
 have hgetD:es.getD off .any=es[off]:=by rw [List.getD_eq_getElem?_getD,List.getElem?_eq_getElem mW];rfl
 have fF:aG M L cs.toList (es.set off (es.getD off .any).ab):=by
  have hg:=(h2.getD off).ab
  have:=h2.set hg off
  have za:off < cs.toList.length:=by omega
  have e0:cs.toList.set off (cs.toList.getD off undef)=cs.toList:=by
   rw [List.getD_eq_getElem?_getD,List.getElem?_eq_getElem za]
   exact List.set_getElem_self za
  rwa [e0] at this
 obtain ⟨g1,g2⟩:=hs.write (cs':=cs) (es':=es.set off (es.getD off .any).ab) (O':=eo O (.c id off) none) bk hl h1 fF (by
  have bO:=hs.bA id _ bk
  simp only [aa.aZ] at bO
  rw [ba] at bO ⊢
  intro y hy
  rcases List.mem_or_eq_of_mem_set hy with h' | rfl
  ·exact bO y h'
  ·have hb:=bO es[off] (List.getElem_mem mW)
   rw [hgetD]
   revert hb
   cases es[off] <;> simp [AV.ab,AV.aZ]) (uD.sub hs.b7 hO) hs.env (fun t=>by simpa [eo] using hs.gX t) (fun j=>by
  by_cases hj:j=off
  ·subst hj
   have e1:(es.set j (es.getD j .any).ab).getD j .any=(es.getD j .any).ab:=by
    rw [List.getD_eq_getElem?_getD,List.getElem?_set_self mW];rfl
   rw [e1]
   simp only [eo,if_true]
   exact bf.free (AV.bI _)
  ·have e1:(es.set off (es.getD off .any).ab).getD j .any=es.getD j .any:=by
    rw [List.getD_eq_getElem?_getD,List.getElem?_set_ne (fun e=>hj e.symm),List.getD_eq_getElem?_getD]
   rw [e1]
   have h0:=hs.gT id j
   have e3:bJ L w id j=(cs[j]?).getD undef:=by unfold bJ;simp [hl,World.cell?,h1]
   have e4:bn H id j=es.getD j .any:=by unfold bn;simp [bk]
   rw [e3,e4] at h0
   simpa [eo,hj] using h0) (fun id' j eM=>by simp [eo,eM])
 rwa [setRow_self w b cs e (0,0) h1] at g1
def dT (p x:AV) (H:List aa) (K:List aa→Prop):Prop:=
 match p with
 | .ptr id off=>match H[id]? with
   | some (.cells es)=>off < es.length∧x.one=true∧x.aZ (id + 1)=true∧K (H.set id (.cells (es.set off x)))
   | _=>False
 | _=>False
theorem zc (hs:St A M L w H ev ea O) {t:TypeId} (ht:dK P t=some 1) {u v:Value} {p x:AV} {K:List aa→Prop} (h:dT p x H K) (hu:aS M L u p) (s:Nat) (Ud:ev s=v) (hea:ea s=x) :
 ∃ w' H' O',(Instr.storeAt t u v).run P w=.ok () w'∧K H'∧St A M L w' H' ev (fz ea s x.ab) O'∧Ext A M w M w':=by
 unfold dT at h
 split at h <;> try exact h.elim
 rename_i id off
 cases hu with
 | ptr b _ _ hl=>
 split at h <;> try exact h.elim
 rename_i es bk
 obtain ⟨mW,kB,ni,hK⟩:=h
 obtain ⟨cs,e,h1,h2,h3⟩:=hs.obj id _ b bk hl
 have hv:aS M L v x:=by have:=hs.env s;rwa [Ud,hea] at this
 have iR:=h2.length
 have hv1:v.oneCell'=true:=hv.gG kB
 have L6:v.cells=#[v]:=by cases v <;> first | rfl | simp [Value.oneCell'] at hv1
 obtain ⟨i,hi,IS⟩:=Option.map_eq_some_iff.1 ht
 have df:(sizeOf t).run P w=.ok 1 w:=by simp [sizeOf,typeInfo,hi,IS]
 have za:off < cs.toList.length:=by omega
 have bO:=run_storeCells_at P b off e [v] 0 cs w h1 (by simp at za ⊢;omega) (by simpa using hv1)
 have gB:cs.toList.take off++[v]++cs.toList.drop (off + 1)=cs.toList.set off v:=by
  rw [List.set_eq_take_append_cons_drop,if_pos za];simp
 have bE:(Instr.storeAt t (.pointer (some ⟨b,off,none⟩)) v).run P w=.ok () (w.setRow b (cs.toList.set off v).toArray):=by
  simp only [Instr.storeAt,Instr.sureAddr,storeVar,Sem.run_bind,Sem.run_pure,Result.andThen_ok,df,ne_eq,L6]
  rw [if_neg (by simp)]
  rw [← gB]
  simpa using bO
 -- the slot forgets, the cell takes over
 have nC:=hs.oO s (v:=v) (x:=x.ab) hv.ab (AV.bI x)
 have Qw:fz ev s v=ev:=by funext t';simp only [fz];split;rename_i e0;rw [e0,Ud];rfl
 rw [Qw] at nC
 let O':Pos→Option Nat:=fun q=>if q=.c id off then O (.t s) else eo O (.t s) none q
 have Qv:uD O O':=by
  refine ⟨fun q r b hq hr=>?_,fun q b hq=>?_⟩
  ·simp only [O',eo] at hq hr
   split at hq <;> split at hr
   ·simp_all
   ·split at hr
    ·cases hr
    ·rename_i n1 n2;exact absurd (hs.b7 _ _ b hr hq) n2
   ·split at hq
    ·cases hq
    ·rename_i n1 n2;exact absurd (hs.b7 _ _ b hq hr) (by assumption)
   ·split at hq
    ·cases hq
    ·split at hr
     ·cases hr
     ·exact hs.b7 _ _ b hq hr
  ·simp only [O',eo] at hq
   split at hq
   ·exact ⟨_,hq⟩
   ·split at hq
    ·cases hq
    ·exact ⟨_,hq⟩
 obtain ⟨g1,g2⟩:=St.write (h:=hs) (cs':=(cs.toList.set off v).toArray) (es':=es.set off x) (ea':=fz ea s x.ab) (O':=O') bk hl h1 (by simpa using h2.set hv off) (by
  have bO:=hs.bA id _ bk
  simp only [aa.aZ] at bO
  rw [ba] at bO ⊢
  intro y hy
  rcases List.mem_or_eq_of_mem_set hy with h' | rfl
  ·exact bO y h'
  ·exact AV.cN (A.lJ (aK bk)) _ ni) Qv nC.env (fun t'=>by simpa [O',eo] using nC.gX t') (fun j=>by
  by_cases hj:j=off
  ·subst hj
   have e1:((cs.toList.set j v).toArray)[j]?=some v:=by rw [List.getElem?_toArray,List.getElem?_set_self za]
   have e2:(es.set j x).getD j .any=x:=by rw [List.getD_eq_getElem?_getD,List.getElem?_set_self mW];rfl
   rw [e1,e2]
   have:=hs.gX s
   rw [Ud,hea] at this
   simpa [O'] using this
  ·have e1:((cs.toList.set off v).toArray)[j]?=cs[j]?:=by
    simp [List.getElem?_set_ne (fun e=>hj e.symm)]
   have e2:(es.set off x).getD j .any=es.getD j .any:=by rw [List.getD_eq_getElem?_getD,List.getElem?_set_ne (fun e=>hj e.symm),List.getD_eq_getElem?_getD]
   rw [e1,e2]
   have h0:=hs.gT id j
   have e3:bJ L w id j=(cs[j]?).getD undef:=by unfold bJ;simp [hl,World.cell?,h1]
   have e4:bn H id j=es.getD j .any:=by unfold bn;simp [bk]
   rw [e3,e4] at h0
   simpa [O',eo,hj] using h0) (fun id' j eM=>by simp [O',eo,eM])
 exact ⟨_,_,_,bE,hK,g1,g2⟩
theorem kg (P:Program) (g o:Nat) (t:TypeId) (fr:Nat×Nat):∀ (vs:List Value) (i:Nat) (cur:Array Value) (w:World),w.heap[g]?=some (.cells cur t fr)→LW fr cur.size→o + i + vs.length≤cur.size→(∀ v∈vs,v.oneCell'=true)→
 (storeCells ⟨g,o,none⟩ vs i).run P w=.ok () (w.setRow g (ag cur.toList (o + i) vs).toArray)
 | [],i,cur,w,hg,_,_,_=>by
   simp only [storeCells,ag,List.length_nil,Nat.add_zero,List.nil_append,List.take_append_drop,Array.toArray_toList]
   rw [setRow_self w g cur t fr hg]
   rfl
 | v::rest,i,cur,w,hg,hf,hl,h1=>by
   have hi:o + i < cur.size:=by simp at hl;omega
   have YC:(⟨g,o,none⟩:Addr).add i=⟨g,o + i,none⟩:=Addr.add_lit _ _ _
   have hcell:w.cell? ⟨g,o + i,none⟩=some cur[o + i]:=by simp [World.cell?,hg,hi]
   have YD:w.frozen? ⟨g,o + i,none⟩=false:=by
    have:=hf (o + i) hi
    simp only [World.frozen?,hg]
    cases h:(decide (fr.1≤o + i) && decide (o + i < fr.2)) with
    | false=>rfl
    | true=>simp at h;exact absurd h this
   have bO:(store ((⟨g,o,none⟩:Addr).add i) v).run P w=.ok () (w.setRow g (cur.setIfInBounds (o + i) v)):=by
    rw [YC,run_store P w _ v _ (h1 v (by simp)),hcell]
    simp [YD,setCell_eq_setRow w g (o + i) cur t fr v hg]
   have ih:=kg P g o t fr rest (i + 1) (cur.setIfInBounds (o + i) v) (w.setRow g (cur.setIfInBounds (o + i) v)) (setRow_heap w g cur _ t _ hg) (by simpa using hf) (by simp at hl ⊢;omega) (fun x hx=>h1 x (by simp [hx]))
   simp only [storeCells,Sem.run_bind,bO,Result.andThen_ok,ih,setRow_setRow]
   congr 3
   apply List.ext_getElem?
   intro j
   rw [fa _ _ _ (by simp at hl ⊢;omega),fa _ _ _ (by simpa using hl)]
   simp only [Array.toList_setIfInBounds,List.length_cons]
   by_cases h2:j=o + i
   ·subst h2
    rw [if_neg (by omega),if_pos (by omega),List.getElem?_set_self (by simpa using hi)]
    simp
   ·by_cases h3:o + i < j∧j < o + i + (rest.length + 1)
    ·rw [if_pos (by omega),if_pos (by omega),show j - (o + i)=(j - (o + (i + 1))) + 1 by omega]
     simp
    ·rw [if_neg (by omega),if_neg (by omega),List.getElem?_set_ne (by omega)]
theorem fW {t ty e e':TypeId} {i:TypeInfo} (ht:P.underlying t=some (.slice e)) (hi:P.info? e=some i) (w:World)
 (g o sLen sCap:Nat) (cur:Array Value) (fr:Nat×Nat) (hg:w.heap[g]?=some (.cells cur e' fr)) (Dr:LW fr cur.size)
 (a:Addr) (m c:Nat) (news:List Value) (hl:news.length=m * i.size) (hnews:∀ j u,news[j]?=some u→w.cell? (a.add j)=some u) (h1:∀ u∈news,u.oneCell'=true)
 (hroom:sLen + m≤sCap) (tN:o + sLen * i.size + news.length≤cur.size) :
 (Builtin.append_ #[t,t] ty #[.slice (some ⟨g,o,none⟩) sLen sCap,.slice (some a) m c]).run P w =
   .ok (.slice (some ⟨g,o,none⟩) (sLen + m) sCap) (w.setRow g (ag cur.toList (o + sLen * i.size) news).toArray):=by
 have hf:=run_firstCells_some (P:=P) w i.size m a m c news hl hnews
 have bO:=kg P g (o + sLen * i.size) e' fr news 0 cur w hg Dr (by simpa using tN) h1
 simp only [Nat.add_zero] at bO
 simp [Builtin.append_,run_underlying ht,sizeOf,typeInfo,hi,Builtin.lenOf,hroom,hf,Addr.add_lit,bO]
theorem dt {t ty e:TypeId} {i:TypeInfo} (ht:P.underlying t=some (.slice e)) (hi:P.info? e=some i) (w:World) (b:Option Addr) (n c:Nat) (O6:n≤c) (b':Option Addr) (c':Nat) :
 (Builtin.append_ #[t,t] ty #[.slice b n c,.slice b' 0 c']).run P w=.ok (.slice b n c) w:=by
 have hf:(Builtin.firstCells i.size 0 (.slice b' 0 c')).run P w=.ok #[] w:=by
  cases b' with
  | none=>exact run_firstCells_none w _ _ _ _
  | some a=>exact run_firstCells_some w i.size 0 a 0 c' [] (by simp) (by simp)
 cases b with
 | none=>simp [Builtin.append_,run_underlying ht,sizeOf,typeInfo,hi,Builtin.lenOf,O6,hf]
 | some a=>simp [Builtin.append_,run_underlying ht,sizeOf,typeInfo,hi,Builtin.lenOf,O6,hf,storeCells]
def mO (esz:Nat):AV→Option (List AV)
 | .ah=>some []
 | .ap own xs=>if own=esz then some xs else none
 | _=>none
def dw:AV→Option (List AV)
 | .ah=>some []
 | .ap _ xs=>some xs
 | _=>none
def sR (esz:Nat) (ys:List AV):Prop:=∀ y∈ys,y.cells.length=esz∧y.cells.all AV.one=true
def Mem.kU (M:Mem) (b off:Nat) (cs:List Value):Mem:=fun b' o=>if b'=b∧off≤o∧o < off + cs.length then cs[o - off]? else M b' o
theorem St.inPlace (hs:St A M L w H ev ea O) {p:Pos} {b:Nat} (hp:O p=some b) {cur:Array Value} {e:TypeId} {fr:Nat×Nat} (hg:w.heap[b]?=some (.cells cur e fr)) {off:Nat} {news:List Value}
 (tN:off + news.length≤cur.size) (hnone:∀ k,k < news.length→M b (off + k)=none)
 {ea':Nat→AV} (DA:∀ t,aS M L (ev t) (ea' t)) (YE:∀ t,bf M w (ev t) (ea' t) (eo O p none (.t t))) (YF:∀ id j,bf M w (bJ L w id j) (bn H id j) (eo O p none (.c id j))) :
 St A (M.kU b off news) L (w.setRow b (ag cur.toList off news).toArray) H ev ea' (eo O p none)∧Ext A M w (M.kU b off news) (w.setRow b (ag cur.toList off news).toArray)∧(M.kU b off news).row b off news:=by
 have xE:b∉L:=hs.ct p b hp
 have df:(w.setRow b (ag cur.toList off news).toArray).heap.size=w.heap.size:=by simp [World.setRow]
 have fU:∀ k,k≠b→(w.setRow b (ag cur.toList off news).toArray).heap[k]?=w.heap[k]?:=fun k hk=>setRow_other w b k _ hk
 have mV:=setRow_heap w b cur (ag cur.toList off news).toArray e fr hg
 have fT:M.sub (M.kU b off news):=by
  intro b' o v hv
  unfold Mem.kU
  split
  ·rename_i h
   obtain ⟨rfl,h1,h2⟩:=h
   have:=hnone (o - off) (by omega)
   rw [show off + (o - off)=o by omega,hv] at this
   cases this
  ·exact hv
 have Ue:∀ k,k≠b→∀ o,(M.kU b off news) k o=M k o:=by
  intro k hk o
  unfold Mem.kU
  rw [if_neg (fun h=>hk h.1)]
 have tO:∀ q k,eo O p none q=some k→k≠b:=by
  intro q k hq hk
  subst hk
  simp only [eo] at hq
  split at hq
  ·cases hq
  ·rename_i n;exact n (hs.b7 _ _ _ hq hp)
 have hO:∀ q k,eo O p none q=some k→O q=some k:=by
  intro q k hq
  simp only [eo] at hq
  split at hq
  ·cases hq
  ·exact hq
 have DI:off + news.length≤cur.toList.length:=by simpa using tN
 refine ⟨{ len:=hs.len,nodup:=hs.nodup,env:=fun t=>(DA t).mono fT (List.prefix_refl _),mem:=?_,obj:=?_,bA:=hs.bA,lt:=?_,gX:=?_,gT:=?_,b7:=fun q r k hq hr=>hs.b7 q r k (hO q k hq) (hO r k hr),ct:=fun q k hq=>hs.ct q k (hO q k hq),fj:=?_,La:=hs.La,Oa:=fun q k hq=>hs.Oa q k (hO q k hq),fresh:=?_ },?_,?_⟩
 ·intro b' o v hv
  by_cases hb:b'=b
  ·subst hb
   simp only [World.cell?,mV]
   have e1:((ag cur.toList off news).toArray)[o]?=(ag cur.toList off news)[o]?:=by simp
   simp only [Option.isSome_none,Bool.false_eq_true,if_false]
   rw [e1,fa _ _ _ DI]
   unfold Mem.kU at hv
   split at hv
   ·rename_i h;rw [if_pos h.2];exact hv
   ·rename_i h
    rw [if_neg (fun h'=>h ⟨rfl,h'⟩)]
    have:=hs.mem _ o v hv
    simpa [World.cell?,hg] using this
  ·rw [Ue b' hb o] at hv
   have:=hs.mem b' o v hv
   simp only [World.cell?] at this ⊢
   rw [fU b' hb];exact this
 ·intro id o k ho hk
  have Dp:k≠b:=by rintro rfl;exact xE (List.mem_of_getElem? hk)
  exact (hs.obj id o k ho hk).mono fT (List.prefix_refl _) (fU k Dp) (Ue k Dp)
 ·intro k hk;rw [df];exact hs.lt k hk
 ·intro t
  exact (YE t).mono fun k hk=>⟨fU k (tO _ k hk),Ue k (tO _ k hk)⟩
 ·intro id j
  have e1:bJ L (w.setRow b (ag cur.toList off news).toArray) id j=bJ L w id j:=by
   unfold bJ
   split
   ·rename_i k hk
    have Dp:k≠b:=by rintro rfl;exact xE (List.mem_of_getElem? hk)
    simp only [World.cell?]
    rw [fU k Dp]
   ·rfl
  rw [e1]
  exact (YF id j).mono fun k hk=>⟨fU k (tO _ k hk),Ue k (tO _ k hk)⟩
 ·intro q k hq;rw [df];exact hs.fj q k (hO q k hq)
 ·intro k hk;rw [df] at hk;exact hs.fresh k hk
 ·exact ⟨fT,by rw [df];exact Nat.le_refl _,rfl,rfl,rfl,fun k hk hA=>⟨fU k (fun e0=>hA (e0 ▸ hs.Oa p b hp)),Ue k (fun e0=>hA (e0 ▸ hs.Oa p b hp))⟩,fun k r hk=>⟨r,(fU k (fun e0=>by rw [e0,hg] at hk;cases hk)).trans hk,rfl⟩⟩
 ·intro j v hv
  have hj:=aK hv
  show Mem.kU M b off news b (off + j)=some v
  unfold Mem.kU
  rw [if_pos ⟨rfl,by omega,by omega⟩,show off + j - off=j by omega]
  exact hv
theorem St.newRow (hs:St A M L w H ev ea O) (e:TypeId) {esz need cap:Nat} (h0:0 < esz) {rw rest:List Value} {zs:List AV} (hl:rw.length=need * esz) (hc:rw.length + rest.length=cap * esz) (b9:cap < 9223372036854775808) (O6:need≤cap) (hn:0 < need)
 (hz:zs.length=need) (hx:∀ y∈zs,y.cells.length=esz) (hr:aG M L rw (flat zs)) (cs:Array Value) (wP:cs.toList=rw++rest) :
 ∃ M',aS M' L (.slice (some ⟨w.heap.size,0,none⟩) need cap) (.ap esz zs)∧bf M' { w with heap:=w.heap.push (.cells cs e) } (.slice (some ⟨w.heap.size,0,none⟩) need cap) (.ap esz zs) (some w.heap.size)∧
  St A M' L { w with heap:=w.heap.push (.cells cs e) } H ev ea O∧Ext A M w M' { w with heap:=w.heap.push (.cells cs e) }:=by
 obtain ⟨g1,g2,g3⟩:=hs.pS cs e (0,0) rw (fun j v hv=>by
  have:cs.toList[j]?=some v:=by rw [wP,List.getElem?_append_left (aK hv)];exact hv
  simpa using this)
 refine ⟨_,?_,?_,g1,g2⟩
 ·subst hz
  exact .ap _ _ _ _ esz rw zs h0 hx hn O6 b9 (hr.mono g2.kR (List.prefix_refl _)) g3
 ·unfold bf
  simp only [Nat.ne_of_gt h0,if_false]
  refine ⟨hx,.inr ⟨_,0,need,cap,cs,e,(0,0),rfl,rfl,dJ w _,oc _,?_,?_⟩⟩
  ·have:cs.size=cap * esz:=by rw [← Array.length_toList,wP,List.length_append];exact hc
   omega
  ·intro k hk _
   simp only [Mem.add,if_true,Nat.zero_add]
   exact List.getElem?_eq_none (by omega)
theorem tY {bs:Option Addr} {n c own:Nat} {xs:List AV} (h:aS M L (.slice bs n c) (.ap own xs)) :
 n=xs.length∧((xs=[]∧n=0)∨∃ b off cs,bs=some ⟨b,off,none⟩∧aG M L cs (flat xs)∧M.row b off cs):=by
 generalize hv:Value.slice bs n c=v at h
 cases h with
 | gF a c _ hc=>cases hv;exact ⟨rfl,.inl ⟨rfl,rfl⟩⟩
 | ap b off c _ e cs _ he hx hn hle hc hr hm=>cases hv;exact ⟨rfl,.inr ⟨b,off,cs,rfl,hr,hm⟩⟩
def bp (esz bytes:Nat) (s x:AV) (φ:List AV→Prop):Prop:=
 match mO esz s,dw x with
 | some xs,some ys=>(xs.length + ys.length) * bytes≤140737488355328∧sR esz ys∧φ (xs++ys)
 | _,_=>False
def IX.slot:IX→Option Nat
 | .t n=>some n
 | .c _=>none
def kC (ea:Nat→AV) (s:Option Nat):Nat→AV:=match s with | some d=>fz ea d (ea d).ab | none=>ea
theorem GD {esz:Nat} {s:AV} {xs:List AV} (hs:mO esz s=some xs) {u:Value} (hu:aS M L u s):aS M L u (.ap esz xs)∧(s=.ah∧u=.slice none 0 0∨s=.ap esz xs):=by
 unfold mO at hs
 split at hs
 ·cases hs;cases hu;exact ⟨.gF _ _ _ (by decide),.inl ⟨rfl,rfl⟩⟩
 ·rename_i own ys
  split at hs
  ·rename_i e;cases hs;subst e;exact ⟨hu,.inr rfl⟩
  ·cases hs
 ·cases hs
theorem lO {esz:Nat} {x:AV} {ys:List AV} (hx:dw x=some ys) (jr:sR esz ys) {u:Value} (hu:aS M L u x) :
 (ys=[]∧∃ b c,u=.slice b 0 c)∨(0 < ys.length∧∃ b off c news,u=.slice (some ⟨b,off,none⟩) ys.length c∧aG M L news (flat ys)∧M.row b off news∧news.length=ys.length * esz):=by
 have key:∀ own,aS M L u (.ap own ys)→(ys=[]∧∃ b c,u=.slice b 0 c)∨(0 < ys.length∧∃ b off c news,u=.slice (some ⟨b,off,none⟩) ys.length c∧aG M L news (flat ys)∧M.row b off news∧news.length=ys.length * esz):=by
  intro own h
  cases h with
  | gF a c _ hc=>exact .inl ⟨rfl,_,_,rfl⟩
  | ap b off c _ e cs _ he hx hn hle hc hr hm=>
    refine .inr ⟨hn,b,off,c,cs,rfl,hr,hm,?_⟩
    rw [hr.length,cJ ys esz (fun y hy=>(jr y hy).1)]
 unfold dw at hx
 split at hx
 ·cases hx;cases hu;exact .inl ⟨rfl,_,_,rfl⟩
 ·rename_i own zs;cases hx;exact key own hu
 ·cases hx
theorem sS (xs ys:List AV):flat (xs++ys)=flat xs++flat ys:=by simp [flat]
theorem Bk {ys:List AV} {esz:Nat} (h:sR esz ys):(flat ys).all AV.one=true:=by
 rw [List.all_eq_true]
 intro x hx
 simp only [flat,List.mem_flatMap] at hx
 obtain ⟨y,hy,hxy⟩:=hx
 exact List.all_eq_true.1 (h y hy).2 x hxy
theorem Bl (hs:St A M L w H ev ea O) {t ty e:TypeId} {i:TypeInfo} {z:Value} {esz bytes:Nat} (ht:P.underlying t=some (.slice e)) (hi:P.info? e=some i) (hz:i.zero=some z) (df:i.size=esz) (xH:i.bytes=bytes) (tX:z.cells.size=esz) (h0:0 < esz) (uL:0 < bytes)
 {u v:Value} {s x:AV} {φ:List AV→Prop} (h:bp esz bytes s x φ) (slot:Option Nat) (hu:aS M L u s) (L7:match slot with | some d=>ev d=u∧ea d=s | none=>s=.ah) (hv:aS M L v x) :
 ∃ r w' M' O' ob zs,(Builtin.append_ #[t,t] ty #[u,v]).run P w=.ok r w'∧φ zs∧aS M' L r (.ap esz zs)∧bf M' w' r (.ap esz zs) ob∧St A M' L w' H ev (kC ea slot) O'∧Ext A M w M' w'∧
  (∀ q b,ob=some b→O' q≠some b)∧(∀ b,ob=some b→b∉L∧b < w'.heap.size∧A b):=by
 unfold bp at h
 split at h <;> try exact h.elim
 rename_i xs ys ej pQ
 obtain ⟨hbound,jr,hφ⟩:=h
 obtain ⟨zd,hcase⟩:=GD ej hu
 have hesz0:esz≠0:=by omega
 -- the slot forgets what it owned
 have hforget:∃ O1 ob1,St A M L w H ev (kC ea slot) O1∧bf M w u (.ap esz xs) ob1∧(∀ q b,ob1=some b→O1 q≠some b)∧(∀ b,ob1=some b→b∉L∧b < w.heap.size∧A b∧∃ d,slot=some d∧O (.t d)=some b∧O1=eo O (.t d) none):=by
  have tP:u=.slice none 0 0→s=.ah→bf M w u (.ap esz xs) none:=by
   rintro rfl rfl
   simp [mO] at ej;subst ej
   simp only [bf,hesz0,if_false]
   exact ⟨by simp,.inl ⟨trivial,none,0,rfl⟩⟩
  cases slot with
  | none=>
    simp only at L7
    subst L7
    cases hu
    exact ⟨O,none,hs,tP rfl rfl,(by intro q b e;cases e),(by intro b e;cases e)⟩
  | some d=>
    simp only at L7
    have nC:=hs.oO d (v:=u) (x:=(ea d).ab) (by rw [L7.2];exact hu.ab) (AV.bI _)
    have Qw:fz ev d u=ev:=by funext t';simp only [fz];split;rename_i e0;rw [e0,L7.1];rfl
    rw [Qw] at nC
    rcases hcase with ⟨h1,h2⟩ | h1
    ·exact ⟨_,none,nC,tP h2 h1,(by intro q b e;cases e),(by intro b e;cases e)⟩
    ·refine ⟨_,O (.t d),nC,?_,?_,?_⟩
     ·have:=hs.gX d
      rwa [L7.1,L7.2,h1] at this
     ·intro q b hb hq
      simp only [eo] at hq
      split at hq
      ·cases hq
      ·rename_i n;exact n (hs.b7 _ _ b hq hb)
     ·intro b hb
      exact ⟨hs.ct _ b hb,hs.fj _ b hb,hs.Oa _ b hb,d,rfl,hb,rfl⟩
 obtain ⟨O1,ob1,O9,L8,IT,GF⟩:=hforget
 have GB:∀ y∈xs,y.cells.length=esz:=by
  have:=L8
  simp only [bf,hesz0,if_false] at this
  exact this.1
 have hform:∃ bs n c,u=.slice bs n c∧n=xs.length∧n≤c∧c < 9223372036854775808:=by
  cases zd with
  | gF a c _ hc=>exact ⟨a,0,c,rfl,rfl,Nat.zero_le _,hc⟩
  | ap b off c _ e cs _ he hx hn hle hc hr hm=>exact ⟨_,_,c,rfl,rfl,hle,hc⟩
 rcases lO pQ jr hv with ⟨rfl,b',c',rfl⟩ | ⟨Bm,b2,o2,c2,news,rfl,ze,Qx,xI⟩
 ·-- nothing is appended
  obtain ⟨bs,n,c,rfl,hn,O6,hc⟩:=hform
  refine ⟨_,w,M,O1,ob1,xs++[],dt ht hi w bs n c O6 b' c',hφ,by simpa using zd,by simpa using L8,O9,Ext.refl A M w,IT,fun b hb=>⟨(GF b hb).1,(GF b hb).2.1,(GF b hb).2.2.1⟩⟩
 ·have hnews:∀ j u,news[j]?=some u→w.cell? ((⟨b2,o2,none⟩:Addr).add j)=some u:=ig Qx hs.mem
  have kB:=ze.gG (Bk jr)
  have hlen:(xs.length + ys.length)≤140737488355328:=Nat.le_trans (Nat.le_mul_of_pos_right _ uL) hbound
  have iV:∀ y∈xs++ys,y.cells.length=esz:=by
   intro y hy
   rcases List.mem_append.1 hy with h' | h'
   ·exact GB y h'
   ·exact (jr y h').1
  -- a new row
  have grow:∀ (olds:List Value) (oldCap:Nat) (w':World),aG M L olds (flat xs)→olds.length=xs.length * esz→w'=w.drew.alloc (.cells (olds.toArray++news.toArray++Builtin.zeroCells z.cells (grownCap w (xs.length + ys.length) oldCap e - (xs.length + ys.length))) e)→
   (Builtin.append_ #[t,t] ty #[u,.slice (some ⟨b2,o2,none⟩) ys.length c2]).run P w=.ok (.slice (some ⟨w.heap.size,0,none⟩) (xs.length + ys.length) (grownCap w (xs.length + ys.length) oldCap e)) w'→
   ∃ r w' M' O' ob zs,(Builtin.append_ #[t,t] ty #[u,.slice (some ⟨b2,o2,none⟩) ys.length c2]).run P w=.ok r w'∧φ zs∧aS M' L r (.ap esz zs)∧bf M' w' r (.ap esz zs) ob∧St A M' L w' H ev (kC ea slot) O'∧Ext A M w M' w'∧
    (∀ q b,ob=some b→O' q≠some b)∧(∀ b,ob=some b→b∉L∧b < w'.heap.size∧A b):=by
   intro olds oldCap w' Uf hol IU bE
   have jh:=grownCap_ge w (xs.length + ys.length) oldCap e
   have hle:=grownCap_le_maxLen w (xs.length + ys.length) oldCap e (by simp only [maxLen];omega)
   simp only [maxLen] at hle
   have hd:=O9.drew
   obtain ⟨M',k1,k2,k3,k4⟩:=hd.newRow e (need:=xs.length + ys.length) (cap:=grownCap w (xs.length + ys.length) oldCap e) h0 (rw:=olds++news) (rest:=(Builtin.zeroCells z.cells (grownCap w (xs.length + ys.length) oldCap e - (xs.length + ys.length))).toList) (zs:=xs++ys)
    (by rw [List.length_append,hol,xI,Nat.add_mul]) (by
      have hzc:(Builtin.zeroCells z.cells (grownCap w (xs.length + ys.length) oldCap e - (xs.length + ys.length))).toList.length=(grownCap w (xs.length + ys.length) oldCap e - (xs.length + ys.length)) * esz:=by
       rw [Array.length_toList,size_zeroCells,tX]
      rw [List.length_append,hol,xI,hzc,← Nat.add_mul,← Nat.add_mul]
      congr 1;omega) (by omega) jh (by omega) (by simp) iV (by rw [sS];exact Uf.append ze)
    (olds.toArray++news.toArray++Builtin.zeroCells z.cells (grownCap w (xs.length + ys.length) oldCap e - (xs.length + ys.length))) (by simp)
   have cB:Ext A M w M' { { w with drawn:=w.drawn + 1 } with heap:=w.heap.push (.cells (olds.toArray++news.toArray++Builtin.zeroCells z.cells (grownCap w (xs.length + ys.length) oldCap e - (xs.length + ys.length))) e) }:=Ext.drew.trans k4
   have X1:w'={ { w with drawn:=w.drawn + 1 } with heap:=w.heap.push (.cells (olds.toArray++news.toArray++Builtin.zeroCells z.cells (grownCap w (xs.length + ys.length) oldCap e - (xs.length + ys.length))) e) }:=IU
   refine ⟨_,_,M',O1,some w.heap.size,xs++ys,bE,hφ,k1,by rw [X1];exact k2,by rw [X1];exact k3,by rw [X1];exact cB,?_,?_⟩
   ·intro q b hb hq
    cases hb
    exact absurd (O9.fj q _ hq) (Nat.lt_irrefl _)
   ·intro b hb
    cases hb
    refine ⟨fun hm=>absurd (hs.lt _ hm) (Nat.lt_irrefl _),by rw [X1];simp,hs.fresh _ (Nat.le_refl _)⟩
  obtain ⟨bs,n,c,rfl,hn,O6,hc⟩:=hform
  subst hn
  by_cases hroom:xs.length + ys.length≤c
  ·-- in place
   have DI:=L8
   simp only [bf,hesz0,if_false] at DI
   rcases DI.2 with ⟨_,a,n,hn⟩ | ⟨b,off,n,c',cs,e',fr,e1,e2,e3,e4,e5,e6⟩
   ·cases hn;omega
   ·cases e2
    obtain ⟨f1,f2,f3,d,rfl,f5,rfl⟩:=GF b e1
    have YG:news.length=ys.length * i.size:=by rw [df];exact xI
    have wY:(xs.length + ys.length) * esz≤c * esz:=Nat.mul_le_mul_right _ hroom
    rw [Nat.add_mul] at wY
    have tN:off + xs.length * esz + news.length≤cs.size:=by rw [xI];omega
    have bE:=fW (P:=P) (ty:=ty) ht hi w b off xs.length c cs fr e3 e4 ⟨b2,o2,none⟩ ys.length c2 news YG hnews kB hroom (by rw [df];exact tN)
    rw [df] at bE
    have hnone:∀ k,k < news.length→M b (off + xs.length * esz + k)=none:=by
     intro k hk
     rw [Nat.add_assoc]
     exact e6 _ (by omega) (by rw [xI] at hk;omega)
    have Qy:∀ t',aS M L (ev t') (kC ea (some d) t'):=O9.env
    obtain ⟨g1,g2,g3⟩:=hs.inPlace (p:=.t d) f5 e3 tN hnone (ea':=kC ea (some d)) Qy O9.gX (fun id j=>by simpa [eo] using hs.gT id j)
    refine ⟨_,_,_,_,some b,xs++ys,bE,hφ,?_,?_,g1,g2,?_,?_⟩
    ·-- what it reads as
     have mV:aG (M.kU b (off + xs.length * esz) news) L news (flat ys):=ze.mono g2.kR (List.prefix_refl _)
     have hold:∃ olds,aG M L olds (flat xs)∧M.row b off olds∧olds.length=xs.length * esz:=by
      rcases (tY zd).2 with ⟨h',_⟩ | ⟨b1,off1,cs1,Ug,hr,hm⟩
      ·subst h';exact ⟨[],.nil,by intro j v hv;simp at hv,by simp⟩
      ·cases Ug;exact ⟨cs1,hr,hm,by rw [hr.length,cJ xs esz GB]⟩
     obtain ⟨olds,o1,o2',o3⟩:=hold
     have:=aS.ap (M:=M.kU b (off + xs.length * esz) news) (L:=L) b off c esz esz (olds++news) (xs++ys) h0 iV (by simp;omega) (by simpa using hroom) hc (by rw [sS];exact (o1.mono g2.kR (List.prefix_refl _)).append mV) (by
      intro j v hv
      rw [List.getElem?_append] at hv
      split at hv
      ·exact g2.kR _ _ _ (o2' j v hv)
      ·rename_i hj
       have:=g3 _ v hv
       rwa [show off + xs.length * esz + (j - olds.length)=off + j by omega] at this)
     simpa using this
    ·simp only [bf,hesz0,if_false]
     refine ⟨iV,.inr ⟨b,off,xs.length + ys.length,c,(ag cs.toList (off + xs.length * esz) news).toArray,e',fr,rfl,by simp,setRow_heap w b cs _ e' fr e3,?_,?_,?_⟩⟩
     ·have:(ag cs.toList (off + xs.length * esz) news).toArray.size=cs.size:=by
       rw [List.size_toArray,nw _ _ _ (by simpa using tN)];simp
      rw [this];exact e4
     ·rw [List.size_toArray,nw _ _ _ (by simpa using tN)];simpa using e5
     ·intro k hk T9
      unfold Mem.kU
      rw [Nat.add_mul] at hk
      rw [if_neg (by rw [xI];omega)]
      exact e6 k (by omega) T9
    ·intro q b' hb hq
     cases hb
     exact IT q b e1 hq
    ·intro b' hb
     cases hb
     refine ⟨f1,?_,f3⟩
     simpa [World.setRow] using f2
  ·-- a new one
   have hbound':(xs.length + ys.length) * i.bytes≤140737488355328:=by rw [xH];exact hbound
   cases bs with
   | none=>
     have IV:xs.length=0:=by
      rcases (tY zd).2 with ⟨_,h'⟩ | ⟨b1,off1,cs1,Ug,_⟩
      ·exact h'
      ·cases Ug
     have L5:c=0:=by
      have DI:=L8
      simp only [bf,hesz0,if_false] at DI
      rcases DI.2 with ⟨_,a,n,hn⟩ | ⟨b,off,n,c',cs,e',fr,e1,e2,_⟩
      ·cases hn;exact IV
      ·cases e2
     have hxnil:xs=[]:=List.eq_nil_of_length_eq_zero IV
     subst hxnil
     subst L5
     have hr:=run_append_nil (P:=P) w t ty e i z ht hi hz ⟨b2,o2,none⟩ ys.length c2 news (by rw [df];exact xI) hnews Bm (by omega) (by simp at hbound';omega)
     refine grow [] 0 _ (by exact .nil) (by simp) rfl ?_
     simpa using hr
   | some a=>
     have hold:∃ olds,aG M L olds (flat xs)∧(∀ j v,olds[j]?=some v→w.cell? (a.add j)=some v)∧olds.length=xs.length * esz:=by
      rcases (tY zd).2 with ⟨h',_⟩ | ⟨b1,off1,cs1,Ug,hr,hm⟩
      ·subst h';exact ⟨[],.nil,by intro j v hv;simp at hv,by simp⟩
      ·cases Ug;exact ⟨cs1,hr,ig hm hs.mem,by rw [hr.length,cJ xs esz GB]⟩
     obtain ⟨olds,o1,o2',o3⟩:=hold
     have hr:=run_append_grow (P:=P) w t ty e i z ht hi hz a xs.length c olds (by rw [df];exact o3) o2' ⟨b2,o2,none⟩ ys.length c2 news (by rw [df];exact xI) hnews (by omega) (by omega) (growslice_fits (by omega) hbound')
     exact grow olds c _ o1 o3 rfl hr
end
end Go.aH
end
section
namespace Go.aH
open Go
def bL:AV→AV
 | .agg ys=>.agg (ys.map AV.drop)
 | z=>z
section
variable {P:Program} {w:World} {M:Mem} {L:List Nat} {H:List aa} {A:Perm} {ev:Nat→Value} {ea:Nat→AV} {O:Pos→Option Nat}
theorem jk (z:AV):(bL z).cells.length=z.cells.length:=by cases z <;> simp [bL,AV.cells]
theorem aS.bL {v:Value} {z:AV} (h:aS M L v z):aS M L v (bL z):=by
 cases z <;> first | exact h | skip
 cases h with
 | agg cs _ hr=>exact .agg cs _ hr.map_drop
theorem pi {x:AV} (h:x.val=true):(Go.aH.bL x).val=true:=by
 cases x <;> simp_all [Go.aH.bL,AV.val]
def fX (esz bytes:Nat) (z n:AV) (H:List aa) (K:AV→List aa→Prop):Prop:=
 match n with
 | .int .i64 n=>0≤n∧n.toNat * bytes≤140737488355328∧aj (H.length + 1) (flat (List.replicate n.toNat (bL z)))=true∧
    K (.a8 H.length 0 n.toNat n.toNat) (H++[.cells (flat (List.replicate n.toNat (bL z)))])
 | _=>False
theorem run_mk {t e:TypeId} {i:TypeInfo} {z:Value} {esz bytes:Nat} (ht:P.underlying t=some (.slice e)) (hi:P.info? e=some i) (hz:i.zero=some z) (df:i.size=esz) (xH:i.bytes=bytes) (tX:z.cells.size=esz) (h0:0 < esz) (uL:0 < bytes)
 (l c:Int) (Dq:0≤l) (za:l≤c) (hc:c.toNat * bytes≤140737488355328) (w:World) :
 ∃ cs:Array Value,(Instr.makeSlice t (.int .i64 l) (.int .i64 c)).run P w=.ok (.slice (some ⟨w.heap.size,0,none⟩) l.toNat c.toNat) { w with heap:=w.heap.push (.cells cs e) }∧cs=(Array.range (c.toNat * esz)).map (z.cells[· % z.cells.size]!):=by
 have iR:c.toNat≤140737488355328:=Nat.le_trans (Nat.le_mul_of_pos_right _ uL) hc
 have L5:0≤c:=by omega
 have w1:IntKind.i64.wrap l=l:=by
  have:IntKind.i64.bits=64:=rfl
  have:IntKind.i64.signed=true:=rfl
  simp only [IntKind.wrap, *]
  have:l % 2 ^ 64=l:=Int.emod_eq_of_lt Dq (by omega)
  rw [this]
  rw [if_neg (by simp;omega)]
 have w2:IntKind.i64.wrap c=c:=by
  have:IntKind.i64.bits=64:=rfl
  have:IntKind.i64.signed=true:=rfl
  simp only [IntKind.wrap, *]
  have:c % 2 ^ 64=c:=Int.emod_eq_of_lt L5 (by omega)
  rw [this]
  rw [if_neg (by simp;omega)]
 have YH:(c.toNat:Int)=c:=Int.toNat_of_nonneg L5
 have L9:¬ ((bytes:Int) * c > 2 ^ 48):=by
  have:(bytes:Int) * c=((c.toNat * bytes:Nat):Int):=by rw [Int.natCast_mul,YH,Int.mul_comm]
  rw [this];omega
 have wZ:¬ c < 0:=by omega
 have hneg2:¬ l < 0:=by omega
 have hgt:¬ l > c:=by omega
 refine ⟨_,?_,rfl⟩
 simp only [Instr.makeSlice,Sem.run_bind,run_underlying ht,Result.andThen_ok,asInt,asIntOf,Sem.run_pure,typeInfo,run_program,hi,xH,w1,w2,wZ,hneg2,hgt,L9,decide_false,Bool.or_self,Bool.false_eq_true,if_false,run_askRoom,sizeOf,df]
 by_cases hn:c.toNat * esz=0
 ·simp [hn,newRow]
  congr 2
  apply Array.ext'
  simp
 ·simp [hn,zeroValue,typeInfo,hi,hz,newRow]
theorem DJ (hs:St A M L w H ev ea O) {t e:TypeId} {i:TypeInfo} {zv:Value} {esz bytes:Nat} (ht:P.underlying t=some (.slice e)) (hi:P.info? e=some i) (hz:i.zero=some zv) (df:i.size=esz) (xH:i.bytes=bytes) (h0:0 < esz) (uL:0 < bytes)
 {z:AV} (Ly:ofValue zv=some z) (sO:z.val=true) (iV:z.cells.length=esz) (IW:∀ y∈z.cells,∀ own xs,y=.ap own xs→own=0) {u:Value} {n:AV} {K:AV→List aa→Prop} (h:fX esz bytes z n H K) (hu:aS M L u n) :
 ∃ r x L' w' H',(Instr.makeSlice t u u).run P w=.ok r w'∧aS M L' r x∧(∀ own xs,x=.ap own xs→own=0)∧K x H'∧St A M L' w' H' ev ea O∧Ext A M w M w'∧L <+: L':=by
 unfold fX at h
 split at h <;> try exact h.elim
 rename_i n
 obtain ⟨Ma,Uh,ni,hK⟩:=h
 cases hu
 have Bi:=(cI (M:=M) (L:=L) Ly).bL.fV (pi sO)
 have tX:zv.cells.size=esz:=by have:=Bi.length;rw [jk,iV] at this;simpa using this
 obtain ⟨cs,bE,rfl⟩:=run_mk ht hi hz df xH tX h0 uL n n Ma (Int.le_refl _) Uh w
 have hcells:=jD (M:=M) (L:=L) zv.cells esz n.toNat tX h0 (bL z) Bi
 have YH:n.toNat≤140737488355328:=Nat.le_trans (Nat.le_mul_of_pos_right _ uL) Uh
 obtain ⟨g1,g2⟩:=hs.rv (.cells ((Array.range (n.toNat * esz)).map (zv.cells[· % zv.cells.size]!)) e) (.cells (flat (List.replicate n.toNat (bL z)))) (fun w' hw hM=>⟨_,e,hw,hcells.mono (Mem.bM M) ⟨_,rfl⟩,hM⟩) (by simpa [aa.aZ] using ni) (fun j=>by
  simp only [nl]
  refine bf.free ?_
  intro own xs hh
  rw [List.getD_eq_getElem?_getD] at hh
  cases hx:(flat (List.replicate n.toNat (bL z)))[j]? with
  | none=>simp [hx] at hh
  | some y=>
    simp [hx] at hh
    have hy:=List.mem_of_getElem? hx
    simp only [flat,List.mem_flatMap] at hy
    obtain ⟨q,hq,Mb⟩:=hy
    rw [List.eq_of_mem_replicate hq] at Mb
    subst hh
    cases z <;> simp only [bL,AV.cells] at Mb IW
    case agg ys=>
     obtain ⟨y',_,YI⟩:=List.mem_map.1 Mb
     exact AV.jq y' own xs YI
    all_goals exact IW _ Mb own xs rfl)
 refine ⟨_,.a8 H.length 0 n.toNat n.toNat,_,_,_,bE,.a8 w.heap.size 0 _ _ H.length ?_ (by omega),(by intro _ _ e;cases e),hK,g1,g2,⟨_,rfl⟩⟩
 rw [List.getElem?_append_right (by rw [hs.len];exact Nat.le_refl _),hs.len];simp
def iW (esz bytes:Nat) (n:AV) (φ:AV→Prop):Prop:=
 match n with
 | .int .i64 n=>0≤n∧n.toNat * bytes≤140737488355328∧φ (.ap esz [])
 | _=>False
theorem DK (hs:St A M L w H ev ea O) {t e:TypeId} {i:TypeInfo} {zv:Value} {esz bytes:Nat} (ht:P.underlying t=some (.slice e)) (hi:P.info? e=some i) (hz:i.zero=some zv) (df:i.size=esz) (xH:i.bytes=bytes) (h0:0 < esz) (uL:0 < bytes)
 (tX:zv.cells.size=esz) {u:Value} {n:AV} {φ:AV→Prop} (h:iW esz bytes n φ) (hu:aS M L u n) :
 ∃ r w' M' b,(Instr.makeSlice t (.int .i64 0) u).run P w=.ok r w'∧aS M' L r (.ap esz [])∧φ (.ap esz [])∧bf M' w' r (.ap esz []) (some b)∧St A M' L w' H ev ea O∧Ext A M w M' w'∧
  (∀ q,O q≠some b)∧b∉L∧b < w'.heap.size∧A b:=by
 unfold iW at h
 split at h <;> try exact h.elim
 rename_i n
 obtain ⟨Ma,Uh,hφ⟩:=h
 cases hu
 obtain ⟨cs,bE,wP⟩:=run_mk ht hi hz df xH tX h0 uL 0 n (Int.le_refl _) Ma Uh w
 have YH:n.toNat≤140737488355328:=Nat.le_trans (Nat.le_mul_of_pos_right _ uL) Uh
 obtain ⟨g1,g2,g3⟩:=hs.pS cs e (0,0) [] (fun j v hv=>by simp at hv)
 refine ⟨_,_,_,w.heap.size,bE,.gF _ _ _ (by omega),hφ,?_,g1,g2,fun q hq=>absurd (hs.fj q _ hq) (Nat.lt_irrefl _),fun hm=>absurd (hs.lt _ hm) (Nat.lt_irrefl _),by simp,hs.fresh _ (Nat.le_refl _)⟩
 unfold bf
 simp only [Nat.ne_of_gt h0,if_false]
 refine ⟨by simp,.inr ⟨_,0,0,n.toNat,cs,e,(0,0),rfl,by simp,dJ w _,oc _,?_,?_⟩⟩
 ·rw [wP];simp
 ·intro k _ _
  simp [Mem.add]
def dx (x:Option AV) (d:Nat) (φ:Nat→Prop):Prop:=
 match x with
 | none=>φ d
 | some (.int _ i)=>0≤i∧φ i.toNat
 | _=>False
def eJ (esz:Nat) (x:AV) (lo hi mx:Option AV) (φ:AV→Prop):Prop:=
 match dw x with
 | some xs=>dx hi xs.length fun h=>dx lo 0 fun l=>l≤h∧h≤xs.length∧
    match mx with
    | none=>φ (.ap 0 ((xs.take h).drop l))
    | some m=>hi.isSome=true∧dx (some m) 0 fun m=>m=h∧(∀ y∈xs,y.cells.length=esz)∧φ (.ap esz ((xs.take h).drop l))
 | none=>False
theorem xJ:∀ (xs:List AV) (e n:Nat),(∀ y∈xs,y.cells.length=e)→flat (xs.take n)=(flat xs).take (n * e)
 | [],e,n,_=>by simp [flat]
 | y::ys,e,0,_=>by simp [flat]
 | y::ys,e,n + 1,hx=>by
   have hy:=hx y (by simp)
   have ih:=xJ ys e n (fun z hz=>hx z (by simp [hz]))
   simp only [flat] at ih
   simp only [List.take_succ_cons,flat,List.flatMap_cons,ih]
   rw [List.take_append,List.take_of_length_le (l:=y.cells) (by rw [hy,Nat.add_mul];omega),hy,show (n + 1) * e - e=n * e by rw [Nat.add_mul];omega]
theorem xK:∀ (xs:List AV) (e n:Nat),(∀ y∈xs,y.cells.length=e)→flat (xs.drop n)=(flat xs).drop (n * e)
 | [],e,n,_=>by simp [flat]
 | y::ys,e,0,_=>by simp [flat]
 | y::ys,e,n + 1,hx=>by
   have hy:=hx y (by simp)
   have ih:=xK ys e n (fun z hz=>hx z (by simp [hz]))
   simp only [flat] at ih
   simp only [List.drop_succ_cons,flat,List.flatMap_cons]
   rw [ih,List.drop_append,List.drop_eq_nil_of_le (as:=y.cells) (by rw [hy,Nat.add_mul];omega),hy,show (n + 1) * e - e=n * e by rw [Nat.add_mul];omega]
   rfl
def iX (M:Mem) (L:List Nat) (x:Option AV) (v:Option Value):Prop:=match x,v with | none,none=>True | some x,some v=>aS M L v x | _,_=>False
theorem dL {x:Option AV} {v:Option Value} (hx:iX M L x v) {d:Nat} {φ:Nat→Prop} (h:dx x d φ) :
 ∃ k,φ k∧((x=none∧v=none∧k=d)∨∃ kd i,v=some (.int kd i)∧0≤i∧i.toNat=k):=by
 unfold dx at h
 split at h
 ·cases v with
  | none=>exact ⟨d,h,.inl ⟨rfl,rfl,rfl⟩⟩
  | some v=>exact hx.elim
 ·rename_i kd i
  cases v with
  | none=>exact hx.elim
  | some v=>
    have wO:aS M L v (.int kd i):=hx
    cases wO
    exact ⟨_,h.2,.inr ⟨_,_,rfl,h.1,rfl⟩⟩
 ·exact h.elim
theorem run_sliceBound (w:World) (kd:IntKind) (i:Int) (y:Nat) (code:BoundsCode) (h0:0≤i) (h1:i.toNat≤y):(Instr.sliceBound (.int kd i) y code).run P w=.ok i.toNat w:=by
 have:0≤i∧i≤(y:Int):=⟨h0,by omega⟩
 simp [Instr.sliceBound,asIntOf,this]
theorem uM (hs:St A M L w H ev ea O) {t e:TypeId} {esz:Nat} (ht:P.underlying t=some (.slice e)) (he:dK P e=some esz) (h0:0 < esz) {u:Value} {x:AV} {lo hi mx:Option AV} {vlo vhi vmx:Option Value} {φ:AV→Prop}
 (h:eJ esz x lo hi mx φ) (hu:aS M L u x) (Qu:∀ own xs,x=.ap own xs→∀ z∈xs,z.cells.length=esz)
 (h1:iX M L lo vlo) (h2:iX M L hi vhi) (h3:iX M L mx vmx) :
 ∃ a n c own ys,(Instr.sliceAt t u vlo vhi vmx).run P w=.ok (.slice a n c) w∧aS M L (.slice a n c) (.ap own ys)∧φ (.ap own ys)∧(own≠0→n=c∧∀ y∈ys,y.cells.length=own):=by
 unfold eJ at h
 split at h <;> try exact h.elim
 rename_i xs ej
 have df:(sizeOf e).run P w=.ok esz w:=by
  obtain ⟨i,hi,L4⟩:=Option.map_eq_some_iff.1 he
  simp [sizeOf,typeInfo,hi,L4]
 obtain ⟨hh,h,IY⟩:=dL h2 h
 obtain ⟨ll,h,uK⟩:=dL h1 h
 obtain ⟨hle,X2,h⟩:=h
 have zd:∃ own,aS M L u (.ap own xs):=by
  unfold dw at ej
  split at ej
  ·cases ej;cases hu;exact ⟨0,.gF _ _ _ (by decide)⟩
  ·cases ej;exact ⟨_,hu⟩
  ·cases ej
 obtain ⟨own0,zd⟩:=zd
 have GB:∀ z∈xs,z.cells.length=esz:=by
  unfold dw at ej
  split at ej
  ·cases ej;simp
  ·cases ej;exact Qu _ _ rfl
  ·cases ej
 have hform:∃ bs c,u=.slice bs xs.length c∧xs.length≤c∧c < 9223372036854775808:=by
  cases zd with
  | gF a c _ hc=>exact ⟨a,c,rfl,Nat.zero_le _,hc⟩
  | ap b off c _ e cs _ he hx hn hle hc hr hm=>exact ⟨_,c,rfl,hle,hc⟩
 obtain ⟨bs,c,rfl,hxc,hc⟩:=hform
 have X3:∀ (own m:Nat),hh≤m→m≤c→aS M L (.slice (if m=ll then bs else bs.map (·.add (ll * esz))) (hh - ll) (m - ll)) (.ap own ((xs.take hh).drop ll)):=by
  intro own m hm1 hm2
  have hlen:((xs.take hh).drop ll).length=hh - ll:=by simp;omega
  by_cases hz:hh - ll=0
  ·have:(xs.take hh).drop ll=[]:=List.eq_nil_of_length_eq_zero (by omega)
   rw [this,hz]
   exact .gF _ _ _ (by omega)
  ·rcases (tY zd).2 with ⟨h',_⟩ | ⟨b,off,cs,rfl,hr,hm⟩
   ·subst h';simp at hlen;omega
   ·rw [if_neg (by omega)]
    simp only [Option.map_some,Addr.add_lit]
    have wO:∀ z∈(xs.take hh).drop ll,z.cells.length=esz:=fun z hz=>GB z (List.mem_of_mem_take (List.mem_of_mem_drop hz))
    have:=aS.ap (M:=M) (L:=L) b (off + ll * esz) (m - ll) own esz ((cs.take (hh * esz)).drop (ll * esz)) ((xs.take hh).drop ll) h0 wO (by omega) (by omega) (by omega) (by
     rw [xK _ esz ll (fun z hz=>GB z (List.mem_of_mem_take hz)),xJ _ esz hh GB]
     exact (hr.take _).drop _) (by
     intro j v hv
     rw [List.getElem?_drop,List.getElem?_take] at hv
     split at hv
     ·have:=hm _ v hv
      rwa [← Nat.add_assoc] at this
     ·cases hv)
    rwa [hlen] at this
 cases mx with
 | none=>
   cases vmx with
   | some v=>exact h3.elim
   | none=>
     refine ⟨_,_,_,0,_,?_,X3 0 c (by omega) (Nat.le_refl _),h,fun h=>absurd rfl h⟩
     have hb:(Instr.sliceBounds true xs.length c vlo vhi none).run P w=.ok (ll,hh,c) w:=by
      rcases IY with ⟨_,rfl,rfl⟩ | ⟨kd,i,rfl,tZ,rfl⟩ <;> rcases uK with ⟨_,rfl,rfl⟩ | ⟨kd',i',rfl,tQ,rfl⟩
      ·rfl
      ·have pj:=run_sliceBound (P:=P) w kd' i' xs.length .sliceB tQ hle
       simp [Instr.sliceBounds,pj]
      ·have pj:=run_sliceBound (P:=P) w kd i c .sliceAcap tZ (by omega)
       simp [Instr.sliceBounds,pj]
      ·have pj:=run_sliceBound (P:=P) w kd i c .sliceAcap tZ (by omega)
       have pR:=run_sliceBound (P:=P) w kd' i' i.toNat .sliceB tQ hle
       simp [Instr.sliceBounds,pj,pR]
     simp only [Instr.sliceAt,Instr.slice,Sem.run_bind,run_underlying ht,Result.andThen_ok,hb,df,Sem.run_pure]
 | some m=>
   cases vmx with
   | none=>exact h3.elim
   | some vm=>
     obtain ⟨hsome,h⟩:=h
     obtain ⟨mm,⟨rfl,_,hφ⟩,TN⟩:=dL (v:=some vm) h3 h
     rcases TN with ⟨hh',_⟩ | ⟨kdm,im,hvm,YJ,IS⟩
     ·cases hh'
     cases hvm
     refine ⟨_,_,_,esz,_,?_,X3 esz mm (Nat.le_refl _) (by omega),hφ,fun _=>⟨rfl,fun y hy=>GB y (List.mem_of_mem_take (List.mem_of_mem_drop hy))⟩⟩
     have hb:(Instr.sliceBounds true xs.length c vlo vhi (some (.int kdm im))).run P w=.ok (ll,mm,mm) w:=by
      have L3:=run_sliceBound (P:=P) w kdm im c .slice3Acap YJ (by omega)
      rw [IS] at L3
      rcases IY with ⟨hn,rfl,hd⟩ | ⟨kd,i,rfl,tZ,X4⟩
      ·rw [hn] at hsome;cases hsome
      ·have pj:=run_sliceBound (P:=P) w kd i mm .slice3B tZ (by omega)
       rw [X4] at pj
       rcases uK with ⟨_,rfl,rfl⟩ | ⟨kd',i',rfl,tQ,rfl⟩
       ·simp [Instr.sliceBounds,L3,pj]
       ·have pR:=run_sliceBound (P:=P) w kd' i' mm .slice3C tQ hle
        simp [Instr.sliceBounds,L3,pj,pR]
     simp only [Instr.sliceAt,Instr.slice,Sem.run_bind,run_underlying ht,Result.andThen_ok,hb,df,Sem.run_pure]
def ca (x:AV) (lo hi:Option AV) (φ:AV→Prop):Prop:=
 match x with
 | .str s=>dx hi s.size fun h=>dx lo 0 fun l=>l≤h∧h≤s.size∧φ (.str (s.extract l h))
 | _=>False
theorem w5 {t:TypeId} (ht:P.underlying t=some .string) {u:Value} {x:AV} {lo hi:Option AV} {vlo vhi:Option Value} {φ:AV→Prop}
 (h:ca x lo hi φ) (hu:aS M L u x) (h1:iX M L lo vlo) (h2:iX M L hi vhi) :
 ∃ r z,(Instr.sliceAt t u vlo vhi none).run P w=.ok r w∧aS M L r z∧φ z∧∀ own xs,z=.ap own xs→own=0:=by
 unfold ca at h
 split at h <;> try exact h.elim
 rename_i s
 cases hu
 obtain ⟨hh,h,IY⟩:=dL h2 h
 obtain ⟨ll,h,uK⟩:=dL h1 h
 obtain ⟨hle,X2,hφ⟩:=h
 refine ⟨_,_,?_,.str _,hφ,by intro _ _ e;cases e⟩
 have hb:(Instr.sliceBounds false s.size s.size vlo vhi none).run P w=.ok (ll,hh,s.size) w:=by
  rcases IY with ⟨_,rfl,rfl⟩ | ⟨kd,i,rfl,tZ,rfl⟩ <;> rcases uK with ⟨_,rfl,rfl⟩ | ⟨kd',i',rfl,tQ,rfl⟩
  ·rfl
  ·have pj:=run_sliceBound (P:=P) w kd' i' s.size .sliceB tQ hle
   simp [Instr.sliceBounds,pj]
  ·have pj:=run_sliceBound (P:=P) w kd i s.size .sliceAlen tZ (by omega)
   simp [Instr.sliceBounds,pj]
  ·have pj:=run_sliceBound (P:=P) w kd i s.size .sliceAlen tZ (by omega)
   have pR:=run_sliceBound (P:=P) w kd' i' i.toNat .sliceB tQ hle
   simp [Instr.sliceBounds,pj,pR]
 simp only [Instr.sliceAt,Instr.slice,Sem.run_bind,run_underlying ht,Result.andThen_ok,Option.isSome_none,Bool.false_eq_true,if_false,Sem.run_pure,hb]
def bj (l:List UInt8):List AV:=l.map fun b=>.int .u8 b.toNat
def fI (x:AV) (φ:AV→Prop):Prop:=match x with | .str s=>φ (.str s) | _=>False
theorem zg {src dst:TypeId} {d:TypeDesc} (hs:P.underlying src=some d) (hd:P.underlying dst=some .string) {u:Value} {x:AV} {φ:AV→Prop} (h:fI x φ) (hu:aS M L u x) :
 ∃ r z,(convert src dst u).run P w=.ok r w∧aS M L r z∧φ z∧∀ own xs,z=.ap own xs→own=0:=by
 unfold fI at h
 split at h <;> try exact h.elim
 cases hu
 refine ⟨_,_,?_,.str _,h,by intro _ _ e;cases e⟩
 simp [convert,run_underlying hs,run_underlying hd]
def jE (x:AV) (φ:AV→Prop):Prop:=
 match dw x with
 | some ys=>∃ l,ys=bj l∧φ (.str ⟨l.toArray⟩)
 | none=>False
theorem uN (l:List UInt8):flat (bj l)=bj l:=by
 induction l with
 | nil=>rfl
 | cons b l ih=>simp only [bj,List.map_cons,flat,List.flatMap_cons,AV.cells] at ih ⊢;rw [ih];rfl
theorem aG.bytes:∀ {cs:List Value} {l:List UInt8},aG M L cs (bj l)→cs=l.map fun b=>.int .u8 b.toNat
 | [],[],_=>rfl
 | [],b::l,h=>by have:=h.length;simp [bj] at this
 | c::cs,[],h=>by have:=h.length;simp [bj] at this
 | c::cs,b::l,h=>by
   simp only [bj,List.map_cons] at h
   cases h with
   | cons _ _ _ _ h t=>cases h;simp [aG.bytes (l:=l) t]
theorem DL (hs:St A M L w H ev ea O) {src dst e:TypeId} (h1:P.underlying src=some (.slice e)) (h2:P.underlying e=some (.int .u8)) (hd:P.underlying dst=some .string) {u:Value} {x:AV} {φ:AV→Prop} (h:jE x φ) (hu:aS M L u x) :
 ∃ r z,(convert src dst u).run P w=.ok r w∧aS M L r z∧φ z∧∀ own xs,z=.ap own xs→own=0:=by
 unfold jE at h
 split at h <;> try exact h.elim
 rename_i ys pQ
 obtain ⟨l,rfl,hφ⟩:=h
 have zd:∃ own,aS M L u (.ap own (bj l)):=by
  unfold dw at pQ
  split at pQ
  ·cases l with
   | nil=>cases hu;exact ⟨0,.gF _ _ _ (by decide)⟩
   | cons b l=>simp [bj] at pQ
  ·cases pQ;exact ⟨_,hu⟩
  ·cases pQ
 obtain ⟨own,zd⟩:=zd
 refine ⟨_,_,?_,.str _,hφ,by intro _ _ e;cases e⟩
 cases l with
 | nil=>
   have:∃ a c,u=.slice a 0 c:=by
    cases zd with
    | gF a c _ hc=>exact ⟨a,c,rfl⟩
    | ap b off c _ e cs _ he hx hn=>simp [bj] at hn
   obtain ⟨a,c,rfl⟩:=this
   cases a with
   | none=>rw [run_convert_bytes_nil w src e h1 h2 0 c dst hd];rfl
   | some a=>
     simp [convert,run_underlying h1,run_underlying hd,run_underlying h2,Conv.bytesToString,loadCells,loadCellsFrom]
     rfl
 | cons b0 l=>
   have:∃ b off c cs,u=.slice (some ⟨b,off,none⟩) (bj (b0::l)).length c∧aG M L cs (bj (b0::l))∧M.row b off cs:=by
    generalize hl:bj (b0::l)=q at zd
    cases zd with
    | gF=>simp [bj] at hl
    | ap b off c _ e cs _ he hx hn hle hc hr hm=>
      subst hl
      rw [uN] at hr
      exact ⟨b,off,c,cs,rfl,hr,hm⟩
   obtain ⟨b,off,c,cs,rfl,hr,hm⟩:=this
   have wP:=hr.bytes
   have bE:=run_convert_bytes_arg (P:=P) w src e h1 h2 b off (bj (b0::l)).length c ((b0::l).map fun b=>(b.toNat:Int)) (by simp [bj]) (fun i hi=>by
    have mY:i < (b0::l).length:=by simpa [bj] using hi
    have:=hs.mem _ _ _ (hm i (.int .u8 ((b0::l)[i]).toNat) (by rw [wP,List.getElem?_map,List.getElem?_eq_getElem mY];rfl))
    rw [this,List.getD_eq_getElem?_getD,List.getElem?_map,List.getElem?_eq_getElem mY]
    rfl) dst hd
   rw [bE]
   congr 2
   simp only [strOfNums,List.map_map]
   congr 1
   congr 1
   conv=>rhs;rw [← List.map_id (b0::l)]
   apply List.map_congr_left
   intro b _
   simp
def fc (own:Nat) (x:AV) (φ:AV→Prop):Prop:=
 match x with
 | .str s=>s.size < 9223372036854775808∧φ (.ap own (bj s.data.toList))
 | _=>False
end
end Go.aH
end
section
namespace Go.aH
open Go
section
variable {P:Program} {w:World} {M:Mem} {L:List Nat} {H:List aa} {A:Perm} {ev:Nat→Value} {ea:Nat→AV} {O:Pos→Option Nat}
theorem Bn (w:World) (cs:Array Value) (e:TypeId) :
 ({ w with heap:=w.heap.push (.cells cs e) }:World).freeze { block:=w.heap.size,off:=cs.size } 1={ w with heap:=w.heap.push (.cells cs e (cs.size,cs.size + 1)) }:=by
 simp only [World.freeze,Nat.one_ne_zero,if_false]
 congr 1
 apply Array.ext
 ·simp
 ·intro i h1 h2
  rw [Array.getElem_modify]
  by_cases hi:w.heap.size=i
  ·subst hi;simp
  ·simp only [hi,if_false]
   have:i < w.heap.size:=by simp at h2;omega
   rw [Array.getElem_push_lt this,Array.getElem_push_lt this]
theorem Bo (l:List UInt8):aG M L (l.map fun b=>Value.int .u8 b.toNat) (bj l):=by
 induction l with
 | nil=>exact .nil
 | cons b l ih=>exact .cons _ _ _ _ (.int _ _) ih
theorem zh (hs:St A M L w H ev ea O) {src dst e:TypeId} (h1:P.underlying src=some .string) (hd:P.underlying dst=some (.slice e)) (h2:P.underlying e=some (.int .u8)) {u:Value} {x:AV} {φ:AV→Prop} (h:fc 1 x φ) (hu:aS M L u x) :
 ∃ r z w' M' ob,(convert src dst u).run P w=.ok r w'∧aS M' L r z∧φ z∧bf M' w' r z ob∧St A M' L w' H ev ea O∧Ext A M w M' w'∧
  (∀ q b,ob=some b→O q≠some b)∧(∀ b,ob=some b→b∉L∧b < w'.heap.size∧A b):=by
 unfold fc at h
 split at h <;> try exact h.elim
 rename_i s
 obtain ⟨df,hφ⟩:=h
 cases hu
 let cap:=(Question.appendCap s.size 0 e).cut (w.tape w.drawn (.appendCap s.size 0 e))
 have Pa:s.size≤cap:=by simp [cap,Question.cut]
 have oP:cap < 9223372036854775808:=by
  have:=Nat.mod_lt (w.tape w.drawn (.appendCap s.size 0 e)) (show 0 < 2 ^ 63 - s.size by omega)
  simp only [cap,Question.cut];omega
 let elems:Array Value:=s.data.map fun b=>.int .u8 b.toNat
 let cs:Array Value:=elems++Array.replicate (cap - s.size) (.int .u8 0)
 have wP:cs.size=cap:=by
  simp only [cs,elems,Array.size_append,Array.size_map,Array.size_replicate]
  have:s.data.size=s.size:=rfl
  omega
 have Pb:elems.toList=s.data.toList.map fun b=>Value.int .u8 b.toNat:=by simp [elems]
 let W:World:={ { w with drawn:=w.drawn + 1 } with heap:=w.heap.push (.cells cs e (cs.size,cs.size + 1)) }
 have bE:(convert src dst (.string s)).run P w=.ok (.slice (some ⟨w.heap.size,0,none⟩) s.size cap) W:=by
  have Dr:=Bn { w with drawn:=w.drawn + 1 } cs e
  have Qr:({ { w with drawn:=w.drawn + 1 } with heap:=w.heap.push (.cells cs e) }:World).shape? w.heap.size=some (e,cs.size):=by
   simp [World.shape?]
  simp only [convert,Sem.run_bind,run_underlying h1,run_underlying hd,run_underlying h2,Result.andThen_ok,Conv.stringToBytes,run_choose,Question.forced,Bool.false_eq_true,if_false]
  have ze:∀ W:World,(newRow e cs).run P W=.ok ⟨W.heap.size,0,none⟩ { W with heap:=W.heap.push (.cells cs e) }:=fun _=>rfl
  refine Eq.trans (congrArg (fun r=>Result.andThen r _) (ze _)) ?_
  simp only [Result.andThen_ok,Sem.run_pure,markStringish,run_shape,Sem.run_bind]
  rw [Qr]
  simp only [run_freeze,Result.andThen_ok]
  rw [Dr]
 obtain ⟨g1,g2,g3⟩:=hs.drew.pS cs e (cs.size,cs.size + 1) elems.toList (fun j v hv=>by
  have:cs.toList[j]?=some v:=by
   simp only [cs,Array.toList_append]
   rw [List.getElem?_append_left (aK hv)];exact hv
  simpa using this)
 have fF:aG (M.add w.heap.size elems.toList) L elems.toList (bj s.data.toList):=by rw [Pb];exact Bo _
 have hlen:(bj s.data.toList).length=s.size:=by simp [bj]
 have hx:∀ y∈bj s.data.toList,y.cells.length=1:=by
  intro y hy
  simp only [bj,List.mem_map] at hy
  obtain ⟨b,_,rfl⟩:=hy
  rfl
 refine ⟨_,_,W,_,some w.heap.size,bE,?_,hφ,?_,g1,Ext.drew.trans g2,?_,?_⟩
 ·by_cases h0:s.size=0
  ·have:bj s.data.toList=[]:=List.eq_nil_of_length_eq_zero (by omega)
   rw [this,h0]
   exact .gF _ _ _ oP
  ·have:=aS.ap (M:=M.add w.heap.size elems.toList) (L:=L) w.heap.size 0 cap 1 1 elems.toList (bj s.data.toList) (by omega) hx (by omega) (by omega) oP (by rw [uN];exact fF) g3
   rwa [hlen] at this
 ·unfold bf
  simp only [Nat.one_ne_zero,if_false]
  refine ⟨hx,.inr ⟨_,0,s.size,cap,cs,e,(cs.size,cs.size + 1),rfl,rfl,dJ _ _,?_,by omega,?_⟩⟩
  ·intro j hj h;simp at h;omega
  ·intro k hk _
   simp only [Mem.add,if_true,Nat.zero_add]
   refine List.getElem?_eq_none ?_
   have:elems.toList.length=s.size:=by rw [Pb];simp
   omega
 ·intro q b hb hq
  cases hb
  exact absurd (hs.fj q _ hq) (Nat.lt_irrefl _)
 ·intro b hb
  cases hb
  exact ⟨fun hm=>absurd (hs.lt _ hm) (Nat.lt_irrefl _),by simp [W],hs.fresh _ (Nat.le_refl _)⟩
def cC (kd:Nat) (x y:AV):Option Bool:=
 match kd,x,y with
 | 0,.int k a,.int k' b=>if k=k' then some (decide (a=b)) else none
 | 1,.str a,.str b=>some (decide (a=b))
 | 2,.agg [.int k a,.int l b],.agg [.int k' a',.int l' b']=>if k=k'∧l=l' then some (decide (a=a'∧b=b')) else none
 | _,_,_=>none
def kD (kd:Nat) (d:TypeDesc):Prop:=match kd,d with | 0,.int _=>True | 1,.string=>True | _,_=>False
def DM (P:Program) (kd:Nat) (d:TypeDesc):Prop:=kd=2∧∃ e q,d=.array 2 e∧P.underlying e=some (.int q)∧(P.info? e).map (·.size)=some 1
theorem zi (a b:ByteArray):(a == b)=decide (a=b):=by
 rcases a with ⟨a⟩
 rcases b with ⟨b⟩
 show (a == b)=_
 by_cases h:a=b <;> simp [h]
def og (P:Program) (t:TypeId):Option Nat:=
 match P.underlying t with
 | some (.int _)=>some 0
 | some .string=>some 1
 | some (.array 2 e)=>match P.underlying e,(P.info? e).map (·.size) with
   | some (.int _),some 1=>some 2
   | _,_=>none
 | _=>none
def di (kd:Nat) (k:AV):List (AV×AV)→Nat→Option (Option (Nat×AV))
 | [],_=>some none
 | (a,v)::r,i=>match cC kd k a with
   | some true=>some (some (i,v))
   | some false=>di kd k r (i + 1)
   | none=>none
def cr (kd:Nat) (zero m k:AV) (ok:Bool) (H:List aa) (φ:AV→Prop):Prop:=
 match m with
 | .iS=>cC kd k k=some true∧φ (if ok then .tuple [aM zero,.bool false] else aM zero)
 | .map id=>match H[id]? with
   | some (.map es)=>match di kd k es 0 with
     | some (some (_,v))=>φ (if ok then .tuple [v.drop,.bool true] else v.drop)
     | some none=>cC kd k k=some true∧φ (if ok then .tuple [aM zero,.bool false] else aM zero)
     | none=>False
   | _=>False
 | _=>False
def fx (kd:Nat) (m k x:AV) (H:List aa) (K:List aa→Prop):Prop:=
 match m with
 | .map id=>match H[id]? with
   | some (.map es)=>k.aZ (id + 1)=true∧x.aZ (id + 1)=true∧x.val=true∧match di kd k es 0 with
     | some (some (i,_))=>K (H.set id (.map (es.set i (k,aM x))))
     | some none=>cC kd k k=some true∧K (H.set id (.map (es++[(k,aM x)])))
     | none=>False
   | _=>False
 | _=>False
theorem uO {kd:Nat} {d:TypeDesc} (hd:kD kd d) {k y:AV} {b:Bool} (h:cC kd k y=some b) {u v:Value} (hu:aS M L u k) (hv:aS M L v y) :
 Instr.sameNow d u v=some b∧(b=true→v=u):=by
 unfold cC at h
 split at h
 ·rename_i k a k' b'
  cases hu;cases hv
  split at h
  ·rename_i e;subst e
   cases h
   cases d <;> simp only [kD] at hd
   refine ⟨by simp [Instr.sameNow,pT],?_⟩
   intro h;simp at h;rw [h]
  ·cases h
 ·rename_i a b'
  cases hu;cases hv
  cases h
  cases d <;> simp only [kD] at hd
  refine ⟨by simp only [Instr.sameNow,zi],?_⟩
  intro h;simp at h;rw [h]
 ·cases d <;> simp only [kD] at hd
 ·cases h
theorem xL {kd:Nat} {d:TypeDesc} (hd:kD kd d) {k:AV} {u:Value} (hu:aS M L u k) :
 ∀ (es:List (AV×AV)) (ents:List MapEntry) (i:Nat) (r:Option (Nat×AV)),aG M L (ents.map (·.key)) (es.map (·.1))→aG M L (ents.map (·.val)) (es.map (·.2))→di kd k es i=some r→
  match r with
  | none=>Instr.findNow d u ents i=some none
  | some (j,x)=>i≤j∧∃ v,Instr.findNow d u ents i=some (some (j,v))∧aS M L v x∧∃ en,ents[j - i]?=some en∧en.key=u∧en.val=v∧j - i < es.length
 | [],ents,i,r,h1,h2,h=>by
   cases ents with
   | nil=>simp [di] at h;subst h;rfl
   | cons a b=>have:=h1.length;simp at this
 | (a,x)::es,[],i,r,h1,h2,h=>by have:=h1.length;simp at this
 | (a,x)::es,en::ents,i,r,h1,h2,h=>by
   simp only [List.map_cons] at h1 h2
   cases h1 with
   | cons _ _ _ _ hk DN=>
   cases h2 with
   | cons _ _ _ _ hv wX=>
   unfold di at h
   split at h
   ·rename_i he
    cases h
    obtain ⟨e1,e2⟩:=uO hd he hu hk
    exact ⟨Nat.le_refl _,en.val,by simp [Instr.findNow,e1],hv,en,by simp,e2 rfl,rfl,by simp⟩
   ·rename_i he
    obtain ⟨e1,_⟩:=uO hd he hu hk
    have ih:=xL hd hu es ents (i + 1) r DN wX h
    cases r with
    | none=>simp only at ih ⊢;simp [Instr.findNow,e1,ih]
    | some jx=>
      obtain ⟨j,y⟩:=jx
      simp only at ih ⊢
      obtain ⟨hij,v,f1,f2,en',f3,f4,f5,f6⟩:=ih
      refine ⟨by omega,v,by simp [Instr.findNow,e1,f1],f2,en',?_,f4,f5,by simp;omega⟩
      rw [show j - i=(j - (i + 1)) + 1 by omega]
      simpa using f3
   ·cases h
theorem pU {t:TypeId} {kd:Nat} (h:og P t=some kd):∃ d,P.underlying t=some d∧(kD kd d∨DM P kd d):=by
 unfold og at h
 split at h
 ·rename_i k hu;cases h;exact ⟨_,hu,.inl trivial⟩
 ·rename_i hu;cases h;exact ⟨_,hu,.inl trivial⟩
 ·rename_i e hu
  split at h <;> cases h
  rename_i q h1 h2
  exact ⟨_,hu,.inr ⟨rfl,e,q,rfl,h1,h2⟩⟩
 ·cases h
theorem pV {e:TypeId} {q:IntKind} (h2:P.underlying e=some (.int q)) {cs:Array Value} {off:Nat} {v:Value} (hv:cs[off]?=some v) (w:World):(part e cs off).run P w=.ok v w:=by
 simp [part,isAgg,run_underlying h2,hv]
theorem GG {e:TypeId} {q:IntKind} (h2:P.underlying e=some (.int q)) (d:Nat) (k:IntKind) (a a':Int) (w:World):(Op.equalIn (d + 1) e (.int k a) (.int k a')).run P w=.ok (decide (a=a')) w:=by
 rw [Op.equalIn]
 simp [run_underlying h2,pT]
theorem xM {kt e:TypeId} {q:IntKind} (h1:P.underlying kt=some (.array 2 e)) (h2:P.underlying e=some (.int q)) (h3:(P.info? e).map (·.size)=some 1) (d:Nat) (k l:IntKind) (a b a' b':Int) (w:World) :
 (Op.equalIn (d + 1 + 1) kt (.agg #[.int k a,.int l b]) (.agg #[.int k a',.int l b'])).run P w=.ok (decide (a=a'∧b=b')) w:=by
 obtain ⟨i,hi,hs⟩:=Option.map_eq_some_iff.1 h3
 have hz:(sizeOf e).run P w=.ok 1 w:=by simp [sizeOf,typeInfo,hi,hs]
 have p0:∀ x y:Value,(part e #[x,y] 0).run P w=.ok x w:=fun x y=>pV h2 (by simp) w
 have p1:∀ x y:Value,(part e #[x,y] 1).run P w=.ok y w:=fun x y=>pV h2 (by simp) w
 rw [Op.equalIn]
 simp only [Sem.run_bind,run_underlying h1,Result.andThen_ok,hz]
 by_cases ha:a=a' <;> by_cases hb:b=b' <;>
 simp [Std.Legacy.Range.forIn_eq_forIn_range',List.range',p0,p1,GG h2,ha,hb]
theorem aG.two {vs:List Value} {x y:AV} (h:aG M L vs [x,y]):∃ u v,vs=[u,v]∧aS M L u x∧aS M L v y:=by
 cases h with
 | cons u x vs xs h1 h2=>obtain ⟨v,rfl,h3⟩:=h2.Fh;exact ⟨u,v,rfl,h1,h3⟩
theorem aS.pair {u:Value} {k l:IntKind} {a b:Int} (h:aS M L u (.agg [.int k a,.int l b])):u=.agg #[.int k a,.int l b]:=by
 cases h with
 | agg cs xs hr=>
   obtain ⟨x,y,rfl,h1,h2⟩:=hr.two
   cases h1;cases h2
   rfl
theorem pk {k y:AV} {b:Bool} (h:cC 2 k y=some b):∃ p q i j i' j',k=.agg [.int p i,.int q j]∧y=.agg [.int p i',.int q j']∧b=decide (i=i'∧j=j'):=by
 unfold cC at h
 split at h
 ·have:(2:Nat)=0:=by assumption
  omega
 ·have:(2:Nat)=1:=by assumption
  omega
 ·split at h <;> cases h
  rename_i e
  obtain ⟨rfl,rfl⟩:=e
  exact ⟨_,_,_,_,_,_,rfl,rfl,rfl⟩
 ·cases h
def found (P:Program) (kt:TypeId) (u:Value) (ents:List MapEntry) (M:Mem) (L:List Nat) (n:Nat) (r:Option (Nat×AV)):Prop:=
 match r with
 | none=>∀ w,(Instr.findKey kt u ents).run P w=.ok none w
 | some (j,x)=>∃ v,(∀ w,(Instr.findKey kt u ents).run P w=.ok (some (j,v)) w)∧aS M L v x∧∃ en,ents[j]?=some en∧en.key=u∧en.val=v∧j < n
theorem uP {kt e:TypeId} {q:IntKind} (h1:P.underlying kt=some (.array 2 e)) (h2:P.underlying e=some (.int q)) (h3:(P.info? e).map (·.size)=some 1) {k:AV} {u:Value} (hu:aS M L u k) :
 ∀ (es:List (AV×AV)) (ents:List MapEntry) (i:Nat) (r:Option (Nat×AV)),aG M L (ents.map (·.key)) (es.map (·.1))→aG M L (ents.map (·.val)) (es.map (·.2))→di 2 k es i=some r→
  match r with
  | none=>∀ w,(Instr.findAsking kt u ents i).run P w=.ok none w
  | some (j,x)=>i≤j∧∃ v,(∀ w,(Instr.findAsking kt u ents i).run P w=.ok (some (j,v)) w)∧aS M L v x∧∃ en,ents[j - i]?=some en∧en.key=u∧en.val=v∧j - i < es.length
 | [],ents,i,r,k1,k2,h=>by
   cases ents with
   | nil=>simp [di] at h;subst h;exact fun w=>rfl
   | cons a b=>have:=k1.length;simp at this
 | (a,x)::es,[],i,r,k1,k2,h=>by have:=k1.length;simp at this
 | (a,x)::es,en::ents,i,r,k1,k2,h=>by
   simp only [List.map_cons] at k1 k2
   cases k1 with
   | cons _ _ _ _ hk DN=>
   cases k2 with
   | cons _ _ _ _ hv wX=>
   unfold di at h
   split at h
   ·rename_i he
    cases h
    obtain ⟨p,q',m,n,m',n',rfl,rfl,hb⟩:=pk he
    have hd:=of_decide_eq_true hb.symm
    have e1:=hu.pair
    have e2:=hk.pair
    refine ⟨Nat.le_refl _,en.val,fun w=>?_,hv,en,by simp,?_,rfl,by simp⟩
    ·have:=xM (P:=P) h1 h2 h3 9998 p q' m n m' n' w
     simp only [Instr.findAsking,e1,e2,Sem.run_bind,Op.equal,Op.maxDepth]
     rw [this]
     simp [hd]
    ·rw [e1,e2,hd.1,hd.2]
   ·rename_i he
    obtain ⟨p,q',m,n,m',n',rfl,rfl,hb⟩:=pk he
    have hd:=of_decide_eq_false hb.symm
    have e1:=hu.pair
    have e2:=hk.pair
    have j3:∀ w,(Instr.findAsking kt u (en::ents) i).run P w=(Instr.findAsking kt u ents (i + 1)).run P w:=fun w=>by
     have:=xM (P:=P) h1 h2 h3 9998 p q' m n m' n' w
     rw [Instr.findAsking,Sem.run_bind,e1,e2,Op.equal,Op.maxDepth,this]
     simp only [Result.andThen_ok,hd,decide_false]
     rfl
    have ih:=uP h1 h2 h3 hu es ents (i + 1) r DN wX h
    cases r with
    | none=>exact fun w=>(j3 w).trans (ih w)
    | some jx=>
      obtain ⟨j,y⟩:=jx
      simp only at ih ⊢
      obtain ⟨hij,v,f1,f2,en',f3,f4,f5,f6⟩:=ih
      refine ⟨by omega,v,fun w=>(j3 w).trans (f1 w),f2,en',?_,f4,f5,by simp;omega⟩
      rw [show j - i=(j - (i + 1)) + 1 by omega]
      simpa using f3
   ·cases h
theorem kh {kt:TypeId} {kd:Nat} {d:TypeDesc} (IM:P.underlying kt=some d) (hd:kD kd d∨DM P kd d) {k:AV} {u:Value} (hu:aS M L u k) {es:List (AV×AV)} {ents:List MapEntry} {r:Option (Nat×AV)}
 (h1:aG M L (ents.map (·.key)) (es.map (·.1))) (h2:aG M L (ents.map (·.val)) (es.map (·.2))) (h:di kd k es 0=some r):found P kt u ents M L es.length r:=by
 rcases hd with hd | ⟨rfl,e,q,rfl,k1,k2⟩
 ·have:=xL hd hu es ents 0 r h1 h2 h
  cases r with
  | none=>intro w;simp only at this;simp [Instr.findKey,run_underlying IM,this]
  | some jx=>
    obtain ⟨j,x⟩:=jx
    simp only [Nat.sub_zero] at this
    obtain ⟨_,v,f1,f2,f3⟩:=this
    exact ⟨v,fun w=>by simp [Instr.findKey,run_underlying IM,f1],f2,f3⟩
 ·have:=uP IM k1 k2 hu es ents 0 r h1 h2 h
  have Ui:∀ en (l:List MapEntry),Instr.findNow (.array 2 e) u (en::l) 0=none:=fun en l=>rfl
  cases ents with
  | nil=>
    have zj:es=[]:=by have:=h1.length;simpa using this.symm
    subst zj
    simp [di] at h;subst h
    intro w
    simp [Instr.findKey,run_underlying IM,Instr.findNow]
  | cons en l=>
    cases r with
    | none=>intro w;simp only at this;simp [Instr.findKey,run_underlying IM,Ui,this]
    | some jx=>
      obtain ⟨j,x⟩:=jx
      simp only [Nat.sub_zero] at this
      obtain ⟨_,v,f1,f2,f3⟩:=this
      exact ⟨v,fun w=>by simp [Instr.findKey,run_underlying IM,Ui,f1],f2,f3⟩
theorem run_checkKey_plain {t:TypeId} {d:TypeDesc} {kd:Nat} (ht:P.underlying t=some d) (hd:kD kd d) (w:World) (oN:Bool) (n:Nat) (v:Value) :
 (Instr.checkKey oN (n + 1) t v).run P w=.ok () w:=by
 have:d=.string∨∃ k,d=.int k:=by
  unfold kD at hd
  split at hd
  ·exact .inr ⟨_,rfl⟩
  ·exact .inl rfl
  ·exact hd.elim
 rcases this with rfl | ⟨k,rfl⟩ <;> simp [Instr.checkKey,run_underlying ht]
theorem run_checkKey {t:TypeId} {d:TypeDesc} {kd:Nat} (ht:P.underlying t=some d) (hd:kD kd d∨DM P kd d) (w:World) (oN:Bool) (n:Nat) {v:Value} {k y:AV} {b:Bool} (hv:aS M L v k) (hk:cC kd k y=some b) :
 (Instr.checkKey oN (n + 1 + 1) t v).run P w=.ok () w:=by
 rcases hd with hd | ⟨rfl,e,q,rfl,k1,k2⟩
 ·exact run_checkKey_plain ht hd w oN _ v
 ·obtain ⟨p,q',m,n',m',n2,rfl,_⟩:=pk hk
  have e1:=hv.pair
  obtain ⟨i,hi,hs⟩:=Option.map_eq_some_iff.1 k2
  have hz:(sizeOf e).run P w=.ok 1 w:=by simp [sizeOf,typeInfo,hi,hs]
  have p0:∀ x y:Value,(part e #[x,y] 0).run P w=.ok x w:=fun x y=>pV k1 (by simp) w
  have p1:∀ x y:Value,(part e #[x,y] 1).run P w=.ok y w:=fun x y=>pV k1 (by simp) w
  have c:∀ v,(Instr.checkKey oN (n + 1) e v).run P w=.ok () w:=fun v=>run_checkKey_plain (kd:=0) k1 trivial w oN n v
  rw [Instr.checkKey,e1]
  simp only [Sem.run_bind,run_underlying ht,Result.andThen_ok]
  simp [Std.Legacy.Range.forIn_eq_forIn_range',List.range',p0,p1,c,hz]
theorem zk {kd:Nat} {k:AV} (hk:∃ b,cC kd k k=some b) {u:Value} (hu:aS M L u k) (n:Nat):Instr.sameBits (n + 1) u u=true:=by
 obtain ⟨b,hk⟩:=hk
 unfold cC at hk
 split at hk
 ·cases hu;simp [Instr.sameBits]
 ·cases hu;simp [Instr.sameBits,zi]
 ·rw [hu.pair];simp [Instr.sameBits]
 ·cases hk
theorem oS {kd:Nat} {k y:AV} {b:Bool} (h:cC kd k y=some b):∃ b,cC kd k k=some b:=by
 unfold cC at h
 split at h
 ·exact ⟨true,by simp [cC]⟩
 ·exact ⟨true,by simp [cC]⟩
 ·exact ⟨true,by simp [cC]⟩
 ·cases h
theorem rD {kd:Nat} {k:AV}:∀ (es:List (AV×AV)) (i j:Nat) (x:AV),di kd k es i=some (some (j,x))→∃ b,cC kd k k=some b
 | [],i,j,x,h=>by simp [di] at h
 | (a,v)::es,i,j,x,h=>by
   unfold di at h
   split at h
   ·rename_i he;exact oS he
   ·rename_i he;exact oS he
   ·cases h
theorem Bp (hs:St A M L w H ev ea O) {t kt et:TypeId} {kd:Nat} (ht:P.underlying t=some (.map kt et)) (hk:og P kt=some kd) {zero:AV} (hz:fH P et=some zero) {u v:Value} {m k:AV} {ok:Bool} {φ:AV→Prop}
 (h:cr kd zero m k ok H φ) (hu:aS M L u m) (hv:aS M L v k) :
 ∃ r z,(Instr.lookup t u v ok).run P w=.ok r w∧aS M L r z∧φ z∧∀ own xs,z=.ap own xs→own=0:=by
 obtain ⟨d,IT,GF⟩:=pU hk
 have hzero:∃ zv,(zeroValue et).run P w=.ok zv w∧aS M L zv (aM zero):=by
  unfold fH at hz
  split at hz
  ·rename_i i hi
   split at hz
   ·rename_i zv sO
    exact ⟨zv,by simp [zeroValue,typeInfo,hi,sO],(cI hz).aM⟩
   ·cases hz
  ·cases hz
 obtain ⟨zv,Bi,hzrep⟩:=hzero
 have GH:(∃ b,cC kd k k=some b)→∀ oN,(Instr.checkKey oN 10000 kt v).run P w=.ok () w:=fun ⟨b,hb⟩ oN=>run_checkKey (n:=9998) IT GF w oN hv hb
 have free:∀ z own xs,(if ok then AV.tuple [aM z,.bool false] else aM z)=.ap own xs→own=0:=by
  intro z own xs e
  cases ok
  ·simp at e;exact DD z own xs e
  ·simp at e
 unfold cr at h
 split at h
 ·obtain ⟨Lw,hφ⟩:=h
  have Mc:=GH ⟨_,Lw⟩
  cases hu
  refine ⟨if ok then .tuple #[zv,.bool false] else zv,_,?_,?_,hφ,free zero⟩
  ·have:(Instr.findKey kt v (#[]:Array MapEntry).toList).run P w=.ok none w:=by simp [Instr.findKey,run_underlying IT,Instr.findNow]
   simp only [Instr.lookup,Sem.run_bind,run_underlying ht,Result.andThen_ok,Sem.run_pure,Mc,this,Bi]
  ·cases ok
   ·simpa using hzrep
   ·simpa using aS.tuple [zv,.bool false] _ (.cons _ _ _ _ hzrep (.cons _ _ _ _ (.bool _) .nil))
 ·rename_i id
  cases hu with
  | map b _ hl=>
  split at h <;> try exact h.elim
  rename_i es bk
  obtain ⟨ents,ck,h1,h2,h3⟩:=hs.obj id _ b bk hl
  have jA:(getObj b).run P w=.ok (.map ents ck) w:=by simp [getObj,Sem.run,h1]
  split at h
  ·rename_i j x hf
   obtain ⟨y,f1,f2,_⟩:=kh IT GF hv (ents:=ents.toList) (by simpa using h2) (by simpa using h3) hf
   have Mc:=GH (rD _ _ _ _ hf)
   refine ⟨if ok then .tuple #[y,.bool true] else y,_,?_,?_,h,?_⟩
   ·simp only [Instr.lookup,Sem.run_bind,run_underlying ht,Result.andThen_ok,Sem.run_pure,jA,Mc,f1 w]
   ·cases ok
    ·simpa using f2.drop
    ·simpa using aS.tuple [y,.bool true] _ (.cons _ _ _ _ f2.drop (.cons _ _ _ _ (.bool _) .nil))
   ·intro own xs e
    cases ok
    ·simp at e;exact AV.jq x own xs e
    ·simp at e
  ·rename_i hf
   obtain ⟨Lw,hφ⟩:=h
   have Mc:=GH ⟨_,Lw⟩
   have f1:∀ w,(Instr.findKey kt v ents.toList).run P w=.ok none w:=kh IT GF hv (ents:=ents.toList) (by simpa using h2) (by simpa using h3) hf
   refine ⟨if ok then .tuple #[zv,.bool false] else zv,_,?_,?_,hφ,free zero⟩
   ·simp only [Instr.lookup,Sem.run_bind,run_underlying ht,Result.andThen_ok,Sem.run_pure,jA,Mc,f1 w,Bi]
   ·cases ok
    ·simpa using hzrep
    ·simpa using aS.tuple [zv,.bool false] _ (.cons _ _ _ _ hzrep (.cons _ _ _ _ (.bool _) .nil))
  ·exact h.elim
 ·exact h.elim
theorem DO (hs:St A M L w H ev ea O) (t:TypeId) :
 ∃ r L' w',(Instr.makeMap t none).run P w=.ok r w'∧aS M L' r (.map H.length)∧St A M L' w' (H++[.map []]) ev ea O∧Ext A M w M w'∧L <+: L':=by
 obtain ⟨h1,h2⟩:=hs.rv (.map #[] 0) (.map []) (fun w' hw hM=>⟨#[],0,hw,.nil,.nil⟩) rfl (fun j=>rfl)
 refine ⟨_,_,_,rfl,.map _ _ ?_,h1,h2,⟨_,rfl⟩⟩
 rw [List.getElem?_append_right (by rw [hs.len];exact Nat.le_refl _),hs.len];simp
theorem Bq (hs:St A M L w H ev ea O) {t kt et:TypeId} {kd:Nat} (ht:P.underlying t=some (.map kt et)) (hk:og P kt=some kd) {u v y:Value} {m k x:AV} {K:List aa→Prop}
 (h:fx kd m k x H K) (hu:aS M L u m) (hv:aS M L v k) (hy:aS M L y x) :
 ∃ w' H',(Instr.mapUpdate t u v y).run P w=.ok () w'∧K H'∧St A M L w' H' ev ea O∧Ext A M w M w':=by
 obtain ⟨d,IT,GF⟩:=pU hk
 have GH:(∃ b,cC kd k k=some b)→(Instr.checkKey false 10000 kt v).run P w=.ok () w:=fun ⟨b,hb⟩=>run_checkKey (n:=9998) IT GF w false hv hb
 unfold fx at h
 split at h <;> try exact h.elim
 rename_i id
 cases hu with
 | map b _ hl=>
 split at h <;> try exact h.elim
 rename_i es bk
 obtain ⟨pj,pR,nB,h⟩:=h
 obtain ⟨ents,ck,h1,h2,h3⟩:=hs.obj id _ b bk hl
 have hlen:ents.size=es.length:=by have:=h2.length;simpa using this
 have bO:=hs.bA id _ bk
 replace pj:=AV.cN (A.lJ (aK bk)) _ pj
 replace pR:=AV.cN (A.lJ (aK bk)) _ pR
 simp only [aa.aZ,Bool.and_eq_true] at bO
 have jA:(getObj b).run P w=.ok (.map ents ck) w:=by simp [getObj,Sem.run,h1]
 have gB:∀ o,(setObj b o).run P w=.ok () { w with heap:=w.heap.setIfInBounds b o }:=by intro o;simp [setObj,Sem.run,h1]
 have hcb:(aM x).aZ (A.jo H.length id)=true:=by
  have hdrop:∀ z:AV,z.aZ (A.jo H.length id)=true→z.drop.aZ (A.jo H.length id)=true:=by
   intro z hz;cases z <;> simp_all [AV.drop,AV.aZ,aj]
  cases x <;> simp only [bi.aM] <;> first | exact hdrop _ pR | skip
  rename_i xs
  simp only [AV.aZ,ba,List.mem_map] at pR ⊢
  rintro z ⟨q,hq,rfl⟩
  exact hdrop q (pR q hq)
 split at h
 ·rename_i j z hf
  obtain ⟨v0,f1,f2,en,f3,f4,f5,f6⟩:=kh IT GF hv (ents:=ents.toList) (by simpa using h2) (by simpa using h3) hf
  have Mc:=GH (rD _ _ _ _ hf)
  have hj:j < ents.size:=by omega
  have hen:ents[j]?=some en:=by simpa using f3
  have YK:((ents[j]?).map (·.key)).getD v=v:=by simp [hen,f4]
  have hstay:(Instr.keyThatStays v v).run P w=.ok v w:=by simp [Instr.keyThatStays,zk (rD es 0 j z hf) hv 9999]
  have bE:(Instr.mapUpdate t (.map (some b)) v y).run P w=.ok () { w with heap:=w.heap.setIfInBounds b (.map (ents.modify j fun e=>{ e with key:=v,val:=y }) ck) }:=by
   simp only [Instr.mapUpdate,Sem.run_bind,run_underlying ht,Result.andThen_ok,jA,Mc]
   simp only [f1 w,Result.andThen_ok,Sem.run_bind,YK,hstay,gB]
  have Uj:(ents.modify j fun e=>{ e with key:=v,val:=y }).toList.map (·.key)=(ents.toList.map (·.key)).set j v∧(ents.modify j fun e=>{ e with key:=v,val:=y }).toList.map (·.val)=(ents.toList.map (·.val)).set j y:=by
   constructor
   ·apply List.ext_getElem?
    intro q
    simp only [List.getElem?_map,Array.getElem?_toList,Array.getElem?_modify,List.getElem?_set]
    by_cases hq:j=q
    ·subst hq;simp [hj]
    ·simp [hq]
   ·apply List.ext_getElem?
    intro q
    simp only [List.getElem?_map,Array.getElem?_toList,Array.getElem?_modify,List.getElem?_set]
    by_cases hq:j=q
    ·subst hq;simp [hj]
    ·simp [hq]
  obtain ⟨g1,g2⟩:=hs.Bb (es':=es.set j (k,aM x)) (o':=.map (ents.modify j fun e=>{ e with key:=v,val:=y }) ck) bk hl (by intro _ _ _ e;cases e) (fun w' hw=>⟨_,_,hw,by
   rw [Uj.1]
   have:=aG.set (by simpa using h2) hv j
   rwa [show (es.set j (k,aM x)).map (·.1)=(es.map (·.1)).set j k by rw [List.map_set]],by
   rw [Uj.2]
   have:=aG.set (by simpa using h3) hy.aM j
   rwa [show (es.set j (k,aM x)).map (·.2)=(es.map (·.2)).set j (aM x) by rw [List.map_set]]⟩) (by
   simp only [aa.aZ,Bool.and_eq_true,List.map_set]
   rw [ba,ba] at *
   refine ⟨fun q hq=>?_,fun q hq=>?_⟩
   ·rcases List.mem_or_eq_of_mem_set hq with h' | rfl
    ·exact bO.1 q h'
    ·exact pj
   ·rcases List.mem_or_eq_of_mem_set hq with h' | rfl
    ·exact bO.2 q h'
    ·exact hcb)
  exact ⟨_,_,bE,h,g1,g2⟩
 ·rename_i hf
  obtain ⟨Lw,hK⟩:=h
  have Mc:=GH ⟨_,Lw⟩
  have f1:∀ w,(Instr.findKey kt v ents.toList).run P w=.ok none w:=kh IT GF hv (ents:=ents.toList) (by simpa using h2) (by simpa using h3) hf
  have bE:(Instr.mapUpdate t (.map (some b)) v y).run P w=.ok () { w with heap:=w.heap.setIfInBounds b (.map (ents.push { key:=v,val:=y,born:=ck }) (ck + 1)) }:=by
   simp only [Instr.mapUpdate,Sem.run_bind,run_underlying ht,Result.andThen_ok,jA,Mc]
   simp only [f1 w,Result.andThen_ok,gB]
  obtain ⟨g1,g2⟩:=hs.Bb (es':=es++[(k,aM x)]) (o':=.map (ents.push { key:=v,val:=y,born:=ck }) (ck + 1)) bk hl (by intro _ _ _ e;cases e) (fun w' hw=>⟨_,_,hw,by
   simpa using h2.append (.one hv),by
   simpa using h3.append (.one hy.aM)⟩) (by
   simp only [aa.aZ,Bool.and_eq_true,List.map_append,List.map_cons,List.map_nil]
   exact ⟨bu.2 ⟨bO.1,by simp [aj,pj]⟩,bu.2 ⟨bO.2,by simp [aj,hcb]⟩⟩)
  exact ⟨_,_,bE,hK,g1,g2⟩
 ·exact h.elim
end
end Go.aH
end
section
namespace Go.aH
open Go
def uQ (esz:Nat) (s:AV) (H:List aa):Option (Nat×List AV):=
 match s with
 | .ah=>some (0,[])
 | .ap _ xs=>if xs.all (fun y=>y.cells.length == esz)=true then some (xs.length,flat xs) else none
 | .a8 id off len _=>match H[id]? with
   | some (.cells es)=>if off + len * esz≤es.length then some (len,es.drop off) else none
   | _=>none
 | _=>none
def jF (esz:Nat) (d s:AV) (H:List aa) (K:AV→List aa→Prop):Prop:=
 match d,uQ esz s H with
 | .a8 id off len _,some (n,ys)=>match H[id]? with
   | some (.cells es)=>(ys.take (min n len * esz)).all AV.one=true∧off + min n len * esz≤es.length∧aj (id + 1) ((ys.take (min n len * esz)).map AV.ab)=true∧
      K (.int .i64 (min n len:Nat)) (H.set id (.cells (ag es off ((ys.take (min n len * esz)).map AV.ab))))
   | _=>False
 | _,_=>False
def eO (esz:Nat) (x:AV) (lo hi:Option AV) (φ:AV→Prop):Prop:=
 match x with
 | .a8 id off len cap=>dx hi len fun h=>dx lo 0 fun l=>l≤h∧h≤cap∧φ (.a8 id (if cap=l then off else off + l * esz) (h - l) (cap - l))
 | _=>False
def lQ (esz:Nat) (x:AV) (lo hi:Option AV) (m:AV) (φ:AV→Prop):Prop:=
 match x with
 | .a8 id off len cap=>hi.isSome=true∧dx (some m) 0 fun m=>dx hi len fun h=>dx lo 0 fun l=>l≤h∧h≤m∧m≤cap∧φ (.a8 id (if m=l then off else off + l * esz) (h - l) (m - l))
 | _=>False
def aV (esz:Nat) (x:AV) (lo hi mx:Option AV) (φ:AV→Prop):Prop:=
 match x with
 | .a8 a b c d=>match mx with
   | none=>eO esz (.a8 a b c d) lo hi φ
   | some m=>lQ esz (.a8 a b c d) lo hi m φ
 | _=>(∀ own xs,x=.ap own xs→∀ z∈xs,z.cells.length=esz)∧eJ esz x lo hi mx φ
section
variable {P:Program} {w:World} {M:Mem} {L:List Nat} {H:List aa} {A:Perm} {ev:Nat→Value} {ea:Nat→AV} {O:Pos→Option Nat}
theorem St.zm (hs:St A M L w H ev ea O) {id off b:Nat} {es:List AV} (bk:H[id]?=some (.cells es)) (hl:L[id]?=some b) {cs:Array Value} {e:TypeId} (h1:w.heap[b]?=some (.cells cs e (0,0)))
 (h2:aG M L cs.toList es) {vs:List Value} {xs:List AV} (hv:aG M L vs xs) (hle:off + xs.length≤es.length) (ni:aj (id + 1) (xs.map AV.ab)=true) :
 ∃ O',St A M L (w.setRow b (ag cs.toList off vs).toArray) (H.set id (.cells (ag es off (xs.map AV.ab)))) ev ea O'∧Ext A M w M (w.setRow b (ag cs.toList off vs).toArray):=by
 have pP:=hv.length
 have iR:=h2.length
 let O':Pos→Option Nat:=fun q=>match q with
  | .t t=>O (.t t)
  | .c id' j=>if id'=id∧off≤j∧j < off + xs.length then none else O (.c id' j)
 have hO:∀ q b,O' q=some b→O q=some b:=by
  intro q b hq
  cases q with
  | t t=>exact hq
  | c id' j=>
    simp only [O'] at hq
    split at hq
    ·cases hq
    ·exact hq
 have Is:off + (xs.map AV.ab).length≤es.length:=by simp;omega
 have YB:off + vs.length≤cs.toList.length:=by omega
 exact ⟨O',hs.write (cs':=(ag cs.toList off vs).toArray) (es':=ag es off (xs.map AV.ab)) (O':=O') bk hl h1
  (by simpa using hv.dc.y0 off h2)
  (by
    have bO:=hs.bA id _ bk
    simp only [aa.aZ] at bO
    unfold ag
    exact bu.2 ⟨sP bO,bu.2 ⟨bD (A.lJ (aK bk)) _ ni,sQ bO⟩⟩)
  (uD.sub hs.b7 hO) hs.env hs.gX (by
  intro j
  have e1:((ag cs.toList off vs).toArray)[j]?=(ag cs.toList off vs)[j]?:=by simp
  rw [e1,fa _ _ _ YB,List.getD_eq_getElem?_getD,fa _ _ _ Is]
  simp only [List.length_map]
  rw [pP]
  by_cases hj:off≤j∧j < off + xs.length
  ·simp only [hj,and_self,if_true]
   have:O' (.c id j)=none:=by simp [O',hj]
   rw [this]
   refine bf.free ?_
   intro own ys hh
   rw [List.getElem?_map] at hh
   cases hx:xs[j - off]? with
   | none=>simp [hx] at hh
   | some y=>simp [hx] at hh;exact AV.bI y own ys hh
  ·simp only [hj,if_false]
   have:O' (.c id j)=O (.c id j):=by simp only [O'];rw [if_neg (by intro h';exact hj h'.2)]
   rw [this]
   have h0:=hs.gT id j
   have e3:bJ L w id j=(cs.toList[j]?).getD undef:=by
    unfold bJ;simp [hl,World.cell?,h1]
   have e4:bn H id j=(es[j]?).getD .any:=by
    unfold bn;simp [bk,List.getD_eq_getElem?_getD]
   rw [e3,e4] at h0
   exact h0)
  (by intro id' j eM;simp [O',eM])⟩
theorem IZ (hs:St A M L w H ev ea O) {esz n m:Nat} {s:AV} {ys:List AV} {v:Value} (h:uQ esz s H=some (n,ys)) (hv:aS M L v s) (hm:m≤n) :
 (Builtin.lenOf v).run P w=.ok n w∧∃ vs,(Builtin.firstCells esz m v).run P w=.ok vs.toArray w∧aG M L vs (ys.take (m * esz)):=by
 unfold uQ at h
 split at h
 ·cases h
  cases hv
  have:m=0:=by omega
  subst this
  refine ⟨rfl,[],?_,by simpa using aG.nil⟩
  simp [Builtin.firstCells]
 ·rename_i own xs
  split at h <;> cases h
  rename_i iI
  have Uk:∀ y∈xs,y.cells.length=esz:=by
   intro y hy
   have:=List.all_eq_true.1 iI y hy
   simpa using this
  cases hv with
  | gF a c _ hc=>
    have:m=0:=by simpa using hm
    subst this
    refine ⟨rfl,[],?_,by simpa [flat] using aG.nil⟩
    cases a with
    | none=>simp [Builtin.firstCells]
    | some a=>simpa [Builtin.firstCells] using run_loadCells_list (P:=P) w a [] (by simp)
  | ap b off c _ e cs _ he hx hn hle hc hr Qz=>
    have Ul:=ig Qz hs.mem
    have iR:=hr.length
    have Md:(flat xs).length=xs.length * esz:=cJ xs esz Uk
    have IK:=run_loadCells_list (P:=P) w ⟨b,off,none⟩ (cs.take (m * esz)) (fun j v hv=>Ul j v (by
     rw [List.getElem?_take] at hv
     split at hv
     ·exact hv
     ·cases hv))
    have hlen:(cs.take (m * esz)).length=m * esz:=by
     have:m * esz≤xs.length * esz:=Nat.mul_le_mul_right _ hm
     simp;omega
    rw [hlen] at IK
    exact ⟨rfl,cs.take (m * esz),by simpa [Builtin.firstCells] using IK,hr.take _⟩
 ·rename_i id off len cap
  split at h <;> try cases h
  rename_i es bk
  split at h <;> cases h
  rename_i tN
  cases hv with
  | a8 b _ _ _ _ hl hc=>
  obtain ⟨cs,e,h1,h2,h3⟩:=ft hs bk hl
  have iR:=h2.length
  have hlen:((cs.toList.drop off).take (m * esz)).length=m * esz:=by
   have:m * esz≤n * esz:=Nat.mul_le_mul_right _ hm
   simp at iR ⊢;omega
  have IK:=run_loadCells_list (P:=P) w ⟨b,off,none⟩ ((cs.toList.drop off).take (m * esz)) (fun j v hv=>by rw [Addr.add_lit];exact h3 _ _ (dq _ _ _ _ _ hv))
  rw [hlen] at IK
  exact ⟨rfl,(cs.toList.drop off).take (m * esz),by simpa [Builtin.firstCells] using IK,(h2.drop off).take _⟩
 ·cases h
theorem GI (hs:St A M L w H ev ea O) {t e:TypeId} {esz:Nat} (ht:P.underlying t=some (.slice e)) (he:dK P e=some esz) {u v:Value} {d s:AV} {K:AV→List aa→Prop} (h:jF esz d s H K) (hu:aS M L u d) (hv:aS M L v s) (t' ty:TypeId) :
 ∃ r z w' H' O',(Builtin.copy_ #[t,t'] ty #[u,v]).run P w=.ok r w'∧aS M L r z∧K z H'∧St A M L w' H' ev ea O'∧Ext A M w M w'∧∀ own xs,z=.ap own xs→own=0:=by
 unfold jF at h
 split at h <;> try exact h.elim
 rename_i id off len cap n ys w6
 split at h <;> try exact h.elim
 rename_i es bk
 obtain ⟨kB,hle,ni,hK⟩:=h
 cases hu with
 | a8 b _ _ _ _ hl hc=>
 obtain ⟨hlen,vs,hfc,hr⟩:=IZ (P:=P) hs w6 hv (Nat.min_le_left n len)
 obtain ⟨cs,e',h1,h2,h3⟩:=hs.obj id _ b bk hl
 have iR:=h2.length
 have pP:=hr.length
 have hyl:(ys.take (min n len * esz)).length≤min n len * esz:=by simp;omega
 have bO:=run_storeCells_at P b off e' vs 0 cs w h1 (by simp at iR ⊢;omega) (hr.gG kB)
 obtain ⟨O',g1,g2⟩:=hs.zm (off:=off) bk hl h1 h2 hr (by omega) ni
 obtain ⟨i,hi,IS⟩:=Option.map_eq_some_iff.1 he
 refine ⟨.int .i64 (min n len:Nat),.int .i64 (min n len:Nat),_,_,O',?_,.int _ _,hK,g1,g2,by intro _ _ e;cases e⟩
 have QA:Nat.min n len=min n len:=rfl
 have lR:(storeCells ⟨b,off,none⟩ vs).run P w=.ok () (w.setRow b (ag cs.toList off vs).toArray):=by simpa [ag] using bO
 simp [Builtin.copy_,run_underlying ht,hlen,sizeOf,typeInfo,hi,IS,QA,hfc,lR,goInt]
theorem Br {t e:TypeId} {esz:Nat} (ht:P.underlying t=some (.slice e)) (he:dK P e=some esz) {u:Value} {x:AV} {lo hi:Option AV} {vlo vhi:Option Value} {φ:AV→Prop} (h:eO esz x lo hi φ) (hu:aS M L u x) (h1:iX M L lo vlo) (h2:iX M L hi vhi) :
 ∃ r z,(Instr.sliceAt t u vlo vhi none).run P w=.ok r w∧aS M L r z∧φ z∧∀ own xs,z=.ap own xs→own=0:=by
 unfold eO at h
 split at h <;> try exact h.elim
 rename_i id off len cap
 cases hu with
 | a8 b _ _ _ _ hl hc=>
 obtain ⟨hh,h,IY⟩:=dL h2 h
 obtain ⟨ll,h,uK⟩:=dL h1 h
 obtain ⟨hle,X2,hφ⟩:=h
 obtain ⟨i,iT,IS⟩:=Option.map_eq_some_iff.1 he
 have df:(sizeOf e).run P w=.ok esz w:=by simp [sizeOf,typeInfo,iT,IS]
 refine ⟨_,_,?_,.a8 b (if cap=ll then off else off + ll * esz) (hh - ll) (cap - ll) id hl (by omega),hφ,by intro _ _ e;cases e⟩
 have hb:(Instr.sliceBounds true len cap vlo vhi none).run P w=.ok (ll,hh,cap) w:=by
  rcases IY with ⟨_,rfl,rfl⟩ | ⟨kd,i,rfl,tZ,rfl⟩ <;> rcases uK with ⟨_,rfl,rfl⟩ | ⟨kd',i',rfl,tQ,rfl⟩
  ·rfl
  ·have pj:=run_sliceBound (P:=P) w kd' i' hh .sliceB tQ hle
   simp [Instr.sliceBounds,pj]
  ·have pj:=run_sliceBound (P:=P) w kd i cap .sliceAcap tZ (by omega)
   simp [Instr.sliceBounds,pj]
  ·have pj:=run_sliceBound (P:=P) w kd i cap .sliceAcap tZ (by omega)
   have pR:=run_sliceBound (P:=P) w kd' i' i.toNat .sliceB tQ hle
   simp [Instr.sliceBounds,pj,pR]
 simp only [Instr.sliceAt,Instr.slice,Sem.run_bind,run_underlying ht,Result.andThen_ok,hb,df,Sem.run_pure]
 by_cases iR:cap=ll
 ·simp [iR]
 ·simp [iR,Addr.add_lit]
theorem Bs {t e:TypeId} {esz:Nat} (ht:P.underlying t=some (.slice e)) (he:dK P e=some esz) {u:Value} {x m:AV} {lo hi:Option AV} {vlo vhi vm:Option Value} {φ:AV→Prop} (h:lQ esz x lo hi m φ) (hu:aS M L u x) (h1:iX M L lo vlo) (h2:iX M L hi vhi) (h3:iX M L (some m) vm) :
 ∃ r z,(Instr.sliceAt t u vlo vhi vm).run P w=.ok r w∧aS M L r z∧φ z∧∀ own xs,z=.ap own xs→own=0:=by
 unfold lQ at h
 split at h <;> try exact h.elim
 rename_i id off len cap
 cases hu with
 | a8 b _ _ _ _ hl hc=>
 obtain ⟨hsome,h⟩:=h
 obtain ⟨mm,h,TO⟩:=dL h3 h
 obtain ⟨hh,h,IY⟩:=dL h2 h
 obtain ⟨ll,h,uK⟩:=dL h1 h
 obtain ⟨hle,X2,hmc,hφ⟩:=h
 obtain ⟨i,iT,IS⟩:=Option.map_eq_some_iff.1 he
 have df:(sizeOf e).run P w=.ok esz w:=by simp [sizeOf,typeInfo,iT,IS]
 refine ⟨_,_,?_,.a8 b (if mm=ll then off else off + ll * esz) (hh - ll) (mm - ll) id hl (by omega),hφ,by intro _ _ e;cases e⟩
 have hb:(Instr.sliceBounds true len cap vlo vhi vm).run P w=.ok (ll,hh,mm) w:=by
  rcases TO with ⟨e0,_⟩ | ⟨kd3,i3,rfl,hi3,rfl⟩
  ·cases e0
  have X5:=run_sliceBound (P:=P) w kd3 i3 cap .slice3Acap hi3 hmc
  rcases IY with ⟨rfl,_,_⟩ | ⟨kd,i,rfl,tZ,rfl⟩
  ·cases hsome
  have pj:=run_sliceBound (P:=P) w kd i i3.toNat .slice3B tZ X2
  rcases uK with ⟨_,rfl,rfl⟩ | ⟨kd',i',rfl,tQ,rfl⟩
  ·simp [Instr.sliceBounds,pj,X5]
  ·have pR:=run_sliceBound (P:=P) w kd' i' i.toNat .slice3C tQ hle
   simp [Instr.sliceBounds,pj,pR,X5]
 simp only [Instr.sliceAt,Instr.slice,Sem.run_bind,run_underlying ht,Result.andThen_ok,hb,df,Sem.run_pure]
 by_cases iR:mm=ll
 ·simp [iR]
 ·simp [iR,Addr.add_lit]
end
end Go.aH
end
section
namespace Go.aH
open Go
def chunks (esz:Nat):Nat→List AV→List AV
 | 0,_=>[]
 | n + 1,es=>(if esz=1 then (es.getD 0 .any).ab else .agg ((es.take esz).map AV.ab))::chunks esz n (es.drop esz)
def dC (esz:Nat) (x:AV) (H:List aa) (K:AV→List aa→Prop):Prop:=
 match x with
 | .a8 id off len cap=>match H[id]? with
   | some (.cells es)=>0 < esz∧len≤cap∧off + len * esz≤es.length∧(es.drop off).all AV.one=true∧K (.ap 0 (chunks esz len (es.drop off))) (H.set id .dead)
   | _=>False
 | .any=>False
 | .oN=>K (.ap 0 []) H
 | x=>K x.ab H
def jG (esz:Nat):List AV→List aa→(List AV→List aa→Prop)→Prop
 | [],H,K=>K [] H
 | x::r,H,K=>dC esz x H fun y H'=>jG esz r H' fun ys H''=>K (y::ys) H''
def zn (e id c:Nat) (H:List aa) (K:List aa→Prop):Prop:=
 match H[id]? with
 | some (.cells es)=>match es[c]? with
   | some (.a8 a1 a2 a3 a4)=>dC e (.a8 a1 a2 a3 a4) H fun y H'=>H'[id]?=some (.cells es)∧y.aZ (id + 1)=true∧K (H'.set id (.cells (es.set c y)))
   | some .ah=>K H
   | _=>False
 | _=>False
def eR (esz:Nat) (x:AV) (H:List aa) (K:AV→List aa→Prop):Prop:=
 match x with
 | .agg xs=>jG esz xs H fun ys H'=>K (.agg ys) H'
 | .ptr id off=>if 1000≤esz then zn (esz % 1000) id (off + esz / 1000 - 1) H (K (.ptr id off)) else dC esz (.ptr id off) H K
 | x=>dC esz x H K
theorem xN {x:AV} (h:x.one=true):x.cells=[x]:=by cases x <;> first | rfl | simp [AV.one] at h
theorem GJ {x:AV} (h:x.one=true):x.ab.one=true:=by cases x <;> first | rfl | exact h
theorem sT (esz:Nat) (h0:0 < esz):∀ (n:Nat) (es:List AV),n * esz≤es.length→es.all AV.one=true→
 flat (chunks esz n es)=(es.take (n * esz)).map AV.ab∧(chunks esz n es).length=n∧∀ x∈chunks esz n es,x.cells.length=esz
 | 0,es,_,_=>by simp [chunks,flat]
 | n + 1,es,hle,h1=>by
   have Ub:n * esz + esz≤es.length:=by rw [Nat.add_mul] at hle;omega
   obtain ⟨i1,i2,i3⟩:=sT esz h0 n (es.drop esz) (by simp;omega) (by
    rw [List.all_eq_true] at h1 ⊢
    exact fun x hx=>h1 x (List.mem_of_mem_drop hx))
   have hhead:(if esz=1 then (es.getD 0 .any).ab else AV.agg ((es.take esz).map AV.ab)).cells=(es.take esz).map AV.ab:=by
    split
    ·rename_i e
     subst e
     cases es with
     | nil=>simp at Ub
     | cons x r=>
       have hx:x.one=true:=List.all_eq_true.1 h1 x (by simp)
       simp [xN (GJ hx)]
    ·rfl
   refine ⟨?_,by simp [chunks,i2],?_⟩
   ·simp only [flat] at i1
    simp only [chunks,flat,List.flatMap_cons,hhead,i1]
    rw [← List.map_append]
    congr 1
    rw [Nat.add_mul,Nat.one_mul,Nat.add_comm (n * esz) esz,List.take_add]
   ·intro x hx
    simp only [chunks,List.mem_cons] at hx
    rcases hx with rfl | hx
    ·rw [hhead];simp;omega
    ·exact i3 x hx
section
variable {P:Program} {w:World} {M:Mem} {L:List Nat} {H:List aa} {A:Perm} {ev:Nat→Value} {ea:Nat→AV} {O:Pos→Option Nat}
theorem St.freeze (h:St A M L w H ev ea O) {id b:Nat} {es:List AV} (bk:H[id]?=some (.cells es)) (hl:L[id]?=some b) :
 ∃ (cs:Array Value) (O':Pos→Option Nat),aG M L cs.toList es∧M.sub (M.add b cs.toList)∧(M.add b cs.toList).row b 0 cs.toList∧St A (M.add b cs.toList) L w (H.set id .dead) ev ea O'∧Ext A M w (M.add b cs.toList) w∧(∀ t,O' (.t t)=O (.t t)):=by
 obtain ⟨cs,e,h1,h2,h3⟩:=h.obj id _ b bk hl
 have xE:b∈L:=List.mem_of_getElem? hl
 have fT:M.sub (M.add b cs.toList):=by
  intro b' o v hv
  have eM:b'≠b:=by
   rintro rfl
   rw [h3] at hv;cases hv
  simp [Mem.add,eM,hv]
 have hM:∀ b',b'≠b→∀ o,(M.add b cs.toList) b' o=M b' o:=fun b' hb o=>by simp [Mem.add,hb]
 let O':Pos→Option Nat:=fun p=>match p with | .t t=>O (.t t) | .c id' j=>if id'=id then none else O (.c id' j)
 have hO:∀ q b,O' q=some b→O q=some b:=by
  intro q b hq
  cases q with
  | t t=>exact hq
  | c id' j=>
    simp only [O'] at hq
    split at hq
    ·cases hq
    ·exact hq
 have hOb:∀ q b',O q=some b'→b'≠b:=fun q b' hq e=>h.ct q b' hq (e ▸ xE)
 refine ⟨cs,O',h2,fT,?_,?_,?_,fun t=>rfl⟩
 ·intro j v hv
  simpa [Mem.add] using hv
 ·exact { len:=by simp [h.len],nodup:=h.nodup,env:=fun t=>(h.env t).mono fT (List.prefix_refl _)
          mem:=by
           intro b' o v hv
           by_cases e0:b'=b
           ·subst e0
            simp only [Mem.add,if_true] at hv
            simpa [World.cell?,h1] using hv
           ·rw [hM b' e0] at hv
            exact h.mem b' o v hv
          obj:=by
           intro id' o b' ho eh
           rw [List.getElem?_set] at ho
           split at ho
           ·split at ho <;> cases ho
            trivial
           ·rename_i eM
            refine (h.obj id' o b' ho eh).mono fT (List.prefix_refl _) rfl (hM b' ?_)
            rintro rfl
            exact eM ((List.getElem?_inj (aK hl) h.nodup).1 (hl.trans eh.symm))
          bA:=by
           intro id' o ho
           rw [List.length_set]
           rw [List.getElem?_set] at ho
           split at ho
           ·split at ho <;> cases ho
            rfl
           ·exact h.bA id' o ho
          lt:=h.lt
          gX:=fun t=>(h.gX t).mono fun b' eh=>⟨rfl,hM b' (hOb _ b' eh)⟩
          gT:=by
           intro id' j
           by_cases e0:id'=id
           ·subst e0
            have:bn (H.set id' .dead) id' j=.any:=by
             unfold bn
             rw [List.getElem?_set]
             simp
            rw [this]
            simp [O',bf]
           ·have e1:bn (H.set id .dead) id' j=bn H id' j:=by
             unfold bn
             rw [List.getElem?_set,if_neg (Ne.symm e0)]
            rw [e1]
            have:O' (.c id' j)=O (.c id' j):=by simp [O',e0]
            rw [this]
            exact (h.gT id' j).mono fun b' eh=>⟨rfl,hM b' (hOb _ b' eh)⟩
          b7:=fun p q b hp hq=>h.b7 p q b (hO p b hp) (hO q b hq)
          ct:=fun p b hp=>h.ct p b (hO p b hp)
          fj:=fun p b hp=>h.fj p b (hO p b hp)
          La:=h.La
          Oa:=fun p b hp=>h.Oa p b (hO p b hp)
          fresh:=h.fresh }
 ·exact ⟨fT,Nat.le_refl _,rfl,rfl,rfl,fun b' _ hA=>⟨rfl,hM b' (fun e=>hA (e ▸ h.La b xE))⟩,fun k r hk=>⟨r,hk,rfl⟩⟩
theorem lT (hs:St A M L w H ev ea O) {esz:Nat} {u:Value} {x:AV} {K:AV→List aa→Prop} (h:dC esz x H K) (hu:aS M L u x) :
 ∃ z M' H' O',aS M' L u z∧K z H'∧St A M' L w H' ev ea O'∧Ext A M w M' w∧∀ own xs,z=.ap own xs→own=0:=by
 unfold dC at h
 split at h
 ·rename_i id off len cap
  split at h <;> try exact h.elim
  rename_i es bk
  obtain ⟨h0,b9,hle,h1,hK⟩:=h
  cases hu with
  | a8 b _ _ _ _ hl hc=>
  obtain ⟨cs,O',k1,k2,k3,k4,k5,_⟩:=hs.freeze bk hl
  obtain ⟨c1,c2,c3⟩:=sT esz h0 len (es.drop off) (by simp;omega) h1
  refine ⟨_,_,_,O',?_,hK,k4,k5,by intro own xs e;cases e;rfl⟩
  have iR:=k1.length
  by_cases hz:len=0
  ·subst hz
   simp only [chunks]
   exact .gF _ _ _ hc
  ·have hr:aG (M.add b cs.toList) L ((cs.toList.drop off).take (len * esz)) (flat (chunks esz len (es.drop off))):=by
    rw [c1]
    exact (((k1.drop off).take _).dc).mono k2 (List.prefix_refl _)
   have Qz:(M.add b cs.toList).row b off ((cs.toList.drop off).take (len * esz)):=by
    intro j v hv
    have:=k3 (off + j) v (dq _ _ _ _ _ hv)
    simpa using this
   have:=aS.ap (M:=M.add b cs.toList) (L:=L) b off cap 0 esz _ (chunks esz len (es.drop off)) h0 c3 (by omega) (by omega) hc hr Qz
   rw [c2] at this
   exact this
 ·exact h.elim
 ·cases hu
  exact ⟨_,M,H,O,.gF _ 0 0 (by decide),h,hs,Ext.refl A M w,by intro _ _ e;cases e;rfl⟩
 ·rename_i adq QB
  refine ⟨_,M,H,O,hu.ab,h,hs,Ext.refl A M w,AV.bI x⟩
theorem uR {esz:Nat}:∀ {xs:List AV} {us:List Value} {M:Mem} {H:List aa} {O:Pos→Option Nat} {K:List AV→List aa→Prop},St A M L w H ev ea O→jG esz xs H K→aG M L us xs→
 ∃ zs M' H' O',aG M' L us zs∧K zs H'∧St A M' L w H' ev ea O'∧Ext A M w M' w
 | [],us,M,H,O,K,hs,h,hu=>⟨[],M,H,O,hu,h,hs,Ext.refl A M w⟩
 | x::r,us,M,H,O,K,hs,h,hu=>by
   cases hu with
   | cons u _ us _ h1 h2=>
   obtain ⟨z,M1,H1,O1,k1,k2,k3,k4,_⟩:=lT hs h h1
   obtain ⟨zs,M2,H2,O2,g1,g2,g3,g4⟩:=uR k3 k2 (h2.mono k4.kR (List.prefix_refl L))
   exact ⟨z::zs,M2,H2,O2,.cons _ _ _ _ (k1.mono g4.kR (List.prefix_refl L)) g1,g2,g3,k4.trans g4⟩
theorem setRow_self {b:Nat} {cs:Array Value} {e:TypeId} {f:Nat×Nat} (h:w.heap[b]?=some (.cells cs e f)):w.setRow b cs=w:=by
 have:(w.setRow b cs).heap=w.heap:=by
  apply Array.ext
  ·simp [World.setRow]
  ·intro i h1 h2
   simp only [World.setRow,Array.getElem_modify]
   split
   ·rename_i e0
    subst e0
    obtain ⟨_,h'⟩:=Array.getElem?_eq_some_iff.1 h
    rw [h']
   ·rfl
 show ({ w with heap:=(w.setRow b cs).heap }:World)=w
 rw [this]
theorem I0 (hs:St A M L w H ev ea O) {e id c:Nat} {K:List aa→Prop} (h:zn e id c H K) :
 ∃ M' H' O',K H'∧St A M' L w H' ev ea O'∧Ext A M w M' w:=by
 unfold zn at h
 split at h <;> try exact h.elim
 rename_i es bk
 split at h <;> try exact h.elim
 rotate_left
 ·exact ⟨M,H,O,h,hs,.refl A M w⟩
 rename_i a1 a2 a3 a4 hc
 have hb:∃ b,L[id]?=some b:=by
  have:=aK bk
  rw [← hs.len] at this
  exact ⟨L[id],by simp [this]⟩
 obtain ⟨b,hl⟩:=hb
 obtain ⟨cs,ty,k1,k2,k3⟩:=hs.obj id _ b bk hl
 obtain ⟨u,hu,hru⟩:=k2.get c _ hc
 obtain ⟨y,M',H1,O1,g1,⟨g2,g3,g4⟩,g5,g6,g7⟩:=lT hs h hru
 obtain ⟨cs',ty',m1,m2,m3⟩:=g5.obj id _ b g2 hl
 rw [k1] at m1;cases m1
 have bO:=g5.bA id _ g2
 have iR:c < es.length:=aK hc
 have gB:cs.toList.set c u=cs.toList:=by
  apply List.ext_getElem?
  intro j
  rw [List.getElem?_set]
  split
  ·rename_i e0;subst e0
   have:c < cs.toList.length:=aK hu
   rw [if_pos this,hu]
  ·rfl
 have rE:=m2.set g1 c
 rw [gB] at rE
 have hcv:∀ j,bJ L w id j=(cs[j]?).getD undef:=by
  intro j
  unfold bJ
  rw [hl]
  simp [World.cell?,k1]
 have hO:O1 (.c id c)=none:=by
  have:=g5.gT id c
  have e1:bn H1 id c=.a8 a1 a2 a3 a4:=by
   unfold bn
   rw [g2]
   simp [List.getD_eq_getElem?_getD,hc]
  rw [e1] at this
  exact this
 obtain ⟨q1,q2⟩:=g5.write (es':=es.set c y) (cs':=cs) (ea':=ea) (O':=O1) g2 hl k1 rE (by
  simp only [aa.aZ] at bO
  rw [ba] at bO ⊢
  intro z hz
  rcases List.mem_or_eq_of_mem_set hz with h' | rfl
  ·exact bO z h'
  ·exact AV.cN (A.lJ (aK g2)) _ g3) ⟨fun p q b hp hq=>g5.b7 p q b hp hq,fun p b hp=>⟨p,hp⟩⟩ g5.env g5.gX (fun j=>by
  by_cases e0:j=c
  ·subst e0
   rw [hO]
   have:(es.set j y).getD j .any=y:=by rw [List.getD_eq_getElem?_getD,List.getElem?_set_self iR];rfl
   rw [this]
   exact bf.free g7
  ·have:=g5.gT id j
   rw [hcv j] at this
   have e1:bn H1 id j=es.getD j .any:=by unfold bn;rw [g2]
   rw [e1] at this
   rwa [List.getD_eq_getElem?_getD,List.getElem?_set_ne (fun e=>e0 e.symm),← List.getD_eq_getElem?_getD]) (fun _ _ _=>rfl)
 rw [setRow_self k1] at q1 q2
 exact ⟨M',_,O1,g4,q1,g6.trans q2⟩
theorem rF (hs:St A M L w H ev ea O) {esz:Nat} {u:Value} {x:AV} {K:AV→List aa→Prop} (h:eR esz x H K) (hu:aS M L u x) :
 ∃ z M' H' O',aS M' L u z∧K z H'∧St A M' L w H' ev ea O'∧Ext A M w M' w∧∀ own xs,z=.ap own xs→own=0:=by
 unfold eR at h
 split at h
 ·cases hu with
  | agg cs xs hr=>
  obtain ⟨zs,M',H',O',g1,g2,g3,g4⟩:=uR hs h hr
  exact ⟨.agg zs,M',H',O',.agg _ _ g1,g2,g3,g4,by intro own xs e;cases e⟩
 ·rename_i id off
  split at h
  ·obtain ⟨M',H',O',g1,g2,g3⟩:=I0 hs h
   exact ⟨.ptr id off,M',H',O',hu.mono g3.kR (List.prefix_refl L),g1,g2,g3,by intro own xs e;cases e⟩
  ·exact lT hs h hu
 ·exact lT hs h hu
end
end Go.aH
end
section
namespace Go.aH
open Go
def pW (xs:List AV) (H:List aa) (K:AV→List aa→Prop):Prop:=
 aj (H.length + 1) ((flat xs).map AV.ab)=true∧K (.a8 H.length 0 xs.length xs.length) (H++[.cells ((flat xs).map AV.ab)])
def ch (z:AV) (n:Nat):List AV:=flat (List.replicate n (bL z))
def cD (esz bytes:Nat) (z s x:AV) (H:List aa) (K:AV→List aa→Prop):Prop:=
 match dw x with
 | none=>(match s,uQ esz x H with
   | .a8 id off len cap,some (n,ys)=>match H[id]? with
     | some (.cells es)=>n * esz≤ys.length∧(ys.take (n * esz)).all AV.one=true∧len + n≤cap∧off + cap * esz≤es.length∧aj (id + 1) ((ys.take (n * esz)).map AV.ab)=true∧
        K (.a8 id off (len + n) cap) (H.set id (.cells (ag es (off + len * esz) ((ys.take (n * esz)).map AV.ab))))
     | _=>False
   | _,_=>False)
 | some ys=>sR esz ys∧match s with
   | .ah=>ys.length * bytes≤140737488355328∧(ys=[]→K .ah H)∧(ys≠[]→∀ cap,ys.length≤cap→cap < 9223372036854775808→
      aj (H.length + 1) ((flat ys).map AV.ab++ch z (cap - ys.length))=true∧K (.a8 H.length 0 ys.length cap) (H++[.cells ((flat ys).map AV.ab++ch z (cap - ys.length))]))
   | .oN=>ys.length * bytes≤140737488355328∧(ys=[]→K .oN H)∧(ys≠[]→∀ cap,ys.length≤cap→cap < 9223372036854775808→
      aj (H.length + 1) ((flat ys).map AV.ab++ch z (cap - ys.length))=true∧K (.a8 H.length 0 ys.length cap) (H++[.cells ((flat ys).map AV.ab++ch z (cap - ys.length))]))
   | .a8 id off len cap=>match H[id]? with
     | some (.cells es)=>(len + ys.length) * bytes≤140737488355328∧len≤cap∧off + cap * esz≤es.length∧
        (len + ys.length≤cap→aj (id + 1) ((flat ys).map AV.ab)=true∧K (.a8 id off (len + ys.length) cap) (H.set id (.cells (ag es (off + len * esz) ((flat ys).map AV.ab)))))∧
        (cap < len + ys.length→∀ gC,len + ys.length≤gC→gC < 9223372036854775808→
          aj (H.length + 1) (((es.drop off).take (len * esz)).map AV.ab++(flat ys).map AV.ab++ch z (gC - (len + ys.length)))=true∧
          K (.a8 H.length 0 (len + ys.length) gC) (H++[.cells (((es.drop off).take (len * esz)).map AV.ab++(flat ys).map AV.ab++ch z (gC - (len + ys.length)))]))
     | _=>False
   | _=>False
def gK (esz:Nat) (z x:AV) (H:List aa) (K:List aa→Prop):Prop:=
 match x with
 | .a8 id off len _=>match H[id]? with
   | some (.cells es)=>off + len * esz≤es.length∧(ch z len).all AV.one=true∧aj (id + 1) ((ch z len).map AV.ab)=true∧K (H.set id (.cells (ag es off ((ch z len).map AV.ab))))
   | _=>False
 | _=>False
section
variable {P:Program} {w:World} {M:Mem} {L:List Nat} {H:List aa} {A:Perm} {ev:Nat→Value} {ea:Nat→AV} {O:Pos→Option Nat}
theorem kE {α:Type} (es:List α) (off:Nat):ag es off []=es:=by simp [ag]
theorem St.Bt (hs:St A M L w H ev ea O) (cs:Array Value) (e:TypeId) {xs:List AV} (hr:aG M L cs.toList xs) (hb:aj (H.length + 1) xs=true) (hf:∀ y∈xs,∀ own zs,y=.ap own zs→own=0) :
 St A M (L++[w.heap.size]) { w with heap:=w.heap.push (.cells cs e) } (H++[.cells xs]) ev ea O∧Ext A M w M { w with heap:=w.heap.push (.cells cs e) }:=
 hs.rv (.cells cs e) (.cells xs) (fun w' hw hM=>⟨_,e,hw,hr.mono (Mem.bM M) ⟨_,rfl⟩,hM⟩) (by simpa [aa.aZ] using hb) (fun j=>by
  simp only [nl]
  refine bf.free ?_
  intro own zs hh
  rw [List.getD_eq_getElem?_getD] at hh
  cases hx:xs[j]? with
  | none=>simp [hx] at hh
  | some y=>simp [hx] at hh;exact hf y (List.mem_of_getElem? hx) own zs hh)
theorem nD (xs:List AV):∀ y∈xs.map AV.ab,∀ own zs,y=.ap own zs→own=0:=by
 intro y hy own zs e
 obtain ⟨q,_,rfl⟩:=List.mem_map.1 hy
 exact AV.bI q own zs e
theorem DP {z:AV} (IW:∀ y∈z.cells,∀ own xs,y=.ap own xs→own=0) (n:Nat):∀ y∈ch z n,∀ own zs,y=.ap own zs→own=0:=by
 intro y hy own zs e
 simp only [ch,flat,List.mem_flatMap] at hy
 obtain ⟨q,hq,Mb⟩:=hy
 rw [List.eq_of_mem_replicate hq] at Mb
 subst e
 cases z <;> simp only [bL,AV.cells] at Mb IW
 case agg ys=>
  obtain ⟨y',_,YI⟩:=List.mem_map.1 Mb
  exact AV.jq y' own zs YI
 all_goals exact IW _ Mb own zs rfl
theorem GK (hs:St A M L w H ev ea O) {t e:TypeId} (ht:P.underlying t=some (.slice e)) {esz:Nat} (he:dK P e=some esz) (h0:0 < esz) {z:AV} (hz:fH P e=some z) (iV:z.cells.length=esz) (sO:z.val=true)
 {len:Nat} (hlen:len * esz≤16777216) {parts:List (Nat×AV)} {vs:Array (Nat×Value)} (hp:∀ (j:Nat) (p:Nat×AV),parts[j]?=some p→∃ v,vs.toList[j]?=some (p.1,v)∧aS M L v p.2) (hl:vs.toList.length=parts.length)
 {K:AV→List aa→Prop} (h:bi (List.replicate len (aM z)) esz parts fun xs=>pW xs H K) :
 ∃ r x L' w' H',(Instr.buildSlice t len vs).run P w=.ok r w'∧aS M L' r x∧(∀ own xs,x=.ap own xs→own=0)∧K x H'∧St A M L' w' H' ev ea O∧Ext A M w M w'∧L <+: L':=by
 unfold fH at hz
 obtain ⟨ie,IQ,df⟩:=Option.map_eq_some_iff.1 he
 simp only [IQ] at hz
 split at hz
 ·rename_i zv uJ
  have Bi:=(cI (M:=M) (L:=L) hz).aM.fV (rC sO)
  have tX:zv.cells.size=esz:=by have:=Bi.length;rw [eZ,iV] at this;simpa using this
  obtain ⟨cs',xs',f1,f2,f3,f4,f5⟩:=nA (M:=M) (L:=L) esz parts vs.toList hp hl (jD zv.cells esz len tX h0 (aM z) Bi) (fun y hy=>by rw [List.eq_of_mem_replicate hy,eZ];exact iV) h
  simp only [List.length_replicate] at f4
  obtain ⟨ni,hK⟩:=f5
  have bE:(Instr.buildSlice t len vs).run P w=.ok (.slice (some ⟨w.heap.size,0,none⟩) len len) { w with heap:=w.heap.push (.cells cs' e) }:=by
   by_cases mX:len * ie.size=0
   ·have Dq:len=0:=by
     rcases Nat.mul_eq_zero.1 mX with h' | h'
     ·exact h'
     ·omega
    subst Dq
    have L5:cs'=#[]:=by
     have:=f2.length
     rw [cJ _ esz f3,f4] at this
     simp at this
     exact this
    have Uc:vs.toList=[]:=by
     cases wX:vs.toList with
     | nil=>rfl
     | cons q r=>
       rw [wX] at hl
       cases parts with
       | nil=>simp at hl
       | cons p ps=>obtain ⟨_,_,h3,_⟩:=h;simp at h3
    subst L5
    have hf:Instr.fill (fun i=>some (i * ie.size,ie.size)) #[] vs.toList=some #[]:=by rw [Uc];rfl
    simp [Instr.buildSlice,run_underlying ht,sizeOf,typeInfo,IQ,newRow,Uc,Instr.fill]
    congr 2
    apply Array.ext'
    simp
   ·rw [run_buildSlice w t e len vs cs' ie zv ht IQ uJ (by rw [df];omega) mX (by rw [df];exact f1)]
    rfl
  obtain ⟨g1,g2⟩:=hs.Bt cs' e f2.dc ni (nD _)
  have hbd:len < 9223372036854775808:=by
   have:len≤len * esz:=Nat.le_mul_of_pos_right _ h0
   omega
  refine ⟨_,.a8 H.length 0 len len,_,_,_,bE,.a8 w.heap.size 0 _ _ H.length ?_ hbd,(by intro _ _ e;cases e),by rw [f4] at hK;exact hK,g1,g2,⟨_,rfl⟩⟩
  rw [List.getElem?_append_right (by rw [hs.len];exact Nat.le_refl _),hs.len];simp
 ·cases hz
theorem zp (hs:St A M L w H ev ea O) {t ty e:TypeId} {i:TypeInfo} {zv:Value} {esz bytes:Nat} (ht:P.underlying t=some (.slice e)) (hi:P.info? e=some i) (hz:i.zero=some zv) (df:i.size=esz) (xH:i.bytes=bytes) (h0:0 < esz) (uL:0 < bytes)
 {z:AV} (Ly:ofValue zv=some z) (sO:z.val=true) (iV:z.cells.length=esz) (IW:∀ y∈z.cells,∀ own xs,y=.ap own xs→own=0) {u v:Value} {s x:AV} {K:AV→List aa→Prop} (h:cD esz bytes z s x H K) (hu:aS M L u s) (hv:aS M L v x) :
 ∃ r y L' w' H' O',(Builtin.append_ #[t,t] ty #[u,v]).run P w=.ok r w'∧aS M L' r y∧(∀ own xs,y=.ap own xs→own=0)∧K y H'∧St A M L' w' H' ev ea O'∧Ext A M w M w'∧L <+: L':=by
 unfold cD at h
 split at h
 ·-- out of an object
  rename_i hnone
  split at h <;> try exact h.elim
  rename_i id off len cap n ys w6
  split at h <;> try exact h.elim
  rename_i es bk
  obtain ⟨hny,kB,hroom,tN,ni,hK⟩:=h
  cases hu with
  | a8 b _ _ _ _ hl hc=>
  obtain ⟨cs,e',h1,h2,h3⟩:=ft hs bk hl
  have iR:=h2.length
  have wY:(len + n) * esz≤cap * esz:=Nat.mul_le_mul_right _ hroom
  rw [Nat.add_mul] at wY
  unfold uQ at w6
  split at w6
  ·simp [dw] at hnone
  ·simp [dw] at hnone
  ·rename_i id2 off2 Um Un
   split at w6 <;> try cases w6
   rename_i es2 Me
   split at w6 <;> cases w6
   rename_i hfit2
   cases hv with
   | a8 b2 _ _ _ _ rn oP=>
   obtain ⟨cs2,e2,k1,k2,k3⟩:=ft hs Me rn
   have adv:=k2.length
   by_cases Bm:n=0
   ·subst Bm
    simp only [Nat.zero_mul,List.take_zero,List.map_nil,kE,Nat.add_zero] at hK
    have es':H.set id (.cells es)=H:=by
     obtain ⟨mY,e1⟩:=List.getElem?_eq_some_iff.1 bk
     rw [← e1];simp
    rw [es'] at hK
    exact ⟨_,.a8 id off len cap,L,w,H,O,dt ht hi w _ len cap (by omega) _ Un,.a8 b off len cap id hl hc,(by intro _ _ e;cases e),hK,hs,Ext.refl A M w,List.prefix_refl L⟩
   ·have xI:((cs2.toList.drop off2).take (n * esz)).length=n * esz:=by
     rw [List.length_take,List.length_drop];omega
    have hnews:∀ j u,((cs2.toList.drop off2).take (n * esz))[j]?=some u→w.cell? ((⟨b2,off2,none⟩:Addr).add j)=some u:=fun j u hu=>by
     rw [Addr.add_lit];exact k3 _ _ (dq _ _ _ _ _ hu)
    have ze:aG M L ((cs2.toList.drop off2).take (n * esz)) ((es2.drop off2).take (n * esz)):=(k2.drop off2).take _
    have Uo:=ze.gG kB
    have bE:=fW (P:=P) (ty:=ty) ht hi w b off len cap cs (0,0) h1 (oc _) ⟨b2,off2,none⟩ n Un ((cs2.toList.drop off2).take (n * esz)) (by rw [df];exact xI) hnews Uo hroom (by
     have:es.length=cs.size:=by rw [← iR];simp
     rw [df,xI];omega)
    rw [df] at bE
    obtain ⟨O',g1,g2⟩:=hs.zm (off:=off + len * esz) bk hl h1 h2 ze (by rw [List.length_take,List.length_drop];omega) ni
    exact ⟨_,.a8 id off (len + n) cap,L,_,_,O',bE,.a8 b off _ cap id hl hc,(by intro _ _ e;cases e),hK,g1,g2,List.prefix_refl L⟩
  ·cases w6
 rename_i ys pQ
 obtain ⟨jr,h⟩:=h
 have Bi:=(cI (M:=M) (L:=L) Ly).bL.fV (pi sO)
 have tX:zv.cells.size=esz:=by have:=Bi.length;rw [jk,iV] at this;simpa using this
 have hesz0:esz≠0:=by omega
 have I1:∀ n,aG M L (Builtin.zeroCells zv.cells n).toList (ch z n):=fun n=>by
  have:=jD (M:=M) (L:=L) zv.cells esz n tX h0 (bL z) Bi
  rw [Builtin.zeroCells,tX]
  rw [tX] at this
  exact this
 -- a new row
 have grow:∀ (olds news:List Value) (xs:List AV) (k need oldCap:Nat) (w':World),aG M L olds xs→aG M L news (flat ys)→need≤maxLen→
  w'=w.drew.alloc (.cells (olds.toArray++news.toArray++Builtin.zeroCells zv.cells (grownCap w need oldCap e - need)) e)→
  (Builtin.append_ #[t,t] ty #[u,v]).run P w=.ok (.slice (some ⟨w.heap.size,0,none⟩) need (grownCap w need oldCap e)) w'→
  (∀ gC,need≤gC→gC < 9223372036854775808→aj (H.length + 1) (xs.map AV.ab++(flat ys).map AV.ab++ch z (gC - need))=true∧K (.a8 H.length 0 need gC) (H++[.cells (xs.map AV.ab++(flat ys).map AV.ab++ch z (gC - need))]))→
  ∃ r y L' w' H' O',(Builtin.append_ #[t,t] ty #[u,v]).run P w=.ok r w'∧aS M L' r y∧(∀ own xs,y=.ap own xs→own=0)∧K y H'∧St A M L' w' H' ev ea O'∧Ext A M w M w'∧L <+: L':=by
  intro olds news xs k need oldCap w' Uf ze hneed IU bE hK
  have jh:=grownCap_ge w need oldCap e
  have hle:=grownCap_le_maxLen w need oldCap e hneed
  simp only [maxLen] at hle
  obtain ⟨ni,hK⟩:=hK _ jh (by omega)
  obtain ⟨g1,g2⟩:=hs.drew.Bt (olds.toArray++news.toArray++Builtin.zeroCells zv.cells (grownCap w need oldCap e - need)) e (xs:=xs.map AV.ab++(flat ys).map AV.ab++ch z (grownCap w need oldCap e - need))
   (by rw [Array.toList_append,Array.toList_append];exact (Uf.dc.append ze.dc).append (I1 _)) ni (by
     intro y hy
     rcases List.mem_append.1 hy with hy | hy
     ·rcases List.mem_append.1 hy with hy | hy
      ·exact nD _ y hy
      ·exact nD _ y hy
     ·exact DP IW _ y hy)
  subst IU
  refine ⟨_,.a8 H.length 0 need (grownCap w need oldCap e),L++[w.heap.size],_,_,O,bE,.a8 w.heap.size 0 _ _ H.length ?_ (by omega),(by intro _ _ e;cases e),hK,g1,Ext.drew.trans g2,⟨_,rfl⟩⟩
  rw [List.getElem?_append_right (by rw [hs.len];exact Nat.le_refl _),hs.len];simp
 split at h <;> try exact h.elim
 ·-- onto nothing
  obtain ⟨hbound,hn,hc⟩:=h
  cases hu
  rcases lO pQ jr hv with ⟨rfl,b',c',rfl⟩ | ⟨Bm,b2,o2,c2,news,rfl,ze,Qx,xI⟩
  ·exact ⟨_,.ah,L,w,H,O,dt ht hi w none 0 0 (Nat.le_refl _) b' c',.ah,(by intro _ _ e;cases e),hn rfl,hs,Ext.refl A M w,List.prefix_refl L⟩
  ·have hnews:∀ j u,news[j]?=some u→w.cell? ((⟨b2,o2,none⟩:Addr).add j)=some u:=ig Qx hs.mem
   have hlen:ys.length≤140737488355328:=Nat.le_trans (Nat.le_mul_of_pos_right _ uL) hbound
   have hbound':ys.length * i.bytes≤140737488355328:=by rw [xH];exact hbound
   have hr:=run_append_nil (P:=P) w t ty e i zv ht hi hz ⟨b2,o2,none⟩ ys.length c2 news (by rw [df];exact xI) hnews Bm (by omega) (by first | omega | (simp at hbound';omega))
   refine grow [] news [] 0 ys.length 0 _ .nil ze (by simp only [maxLen];omega) rfl (by simpa using hr) fun gC h1 h2=>?_
   have:=hc (by intro e;rw [e] at Bm;simp at Bm) gC h1 h2
   simpa using this
 ·-- onto what is empty
  obtain ⟨hbound,hn,hc⟩:=h
  cases hu with
  | oN ad=>
  rcases lO pQ jr hv with ⟨rfl,b',c',rfl⟩ | ⟨Bm,b2,o2,c2,news,rfl,ze,Qx,xI⟩
  ·exact ⟨_,.oN,L,w,H,O,dt ht hi w ad 0 0 (Nat.le_refl _) b' c',.oN _,(by intro _ _ e;cases e),hn rfl,hs,Ext.refl A M w,List.prefix_refl L⟩
  ·have hnews:∀ j u,news[j]?=some u→w.cell? ((⟨b2,o2,none⟩:Addr).add j)=some u:=ig Qx hs.mem
   have hlen:ys.length≤140737488355328:=Nat.le_trans (Nat.le_mul_of_pos_right _ uL) hbound
   have hbound':ys.length * i.bytes≤140737488355328:=by rw [xH];exact hbound
   have hK:∀ gC,ys.length≤gC→gC < 9223372036854775808→aj (H.length + 1) (([]:List AV).map AV.ab++(flat ys).map AV.ab++ch z (gC - ys.length))=true∧K (.a8 H.length 0 ys.length gC) (H++[.cells (([]:List AV).map AV.ab++(flat ys).map AV.ab++ch z (gC - ys.length))]):=fun gC h1 h2=>by
    have:=hc (by intro e;rw [e] at Bm;simp at Bm) gC h1 h2
    simpa using this
   cases ad with
   | none=>
     have hr:=run_append_nil (P:=P) w t ty e i zv ht hi hz ⟨b2,o2,none⟩ ys.length c2 news (by rw [df];exact xI) hnews Bm (by omega) (by first | omega | (simp at hbound';omega))
     exact grow [] news [] 0 ys.length 0 _ .nil ze (by simp only [maxLen];omega) rfl (by simpa using hr) hK
   | some ad=>
     have hr:=run_append_grow (P:=P) w t ty e i zv ht hi hz ad 0 0 [] (by simp) (fun j v hv=>by simp at hv)
      ⟨b2,o2,none⟩ ys.length c2 news (by rw [df];exact xI) hnews (by omega) (by omega) (growslice_fits (by omega) (by simpa using hbound'))
     simp only [Nat.zero_add] at hr
     exact grow [] news [] 0 ys.length 0 _ .nil ze (by simp only [maxLen];omega) rfl hr hK
 ·rename_i id off len cap
  split at h <;> try exact h.elim
  rename_i es bk
  obtain ⟨hbound,za,tN,Ds,IF⟩:=h
  cases hu with
  | a8 b _ _ _ _ hl hc=>
  obtain ⟨cs,e',h1,h2,h3⟩:=ft hs bk hl
  have iR:=h2.length
  rcases lO pQ jr hv with ⟨rfl,b',c',rfl⟩ | ⟨Bm,b2,o2,c2,news,rfl,ze,Qx,xI⟩
  ·obtain ⟨_,hK⟩:=Ds (by simpa using za)
   simp only [flat,List.flatMap_nil,List.map_nil,kE,List.length_nil,Nat.add_zero] at hK
   have es':H.set id (.cells es)=H:=by
    obtain ⟨mY,e1⟩:=List.getElem?_eq_some_iff.1 bk
    rw [← e1];simp
   rw [es'] at hK
   exact ⟨_,.a8 id off len cap,L,w,H,O,dt ht hi w _ len cap za b' c',.a8 b off len cap id hl hc,(by intro _ _ e;cases e),hK,hs,Ext.refl A M w,List.prefix_refl L⟩
  ·have hnews:∀ j u,news[j]?=some u→w.cell? ((⟨b2,o2,none⟩:Addr).add j)=some u:=ig Qx hs.mem
   have kB:=ze.gG (Bk jr)
   have Md:(flat ys).length=ys.length * esz:=cJ ys esz (fun y hy=>(jr y hy).1)
   by_cases hroom:len + ys.length≤cap
   ·obtain ⟨ni,hK⟩:=Ds hroom
    have wY:(len + ys.length) * esz≤cap * esz:=Nat.mul_le_mul_right _ hroom
    rw [Nat.add_mul] at wY
    have adw:es.length=cs.size:=by rw [← iR];simp
    have bE:=fW (P:=P) (ty:=ty) ht hi w b off len cap cs (0,0) h1 (oc _) ⟨b2,o2,none⟩ ys.length c2 news (by rw [df];exact xI) hnews kB hroom (by rw [df,xI];omega)
    rw [df] at bE
    obtain ⟨O',g1,g2⟩:=hs.zm (off:=off + len * esz) bk hl h1 h2 ze (by rw [Md];omega) ni
    exact ⟨_,.a8 id off (len + ys.length) cap,L,_,_,O',bE,.a8 b off _ cap id hl hc,(by intro _ _ e;cases e),hK,g1,g2,List.prefix_refl L⟩
   ·have hlen:(len + ys.length)≤140737488355328:=Nat.le_trans (Nat.le_mul_of_pos_right _ uL) hbound
    have hbound':(len + ys.length) * i.bytes≤140737488355328:=by rw [xH];exact hbound
    have wY:len * esz≤cap * esz:=Nat.mul_le_mul_right _ za
    have YL:((cs.toList.drop off).take (len * esz)).length=len * esz:=by rw [List.length_take,List.length_drop];omega
    have hr:=run_append_grow (P:=P) w t ty e i zv ht hi hz ⟨b,off,none⟩ len cap ((cs.toList.drop off).take (len * esz)) (by rw [df];exact YL) (fun j v hv=>by rw [Addr.add_lit];exact h3 _ _ (dq _ _ _ _ _ hv))
     ⟨b2,o2,none⟩ ys.length c2 news (by rw [df];exact xI) hnews (by omega) (by omega) (growslice_fits (by omega) hbound')
    exact grow _ news ((es.drop off).take (len * esz)) 0 (len + ys.length) cap _ ((h2.drop off).take _) ze (by simp only [maxLen];omega) rfl hr fun gC a b=>IF (by omega) gC a b
theorem Bu (hs:St A M L w H ev ea O) {t e:TypeId} {i:TypeInfo} {zv:Value} {esz:Nat} (ht:P.underlying t=some (.slice e)) (hi:P.info? e=some i) (hz:i.zero=some zv) (h0:0 < esz)
 {z:AV} (Ly:ofValue zv=some z) (sO:z.val=true) (iV:z.cells.length=esz) {v:Value} {x:AV} {K:List aa→Prop} (h:gK esz z x H K) (hv:aS M L v x) (ty:TypeId) :
 ∃ w' H' O',(Builtin.clear_ #[t] ty #[v]).run P w=.ok (.tuple #[]) w'∧K H'∧St A M L w' H' ev ea O'∧Ext A M w M w':=by
 unfold gK at h
 split at h <;> try exact h.elim
 rename_i id off len cap
 split at h <;> try exact h.elim
 rename_i es bk
 obtain ⟨tN,kB,ni,hK⟩:=h
 cases hv with
 | a8 b _ _ _ _ hl hc=>
 have Bi:=(cI (M:=M) (L:=L) Ly).bL.fV (pi sO)
 have tX:zv.cells.size=esz:=by have:=Bi.length;rw [jk,iV] at this;simpa using this
 have I1:aG M L (Builtin.zeroCells zv.cells len).toList (ch z len):=by
  have:=jD (M:=M) (L:=L) zv.cells esz len tX h0 (bL z) Bi
  rw [Builtin.zeroCells,tX]
  rw [tX] at this
  exact this
 obtain ⟨cs,e',h1,h2,h3⟩:=hs.obj id _ b bk hl
 have iR:=h2.length
 have wN:(ch z len).length=len * esz:=by
  unfold ch
  rw [cJ _ esz (fun y hy=>by rw [List.eq_of_mem_replicate hy,jk];exact iV),List.length_replicate]
 have pP:=I1.length
 by_cases Dq:len=0
 ·subst Dq
  have e0:ch z 0=[]:=rfl
  rw [e0] at hK
  simp only [List.map_nil,kE] at hK
  have es':H.set id (.cells es)=H:=by
   obtain ⟨mY,e1⟩:=List.getElem?_eq_some_iff.1 bk
   rw [← e1];simp
  rw [es'] at hK
  refine ⟨w,H,O,?_,hK,hs,Ext.refl A M w⟩
  simp [Builtin.clear_,run_underlying ht]
 ·have bO:=run_storeCells_at P b off e' (Builtin.zeroCells zv.cells len).toList 0 cs w h1 (by simp at iR ⊢;simp at pP;omega) (I1.gG kB)
  obtain ⟨O',g1,g2⟩:=hs.zm (off:=off) bk hl h1 h2 I1 (by omega) ni
  refine ⟨_,_,O',?_,hK,g1,g2⟩
  have lR:(storeCells ⟨b,off,none⟩ (Builtin.zeroCells zv.cells len).toList).run P w=.ok () (w.setRow b (ag cs.toList off (Builtin.zeroCells zv.cells len).toList).toArray):=by simpa [ag] using bO
  have hzero:(zeroValue e).run P w=.ok zv w:=by simp [zeroValue,typeInfo,hi,hz]
  have mX:∃ m,len=m + 1:=⟨len - 1,by omega⟩
  obtain ⟨m,rfl⟩:=mX
  simp [Builtin.clear_,run_underlying ht,hzero,lR]
end
end Go.aH
end
