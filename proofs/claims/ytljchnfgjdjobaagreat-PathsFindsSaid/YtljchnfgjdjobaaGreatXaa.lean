/- Part 1 of 20 of the proof. -/
import Derived.WalkKit
import Derived.Laws.AppendOwn
import Derived.Laws.Cells
import Derived.Deep.Quiet
import Derived.RowKit
import Derived.RangeFuncLeaves
import Derived.RangeFuncRecord
import Derived.OrdersIn
import Derived.Laws.Strings
import Derived.Laws.Entries
import Derived.Laws.CopyRow
import Derived.Great.BuildSlice
import Derived.Laws.BytesArg
set_option linter.unusedVariables false
set_option linter.unusedSimpArgs false
set_option linter.defProp false
set_option linter.unusedSectionVars false
namespace Go
theorem agq {α:Sort _} {a:α}:a=a:=_root_.id rfl
def tg:=@And.intro
def th:=@List.getD_eq_getElem?_getD
def zy:=@Nat.le_refl
def zz:=@List.getElem?_append_left
def zA:=@List.getElem?_set_ne
def zB:=@Int.toNat_natCast
def zC:=@Bool.and_eq_true
def Hj:=@List.getElem?_eq_getElem
def Sx:=@List.getElem?_set_self
def aaj:=@List.length_append
def aak:=@List.mem_cons
def aal:=@Option.map_eq_some_iff
def aap:=@List.drop_of_length_le
def aav:=@List.drop_eq_getElem_cons
def aaw:=@List.mem_map
def aax:=@List.take_of_length_le
def aay:=@List.mem_singleton
def aaA:=@List.mem_cons_of_mem
def aaD:=@List.prefix_refl
def aaG:=@List.getElem?_take
def aa2:=@List.getElem?_eq_some_iff
def abc:=@List.all_eq_true
def abd:=@List.take_append_of_le_length
def abe:=@List.append_assoc
def abx:=@List.getElem?_append_right
def aby:=@List.take_length
def abz:=@List.take_set_of_le
def abA:=@List.not_mem_nil
def abB:=@List.mem_of_getElem?
def abC:=@Bool.not_eq_true'
def abD:=@List.mem_cons_self
def abE:=@List.length_eq_zero_iff
def abF:=@List.mem_append
def abG:=@List.mem_range
def abH:=@Array.getD_eq_getD_getElem?
def abI:=@Bool.false_eq_true
def abJ:=@List.append_nil
def abK:=@Nat.zero_add
def abL:=@List.getElem?_eq_none
def abM:=@List.count_pos_iff
def abN:=@List.take_succ_eq_append_getElem
def abO:=@Nat.add_mul
def abP:=@Nat.mul_one
def abQ:=@Bool.or_eq_false_iff
def abR:=@Array.getElem?_eq_some_iff
def abS:=@List.length_take
def abT:=@List.ext_getElem?
def abU:=@Bool.or_eq_true
def abV:=@Bool.eq_iff_iff
def abW:=@Nat.le_trans
def abX:=@List.eq_of_mem_replicate
def abY:=@List.mem_flatMap
def abZ:=@List.getElem?_map
def ab0:=@Bool.eq_false_iff
def ab1:=@Int.eq_ofNat_of_zero_le
def ab2:=@List.map_congr_left
def ab3:=@List.mem_filter
def ab4:=@List.getElem?_set
def ab5:=@Nat.le_mul_of_pos_right
def ab6:=@List.mem_or_eq_of_mem_set
def ab7:=@List.length_set
def ab8:=@List.map_append
def acf:=@ByteArray.toList_eq
def acg:=@List.getElem_of_mem
def ach:=@List.length_replicate
def acj:=@Bool.and_self
def acr:=@Bool.and_true
def acs:=@List.mem_of_mem_take
def acu:=@Nat.mul_le_mul_right
def acz:=@List.length_map
def acA:=@List.getElem_mem
def acB:=@Bool.true_and
def acC:=@List.map_eq_nil_iff
def acE:=@List.replicate_succ
def acF:=@List.set_append_right
def acG:=@Nat.sub_self
def acH:=@List.map_map
def ac3:=@List.any_eq_false
def ac4:=@List.all_eq_false
def ac6:=@Nat.zero_le
def adj:=@Nat.lt_irrefl
def adl:=@List.map_toArray
def adm:=@List.eraseIdx_eq_take_drop_succ
def adp:=@List.range_succ
def adv:=@List.mem_of_mem_eraseIdx
def adB:=@List.getElem?_inj
def adC:=@List.take_add_one
def adE:=@Nat.add_assoc
def adJ:=@List.eq_nil_of_length_eq_zero
def adN:=@List.drop_append_of_le_length
def adS:=@List.flatMap_append
def ad5:=@Array.getElem?_setIfInBounds
def ad6:=@List.map_set
def ad7:=@Option.isSome_some
def ad8:=@Array.getElem?_toList
def aea:=@Nat.le_of_ble_eq_true
def aeb:=@Array.getElem?_eq_getElem
def aed:=@List.set_append_left
def aeg:=@List.take_left
def aek:=@List.drop_append
def aes:=@List.ext_getElem
def aet:=@List.findIdx_lt_length_of_exists
def aeC:=@List.getElem?_drop
def aeF:=@Option.isSome_none
def aeJ:=@List.set_cons_zero
def aeM:=@List.count_append
def aeQ:=@Nat.lt_or_ge
def aeR:=@List.length_singleton
def ae8:=@Array.getElem?_modify
def afe:=@Nat.zero_mul
def aff:=@List.take_append_drop
def afg:=@Array.getElem_push_lt
def afj:=@Bool.and_eq_false_iff
def afl:=@List.set_set
def afs:=@List.mem_iff_getElem?
def afA:=@Bool.false_and
def afC:=@List.getElem?_append
def afD:=@List.length_drop
def afE:=@List.mem_of_mem_drop
def afN:=@List.countP_cons
def afR:=@List.findIdx_getElem
def afS:=@List.any_eq_true
def afT:=@List.replicate_succ'
def afU:=@List.take_set
def afV:=@Int.le_refl
def afW:=@Array.length_toList
def afX:=@Nat.min_le_left
def afY:=@Nat.lt_of_lt_of_le
def afZ:=@Bool.not_not
def af0:=@Nat.add_zero
def af1:=@List.set_cons_succ
def af2:=@Nat.add_comm
def af3:=@Array.getElem?_replicate
def af4:=@List.mem_replicate
def af5:=@Nat.lt_trichotomy
def af6:=@List.drop_eq_nil_of_le
def af7:=@List.set_eq_take_append_cons_drop
def af8:=@List.any_cons
def af9:=@List.take_append
def aga:=@List.flatMap_nil
def agb:=@List.countP_le_length
def agc:=@List.replicate_append_replicate
def age:=@Array.toArray_toList
def agf:=@Array.getElem_modify
def agh:=@Nat.sub_zero
def agi:=@List.length_eraseIdx
def agj:=@Array.toList_append
def agk:=@List.length_pos_iff
def agl:=@List.mem_map_of_mem
def agm:=@List.drop_left
def agn:=@List.drop_drop
def ago:=@Array.foldl_toList
def agp:=@Int.emod_eq_of_lt
end Go
section
namespace Go.aI
open Go
inductive AV where
 | any
 | bool (b:Bool)
 | int (k:IntKind) (n:Int)
 | str (s:ByteArray)
 | ag
 | al (own:Nat) (xs:List AV)
 | aZ (id off len cap:Nat)
 | agg (xs:List AV)
 | tuple (xs:List AV)
 | ptr (id off:Nat)
 | ah (x:AV)
 | wD
 | map (id:Nat)
 | nr
 | fn (f:Fn) (first captured:List AV)
 | iI
 | iface (t:TypeId) (x:AV)
 | CH
 | qm (id:Nat)
 | oP
 deriving Inhabited
def AV.cells:AV→List AV
 | .agg xs=>xs
 | x=>[x]
def flat (xs:List AV):List AV:=xs.flatMap AV.cells
abbrev Mem:=Nat→Nat→Option Value
def Mem.sub (M M':Mem):Prop:=∀ b o v,M b o=some v→M' b o=some v
theorem Mem.b8 (M:Mem):M.sub M:=fun _ _ _ h=>h
theorem Mem.IM {M1 M2 M3:Mem} (h:M1.sub M2) (k:M2.sub M3):M1.sub M3:=fun b o v hv=>k b o v (h b o v hv)
def Mem.row (M:Mem) (b o:Nat) (cs:List Value):Prop:=∀ j v,cs[j]?=some v→M b (o + j)=some v
mutual
inductive a7 (M:Mem) (L:List Nat):Value→AV→Prop
 | any (v:Value):a7 M L v .any
 | bool (b:Bool):a7 M L (.bool b) (.bool b)
 | int (k:IntKind) (n:Int):a7 M L (.int k n) (.int k n)
 | str (s:ByteArray):a7 M L (.string s) (.str s)
 | ag:a7 M L (.slice none 0 0) .ag
 | iN (a:Option Addr) (c own:Nat) (hc:c < 9223372036854775808):a7 M L (.slice a 0 c) (.al own [])
 | al (b off c own e:Nat) (cs:List Value) (xs:List AV) (he:0 < e) (hx:∀ x∈xs,x.cells.length=e) (hn:0 < xs.length) (hle:xs.length≤c) (hc:c < 9223372036854775808)
    (hr:aP M L cs (flat xs)) (hm:M.row b off cs):a7 M L (.slice (some ⟨b,off,none⟩) xs.length c) (.al own xs)
 | aZ (b off len cap id:Nat) (hl:L[id]?=some b) (hc:cap < 9223372036854775808):a7 M L (.slice (some ⟨b,off,none⟩) len cap) (.aZ id off len cap)
 | agg (cs:List Value) (xs:List AV) (hr:aP M L cs xs):a7 M L (.agg cs.toArray) (.agg xs)
 | tuple (cs:List Value) (xs:List AV) (hr:aP M L cs xs):a7 M L (.tuple cs.toArray) (.tuple xs)
 | ptr (b off id:Nat) (hl:L[id]?=some b):a7 M L (.pointer (some ⟨b,off,none⟩)) (.ptr id off)
 | ah (b off:Nat) (cs:List Value) (x:AV) (hr:aP M L cs x.cells) (hm:M.row b off cs):a7 M L (.pointer (some ⟨b,off,none⟩)) (.ah x)
 | wD:a7 M L (.pointer none) .wD
 | map (b id:Nat) (hl:L[id]?=some b):a7 M L (.map (some b)) (.map id)
 | nr:a7 M L (.map none) .nr
 | fn (f:Fn) (fs cs:List Value) (xs ys:List AV) (h1:aP M L fs xs) (h2:aP M L cs ys):a7 M L (.func f fs.toArray cs.toArray) (.fn f xs ys)
 | iI:a7 M L .nilFunc .iI
 | iface (t:TypeId) (v:Value) (x:AV) (h:a7 M L v x):a7 M L (.iface t v) (.iface t x)
 | CH:a7 M L .nilIface .CH
 | qm (b id:Nat) (hl:L[id]?=some b):a7 M L (.func (.yield b) #[] #[]) (.qm id)
 | oP (a:Option Addr):a7 M L (.slice a 0 0) .oP
inductive aP (M:Mem) (L:List Nat):List Value→List AV→Prop
 | nil:aP M L [] []
 | cons (v:Value) (x:AV) (vs:List Value) (xs:List AV) (h:a7 M L v x) (t:aP M L vs xs):aP M L (v::vs) (x::xs)
end
theorem gQ {L L':List Nat} (h:L <+: L') {id b:Nat} (hb:L[id]?=some b):L'[id]?=some b:=by
 obtain ⟨r,rfl⟩:=h
 rw [zz]
 ·exact hb
 ·exact (aa2.1 hb).1
theorem Mem.row.mono {M M':Mem} (hs:M.sub M') {b o:Nat} {cs:List Value} (h:M.row b o cs):M'.row b o cs:=fun j v hv=>hs _ _ _ (h j v hv)
mutual
theorem a7.mono {M M':Mem} {L L':List Nat} (hs:M.sub M') (hL:L <+: L'):∀ {v:Value} {x:AV},a7 M L v x→a7 M' L' v x
 | _,_,.any v=>.any v
 | _,_,.bool b=>.bool b
 | _,_,.int k n=>.int k n
 | _,_,.str s=>.str s
 | _,_,.ag=>.ag
 | _,_,.iN a c o h=>.iN a c o h
 | _,_,.al b off c own e cs xs he hx hn hle hc hr hm=>.al b off c own e cs xs he hx hn hle hc (hr.mono hs hL) (hm.mono hs)
 | _,_,.aZ b off len cap id hl hc=>.aZ b off len cap id (gQ hL hl) hc
 | _,_,.agg cs xs hr=>.agg cs xs (hr.mono hs hL)
 | _,_,.tuple cs xs hr=>.tuple cs xs (hr.mono hs hL)
 | _,_,.ptr b off id hl=>.ptr b off id (gQ hL hl)
 | _,_,.ah b off cs x hr hm=>.ah b off cs x (hr.mono hs hL) (hm.mono hs)
 | _,_,.wD=>.wD
 | _,_,.map b id hl=>.map b id (gQ hL hl)
 | _,_,.nr=>.nr
 | _,_,.fn f fs cs xs ys h1 h2=>.fn f fs cs xs ys (h1.mono hs hL) (h2.mono hs hL)
 | _,_,.iI=>.iI
 | _,_,.iface t v x h=>.iface t v x (h.mono hs hL)
 | _,_,.CH=>.CH
 | _,_,.qm b id hl=>.qm b id (gQ hL hl)
 | _,_,.oP a=>.oP a
theorem aP.mono {M M':Mem} {L L':List Nat} (hs:M.sub M') (hL:L <+: L'):∀ {vs:List Value} {xs:List AV},aP M L vs xs→aP M' L' vs xs
 | _,_,.nil=>.nil
 | _,_,.cons v x vs xs h t=>.cons v x vs xs (h.mono hs hL) (t.mono hs hL)
end
section
variable {M:Mem} {L:List Nat}
theorem aP.length:∀ {vs:List Value} {xs:List AV},aP M L vs xs→vs.length=xs.length
 | _,_,.nil=>rfl
 | _,_,.cons _ _ _ _ _ t=>by simp [t.length]
theorem aP.get:∀ {vs:List Value} {xs:List AV},aP M L vs xs→∀ (j:Nat) (x:AV),xs[j]?=some x→∃ v,vs[j]?=some v∧a7 M L v x
 | _,_,.nil,j,x,h=>by simp at h
 | _,_,.cons v y vs xs h t,0,x,hx=>by simp at hx;subst hx;exact ⟨v,by simp,h⟩
 | _,_,.cons v y vs xs h t,j + 1,x,hx=>by
   obtain ⟨u,hu,hr⟩:=t.get j x (by simpa using hx)
   exact ⟨u,by simpa using hu,hr⟩
theorem aP.append:∀ {vs:List Value} {xs:List AV},aP M L vs xs→∀ {us:List Value} {ys:List AV},aP M L us ys→aP M L (vs++us) (xs++ys)
 | _,_,.nil,_,_,h2=>h2
 | _,_,.cons v x vs xs h t,_,_,h2=>.cons v x _ _ h (t.append h2)
theorem aP.take:∀ {vs:List Value} {xs:List AV},aP M L vs xs→∀ n,aP M L (vs.take n) (xs.take n)
 | _,_,.nil,n=>by simp;exact .nil
 | _,_,.cons v x vs xs h t,0=>.nil
 | _,_,.cons v x vs xs h t,n + 1=>.cons v x _ _ h (t.take n)
theorem aP.drop:∀ {vs:List Value} {xs:List AV},aP M L vs xs→∀ n,aP M L (vs.drop n) (xs.drop n)
 | _,_,.nil,n=>by simp;exact .nil
 | _,_,.cons v x vs xs h t,0=>.cons v x _ _ h t
 | _,_,.cons v x vs xs h t,n + 1=>t.drop n
theorem aP.set:∀ {vs:List Value} {xs:List AV},aP M L vs xs→∀ {u:Value} {y:AV},a7 M L u y→∀ n,aP M L (vs.set n u) (xs.set n y)
 | _,_,.nil,_,_,_,n=>by simp;exact .nil
 | _,_,.cons v x vs xs h t,u,y,hu,0=>.cons u y _ _ hu t
 | _,_,.cons v x vs xs h t,u,y,hu,n + 1=>.cons v x _ _ h (t.set hu n)
theorem aP.AW:∀ {vs:List Value} {xs:List AV},vs.length=xs.length→(∀ (j:Nat) (x:AV),xs[j]?=some x→∃ v,vs[j]?=some v∧a7 M L v x)→aP M L vs xs
 | [],[],_,_=>.nil
 | [],_::_,h,_=>by simp at h
 | _::_,[],h,_=>by simp at h
 | v::vs,x::xs,h,H=>by
   obtain ⟨u,hu,hr⟩:=H 0 x rfl
   simp at hu;subst hu
   exact .cons v x vs xs hr (.AW (by simpa using h) (fun j y hy=>by obtain ⟨u,hu,hr⟩:=H (j + 1) y (by simpa using hy);exact ⟨u,by simpa using hu,hr⟩))
theorem aP.one {v:Value} {x:AV} (h:a7 M L v x):aP M L [v] [x]:=.cons _ _ _ _ h .nil
theorem aP.Hk {vs:List Value} {x:AV} (h:aP M L vs [x]):∃ v,vs=[v]∧a7 M L v x:=by
 cases h with
 | cons v x vs xs h t=>cases t with | nil=>exact ⟨v,rfl,h⟩
theorem aP.getD {vs:List Value} {xs:List AV} (h:aP M L vs xs) (j:Nat):a7 M L (vs.getD j undef) (xs.getD j .any):=by
 rcases aeQ j xs.length with hj | hj
 ·obtain ⟨v,hv,hr⟩:=h.get j xs[j] (by simp [hj])
  rw [th,th,hv]
  simpa [hj] using hr
 ·rw [th,th,abL hj]
  exact .any _
end
def AV.ab:AV→AV
 | .al _ xs=>.al 0 xs
 | x=>x
def AV.drop:AV→AV
 | .al _ xs=>.al 0 xs
 | .ag=>.al 0 []
 | x=>x
theorem a7.Fb {M:Mem} {L:List Nat} {v:Value} {o o':Nat} {xs:List AV} (h:a7 M L v (.al o xs)):a7 M L v (.al o' xs):=by
 cases h with
 | iN a c _ hc=>exact .iN a c o' hc
 | al b off c _ e cs _ he hx hn hle hc hr hm=>exact .al b off c o' e cs xs he hx hn hle hc hr hm
theorem a7.ab {M:Mem} {L:List Nat} {v:Value} {x:AV} (h:a7 M L v x):a7 M L v x.ab:=by
 cases x <;> first | exact h | exact h.Fb
theorem a7.drop {M:Mem} {L:List Nat} {v:Value} {x:AV} (h:a7 M L v x):a7 M L v x.drop:=by
 cases x <;> first | exact h | exact h.Fb | (cases h;exact .iN _ _ _ (by decide))
theorem aP.map_drop {M:Mem} {L:List Nat}:∀ {vs:List Value} {xs:List AV},aP M L vs xs→aP M L vs (xs.map AV.drop)
 | _,_,.nil=>.nil
 | _,_,.cons v x vs xs h t=>.cons v _ _ _ h.drop t.map_drop
def AV.one:AV→Bool
 | .any=>false
 | .agg _=>false
 | .tuple _=>false
 | _=>true
theorem a7.iO {M:Mem} {L:List Nat} {v:Value} {x:AV} (h:a7 M L v x) (h1:x.one=true):v.oneCell'=true:=by
 cases h <;> first | rfl | simp [AV.one] at h1
theorem aP.iO {M:Mem} {L:List Nat}:∀ {vs:List Value} {xs:List AV},aP M L vs xs→xs.all AV.one=true→∀ v∈vs,v.oneCell'=true
 | _,_,.nil,_,v,hv=>by simp at hv
 | _,_,.cons u x vs xs h t,h1,v,hv=>by
   simp only [List.all_cons,zC] at h1
   rcases aak.1 hv with rfl | hv
   ·exact h.iO h1.1
   ·exact t.iO h1.2 v hv
mutual
def AV.bc (n:Nat):AV→Bool
 | .aZ id _ _ _=>id < n
 | .ptr id _=>id < n
 | .map id=>id < n
 | .qm id=>id < n
 | .al _ xs=>aw n xs
 | .agg xs=>aw n xs
 | .tuple xs=>aw n xs
 | .ah x=>x.bc n
 | .fn _ xs ys=>aw n xs && aw n ys
 | .iface _ x=>x.bc n
 | _=>true
def aw (n:Nat):List AV→Bool
 | []=>true
 | x::xs=>x.bc n && aw n xs
end
theorem bg (n:Nat):∀ xs:List AV,aw n xs=true↔∀ x∈xs,x.bc n=true
 | []=>by simp [aw]
 | x::xs=>by simp [aw,bg n xs]
theorem lE {L:List Nat} {id n b:Nat} (h:L[id]?=some b) (hn:id < n):(L.take n)[id]?=some b:=by
 rw [aaG];simp [hn,h]
theorem cG {n:Nat} {x:AV} (h:x.bc n=true):aw n x.cells=true:=by
 cases x <;> simp_all [AV.cells,AV.bc,aw]
theorem uI {n:Nat}:∀ {xs:List AV},aw n xs=true→aw n (flat xs)=true
 | [],_=>rfl
 | x::xs,h=>by
   simp only [aw,zC] at h
   have h1:=cG h.1
   have h2:=uI h.2
   rw [bg] at *
   intro y hy
   simp only [flat,List.flatMap_cons,abF] at hy
   rcases hy with hy | hy
   ·exact h1 y hy
   ·exact h2 y hy
mutual
theorem a7.iP {M:Mem} {L:List Nat} {n:Nat}:∀ {v:Value} {x:AV},a7 M L v x→x.bc n=true→a7 M (L.take n) v x
 | _,_,.any v,_=>.any v
 | _,_,.bool b,_=>.bool b
 | _,_,.int k n,_=>.int k n
 | _,_,.str s,_=>.str s
 | _,_,.ag,_=>.ag
 | _,_,.iN a c o h,_=>.iN a c o h
 | _,_,.al b off c own e cs xs he hx hn hle hc hr hm,h=>.al b off c own e cs xs he hx hn hle hc (hr.iP (uI (by simpa [AV.bc] using h))) hm
 | _,_,.aZ b off len cap id hl hc,h=>.aZ b off len cap id (lE hl (by simpa [AV.bc] using h)) hc
 | _,_,.agg cs xs hr,h=>.agg cs xs (hr.iP (by simpa [AV.bc] using h))
 | _,_,.tuple cs xs hr,h=>.tuple cs xs (hr.iP (by simpa [AV.bc] using h))
 | _,_,.ptr b off id hl,h=>.ptr b off id (lE hl (by simpa [AV.bc] using h))
 | _,_,.ah b off cs x hr hm,h=>.ah b off cs x (hr.iP (cG (by simpa [AV.bc] using h))) hm
 | _,_,.wD,_=>.wD
 | _,_,.map b id hl,h=>.map b id (lE hl (by simpa [AV.bc] using h))
 | _,_,.nr,_=>.nr
 | _,_,.fn f fs cs xs ys h1 h2,h=>by
   simp only [AV.bc,zC] at h
   exact .fn f fs cs xs ys (h1.iP h.1) (h2.iP h.2)
 | _,_,.iI,_=>.iI
 | _,_,.iface t v x h,hb=>.iface t v x (h.iP (by simpa [AV.bc] using hb))
 | _,_,.CH,_=>.CH
 | _,_,.qm b id hl,h=>.qm b id (lE hl (by simpa [AV.bc] using h))
 | _,_,.oP a,_=>.oP a
theorem aP.iP {M:Mem} {L:List Nat} {n:Nat}:∀ {vs:List Value} {xs:List AV},aP M L vs xs→aw n xs=true→aP M (L.take n) vs xs
 | _,_,.nil,_=>.nil
 | _,_,.cons v x vs xs h t,hb=>by
   simp only [aw,zC] at hb
   exact .cons v x vs xs (h.iP hb.1) (t.iP hb.2)
end
theorem aS {α:Type} {L:List α} {id:Nat} {b:α} (h:L[id]?=some b):id < L.length:=(aa2.1 h).1
mutual
theorem AV.cH {m k:Nat} (h:m≤k):∀ (x:AV),x.bc m=true→x.bc k=true
 | .any,_=>rfl
 | .bool _,_=>rfl
 | .int _ _,_=>rfl
 | .str _,_=>rfl
 | .ag,_=>rfl
 | .al _ xs,hb=>by simp only [AV.bc] at hb ⊢;exact bI h xs hb
 | .aZ _ _ _ _,hb=>by simp only [AV.bc,decide_eq_true_eq] at hb ⊢;omega
 | .agg xs,hb=>by simp only [AV.bc] at hb ⊢;exact bI h xs hb
 | .tuple xs,hb=>by simp only [AV.bc] at hb ⊢;exact bI h xs hb
 | .ptr _ _,hb=>by simp only [AV.bc,decide_eq_true_eq] at hb ⊢;omega
 | .ah x,hb=>by simp only [AV.bc] at hb ⊢;exact AV.cH h x hb
 | .wD,_=>rfl
 | .map _,hb=>by simp only [AV.bc,decide_eq_true_eq] at hb ⊢;omega
 | .nr,_=>rfl
 | .fn _ xs ys,hb=>by
   simp only [AV.bc,zC] at hb ⊢
   exact ⟨bI h xs hb.1,bI h ys hb.2⟩
 | .iI,_=>rfl
 | .iface _ x,hb=>by simp only [AV.bc] at hb ⊢;exact AV.cH h x hb
 | .CH,_=>rfl
 | .qm _,hb=>by simp only [AV.bc,decide_eq_true_eq] at hb ⊢;omega
 | .oP,_=>rfl
theorem bI {m k:Nat} (h:m≤k):∀ (xs:List AV),aw m xs=true→aw k xs=true
 | [],_=>rfl
 | x::xs,hb=>by
   simp only [aw,zC] at hb ⊢
   exact ⟨AV.cH h x hb.1,bI h xs hb.2⟩
end
abbrev CA:=List (Nat×Nat×Nat)
abbrev mr:=List (Nat×List Nat)
inductive yL where
 | done
 | take (i:Nat) (st:Bool) (r:yL)
 | br (i:Nat) (t rest:yL)
 | nil
 deriving Inhabited
abbrev ms:=List (Nat×yL)
structure jL where
 n:Nat
 ps:List Nat
 as:Code
 bd:Code
 an:CA
 lv:mr
 pl:ms
inductive VQ where
 | ready
 | busy
 | jump (c:Code)
 | fQ
def VQ.ok (st:VQ) (r:Loop):Prop:=
 match st with
 | .ready=>r.state=.ready∧r.pending=none
 | .busy=>r.state=.busy
 | .jump c=>r.state=.done∧r.pending=some c
 | .fQ=>True
inductive aa where
 | dead
 | cells (es:List AV)
 | map (es:List (AV×AV))
 | KG (s:ByteArray) (pos:Nat)
 | loop (st:VQ) (lc:jL) (es:List AV)
 deriving Inhabited
def aa.bc (n:Nat):aa→Bool
 | .cells es=>aw n es
 | .map es=>aw n (es.map (·.1)) && aw n (es.map (·.2))
 | .loop _ _ es=>aw n es
 | _=>true
theorem aa.cH {m k:Nat} (h:m≤k) (o:aa) (ho:o.bc m=true):o.bc k=true:=by
 cases o <;> simp only [aa.bc,zC] at ho ⊢
 ·exact bI h _ ho
 ·exact ⟨bI h _ ho.1,bI h _ ho.2⟩
 ·exact bI h _ ho
def AX (M:Mem) (L:List Nat) (w:World) (b:Nat):aa→Prop
 | .dead=>True
 | .cells es=>∃ cs e,w.heap[b]?=some (.cells cs e (0,0))∧aP M L cs.toList es∧∀ o,M b o=none
 | .map es=>∃ ents ck,w.heap[b]?=some (.map ents ck)∧aP M L (ents.toList.map (·.key)) (es.map (·.1))∧aP M L (ents.toList.map (·.val)) (es.map (·.2))
 | .KG s pos=>w.heap[b]?=some (.stringIter s pos)
 | .loop st lc es=>∃ r,w.heap[b]?=some (.loop r)∧r.params=lc.ps.toArray∧r.assign=lc.as∧r.body=lc.bd∧aP M L r.tmps.toList es∧st.ok r
theorem AX.mono {M M':Mem} {L L':List Nat} {w w':World} {b:Nat} {o:aa} (h:AX M L w b o) (hs:M.sub M') (hL:L <+: L')
 (hw:w'.heap[b]?=w.heap[b]?) (hM:∀ o,M' b o=M b o):AX M' L' w' b o:=by
 cases o with
 | dead=>trivial
 | cells es=>
   obtain ⟨cs,e,h1,h2,h3⟩:=h
   exact ⟨cs,e,hw.trans h1,h2.mono hs hL,fun o=>(hM o).trans (h3 o)⟩
 | map es=>
   obtain ⟨ents,ck,h1,h2,h3⟩:=h
   exact ⟨ents,ck,hw.trans h1,h2.mono hs hL,h3.mono hs hL⟩
 | KG s pos=>exact hw.trans h
 | loop st lc es=>
   obtain ⟨r,h1,h2,h3,h4,h5,h6⟩:=h
   exact ⟨r,hw.trans h1,h2,h3,h4,h5.mono hs hL,h6⟩
theorem AX.iP {M:Mem} {L:List Nat} {w:World} {b n:Nat} {o:aa} (h:AX M L w b o) (hb:o.bc n=true):AX M (L.take n) w b o:=by
 cases o with
 | dead=>trivial
 | cells es=>
   obtain ⟨cs,e,h1,h2,h3⟩:=h
   exact ⟨cs,e,h1,h2.iP (by simpa [aa.bc] using hb),h3⟩
 | map es=>
   obtain ⟨ents,ck,h1,h2,h3⟩:=h
   simp only [aa.bc,zC] at hb
   exact ⟨ents,ck,h1,h2.iP hb.1,h3.iP hb.2⟩
 | KG s pos=>exact h
 | loop st lc es=>
   obtain ⟨r,h1,h2,h3,h4,h5,h6⟩:=h
   exact ⟨r,h1,h2,h3,h4,h5.iP (by simpa [aa.bc] using hb),h6⟩
inductive Pos where
 | t (i:Nat)
 | c (id j:Nat)
 deriving DecidableEq
def Oo (fr:Nat×Nat) (n:Nat):Prop:=∀ j,j < n→¬ (fr.1≤j∧j < fr.2)
theorem pJ (n:Nat):Oo (0,0) n:=fun j _ h=>by simp at h
def bm (M:Mem) (w:World) (v:Value) (x:AV) (ob:Option Nat):Prop:=
 match x with
 | .al own xs=>if own=0 then ob=none else
    (∀ y∈xs,y.cells.length=own)∧((ob=none∧∃ a n,v=.slice a n n)∨
    ∃ b off n c cs e fr,ob=some b∧v=.slice (some ⟨b,off,none⟩) n c∧w.heap[b]?=some (.cells cs e fr)∧Oo fr cs.size∧off + c * own≤cs.size∧∀ k,n * own≤k→k < c * own→M b (off + k)=none)
 | _=>ob=none
theorem bm.mono {M M':Mem} {w w':World} {v:Value} {x:AV} {ob:Option Nat} (h:bm M w v x ob)
 (hw:∀ b,ob=some b→w'.heap[b]?=w.heap[b]?∧∀ o,M' b o=M b o):bm M' w' v x ob:=by
 cases x <;> first | exact h | skip
 rename_i own xs
 unfold bm at *
 simp only at *
 split
 ·rename_i h0;simp only [h0,if_true] at h;exact h
 ·rename_i h0
  simp only [h0,if_false] at h
  refine ⟨h.1,?_⟩
  rcases h.2 with h | ⟨b,off,n,c,cs,e,fr,h1,h2,h3,h4,h5,h6⟩
  ·exact .inl h
  ·obtain ⟨hb,hm⟩:=hw b h1
   exact .inr ⟨b,off,n,c,cs,e,fr,h1,h2,hb.trans h3,h4,h5,fun k hk KH=>(hm _).trans (h6 k hk KH)⟩
def bW (L:List Nat) (w:World) (id j:Nat):Value:=
 match L[id]? with
 | some b=>(w.cell? ⟨b,j,none⟩).getD undef
 | none=>undef
def bB (H:List aa) (id j:Nat):AV:=
 match H[id]? with
 | some (.cells es)=>es.getD j .any
 | _=>.any
structure Perm where
 wr:Nat→Prop
 top:Nat→Option Nat
 ok:∀ id n,top id=some n→id < n
 base:Nat:=0
instance:CoeFun Perm fun _=>Nat→Prop:=⟨Perm.wr⟩
def Perm.jk (A:Perm) (len id:Nat):Nat:=match A.top id with | some n=>min n len | none=>len
theorem Perm.wE (A:Perm) (len id:Nat):A.jk len id≤len:=by unfold Perm.jk;split <;> omega
theorem Perm.lS (A:Perm) {len id:Nat} (h:id < len):id + 1≤A.jk len id:=by
 unfold Perm.jk
 split
 ·rename_i n hn;have:=A.ok _ _ hn;omega
 ·omega
theorem Perm.CJ (A:Perm) {len len':Nat} (h:len≤len') (id:Nat):A.jk len id≤A.jk len' id:=by unfold Perm.jk;split <;> omega
theorem Perm.Oq (A:Perm) (len:Nat):A.jk (len + 1) len=len + 1:=by
 have h1:=A.lS (len:=len + 1) (id:=len) (by omega)
 have h2:=A.wE (len + 1) len
 omega
structure St (A:Perm) (M:Mem) (L:List Nat) (w:World) (H:List aa) (ev:Nat→Value) (ea:Nat→AV) (O:Pos→Option Nat):Prop where
 len:L.length=H.length
 nodup:L.Nodup
 env:∀ t,a7 M L (ev t) (ea t)
 mem:∀ b o v,M b o=some v→w.cell? ⟨b,o,none⟩=some v
 obj:∀ (id:Nat) (o:aa) (b:Nat),H[id]?=some o→L[id]?=some b→AX M L w b o
 bJ:∀ (id:Nat) (o:aa),H[id]?=some o→o.bc (A.jk H.length id)=true
 lt:∀ b∈L,b < w.heap.size
 jX:∀ t,bm M w (ev t) (ea t) (O (.t t))
 jD:∀ id j,bm M w (bW L w id j) (bB H id j) (O (.c id j))
 cU:∀ p q b,O p=some b→O q=some b→p=q
 cZ:∀ p b,O p=some b→b∉L
 iA:∀ p b,O p=some b→b < w.heap.size
 La:∀ b∈L,A b
 Oa:∀ p b,O p=some b→A b
 fresh:∀ b,w.heap.size≤b→A b
structure Ext (A:Perm) (M:Mem) (w:World) (M':Mem) (w':World):Prop where
 oD:M.sub M'
 size:w.heap.size≤w'.heap.size
 os:w'.os=w.os
 tape:w'.tape=w.tape
 output:w'.output=w.output
 mv:∀ b,b < w.heap.size→¬ A b→w'.heap[b]?=w.heap[b]?∧∀ o,M' b o=M b o
 loops:∀ (b:Nat) (r:Loop),w.heap[b]?=some (.loop r)→∃ r',w'.heap[b]?=some (.loop r')∧r'.defers=r.defers
theorem Ext.refl (A:Perm) (M:Mem) (w:World):Ext A M w M w:=⟨Mem.b8 M,zy _,rfl,rfl,rfl,fun _ _ _=>⟨rfl,fun _=>rfl⟩,fun b r h=>⟨r,h,rfl⟩⟩
theorem Ext.trans {A:Perm} {M M1 M2:Mem} {w w1 w2:World} (h:Ext A M w M1 w1) (k:Ext A M1 w1 M2 w2):Ext A M w M2 w2:=
 ⟨Mem.IM h.oD k.oD,abW h.size k.size,k.os.trans h.os,k.tape.trans h.tape,k.output.trans h.output,fun b hb hA=>by
   obtain ⟨h1,h2⟩:=h.mv b hb hA
   obtain ⟨k1,k2⟩:=k.mv b (afY hb h.size) hA
   exact ⟨k1.trans h1,fun o=>(k2 o).trans (h2 o)⟩,fun b r hr=>by
   obtain ⟨r1,h1,e1⟩:=h.loops b r hr
   obtain ⟨r2,h2,e2⟩:=k.loops b r1 h1
   exact ⟨r2,h2,e2.trans e1⟩⟩
end Go.aI
end
section
namespace Go.aI
open Go
def gR {α:Type} (f:Nat→α) (d:Nat) (v:α):Nat→α:=fun t=>if t=d then v else f t
def eV (O:Pos→Option Nat) (p:Pos) (ob:Option Nat):Pos→Option Nat:=fun q=>if q=p then ob else O q
theorem KI {α:Type} (f:Nat→α) (d:Nat) (v:α):gR f d v d=v:=by simp [gR]
section
variable {A:Perm} {M:Mem} {L:List Nat} {w:World} {H:List aa} {ev:Nat→Value} {ea:Nat→AV} {O:Pos→Option Nat}
theorem St.put (h:St A M L w H ev ea O) (d:Nat) {v:Value} {x:AV} (hr:a7 M L v x) (ob:Option Nat) (hs:bm M w v x ob)
 (h1:∀ p b,ob=some b→O p=some b→p=.t d) (h2:∀ b,ob=some b→b∉L∧b < w.heap.size∧A b) :
 St A M L w H (gR ev d v) (gR ea d x) (eV O (.t d) ob) where
 len:=h.len
 nodup:=h.nodup
 env t:=by
  by_cases e:t=d
  ·subst e;simpa [gR] using hr
  ·simpa [gR,e] using h.env t
 mem:=h.mem
 obj:=h.obj
 bJ:=h.bJ
 lt:=h.lt
 jX t:=by
  by_cases e:t=d
  ·subst e;simpa [gR,eV] using hs
  ·simpa [gR,eV,e] using h.jX t
 jD id j:=by simpa [eV] using h.jD id j
 cU p q b hp hq:=by
  simp only [eV] at hp hq
  split at hp <;> split at hq
  ·simp_all
  ·rename_i e1 e2;exact absurd (h1 q b hp hq) e2
  ·rename_i e1 e2;exact absurd (h1 p b hq hp) e1
  ·exact h.cU p q b hp hq
 cZ p b hp:=by
  simp only [eV] at hp
  split at hp
  ·exact (h2 b hp).1
  ·exact h.cZ p b hp
 iA p b hp:=by
  simp only [eV] at hp
  split at hp
  ·exact (h2 b hp).2.1
  ·exact h.iA p b hp
 La:=h.La
 Oa p b hp:=by
  simp only [eV] at hp
  split at hp
  ·exact (h2 b hp).2.2
  ·exact h.Oa p b hp
 fresh:=h.fresh
theorem bm.free {v:Value} {x:AV} (hx:∀ own xs,x=.al own xs→own=0):bm M w v x none:=by
 cases x <;> first | rfl | skip
 rename_i own xs
 have:=hx own xs rfl
 simp [bm,this]
theorem AV.bR (x:AV):∀ own xs,x.ab=.al own xs→own=0:=by
 intro own xs h
 cases x <;> simp_all [AV.ab]
theorem AV.kF (x:AV):∀ own xs,x.drop=.al own xs→own=0:=by
 intro own xs h
 cases x <;> simp_all [AV.drop]
theorem St.oQ (h:St A M L w H ev ea O) (d:Nat) {v:Value} {x:AV} (hr:a7 M L v x) (hx:∀ own xs,x=.al own xs→own=0) :
 St A M L w H (gR ev d v) (gR ea d x) (eV O (.t d) none):=
 h.put d hr none (bm.free hx) (fun p b e=>by cases e) (fun b e=>by cases e)
theorem St.congr (h:St A M L w H ev ea O) {ev':Nat→Value} {ea':Nat→AV} (h1:∀ t,ev' t=ev t) (h2:∀ t,ea' t=ea t):St A M L w H ev' ea' O:=by
 rw [show ev'=ev from funext h1,show ea'=ea from funext h2];exact h
theorem St.grow (h:St A M L w H ev ea O) {M':Mem} {w':World} (hs:M.sub M') (j4:∀ b o v,M' b o=some v→w'.cell? ⟨b,o,none⟩=some v)
 (dd:w.heap.size≤w'.heap.size) (hw:∀ b,b < w.heap.size→w'.heap[b]?=w.heap[b]?) (hM:∀ b,b < w.heap.size→∀ o,M' b o=M b o):St A M' L w' H ev ea O where
 len:=h.len
 nodup:=h.nodup
 env t:=(h.env t).mono hs (aaD _)
 mem:=j4
 obj id o b ho hb:=by
  have aM:=h.lt b (abB hb)
  exact (h.obj id o b ho hb).mono hs (aaD _) (hw b aM) (hM b aM)
 bJ:=h.bJ
 lt b hb:=afY (h.lt b hb) dd
 jX t:=(h.jX t).mono fun b hb=>⟨hw b (h.iA _ b hb),hM b (h.iA _ b hb)⟩
 jD id j:=by
  have e:bW L w' id j=bW L w id j:=by
   unfold bW
   split
   ·rename_i b hb
    have aM:=h.lt b (abB hb)
    simp [World.cell?,hw b aM]
   ·rfl
  rw [e]
  exact (h.jD id j).mono fun b hb=>⟨hw b (h.iA _ b hb),hM b (h.iA _ b hb)⟩
 cU:=h.cU
 cZ:=h.cZ
 iA p b hp:=afY (h.iA p b hp) dd
 La:=h.La
 Oa:=h.Oa
 fresh b hb:=h.fresh b (abW dd hb)
theorem Ext.grow {M':Mem} {w':World} (hs:M.sub M') (dd:w.heap.size≤w'.heap.size) (hos:w'.os=w.os) (htape:w'.tape=w.tape) (KJ:w'.output=w.output)
 (hw:∀ b,b < w.heap.size→w'.heap[b]?=w.heap[b]?) (hM:∀ b,b < w.heap.size→∀ o,M' b o=M b o):Ext A M w M' w':=
 ⟨hs,dd,hos,htape,KJ,fun b hb _=>⟨hw b hb,hM b hb⟩,fun b r h=>⟨r,(hw b (abR.1 h).1).trans h,rfl⟩⟩
theorem St.drew (h:St A M L w H ev ea O):St A M L { w with drawn:=w.drawn + 1 } H ev ea O:=
 h.grow (Mem.b8 M) (fun b o v hv=>h.mem b o v hv) (zy _) (fun _ _=>rfl) (fun _ _ _=>rfl)
theorem Ext.drew:Ext A M w M { w with drawn:=w.drawn + 1 }:=Ext.grow (Mem.b8 M) (zy _) rfl rfl rfl (fun _ _=>rfl) (fun _ _ _=>rfl)
theorem pK (h:St A M L w H ev ea O) {b:Nat} (hb:w.heap.size≤b) (o:Nat):M b o=none:=by
 cases hm:M b o with
 | none=>rfl
 | some v=>
   have:=h.mem b o v hm
   simp [World.cell?,Array.getElem?_eq_none hb] at this
def Mem.add (M:Mem) (b:Nat) (cs:List Value):Mem:=fun b' o=>if b'=b then cs[o]? else M b' o
theorem eW (w:World) (o:Obj) {b:Nat} (hb:b < w.heap.size):(w.heap.push o)[b]?=w.heap[b]?:=by
 rw [Array.getElem?_push,if_neg (by omega)]
theorem eo (w:World) (o:Obj):(w.heap.push o)[w.heap.size]?=some o:=by simp
theorem St.rR (h:St A M L w H ev ea O) (cs:Array Value) (e:TypeId) (fr:Nat×Nat) (rw:List Value) (hrw:∀ (j:Nat) (v:Value),rw[j]?=some v→cs[j]?=some v) :
 St A (M.add w.heap.size rw) L { w with heap:=w.heap.push (.cells cs e fr) } H ev ea O∧Ext A M w (M.add w.heap.size rw) { w with heap:=w.heap.push (.cells cs e fr) }∧
 (M.add w.heap.size rw).row w.heap.size 0 rw:=by
 have gS:M.sub (M.add w.heap.size rw):=by
  intro b o v hv
  have dP:b≠w.heap.size:=by
   rintro rfl
   rw [pK h (zy _)] at hv;cases hv
  simp [Mem.add,dP,hv]
 have hM:∀ b,b < w.heap.size→∀ o,(M.add w.heap.size rw) b o=M b o:=fun b hb o=>by simp [Mem.add,show b≠w.heap.size by omega]
 refine ⟨h.grow gS ?_ (by simp) (fun b hb=>eW w _ hb) hM,Ext.grow gS (by simp) rfl rfl rfl (fun b hb=>eW w _ hb) hM,?_⟩
 ·intro b o v hv
  by_cases e0:b=w.heap.size
  ·subst e0
   simp only [Mem.add,if_true] at hv
   simp only [World.cell?,eo]
   simpa using hrw o v hv
  ·simp only [Mem.add,e0,if_false] at hv
   have:=h.mem b o v hv
   have aM:b < w.heap.size:=by
    rcases aeQ b w.heap.size with h' | h'
    ·exact h'
    ·rw [pK h h'] at hv;cases hv
   simp only [World.cell?] at this ⊢
   rw [eW w _ aM];exact this
 ·intro j v hv
  simpa [Mem.add] using hv
theorem St.Fc (h:St A M L w H ev ea O) (cs:Array Value) (e:TypeId) :
 St A (M.add w.heap.size cs.toList) L { w with heap:=w.heap.push (.cells cs e) } H ev ea O∧Ext A M w (M.add w.heap.size cs.toList) { w with heap:=w.heap.push (.cells cs e) }∧
 (M.add w.heap.size cs.toList).row w.heap.size 0 cs.toList:=
 h.rR cs e (0,0) cs.toList (fun j v hv=>by simpa using hv)
def AY (ob:Obj) (j:Nat):Value:=match ob with | .cells cs _ _=>(cs[j]?).getD undef | _=>undef
def oR (ao:aa) (j:Nat):AV:=match ao with | .cells es=>es.getD j .any | _=>.any
theorem St.tA (h:St A M L w H ev ea O) (ob:Obj) (ao:aa) (Sy:∀ w',w'.heap[w.heap.size]?=some ob→(∀ o,M w.heap.size o=none)→AX M (L++[w.heap.size]) w' w.heap.size ao)
 (hb:ao.bc (H.length + 1)=true) (Hl:∀ j,bm M w (AY ob j) (oR ao j) none) :
 St A M (L++[w.heap.size]) { w with heap:=w.heap.push ob } (H++[ao]) ev ea O∧Ext A M w M { w with heap:=w.heap.push ob }:=by
 have ns:L <+: L++[w.heap.size]:=⟨_,rfl⟩
 have hO:∀ j,O (.c H.length j)=none:=by
  intro j
  have:=h.jD H.length j
  simp only [bB,abL (zy _)] at this
  exact this
 have hkeep:∀ b,b < w.heap.size→(w.heap.push ob)[b]?=w.heap[b]?:=fun b hb=>eW w _ hb
 refine ⟨?_,Ext.grow (Mem.b8 M) (by simp) rfl rfl rfl hkeep (fun _ _ _=>rfl)⟩
 refine { len:=by simp [h.len],nodup:=?_,env:=fun t=>(h.env t).mono (Mem.b8 M) ns,mem:=?_,obj:=?_,bJ:=?_,lt:=?_,jX:=?_,jD:=?_,cU:=h.cU,cZ:=?_,iA:=?_,La:=?_,Oa:=h.Oa,fresh:=?_ }
 ·rw [List.nodup_append]
  refine ⟨h.nodup,by simp,?_⟩
  intro a ha b ew
  simp at ew
  subst ew
  exact Nat.ne_of_lt (h.lt a ha)
 ·intro b o v hv
  have:=h.mem b o v hv
  have aM:b < w.heap.size:=by
   rcases aeQ b w.heap.size with h' | h'
   ·exact h'
   ·rw [pK h h'] at hv;cases hv
  simp only [World.cell?] at this ⊢
  rw [hkeep b aM];exact this
 ·intro id o b ho ew
  by_cases e:id < H.length
  ·rw [zz e] at ho
   rw [zz (by rw [h.len];exact e)] at ew
   exact (h.obj id o b ho ew).mono (Mem.b8 M) ns (hkeep b (h.lt b (abB ew))) (fun _=>rfl)
  ·rw [abx (by omega)] at ho
   rw [abx (by rw [h.len];omega)] at ew
   have e0:id - H.length=0:=by
    have:=(aa2.1 ho).1
    simp at this;omega
   rw [e0] at ho
   rw [h.len,e0] at ew
   simp at ho ew
   subst ho;subst ew
   exact Sy _ (eo w ob) (fun o=>pK h (zy _) o)
 ·intro id o ho
  rw [aaj,aeR]
  by_cases e:id < H.length
  ·rw [zz e] at ho
   exact aa.cH (A.CJ (Nat.le_succ _) id) o (h.bJ id o ho)
  ·rw [abx (by omega)] at ho
   have e0:id - H.length=0:=by
    have:=(aa2.1 ho).1
    simp at this;omega
   rw [e0] at ho
   simp at ho
   subst ho
   rw [show id=H.length by omega,A.Oq];exact hb
 ·intro b ew
  simp at ew ⊢
  rcases ew with ew | rfl
  ·have:=h.lt b ew;omega
  ·omega
 ·intro t
  exact (h.jX t).mono fun b ew=>⟨hkeep b (h.iA _ b ew),fun _=>rfl⟩
 ·intro id j
  by_cases e:id < H.length
  ·have e1:bW (L++[w.heap.size]) { w with heap:=w.heap.push ob } id j=bW L w id j:=by
    unfold bW
    rw [zz (by rw [h.len];exact e)]
    split
    ·rename_i b ew
     simp only [World.cell?]
     rw [hkeep b (h.lt b (abB ew))]
    ·rfl
   have e2:bB (H++[ao]) id j=bB H id j:=by
    unfold bB
    rw [zz e]
   rw [e1,e2]
   exact (h.jD id j).mono fun b ew=>⟨hkeep b (h.iA _ b ew),fun _=>rfl⟩
  ·by_cases e0:id=H.length
   ·subst e0
    rw [hO j]
    have e1:bW (L++[w.heap.size]) { w with heap:=w.heap.push ob } H.length j=AY ob j:=by
     unfold bW
     rw [abx (by rw [h.len];omega),h.len]
     simp only [acG,List.getElem?_cons_zero,World.cell?,eo]
     cases ob <;> simp [AY]
    have e2:bB (H++[ao]) H.length j=oR ao j:=by
     unfold bB
     rw [abx (zy _)]
     simp only [acG,List.getElem?_cons_zero]
     cases ao <;> rfl
    rw [e1,e2]
    exact (Hl j).mono fun b ew=>by cases ew
   ·have hn:O (.c id j)=none:=by
     have:=h.jD id j
     simp only [bB,abL (show H.length≤id by omega)] at this
     exact this
    rw [hn]
    have e2:bB (H++[ao]) id j=.any:=by
     unfold bB
     rw [abL (by simp;omega)]
    rw [e2];rfl
 ·intro p b hp j4
  simp at j4
  rcases j4 with j4 | rfl
  ·exact h.cZ p b hp j4
  ·exact absurd (h.iA p _ hp) (adj _)
 ·intro p b hp
  have:=h.iA p b hp
  simp;omega
 ·intro b ew
  simp at ew
  rcases ew with ew | rfl
  ·exact h.La b ew
  ·exact h.fresh _ (zy _)
 ·intro b ew
  simp at ew
  exact h.fresh b (by omega)
structure wF (O O':Pos→Option Nat):Prop where
 inj:∀ p q b,O' p=some b→O' q=some b→p=q
 Q9:∀ p b,O' p=some b→∃ q,O q=some b
theorem St.write (h:St A M L w H ev ea O) {id b:Nat} {es es':List AV} {cs cs':Array Value} {e:TypeId} {ea':Nat→AV} {O':Pos→Option Nat} (bF:H[id]?=some (.cells es)) (hL:L[id]?=some b)
 (hc:w.heap[b]?=some (.cells cs e (0,0))) (hr:aP M L cs'.toList es') (nj:aw (A.jk H.length id) es'=true) (hm:wF O O') (Fe:∀ t,a7 M L (ev t) (ea' t))
 (jX:∀ t,bm M w (ev t) (ea' t) (O' (.t t))) (jD:∀ j,bm M w ((cs'[j]?).getD undef) (es'.getD j .any) (O' (.c id j))) (spo:∀ id' j,id'≠id→O' (.c id' j)=O (.c id' j)) :
 St A M L (w.setRow b cs') (H.set id (.cells es')) ev ea' O'∧Ext A M w M (w.setRow b cs'):=by
 have zD:b∈L:=abB hL
 have dd:(w.setRow b cs').heap.size=w.heap.size:=by simp [World.setRow]
 have gT:∀ k,k≠b→(w.setRow b cs').heap[k]?=w.heap[k]?:=by
  intro k hk
  simp only [World.setRow,ae8]
  rw [if_neg (fun e=>hk e.symm)]
 have oE:(w.setRow b cs').heap[b]?=some (.cells cs' e (0,0)):=by
  simp only [World.setRow,ae8,if_true,hc,Option.map_some]
 obtain ⟨_,_,_,_,VR⟩:=h.obj id _ b bF hL
 have rS:id < H.length:=aS bF
 have howns:∀ p k,O' p=some k→(w.setRow b cs').heap[k]?=w.heap[k]?:=by
  intro p k hp
  obtain ⟨q,hq⟩:=hm.Q9 p k hp
  exact gT k (fun e0=>h.cZ q k hq (e0 ▸ zD))
 refine ⟨{ len:=by simp [h.len],nodup:=h.nodup,env:=Fe,mem:=?_,obj:=?_,bJ:=?_,lt:=?_,jX:=?_,jD:=?_,cU:=hm.inj,cZ:=?_,iA:=?_,La:=h.La,Oa:=?_,fresh:=?_ },?_⟩
 ·intro k o v hv
  have hk:k≠b:=by rintro rfl;rw [VR o] at hv;cases hv
  have:=h.mem k o v hv
  simp only [World.cell?] at this ⊢
  rw [gT k hk];exact this
 ·intro id' o k ho hk
  by_cases e0:id'=id
  ·subst e0
   rw [hL] at hk;cases hk
   rw [Sx rS] at ho
   cases ho
   exact ⟨cs',e,oE,hr,VR⟩
  ·rw [zA (fun h'=>e0 h'.symm)] at ho
   have E3:k≠b:=by
    rintro rfl
    exact e0 ((adB (aS hk) h.nodup).1 (hk.trans hL.symm))
   exact (h.obj id' o k ho hk).mono (Mem.b8 M) (aaD _) (gT k E3) (fun _=>rfl)
 ·intro id' o ho
  rw [ab7]
  by_cases e0:id'=id
  ·subst e0
   rw [Sx rS] at ho
   cases ho
   simpa [aa.bc] using nj
  ·rw [zA (fun h'=>e0 h'.symm)] at ho
   exact h.bJ id' o ho
 ·intro k hk;rw [dd];exact h.lt k hk
 ·intro t
  exact (jX t).mono fun k hk=>⟨howns _ k hk,fun _=>rfl⟩
 ·intro id' j
  by_cases e0:id'=id
  ·subst e0
   have e1:bW L (w.setRow b cs') id' j=(cs'[j]?).getD undef:=by
    unfold bW
    simp only [hL,World.cell?,oE]
    simp
   have e2:bB (H.set id' (.cells es')) id' j=es'.getD j .any:=by
    unfold bB
    rw [Sx rS]
   rw [e1,e2]
   exact (jD j).mono fun k hk=>⟨howns _ k hk,fun _=>rfl⟩
  ·have e1:bW L (w.setRow b cs') id' j=bW L w id' j:=by
    unfold bW
    split
    ·rename_i k hk
     have E3:k≠b:=by
      rintro rfl
      exact e0 ((adB (aS hk) h.nodup).1 (hk.trans hL.symm))
     simp only [World.cell?]
     rw [gT k E3]
    ·rfl
   have e2:bB (H.set id (.cells es')) id' j=bB H id' j:=by
    unfold bB
    rw [zA (fun h'=>e0 h'.symm)]
   rw [e1,e2,spo id' j e0]
   exact (h.jD id' j).mono fun k hk=>⟨gT k (fun e3=>h.cZ _ k hk (e3 ▸ zD)),fun _=>rfl⟩
 ·intro p k hp
  obtain ⟨q,hq⟩:=hm.Q9 p k hp
  exact h.cZ q k hq
 ·intro p k hp
  obtain ⟨q,hq⟩:=hm.Q9 p k hp
  rw [dd];exact h.iA q k hq
 ·intro p k hp
  obtain ⟨q,hq⟩:=hm.Q9 p k hp
  exact h.Oa q k hq
 ·intro k hk;rw [dd] at hk;exact h.fresh k hk
 ·exact ⟨Mem.b8 M,by rw [dd];exact zy _,rfl,rfl,rfl,fun k hk hA=>⟨gT k (fun e0=>hA (e0 ▸ h.La b zD)),fun _=>rfl⟩,fun k r hk=>⟨r,(gT k (fun e0=>by rw [e0,hc] at hk;cases hk)).trans hk,rfl⟩⟩
theorem St.CK (h:St A M L w H ev ea O) {id b:Nat} {es es':List (AV×AV)} {o':Obj} (bF:H[id]?=some (.map es)) (hL:L[id]?=some b)
 (Ra:∀ cs e f,o'≠.cells cs e f) (hr:∀ w',w'.heap[b]?=some o'→AX M L w' b (.map es')) (nj:(aa.map es').bc (A.jk H.length id)=true) :
 St A M L { w with heap:=w.heap.setIfInBounds b o' } (H.set id (.map es')) ev ea O∧Ext A M w M { w with heap:=w.heap.setIfInBounds b o' }:=by
 have zD:b∈L:=abB hL
 have Sz:=h.lt b zD
 obtain ⟨ents,ck,hc,_,_⟩:=h.obj id _ b bF hL
 have gT:∀ k,k≠b→(w.heap.setIfInBounds b o')[k]?=w.heap[k]?:=fun k hk=>by rw [Array.getElem?_setIfInBounds_ne (fun e=>hk e.symm)]
 have oE:(w.heap.setIfInBounds b o')[b]?=some o':=by simp [Sz]
 have VR:∀ o,M b o=none:=by
  intro o
  cases hm:M b o with
  | none=>rfl
  | some v=>
    have:=h.mem b o v hm
    simp [World.cell?,hc] at this
 have rS:id < H.length:=aS bF
 refine ⟨{ len:=by simp [h.len],nodup:=h.nodup,env:=h.env,mem:=?_,obj:=?_,bJ:=?_,lt:=?_,jX:=?_,jD:=?_,cU:=h.cU,cZ:=h.cZ,iA:=?_,La:=h.La,Oa:=h.Oa,fresh:=?_ },?_⟩
 ·intro k o v hv
  have hk:k≠b:=by rintro rfl;rw [VR o] at hv;cases hv
  have:=h.mem k o v hv
  simp only [World.cell?] at this ⊢
  rw [gT k hk];exact this
 ·intro id' o k ho hk
  by_cases e0:id'=id
  ·subst e0
   rw [hL] at hk;cases hk
   rw [Sx rS] at ho
   cases ho
   exact hr _ oE
  ·rw [zA (fun h'=>e0 h'.symm)] at ho
   have E3:k≠b:=by
    rintro rfl
    exact e0 ((adB (aS hk) h.nodup).1 (hk.trans hL.symm))
   exact (h.obj id' o k ho hk).mono (Mem.b8 M) (aaD _) (gT k E3) (fun _=>rfl)
 ·intro id' o ho
  rw [ab7]
  by_cases e0:id'=id
  ·subst e0
   rw [Sx rS] at ho
   cases ho
   exact nj
  ·rw [zA (fun h'=>e0 h'.symm)] at ho
   exact h.bJ id' o ho
 ·intro k hk;simpa using h.lt k hk
 ·intro t
  exact (h.jX t).mono fun k hk=>⟨gT k (fun e3=>h.cZ _ k hk (e3 ▸ zD)),fun _=>rfl⟩
 ·intro id' j
  by_cases e0:id'=id
  ·subst e0
   have hn:O (.c id' j)=none:=by
    have:=h.jD id' j
    simp only [bB,bF] at this
    exact this
   have e2:bB (H.set id' (.map es')) id' j=.any:=by
    unfold bB
    rw [Sx rS]
   rw [e2,hn];rfl
  ·have e1:bW L { w with heap:=w.heap.setIfInBounds b o' } id' j=bW L w id' j:=by
    unfold bW
    split
    ·rename_i k hk
     have E3:k≠b:=by
      rintro rfl
      exact e0 ((adB (aS hk) h.nodup).1 (hk.trans hL.symm))
     simp only [World.cell?]
     rw [gT k E3]
    ·rfl
   have e2:bB (H.set id (.map es')) id' j=bB H id' j:=by
    unfold bB
    rw [zA (fun h'=>e0 h'.symm)]
   rw [e1,e2]
   exact (h.jD id' j).mono fun k hk=>⟨gT k (fun e3=>h.cZ _ k hk (e3 ▸ zD)),fun _=>rfl⟩
 ·intro p k hp;simpa using h.iA p k hp
 ·intro k hk;simp at hk;exact h.fresh k hk
 ·exact ⟨Mem.b8 M,by simp,rfl,rfl,rfl,fun k hk hA=>⟨gT k (fun e0=>hA (e0 ▸ h.La b zD)),fun _=>rfl⟩,fun k r hk=>⟨r,(gT k (fun e0=>by rw [e0,hc] at hk;cases hk)).trans hk,rfl⟩⟩
def AV.le (x y:AV):Prop:=y=x∨y=.any∨(∃ o xs,x=.al o xs∧y=.al 0 xs)∨(x=.ag∧∃ o,y=.al o [])∨(∃ xs,x=.agg xs∧y=.agg (xs.map AV.drop))
theorem a7.le {v:Value} {x y:AV} (h:a7 M L v x) (hl:x.le y):a7 M L v y:=by
 rcases hl with rfl | rfl | ⟨o,xs,rfl,rfl⟩ | ⟨rfl,o,rfl⟩ | ⟨xs,rfl,rfl⟩
 ·exact h
 ·exact .any _
 ·exact h.Fb
 ·cases h;exact .iN _ _ _ (by decide)
 ·cases h with
  | agg cs _ hr=>exact .agg cs _ hr.map_drop
theorem bm.le {v:Value} {x y:AV} {ob:Option Nat} (h:a7 M L v x) (hs:bm M w v x ob) (hl:x.le y):∃ ob',bm M w v y ob'∧(ob'=none∨ob'=ob):=by
 rcases hl with rfl | rfl | ⟨o,xs,rfl,rfl⟩ | ⟨rfl,o,rfl⟩ | ⟨xs,rfl,rfl⟩
 ·exact ⟨ob,hs,.inr rfl⟩
 ·exact ⟨none,rfl,.inl rfl⟩
 ·exact ⟨none,by simp [bm],.inl rfl⟩
 ·cases h
  refine ⟨none,?_,.inl rfl⟩
  by_cases e:o=0
  ·simp [bm,e]
  ·simp only [bm,e,if_false];exact ⟨by simp,.inl ⟨trivial,none,0,rfl⟩⟩
 ·exact ⟨none,rfl,.inl rfl⟩
theorem St.Hm (h:St A M L w H ev ea O) {ea':Nat→AV} (hl:∀ t,(ea t).le (ea' t)):∃ O',St A M L w H ev ea' O'∧∀ p b,O' p=some b→O p=some b:=by
 have hx:∀ t,∃ ob',bm M w (ev t) (ea' t) ob'∧(ob'=none∨ob'=O (.t t)):=fun t=>(h.jX t).le (h.env t) (hl t)
 let f:Nat→Option Nat:=fun t=>Classical.choose (hx t)
 have hf:∀ t,bm M w (ev t) (ea' t) (f t)∧(f t=none∨f t=O (.t t)):=fun t=>Classical.choose_spec (hx t)
 let O':Pos→Option Nat:=fun p=>match p with | .t t=>f t | .c id j=>O (.c id j)
 have hO:∀ p b,O' p=some b→O p=some b:=by
  intro p b hp
  cases p with
  | t t=>
    rcases (hf t).2 with h0 | h0
    ·simp only [O',h0] at hp;cases hp
    ·simpa only [O',h0] using hp
  | c id j=>exact hp
 exact ⟨O',{ len:=h.len,nodup:=h.nodup,env:=fun t=>(h.env t).le (hl t),mem:=h.mem,obj:=h.obj,bJ:=h.bJ,lt:=h.lt,jX:=fun t=>(hf t).1,jD:=h.jD,cU:=fun p q b hp hq=>h.cU p q b (hO p b hp) (hO q b hq),cZ:=fun p b hp=>h.cZ p b (hO p b hp),iA:=fun p b hp=>h.iA p b (hO p b hp),La:=h.La,Oa:=fun p b hp=>h.Oa p b (hO p b hp),fresh:=h.fresh },hO⟩
theorem St.weaken (h:St A M L w H ev ea O) {ea':Nat→AV} (hl:∀ t,(ea t).le (ea' t)):∃ O',St A M L w H ev ea' O':=
 let ⟨O',h1,_⟩:=h.Hm hl
 ⟨O',h1⟩
theorem St.cut (h:St A M L w H ev ea O) (n:Nat) (hc:∀ id o,id < n→H[id]?=some o→o.bc n=true) (hb:∀ t,(ea t).bc n=true):∃ O',St A M (L.take n) w (H.take n) ev ea O':=by
 let O':Pos→Option Nat:=fun p=>match p with | .t t=>O (.t t) | .c id j=>if id < n then O (.c id j) else none
 have hO:∀ p b,O' p=some b→O p=some b:=by
  intro p b hp
  cases p with
  | t t=>exact hp
  | c id j=>
    simp only [O'] at hp
    split at hp
    ·exact hp
    ·cases hp
 have kM:∀ {α:Type} {l:List α} {i:Nat} {a:α},(l.take n)[i]?=some a→i < n∧l[i]?=some a:=by
  intro α l i a hi
  rw [aaG] at hi
  split at hi
  ·exact ⟨by assumption,hi⟩
  ·cases hi
 have j4:∀ b,b∈L.take n→b∈L:=fun b hb=>acs hb
 have IN:∀ {m k:Nat} {o:aa},m≤k→o.bc m=true→o.bc k=true:=fun hmk ho=>aa.cH hmk _ ho
 refine ⟨O',{ len:=by simp [h.len],nodup:=(List.take_sublist n L).nodup h.nodup,env:=fun t=>(h.env t).iP (hb t),mem:=h.mem,obj:=?_,bJ:=?_,lt:=fun b hb=>h.lt b (j4 b hb),jX:=h.jX,jD:=?_,cU:=fun p q b hp hq=>h.cU p q b (hO p b hp) (hO q b hq),cZ:=fun p b hp hm=>h.cZ p b (hO p b hp) (j4 b hm),iA:=fun p b hp=>h.iA p b (hO p b hp),La:=fun b hb=>h.La b (j4 b hb),Oa:=fun p b hp=>h.Oa p b (hO p b hp),fresh:=h.fresh }⟩
 ·intro id o b ho ew
  obtain ⟨hn,ho⟩:=kM ho
  obtain ⟨_,ew⟩:=kM ew
  exact (h.obj id o b ho ew).iP (hc id o hn ho)
 ·intro id o ho
  obtain ⟨hn,ho⟩:=kM ho
  have h1:=h.bJ id o ho
  have h2:=hc id o hn ho
  have hl:=aS ho
  rw [abS]
  have e:A.jk (min n H.length) id=min n (A.jk H.length id):=by unfold Perm.jk;split <;> omega
  rw [e]
  rcases Nat.le_total n (A.jk H.length id) with h' | h'
  ·rw [Nat.min_eq_left h'];exact h2
  ·rw [Nat.min_eq_right h'];exact h1
 ·intro id j
  by_cases e:id < n
  ·have e1:bW (L.take n) w id j=bW L w id j:=by
    unfold bW
    rw [aaG,if_pos e]
   have e2:bB (H.take n) id j=bB H id j:=by
    unfold bB
    rw [aaG,if_pos e]
   rw [e1,e2]
   simpa [O',e] using h.jD id j
  ·have e2:bB (H.take n) id j=.any:=by
    unfold bB
    rw [aaG,if_neg e]
   rw [e2]
   simp [O',e,bm]
end
end Go.aI
end
section
namespace Go.aI
open Go
abbrev Env:=List (Nat×AV)
def get:Env→Nat→AV
 | [],_=>.any
 | (k,v)::r,t=>if t=k then v else get r t
inductive IX where
 | t (n:Nat)
 | c (v:AV)
 deriving Inhabited
def aE (env:Env):IX→AV
 | .t n=>get env n
 | .c v=>v
inductive cu where
 | set (x:IX) (take:Bool)
 | pick (c a b:IX)
 | bin (op:BinOp) (x y:IX)
 | shift (op:BinOp) (x y:IX)
 | nu (neq:Bool) (x y:IX)
 | ou (kd:Nat) (neq:Bool) (x:IX)
 | un (op:UnOp) (x:IX)
 | box (x:IX)
 | qQ (x:IX)
 | wG (m:Nat) (x:IX)
 | alloc (zero:AV)
 | build (zero:AV) (parts:List (Nat×Nat×IX))
 | buildSlice (own esz:Nat) (zero:AV) (len:Nat) (parts:List (Nat×IX))
 | load (sz:Option Nat) (a:IX)
 | zF (sz:Option Nat) (esz:Nat) (a:IX)
 | gv (a:IX)
 | store (n:Nat) (a x:IX)
 | tB (n:Nat) (a x:IX)
 | iQ (a:IX) (s:Nat)
 | nilCheck (x:IX)
 | fieldAddr (off:Nat) (sz:Option Nat) (x:IX)
 | field (off:Nat) (sz:Option Nat) (x:IX)
 | indexAddr (esz:Nat) (x i:IX)
 | ff (x i:IX)
 | iR (n:Nat) (x i:IX)
 | wH (esz:Nat) (x:IX) (lo hi mx:Option IX)
 | slice (esz:Nat) (x:IX) (lo hi max:Option IX)
 | iS (x:IX) (lo hi:Option IX)
 | len (kd:Nat) (x:IX)
 | append (esz bytes:Nat) (s x:IX)
 | zG (esz bytes:Nat) (zero:AV) (n:IX)
 | wI (esz bytes:Nat) (n:IX)
 | rT
 | lookup (kd:Nat) (zero:AV) (m k:IX) (ok:Bool)
 | oS (kd:Nat) (m k x:IX)
 | fn (f:Fn) (first captured:List IX)
 | extract (x:IX) (i:Nat)
 | call (f:IX) (args:List IX) (pass:Option Nat)
 | jE (k:IntKind) (x:IX)
 | nv (x:IX)
 | bytesOf (x:IX)
 | strOf (x:IX)
 | mx (big:Bool) (a b:IX)
 | copy (esz:Nat) (d s:IX)
 | Ff (esz:Nat) (x:IX)
 | IP (esz:Nat) (zero:AV) (len:Nat) (parts:List (Nat×IX))
 | nw (esz bytes:Nat) (zero:AV) (s x:IX)
 | nz (esz bytes:Nat) (zero:AV) (s x:IX)
 | tC (esz:Nat) (zero:AV) (x:IX)
 | never
 deriving Inhabited
def Wi:Value→Option AV
 | .bool b=>some (.bool b)
 | .int k n=>some (.int k n)
 | .string s=>some (.str s)
 | .pointer none=>some .wD
 | .map none=>some .nr
 | .nilFunc=>some .iI
 | .nilIface=>some .CH
 | .slice none 0 0=>some .ag
 | _=>none
def KK:List Value→Option (List AV)
 | []=>some []
 | v::vs=>match Wi v,KK vs with
   | some x,some xs=>some (x::xs)
   | _,_=>none
def ofValue:Value→Option AV
 | .agg cs=>(KK cs.toList).map .agg
 | v=>Wi v
section
variable {M:Mem} {L:List Nat}
theorem Hn {v:Value} {x:AV} (h:Wi v=some x):a7 M L v x:=by
 unfold Wi at h
 split at h <;> first | (cases h;constructor) | cases h
theorem CL:∀ {vs:List Value} {xs:List AV},KK vs=some xs→aP M L vs xs
 | [],xs,h=>by simp [KK] at h;subst h;exact .nil
 | v::vs,xs,h=>by
   unfold KK at h
   split at h
   ·rename_i x ys h1 h2
    cases h
    exact .cons _ _ _ _ (Hn h1) (CL h2)
   ·cases h
theorem cQ {v:Value} {x:AV} (h:ofValue v=some x):a7 M L v x:=by
 unfold ofValue at h
 split at h
 ·rename_i cs
  obtain ⟨xs,h1,rfl⟩:=aal.1 h
  have:=a7.agg cs.toList xs (CL (M:=M) (L:=L) h1)
  simpa using this
 ·exact Hn h
end
def aY:Operand→Option IX
 | .tmp t=>some (.t t)
 | .const v=>(ofValue v).map .c
 | .func f=>some (.c (.fn (.func f) [] []))
 | .global _=>none
def gn:List Operand→Option (List IX)
 | []=>some []
 | x::xs=>match aY x,gn xs with
   | some i,some is=>some (i::is)
   | _,_=>none
def Ks (P:Program) (t:TypeId):Option (Option Nat):=
 match P.info? t,P.underlying t with
 | some i,some (.struct _)=>some (some i.size)
 | some i,some (.array _ _)=>some (some i.size)
 | some i,some _=>if i.size=1 then some none else none
 | _,_=>none
def fZ (P:Program) (t:TypeId):Option AV:=
 match P.info? t with
 | some i=>match i.zero with
   | some v=>ofValue v
   | none=>none
 | none=>none
def ey (P:Program) (t:TypeId):Option Nat:=(P.info? t).map (·.size)
def Rb (A:Perm) (w:World) (ds:List Deferred):Prop:=A.base≤w.heap.size∧ds.Nodup∧∀ d∈ds,∃ D,d={ target:=.collected D,args:=#[] }∧w.heap[D]?=some (.deferred (some []))∧¬ A D∧A.base≤D
theorem Rb.ext {A:Perm} {M M':Mem} {w w':World} {ds:List Deferred} (h:Rb A w ds) (hx:Ext A M w M' w'):Rb A w' ds:=
 ⟨abW h.1 hx.size,h.2.1,fun d hd=>by
   obtain ⟨D,h1,h2,h3⟩:=h.2.2 d hd
   exact ⟨D,h1,(hx.mv D (abR.1 h2).1 h3.1).1.trans h2,h3⟩⟩
def wf (ro:Option Nat):Fence:={ Fence.wide with round:=ro }
theorem KL {o:Oper} {ρ:Operand→Value} {P:Program} {w w':World} {x:Next} (ro:Option Nat) (h:(execOp ρ o).run P w=.ok x w') (hx:∀ d,x≠.defer d):(o.semAt (wf ro).round ρ).run P w=.ok x w':=by
 rw [Oper.semAt_eq]
 ·exact h
 ·intro c hc
  simp only [execOp,hc,Sem.run_bind] at h
  cases hr:(resolve ρ c o.type).run P w with
  | ok d w1=>rw [hr] at h;simp only [Result.andThen_ok,Sem.run_pure] at h;cases h;exact hx _ rfl
  | halt e w1=>rw [hr] at h;cases h
theorem mw {o:Oper} {P:Program} {a:Act} {w w':World} {x:Next} {ro:Option Nat} {N:Act→World→Prop} {Q:Exit→Act→World→Prop} (h:(execOp a.eval o).run P w=.ok x w') (hx:∀ d,x≠.defer d)
 (hu:o.uponIn (wf ro) 0 P a N Q (.ok x w')):o.wpIn (wf ro) 0 P a w N Q:=by
 refine ⟨fun _ _=>trivial,?_⟩
 rw [KL ro h hx]
 exact hu
structure Fr (A:Perm) (n:Nat) (M:Mem) (L:List Nat) (w:World) (H:List aa) (env:Env) (O:Pos→Option Nat) (a:Act):Prop where
 st:St A M L w H (fun t=>a.tmps.getD t undef) (get env) O
 size:a.tmps.size=n
 defers:Rb A w a.defers
def oF (A:Perm) (n:Nat) (M:Mem) (L:List Nat) (w:World) (K:Env→List aa→Prop) (a':Act) (w':World):Prop:=
 ∃ M' L' H' aW O',K aW H'∧Fr A n M' L' w' H' aW O' a'∧Ext A M w M' w'∧L <+: L'
def put (dst:Option Nat) (x:AV) (env:Env):Env:=match dst with | some d=>(d,x)::env | none=>env
section
variable {ro:Option Nat} {A:Perm} {n:Nat} {M:Mem} {L:List Nat} {w:World} {H:List aa} {env:Env} {O:Pos→Option Nat} {a:Act}
theorem KM (d:Nat) (x:AV) (env:Env):get ((d,x)::env)=gR (get env) d x:=rfl
theorem Fr.eval (h:Fr A n M L w H env O a) {x:Operand} {i:IX} (hc:aY x=some i):a7 M L (a.eval x) (aE env i):=by
 cases x with
 | tmp t=>simp [aY] at hc;subst hc;exact h.st.env t
 | const v=>
   simp only [aY] at hc
   obtain ⟨y,h1,rfl⟩:=aal.1 hc
   exact cQ h1
 | func f=>simp [aY] at hc;subst hc;exact .fn _ [] [] [] [] .nil .nil
 | global g=>simp [aY] at hc
theorem Fr.Rc (h:Fr A n M L w H env O a):∀ {xs:List Operand} {is:List IX},gn xs=some is→aP M L (xs.map a.eval) (is.map (aE env))
 | [],is,hc=>by simp [gn] at hc;subst hc;exact .nil
 | x::xs,is,hc=>by
   unfold gn at hc
   split at hc
   ·rename_i i is' h1 h2
    cases hc
    exact .cons _ _ _ _ (h.eval h1) (h.Rc h2)
   ·cases hc
theorem wJ (a:Act) (d:Nat) (v:Value) (hd:d < a.tmps.size) (t:Nat):(a.put (some d) v).tmps.getD t undef=gR (fun t=>a.tmps.getD t undef) d v t:=by
 simp only [Act.put,gR,abH,ad5]
 by_cases e:t=d
 ·subst e;simp [hd]
 ·simp [e,show ¬ d=t from fun h=>e h.symm]
theorem Fr.Fg (h:Fr A n M L w H env O a) {d:Nat} (hd:d < n) {v:Value} {x:AV} (hr:a7 M L v x) (ob:Option Nat) (hs:bm M w v x ob)
 (h1:∀ p b,ob=some b→O p=some b→p=.t d) (h2:∀ b,ob=some b→b∉L∧b < w.heap.size∧A b) :
 Fr A n M L w H ((d,x)::env) (eV O (.t d) ob) (a.put (some d) v):=by
 refine ⟨(h.st.put d hr ob hs h1 h2).congr (fun t=>wJ a d v (by rw [h.size];exact hd) t) (fun t=>rfl),?_,h.defers⟩
 simp [Act.put,h.size]
theorem Fr.oQ (h:Fr A n M L w H env O a) {dst:Option Nat} (hd:∀ d,dst=some d→d < n) {v:Value} {x:AV} (hr:a7 M L v x) (hx:∀ own xs,x=.al own xs→own=0) :
 ∃ O',Fr A n M L w H (put dst x env) O' (a.put dst v):=by
 cases dst with
 | none=>exact ⟨O,h⟩
 | some d=>exact ⟨_,h.Fg (hd d rfl) hr none (bm.free hx) (fun p b e=>by cases e) (fun b e=>by cases e)⟩
theorem Fr.Ho (h:Fr A n M L w H env O a) {dst:Option Nat} (hd:∀ d,dst=some d→d < n) {ad:Option Addr} {m:Nat} {own:Nat} {xs:List AV} (hr:a7 M L (.slice ad m m) (.al own xs)) (hx:own≠0→∀ y∈xs,y.cells.length=own) :
 ∃ O',Fr A n M L w H (put dst (.al own xs) env) O' (a.put dst (.slice ad m m)):=by
 cases dst with
 | none=>exact ⟨O,h⟩
 | some d=>
   refine ⟨_,h.Fg (hd d rfl) hr none ?_ (fun p b e=>by cases e) (fun b e=>by cases e)⟩
   by_cases e:own=0
   ·simp [bm,e]
   ·simp only [bm,e,if_false];exact ⟨hx e,.inl ⟨trivial,ad,m,rfl⟩⟩
theorem Fr.mono (h:Fr A n M L w H env O a) {M':Mem} {w':World} {L':List Nat} {H':List aa} {O':Pos→Option Nat} (bT:St A M' L' w' H' (fun t=>a.tmps.getD t undef) (get env) O') (hx:Ext A M w M' w'):Fr A n M' L' w' H' env O' a:=
 ⟨bT,h.size,h.defers.ext hx⟩
theorem di {P:Program} {o:Oper} {Q:Exit→Act→World→Prop} {K:Env→List aa→Prop} {v:Value} {w':World} (bK:(execOp a.eval o).run P w=.ok (.value v) w')
 (h:oF A n M L w K (a.put o.dst v) w'):o.wpIn (wf ro) 0 P a w (oF A n M L w K) Q:=by
 exact mw bK (by intro d e;cases e) h
theorem nA {P:Program} {o:Oper} {Q:Exit→Act→World→Prop} {K:Env→List aa→Prop} {w':World} (bK:(execOp a.eval o).run P w=.ok .skip w')
 (h:oF A n M L w K (a.put o.dst undef) w'):o.wpIn (wf ro) 0 P a w (oF A n M L w K) Q:=by
 exact mw bK (by intro d e;cases e) h
theorem wp_pure {P:Program} {o:Oper} {Q:Exit→Act→World→Prop} {K:Env→List aa→Prop} {v:Value} {x:AV} (h:Fr A n M L w H env O a) (hd:∀ d,o.dst=some d→d < n)
 (bK:(execOp a.eval o).run P w=.ok (.value v) w) (hr:a7 M L v x) (hx:∀ own xs,x=.al own xs→own=0) (hK:K (put o.dst x env) H):o.wpIn (wf ro) 0 P a w (oF A n M L w K) Q:=by
 obtain ⟨O',hf⟩:=h.oQ hd hr hx
 exact di bK ⟨M,L,H,_,O',hK,hf,Ext.refl A M w,aaD L⟩
end
def wK (env:Env) (d:Nat) (x:IX) (take:Bool):Env:=
 match x,take with
 | .t s,true=>(d,get env s)::(s,(get env s).ab)::env
 | x,_=>(d,(aE env x).ab)::env
def fH (x:AV) (φ:Bool→Prop):Prop:=match x with | .bool b=>φ b | _=>False
end Go.aI
end
section
namespace Go.aI
open Go
def AV.val:AV→Bool
 | .any=>false
 | .tuple _=>false
 | _=>true
def ai {α:Type} (zs:List α) (off:Nat) (xs:List α):List α:=zs.take off++(xs++zs.drop (off + xs.length))
section
variable {M:Mem} {L:List Nat}
theorem a7.gU {v:Value} {x:AV} (h:a7 M L v x) (hv:x.val=true):aP M L v.cells.toList x.cells:=by
 cases h with
 | agg cs xs hr=>simpa [Value.cells,AV.cells] using hr
 | any v=>simp [AV.val] at hv
 | tuple=>simp [AV.val] at hv
 | al b off c own e cs xs he hx hn hle hc hr hm=>exact .one (.al b off c own e cs xs he hx hn hle hc hr hm)
 | _=>(simp only [Value.cells,AV.cells];exact .one (by constructor <;> assumption))
theorem aP.AZ {cs:List Value} {xs:List AV} (h:aP M L cs xs) {zs:List Value} {ys:List AV} (off:Nat) (hz:aP M L zs ys):aP M L (ai zs off cs) (ai ys off xs):=by
 unfold ai
 rw [h.length]
 exact (hz.take off).append (h.append (hz.drop _))
theorem aP.dm:∀ {vs:List Value} {xs:List AV},aP M L vs xs→aP M L vs (xs.map AV.ab)
 | _,_,.nil=>.nil
 | _,_,.cons v x vs xs h t=>.cons v _ _ _ h.ab t.dm
end
theorem oU {α:Type} (zs:List α) (off:Nat) (xs:List α) (h:off + xs.length≤zs.length):(ai zs off xs).length=zs.length:=by
 unfold ai;simp;omega
def dw (op:BinOp) (x y:AV) (φ:AV→Prop):Prop:=
 match x,y with
 | .int k a,.int k' b=>k=k'∧
   match op with
   | .add=>φ (.int k (k.wrap (a + b)))
   | .sub=>φ (.int k (k.wrap (a - b)))
   | .mul=>φ (.int k (k.wrap (a * b)))
   | .quo=>b≠0∧φ (.int k (k.wrap (a.tdiv b)))
   | .rem=>b≠0∧φ (.int k (a.tmod b))
   | .and=>φ (.int k (k.wrap (BitVec.ofInt k.bits a &&& BitVec.ofInt k.bits b).toNat))
   | .or=>φ (.int k (k.wrap (BitVec.ofInt k.bits a ||| BitVec.ofInt k.bits b).toNat))
   | .xor=>φ (.int k (k.wrap (BitVec.ofInt k.bits a ^^^ BitVec.ofInt k.bits b).toNat))
   | .andNot=>φ (.int k (k.wrap (BitVec.ofInt k.bits a &&& ~~~ BitVec.ofInt k.bits b).toNat))
   | .eql=>φ (.bool (decide (a=b)))
   | .neq=>φ (.bool (decide (a≠b)))
   | .lss=>φ (.bool (decide (a < b)))
   | .leq=>φ (.bool (decide (a≤b)))
   | .gtr=>φ (.bool (decide (b < a)))
   | .geq=>φ (.bool (decide (b≤a)))
   | _=>False
 | .str a,.str b=>
   match op with
   | .add=>a.size + b.size < 9223372036854775808∧φ (.str (a++b))
   | .eql=>φ (.bool (decide (a=b)))
   | .neq=>φ (.bool (decide (a≠b)))
   | .lss=>φ (.bool (Op.bytesLess a.data.toList b.data.toList))
   | .geq=>φ (.bool (!Op.bytesLess a.data.toList b.data.toList))
   | .leq=>φ (.bool (!Op.bytesLess b.data.toList a.data.toList))
   | .gtr=>φ (.bool (Op.bytesLess b.data.toList a.data.toList))
   | _=>False
 | _,_=>False
def eX (op:BinOp) (x y:AV) (φ:AV→Prop):Prop:=
 match x,y with
 | .int k a,.int _ b=>0≤b∧
   match op with
   | .shl=>φ (.int k (k.wrap (a * 2 ^ (min b.toNat k.bits))))
   | .shr=>φ (.int k (a.fdiv (2 ^ (min b.toNat k.bits))))
   | _=>False
 | _,_=>False
def dA (neq:Bool) (x y:AV) (φ:AV→Prop):Prop:=
 match x,y with
 | .bool a,.bool b=>φ (.bool (if neq then decide (a≠b) else decide (a=b)))
 | _,_=>False
def isNil (kd:Nat) (x:AV):Option Bool:=
 match kd,x with
 | 0,.ag=>some true
 | 0,.al _ (_::_)=>some false
 | 0,.aZ _ _ _ _=>some false
 | 1,.wD=>some true
 | 1,.ptr _ _=>some false
 | 1,.ah _=>some false
 | 2,.nr=>some true
 | 2,.map _=>some false
 | 3,.iI=>some true
 | 3,.fn _ _ _=>some false
 | _,_=>none
def dR (kd:Nat) (neq:Bool) (x:AV) (φ:AV→Prop):Prop:=
 match isNil kd x with
 | some b=>φ (.bool (if neq then !b else b))
 | none=>match kd,x with
   | 0,.al _ []=>φ (.bool true)∧φ (.bool false)
   | _,_=>False
def CM (op:UnOp) (x:AV) (φ:AV→Prop):Prop:=
 match op,x with
 | .not,.bool b=>φ (.bool (!b))
 | .neg,.int k n=>φ (.int k (k.wrap (0 - n)))
 | _,_=>False
def gb (zs:List AV):List (Nat×Nat×AV)→(List AV→Prop)→Prop
 | [],φ=>φ zs
 | (off,sz,x)::r,φ=>x.val=true∧x.cells.length=sz∧off + sz≤zs.length∧gb (ai zs off (x.cells.map AV.ab)) r φ
def a8 (sz:Option Nat) (x:AV) (H:List aa) (φ:AV→Prop):Prop:=
 match x with
 | .ptr id off=>match H[id]? with
   | some (.cells es)=>match sz with
     | some m=>off + m≤es.length∧φ (.agg (((es.drop off).take m).map AV.drop))
     | none=>off < es.length∧φ (es.getD off .any).ab
   | _=>False
 | .ah y=>match sz with
   | some m=>y.cells.length=m∧φ (.agg y.cells)
   | none=>y.one=true∧φ y.ab
 | _=>False
def apart (off:Nat) (sz:Option Nat) (xs:List AV) (φ:AV→Prop):Prop:=
 match sz with
 | some m=>off + m≤xs.length∧φ (.agg ((xs.drop off).take m))
 | none=>off < xs.length∧(xs.getD off .any).one=true∧φ (xs.getD off .any)
def au (off:Nat) (sz:Option Nat) (x:AV) (φ:AV→Prop):Prop:=
 match x with
 | .ptr id o=>φ (.ptr id (o + off))
 | .ah y=>apart off sz y.cells fun z=>φ (.ah z)
 | _=>False
def gV (off:Nat) (sz:Option Nat) (x:AV) (φ:AV→Prop):Prop:=
 match x with
 | .agg xs=>apart off sz xs fun z=>φ z.drop
 | _=>False
def aG (esz:Nat) (x i:AV) (φ:AV→Prop):Prop:=
 match x,i with
 | .al _ xs,.int _ i=>0≤i∧i.toNat < xs.length∧φ (.ah (xs.getD i.toNat .any))
 | .aZ id off len _,.int _ i=>0≤i∧i.toNat < len∧φ (.ptr id (off + i.toNat * esz))
 | _,_=>False
def cv (n:Nat) (x i:AV) (φ:AV→Prop):Prop:=
 match x,i with
 | .agg xs,.int _ i=>xs.length=n∧0≤i∧i.toNat < n∧φ (xs.getD i.toNat .any).drop
 | _,_=>False
def bX (x i:AV) (φ:AV→Prop):Prop:=
 match x,i with
 | .str s,.int _ i=>0≤i∧i.toNat < s.size∧φ (.int .u8 (s.data.toList.getD i.toNat 0).toNat)
 | _,_=>False
def fR (x:AV) (H:List aa) (φ:AV→Prop):Prop:=
 match x with
 | .str s=>φ (.int .i64 s.size)
 | .ag=>φ (.int .i64 0)
 | .al _ xs=>xs.length < 9223372036854775808→φ (.int .i64 xs.length)
 | .aZ _ _ len _=>φ (.int .i64 len)
 | .oP=>φ (.int .i64 0)
 | .nr=>φ (.int .i64 0)
 | .map id=>match H[id]? with
   | some (.map es)=>φ (.int .i64 es.length)
   | _=>False
 | _=>False
def bM (x:AV) (i:Nat) (φ:AV→Prop):Prop:=
 match x with
 | .tuple xs=>i < xs.length∧φ (xs.getD i .any).ab
 | _=>False
def cw (x:AV) (φ:AV→Prop):Prop:=
 match x with
 | .ptr .. | .ah _=>φ x
 | .fn (.func _) _ _=>φ x
 | _=>False
def dj (k:IntKind) (x:AV) (φ:AV→Prop):Prop:=
 match x with
 | .int _ n=>φ (.int k (k.wrap n))
 | _=>False
def A0 (big:Bool) (x y:AV) (φ:AV→Prop):Prop:=
 match x,y with
 | .int k a,.int _ b=>φ (.int k (if big then (if b > a then b else a) else (if b < a then b else a)))
 | _,_=>False
section
variable {P:Program} {w:World} {M:Mem} {L:List Nat} {H:List aa}
theorem nB:∀ x y:List UInt8,(Op.bytesLess x y || x == y)=!Op.bytesLess y x
 | [],[]=>rfl
 | [],b::y=>by simp [Op.bytesLess]
 | a::x,[]=>by simp [Op.bytesLess]
 | a::x,b::y=>by
   have ih:=nB x y
   simp only [Op.bytesLess,List.cons_beq_cons]
   rcases af5 a.toNat b.toNat with h | h | h
   ·have h1:a < b:=UInt8.lt_iff_toNat_lt.2 h
    have h2:¬ b < a:=fun h'=>by have:=UInt8.lt_iff_toNat_lt.1 h';omega
    have h3:(b == a)=false:=by
     rw [beq_eq_false_iff_ne];rintro rfl;omega
    simp [h1,h2,h3]
   ·have h0:a=b:=UInt8.toNat_inj.1 h
    subst h0
    simp [ih]
   ·have h1:b < a:=UInt8.lt_iff_toNat_lt.2 h
    have h2:¬ a < b:=fun h'=>by have:=UInt8.lt_iff_toNat_lt.1 h';omega
    have h3:(a == b)=false:=by
     rw [beq_eq_false_iff_ne];rintro rfl;omega
    simp [h1,h2,h3]
theorem CN (a b:ByteArray):(a.toList == b.toList)=decide (a=b):=by
 rw [acf,acf]
 by_cases e:a=b
 ·subst e;simp
 ·have h0:¬ a.data.toList=b.data.toList:=fun h=>e (by cases a;cases b;simp_all [Array.toList_inj])
  rw [show (a.data.toList == b.data.toList)=false from beq_eq_false_iff_ne.2 h0]
  simp [e]
theorem rU {α:Type} [DecidableEq α] (a b:α):(a == b)=decide (a=b):=by
 by_cases h:a=b <;> simp [h]
theorem KN {op:BinOp} {t:TypeId} {u v:Value} {x y:AV} {φ:AV→Prop} (h:dw op x y φ) (hu:a7 M L u x) (hv:a7 M L v y) (X Y:Operand) :
 ∃ r z,(do eqGuard op t X Y u v;binOp op t u v:Sem Value).run P w=.ok r w∧a7 M L r z∧φ z∧∀ own xs,z=.al own xs→own=0:=by
 have guard_int:∀ (k k':IntKind) (a b:Int),(eqGuard op t X Y (.int k a) (.int k' b)).run P w=.ok () w:=by
  intro k k' a b;unfold eqGuard;cases op <;> rfl
 have guard_str:∀ (a b:ByteArray),(eqGuard op t X Y (.string a) (.string b)).run P w=.ok () w:=by
  intro a b;unfold eqGuard;cases op <;> rfl
 unfold dw at h
 split at h
 ·rename_i k a k' b
  cases hu;cases hv
  obtain ⟨rfl,h⟩:=h
  simp only [Sem.run_bind,guard_int,Result.andThen_ok]
  cases op <;> simp only at h <;> first
   | exact h.elim
   | exact ⟨_,_,rfl,.int _ _,h,by intro _ _ e;cases e⟩
   | (obtain ⟨h0,h⟩:=h
      refine ⟨_,_,?_,.int _ _,h,by intro _ _ e;cases e⟩
      simp [binOp,Op.intDiv,h0];done)
   | skip
  all_goals first
   | (refine ⟨_,_,?_,.int _ _,h,by intro _ _ e;cases e⟩
      simp [binOp,Op.intArith,Op.intBits];done)
   | (refine ⟨_,_,?_,.bool _,h,by intro _ _ e;cases e⟩
      simp [binOp,Op.intCmp];done)
   | skip
  all_goals
   refine ⟨_,_,?_,.bool _,h,by intro _ _ e;cases e⟩
   simp [binOp,Op.intCmp,bne,rU]
 ·rename_i a b
  cases hu;cases hv
  simp only [Sem.run_bind,guard_str,Result.andThen_ok]
  cases op <;> simp only at h <;> first
   | exact h.elim
   | skip
  ·obtain ⟨h0,h⟩:=h
   refine ⟨_,_,?_,.str _,h,by intro _ _ e;cases e⟩
   have:¬ ((a.size + b.size:Nat):Int) > IntKind.i64.max:=by
    have:IntKind.i64.max=9223372036854775807:=rfl
    rw [this];omega
   simp only [binOp,Op.stringOp,this,if_false,Sem.run_pure]
  ·exact ⟨_,_,rfl,.bool _,by rw [CN];exact h,by intro _ _ e;cases e⟩
  ·exact ⟨_,_,rfl,.bool _,by rw [CN];simpa using h,by intro _ _ e;cases e⟩
  ·exact ⟨_,_,rfl,.bool _,by rw [acf,acf];exact h,by intro _ _ e;cases e⟩
  ·exact ⟨_,_,rfl,.bool _,by rw [acf,acf,nB];exact h,by intro _ _ e;cases e⟩
  ·exact ⟨_,_,rfl,.bool _,by rw [acf,acf,nB,afZ];exact h,by intro _ _ e;cases e⟩
  ·exact ⟨_,_,rfl,.bool _,by rw [acf,acf];exact h,by intro _ _ e;cases e⟩
 ·exact h.elim
theorem wL {op:BinOp} {t:TypeId} {u v:Value} {x y:AV} {φ:AV→Prop} (h:eX op x y φ) (hu:a7 M L u x) (hv:a7 M L v y) (X Y:Operand) :
 ∃ r z,(do eqGuard op t X Y u v;binOp op t u v:Sem Value).run P w=.ok r w∧a7 M L r z∧φ z∧∀ own xs,z=.al own xs→own=0:=by
 unfold eX at h
 split at h
 ·rename_i k a k' b
  cases hu;cases hv
  obtain ⟨h0,h⟩:=h
  have guard_int:(eqGuard op t X Y (.int k a) (.int k' b)).run P w=.ok () w:=by
   unfold eqGuard;cases op <;> rfl
  simp only [Sem.run_bind,guard_int,Result.andThen_ok]
  have hn:¬ b < 0:=by omega
  cases op <;> simp only at h <;> first
   | exact h.elim
   | (refine ⟨_,_,?_,.int _ _,h,by intro _ _ e;cases e⟩
      simp [binOp,Op.shift,hn];done)
 ·exact h.elim
theorem run_equalIn_bool (d:Nat) {t:TypeId} (ht:P.underlying t=some .bool) (a b:Bool):(Op.equalIn (d + 1) t (.bool a) (.bool b)).run P w=.ok (a == b) w:=by
 simp only [Op.equalIn,Sem.run_bind,run_underlying ht,Result.andThen_ok,Sem.run_pure]
theorem run_equal_bool {t:TypeId} (ht:P.underlying t=some .bool) (a b:Bool):(Op.equal t (.bool a) (.bool b)).run P w=.ok (a == b) w:=run_equalIn_bool 9999 ht a b
theorem uJ {neq:Bool} {t:TypeId} (ht:P.underlying t=some .bool) {u v:Value} {x y:AV} {φ:AV→Prop} (h:dA neq x y φ) (hu:a7 M L u x) (hv:a7 M L v y) (X Y:Operand) :
 ∃ r z,(do eqGuard (if neq then .neq else .eql) t X Y u v;binOp (if neq then .neq else .eql) t u v:Sem Value).run P w=.ok r w∧a7 M L r z∧φ z∧∀ own xs,z=.al own xs→own=0:=by
 unfold dA at h
 split at h
 ·rename_i a b
  cases hu;cases hv
  cases neq
  ·refine ⟨_,.bool (a == b),?_,.bool (a == b),?_,by intro _ _ e;cases e⟩
   ·simp only [abI,if_false,Sem.run_bind,eqGuard,Sem.run_pure,Result.andThen_ok,binOp,run_equal_bool ht];rfl
   ·rw [rU];exact h
  ·refine ⟨_,.bool (!(a == b)),?_,.bool (!(a == b)),?_,by intro _ _ e;cases e⟩
   ·simp only [if_true,Sem.run_bind,eqGuard,Sem.run_pure,Result.andThen_ok,binOp,run_equal_bool ht];rfl
   ·rw [rU];simpa using h
 ·exact h.elim
theorem Ot {op:UnOp} {u:Value} {x:AV} {φ:AV→Prop} (h:CM op x φ) (hu:a7 M L u x) :
 ∃ r z,(Op.unary op u).run P w=.ok r w∧a7 M L r z∧φ z∧∀ own xs,z=.al own xs→own=0:=by
 unfold CM at h
 split at h
 ·cases hu;exact ⟨_,_,rfl,.bool _,h,by intro _ _ e;cases e⟩
 ·cases hu;exact ⟨_,_,rfl,.int _ _,h,by intro _ _ e;cases e⟩
 ·exact h.elim
theorem jt {cs:List Value} {b off:Nat} (hm:M.row b off cs) (j4:∀ b o v,M b o=some v→w.cell? ⟨b,o,none⟩=some v) :
 ∀ j v,cs[j]?=some v→w.cell? ((⟨b,off,none⟩:Addr).add j)=some v:=by
 intro j v hv
 rw [Addr.add_lit]
 exact j4 _ _ _ (hm j v hv)
theorem fh {t:TypeId} {m:Nat} (h:Ks P t=some none):(isAgg t).run P w=.ok false w∧(P.info? t).map (·.size)=some 1:=by
 unfold Ks at h
 split at h <;> try cases h
 rename_i i d h1 h2 hi hd
 split at h
 ·rename_i h3
  refine ⟨?_,by simp [hi,h3]⟩
  simp only [isAgg,Sem.run_bind,run_underlying hd,Result.andThen_ok]
  cases d <;> first | rfl | (exact absurd rfl (h1 _)) | (exact absurd rfl (h2 _ _))
 ·cases h
theorem kN {t:TypeId} {m:Nat} (h:Ks P t=some (some m)):(isAgg t).run P w=.ok true w∧(sizeOf t).run P w=.ok m w:=by
 unfold Ks at h
 split at h <;> try cases h
 ·rename_i i f hi hd
  refine ⟨?_,?_⟩
  ·simp only [isAgg,Sem.run_bind,run_underlying hd,Result.andThen_ok];rfl
  ·simp [sizeOf,typeInfo,hi]
 ·rename_i i l e hi hd
  refine ⟨?_,?_⟩
  ·simp only [isAgg,Sem.run_bind,run_underlying hd,Result.andThen_ok];rfl
  ·simp [sizeOf,typeInfo,hi]
 ·split at h <;> cases h
end
end Go.aI
end
section
namespace Go.aI
open Go
section
variable {P:Program} {w:World} {M:Mem} {L:List Nat} {H:List aa} {A:Perm} {ev:Nat→Value} {ea:Nat→AV} {O:Pos→Option Nat}
theorem fS (hs:St A M L w H ev ea O) {id b:Nat} {es:List AV} (bF:H[id]?=some (.cells es)) (hL:L[id]?=some b) :
 ∃ cs e,w.heap[b]?=some (.cells cs e (0,0))∧aP M L cs.toList es∧∀ j v,cs.toList[j]?=some v→w.cell? ⟨b,j,none⟩=some v:=by
 obtain ⟨cs,e,h1,h2,_⟩:=hs.obj id _ b bF hL
 exact ⟨cs,e,h1,h2,fun j v hv=>by simpa [World.cell?,h1] using hv⟩
theorem dI {α:Type} (l:List α) (off m j:Nat) (v:α) (h:((l.drop off).take m)[j]?=some v):l[off + j]?=some v:=by
 rw [aaG] at h
 split at h
 ·rwa [aeC] at h
 ·cases h
theorem tD {sz:Option Nat} {t:TypeId} (ht:Ks P t=some sz) {u:Value} {x:AV} {φ:AV→Prop} (hs:St A M L w H ev ea O) (h:a8 sz x H φ) (hu:a7 M L u x) :
 ∃ r z,(Instr.loadAt t u).run P w=.ok r w∧a7 M L r z∧φ z∧∀ own xs,z=.al own xs→own=0:=by
 unfold a8 at h
 split at h
 ·rename_i id off
  cases hu with
  | ptr b _ _ hl=>
  split at h
  ·rename_i es bF
   obtain ⟨cs,e,h1,h2,h3⟩:=fS hs bF hl
   have hlen:=h2.length
   cases sz with
   | some m=>
     obtain ⟨hm,hφ⟩:=h
     obtain ⟨r1,r2⟩:=kN (w:=w) ht
     have jY:((cs.toList.drop off).take m).length=m:=by simp at hlen ⊢;omega
     have KO:=run_loadCells_list (P:=P) w ⟨b,off,none⟩ ((cs.toList.drop off).take m) (fun j v hv=>by rw [Addr.add_lit];exact h3 _ _ (dI _ _ _ _ _ hv))
     rw [jY] at KO
     refine ⟨.agg ((cs.toList.drop off).take m).toArray,.agg (((es.drop off).take m).map AV.drop),?_,?_,hφ,by intro _ _ e;cases e⟩
     ·simp only [Instr.loadAt,Instr.sureAddr,loadVar,Sem.run_bind,Sem.run_pure,Result.andThen_ok,r1,if_true,r2,KO]
     ·have:=a7.agg _ _ (((h2.drop off).take m).map_drop)
      simpa using this
   | none=>
     obtain ⟨hm,hφ⟩:=h
     obtain ⟨r1,r2⟩:=fh (w:=w) (m:=0) ht
     have qn:off < cs.toList.length:=by omega
     have hcell:=h3 off cs.toList[off] (by simp)
     have gr:=h2.getD off
     refine ⟨cs.toList[off],_,?_,?_,hφ,AV.bR _⟩
     ·simp only [Instr.loadAt,Instr.sureAddr,loadVar,Sem.run_bind,Sem.run_pure,Result.andThen_ok,r1,abI,if_false,run_load,hcell]
     ·have e0:cs.toList.getD off undef=cs.toList[off]:=by rw [th,Hj qn];rfl
      rw [e0] at gr
      exact gr.ab
  ·exact h.elim
 ·rename_i y
  cases hu with
  | ah b off cs _ hr hm=>
  have hcells:=jt hm hs.mem
  cases sz with
  | some m=>
    obtain ⟨Ou,hφ⟩:=h
    obtain ⟨r1,r2⟩:=kN (w:=w) ht
    have jY:cs.length=m:=hr.length.trans Ou
    have KO:=run_loadCells_list (P:=P) w ⟨b,off,none⟩ cs hcells
    rw [jY] at KO
    refine ⟨.agg cs.toArray,.agg y.cells,?_,.agg cs y.cells hr,hφ,by intro _ _ e;cases e⟩
    simp only [Instr.loadAt,Instr.sureAddr,loadVar,Sem.run_bind,Sem.run_pure,Result.andThen_ok,r1,if_true,r2,KO]
  | none=>
    obtain ⟨Ou,hφ⟩:=h
    obtain ⟨r1,r2⟩:=fh (w:=w) (m:=0) ht
    have hy:y.cells=[y]:=by cases y <;> first | rfl | simp [AV.one] at Ou
    rw [hy] at hr
    obtain ⟨v,rfl,hv⟩:=hr.Hk
    have hcell:=hcells 0 v (by simp)
    rw [Addr.add_lit,af0] at hcell
    refine ⟨v,_,?_,hv.ab,hφ,AV.bR _⟩
    simp only [Instr.loadAt,Instr.sureAddr,loadVar,Sem.run_bind,Sem.run_pure,Result.andThen_ok,r1,abI,if_false,run_load,hcell]
 ·exact h.elim
def tF (P:Program) (s:TypeId) (f:Nat):Option (Nat×Option Nat):=
 match P.underlying s with
 | some (.struct fields)=>match fields[f]? with
   | some fd=>match Ks P fd.type,ey P fd.type with
     | some sz,some k=>if k=0 then none else some (fd.offset,sz)
     | _,_=>none
   | none=>none
 | _=>none
theorem uK {s:TypeId} {f off:Nat} {sz:Option Nat} (h:tF P s f=some (off,sz)) :
 ∃ fields fd k,P.underlying s=some (.struct fields)∧fields[f]?=some fd∧fd.offset=off∧Ks P fd.type=some sz∧(P.info? fd.type).map (·.size)=some k∧k≠0:=by
 unfold tF at h
 split at h <;> try cases h
 rename_i fields hu
 split at h <;> try cases h
 rename_i fd hf
 split at h <;> try cases h
 rename_i sz' k hs hk
 split at h <;> cases h
 rename_i NW
 exact ⟨fields,fd,k,hu,hf,rfl,hs,hk,NW⟩
theorem wM {s:TypeId} {f off:Nat} {sz:Option Nat} (ht:tF P s f=some (off,sz)) {u:Value} {x:AV} {φ:AV→Prop} (h:au off sz x φ) (hu:a7 M L u x) :
 ∃ r z,(Instr.fieldAt s u f).run P w=.ok r w∧a7 M L r z∧φ z∧∀ own xs,z=.al own xs→own=0:=by
 obtain ⟨fields,fd,k,KP,hf,rfl,hs,hk,NW⟩:=uK ht
 have bK:∀ b o,(Instr.fieldAt s (.pointer (some ⟨b,o,none⟩)) f).run P w=.ok (.pointer (some ⟨b,o + fd.offset,none⟩)) w:=by
  intro b o
  obtain ⟨i,hi,Ov⟩:=aal.1 hk
  have dd:(sizeOf fd.type).run P w=.ok k w:=by simp [sizeOf,typeInfo,hi,Ov]
  simp only [Instr.fieldAt,Instr.sureAddr,Sem.run_bind,run_underlying KP,Result.andThen_ok,hf,Sem.run_pure,fieldPlace,dd,NW,if_false,Addr.add_lit]
 unfold au at h
 split at h
 ·rename_i id o
  cases hu with
  | ptr b _ _ hl=>exact ⟨_,_,bK b o,.ptr b (o + fd.offset) id hl,h,by intro _ _ e;cases e⟩
 ·rename_i y
  cases hu with
  | ah b o cs _ hr hm=>
  refine ⟨.pointer (some ⟨b,o + fd.offset,none⟩),?_⟩
  unfold apart at h
  cases sz with
  | some m=>
    obtain ⟨hle,hφ⟩:=h
    refine ⟨_,bK b o,.ah b (o + fd.offset) ((cs.drop fd.offset).take m) _ (by simpa [AV.cells] using (hr.drop fd.offset).take m) ?_,hφ,by intro _ _ e;cases e⟩
    intro j v hv
    have:=hm _ _ (dI _ _ _ _ _ hv)
    rwa [← adE] at this
  | none=>
    obtain ⟨hle,h1,hφ⟩:=h
    have hl:=hr.length
    have qn:fd.offset < cs.length:=by omega
    have hx:∃ z,y.cells[fd.offset]?=some z:=⟨_,Hj hle⟩
    obtain ⟨z,hz⟩:=hx
    obtain ⟨v,hv,gr⟩:=hr.get _ z hz
    have e0:y.cells.getD fd.offset .any=z:=by rw [th,hz];rfl
    rw [e0] at hφ h1
    have hag:z.cells=[z]:=by cases z <;> first | rfl | simp [AV.one] at h1
    refine ⟨_,bK b o,.ah b (o + fd.offset) [v] z (by rw [hag];exact .one gr) ?_,hφ,by intro _ _ e;cases e⟩
    intro j u' IQ
    cases j with
    | zero=>simp at IQ;subst IQ;simpa using hm _ _ hv
    | succ j=>simp at IQ
 ·exact h.elim
theorem Fh {s:TypeId} {f off:Nat} {sz:Option Nat} (ht:tF P s f=some (off,sz)) {u:Value} {x:AV} {φ:AV→Prop} (h:gV off sz x φ) (hu:a7 M L u x) :
 ∃ r z,(Instr.field s u f).run P w=.ok r w∧a7 M L r z∧φ z∧∀ own xs,z=.al own xs→own=0:=by
 obtain ⟨fields,fd,k,KP,hf,rfl,hs,hk,NW⟩:=uK ht
 unfold gV at h
 split at h
 ·rename_i xs
  cases hu with
  | agg cs _ hr=>
  unfold apart at h
  cases sz with
  | some m=>
    obtain ⟨hle,hφ⟩:=h
    obtain ⟨r1,r2⟩:=kN (w:=w) hs
    refine ⟨.agg ((cs.drop fd.offset).take m).toArray,_,?_,(a7.agg _ _ ((hr.drop fd.offset).take m)).drop,hφ,AV.kF _⟩
    simp only [Instr.field,Sem.run_bind,run_underlying KP,Result.andThen_ok,hf,part,r1,if_true,asAgg,Sem.run_pure,r2]
    congr 2
    apply Array.ext'
    simp [List.drop_take]
  | none=>
    obtain ⟨hle,h1,hφ⟩:=h
    obtain ⟨r1,r2⟩:=fh (w:=w) (m:=0) hs
    have qn:fd.offset < cs.length:=by have:=hr.length;omega
    have gr:=hr.getD fd.offset
    have e0:cs.getD fd.offset undef=cs[fd.offset]:=by rw [th,Hj qn];rfl
    rw [e0] at gr
    refine ⟨cs[fd.offset],_,?_,gr.drop,hφ,AV.kF _⟩
    simp [Instr.field,run_underlying KP,hf,part,r1,asAgg,qn]
 ·exact h.elim
theorem flat_get:∀ (xs:List AV) (e:Nat),(∀ x∈xs,x.cells.length=e)→∀ i j x,xs[i]?=some x→j < e→(flat xs)[i * e + j]?=x.cells[j]?
 | [],e,_,i,j,x,h,_=>by simp at h
 | y::ys,e,hx,0,j,x,h,hj=>by
   simp at h;subst h
   have:=hx y (by simp)
   simp only [flat,List.flatMap_cons,afe,abK]
   rw [zz (by omega)]
 | y::ys,e,hx,i + 1,j,x,h,hj=>by
   have hy:=hx y (by simp)
   have ih:=flat_get ys e (fun x h=>hx x (by simp [h])) i j x (by simpa using h) hj
   simp only [flat,List.flatMap_cons]
   rw [abx (by rw [hy,abO];omega),hy,show (i + 1) * e + j - e=i * e + j by rw [abO];omega]
   exact ih
theorem KQ {b off e:Nat} {cs:List Value} {xs:List AV} (hx:∀ x∈xs,x.cells.length=e) (hr:aP M L cs (flat xs)) (hm:M.row b off cs) {i:Nat} {x:AV} (hi:xs[i]?=some x) :
 a7 M L (.pointer (some ⟨b,off + i * e,none⟩)) (.ah x):=by
 have hlen:=hx x (abB hi)
 refine .ah b (off + i * e) ((cs.drop (i * e)).take e) x ?_ ?_
 ·have h2:=(hr.drop (i * e)).take e
  have:((flat xs).drop (i * e)).take e=x.cells:=by
   apply abT
   intro j
   rw [aaG]
   split
   ·rename_i hj
    rw [aeC,flat_get xs e hx i j x hi hj]
   ·rename_i hj
    rw [abL (by omega)]
  rwa [this] at h2
 ·intro j v hv
  have:=hm _ _ (dI _ _ _ _ _ hv)
  rwa [← adE] at this
theorem wN {t e esz:Nat} (ht:P.underlying t=some (.slice e)) (hz:ey P e=some esz) {u v:Value} {x y:AV} {φ:AV→Prop} (h:aG esz x y φ)
 (SA:∀ own xs,x=.al own xs→∀ z∈xs,z.cells.length=esz) (hu:a7 M L u x) (hv:a7 M L v y) :
 ∃ r z,(Instr.indexAt t u v).run P w=.ok r w∧a7 M L r z∧φ z∧∀ own xs,z=.al own xs→own=0:=by
 have dd:(sizeOf e).run P w=.ok esz w:=by
  obtain ⟨i,hi,Ov⟩:=aal.1 hz
  simp [sizeOf,typeInfo,hi,Ov]
 have bK:∀ (b o len cap:Nat) (k:IntKind) (i:Int),0≤i→i.toNat < len→(Instr.indexAt t (.slice (some ⟨b,o,none⟩) len cap) (.int k i)).run P w=.ok (.pointer (some ⟨b,o + i.toNat * esz,none⟩)) w:=by
  intro b o len cap k i h0 h1
  have hc:0≤i∧i < (len:Int):=⟨h0,by omega⟩
  simp only [Instr.indexAt,asIntOf,Sem.run_bind,Sem.run_pure,Result.andThen_ok,run_underlying ht,hc,and_self,if_true,dd,Addr.add_lit]
 unfold aG at h
 split at h
 ·rename_i own xs k i
  obtain ⟨h0,h1,hφ⟩:=h
  cases hv
  have hi:xs[i.toNat]?=some (xs.getD i.toNat .any):=by rw [th,Hj h1];rfl
  cases hu with
  | iN=>simp at h1
  | al b off c _ e' cs _ he hx hn hle hc hr hm=>
    have e0:e'=esz:=by
     have h2:=hx _ (abB hi)
     have h3:=SA own xs rfl _ (abB hi)
     omega
    subst e0
    exact ⟨_,_,bK b off _ c _ i h0 h1,KQ hx hr hm hi,hφ,by intro _ _ e;cases e⟩
 ·rename_i id off len cap k i
  obtain ⟨h0,h1,hφ⟩:=h
  cases hv
  cases hu with
  | aZ b _ _ _ _ hl hc=>exact ⟨_,_,bK b off len cap _ i h0 h1,.ptr b _ id hl,hφ,by intro _ _ e;cases e⟩
 ·exact h.elim
theorem yM {t e:TypeId} {n:Nat} (ht:P.underlying t=some (.array n e)) (he:Ks P e=some none) {u v:Value} {x y:AV} {φ:AV→Prop} (h:cv n x y φ) (hu:a7 M L u x) (hv:a7 M L v y) :
 ∃ r z,(Instr.index t u v).run P w=.ok r w∧a7 M L r z∧φ z∧∀ own xs,z=.al own xs→own=0:=by
 unfold cv at h
 split at h
 ·rename_i xs k i
  obtain ⟨hn,h0,h1,hφ⟩:=h
  cases hv
  cases hu with
  | agg cs _ hr=>
  obtain ⟨r1,r2⟩:=fh (w:=w) (m:=1) he
  have vA:i.toNat < cs.length:=by have:=hr.length;omega
  have gr:=hr.getD i.toNat
  have e0:cs.getD i.toNat undef=cs[i.toNat]:=by rw [th,Hj vA];rfl
  rw [e0] at gr
  refine ⟨cs[i.toNat],_,?_,gr.drop,hφ,AV.kF _⟩
  have aM:i < (n:Int):=by omega
  obtain ⟨inf,iT,dd⟩:=aal.1 r2
  have rz:(sizeOf e).run P w=.ok 1 w:=by simp [sizeOf,typeInfo,iT,dd]
  simp [Instr.index,asIntOf,run_underlying ht,h0,aM,part,r1,rz,vA]
 ·exact h.elim
theorem yN {t:TypeId} (ht:P.underlying t=some .string) {u v:Value} {x y:AV} {φ:AV→Prop} (h:bX x y φ) (hu:a7 M L u x) (hv:a7 M L v y) :
 ∃ r z,(Instr.index t u v).run P w=.ok r w∧a7 M L r z∧φ z∧∀ own xs,z=.al own xs→own=0:=by
 unfold bX at h
 split at h
 ·rename_i s k i
  obtain ⟨h0,h1,hφ⟩:=h
  cases hu;cases hv
  have e1:s[i.toNat]?=some s[i.toNat]:=by simp [h1]
  have e2:s.data.toList.getD i.toNat 0=s[i.toNat]:=by
   have:i.toNat < s.data.size:=h1
   rw [th,ad8,aeb this];rfl
  rw [e2] at hφ
  refine ⟨_,_,?_,.int _ _,hφ,by intro _ _ e;cases e⟩
  simp only [Instr.index,asIntOf,Sem.run_bind,Sem.run_pure,Result.andThen_ok,run_underlying ht,h0,if_true,e1]
 ·exact h.elim
def kc (d:TypeDesc) (x:AV):Bool:=
 match d,x with
 | .string,.str _=>true
 | .slice _,.ag=>true
 | .slice _,.al _ _=>true
 | .slice _,.aZ _ _ _ _=>true
 | .slice _,.oP=>true
 | .map _ _,.nr=>true
 | .map _ _,.map _=>true
 | _,_=>false
theorem KR {t:TypeId} {d:TypeDesc} (ht:P.underlying t=some d) {u:Value} {x:AV} {φ:AV→Prop} (hs:St A M L w H ev ea O)
 (hk:kc d x=true)
 (h:fR x H φ) (hu:a7 M L u x) (ty:TypeId) :
 ∃ r z,(Builtin.len_ #[t] ty #[u]).run P w=.ok r w∧a7 M L r z∧φ z∧∀ own xs,z=.al own xs→own=0:=by
 unfold fR at h
 split at h
 ·cases hu
  cases d <;> simp [kc] at hk
  exact ⟨_,_,by simp [Builtin.len_,run_underlying ht,goInt],.int _ _,h,by intro _ _ e;cases e⟩
 ·cases hu
  cases d <;> simp [kc] at hk
  exact ⟨_,_,by simp [Builtin.len_,run_underlying ht,goInt],.int _ _,h,by intro _ _ e;cases e⟩
 ·rename_i own xs
  cases d <;> simp [kc] at hk
  cases hu with
  | iN a c _ hc=>exact ⟨_,_,by simp [Builtin.len_,run_underlying ht,goInt],.int _ _,h (by decide),by intro _ _ e;cases e⟩
  | al b off c _ e' cs _ he hx hn hle hc hr hm=>exact ⟨_,_,by simp [Builtin.len_,run_underlying ht,goInt],.int _ _,h (by omega),by intro _ _ e;cases e⟩
 ·cases d <;> simp [kc] at hk
  cases hu with
  | aZ b off len cap id hl hc=>exact ⟨_,_,by simp [Builtin.len_,run_underlying ht,goInt],.int _ _,h,by intro _ _ e;cases e⟩
 ·cases d <;> simp [kc] at hk
  cases hu with
  | oP a=>exact ⟨_,_,by simp [Builtin.len_,run_underlying ht,goInt],.int _ _,h,by intro _ _ e;cases e⟩
 ·cases d <;> simp [kc] at hk
  cases hu
  exact ⟨_,_,by simp [Builtin.len_,run_underlying ht,goInt],.int _ _,h,by intro _ _ e;cases e⟩
 ·rename_i id
  cases d <;> simp [kc] at hk
  cases hu with
  | map b _ hl=>
  split at h
  ·rename_i es bF
   obtain ⟨ents,ck,h1,h2,h3⟩:=hs.obj id _ b bF hl
   have hlen:ents.size=es.length:=by have:=h2.length;simpa using this
   refine ⟨_,_,?_,.int _ _,h,by intro _ _ e;cases e⟩
   simp [Builtin.len_,run_underlying ht,goInt,getObj,Sem.run,h1,hlen]
  ·exact h.elim
 ·exact h.elim
theorem A4 {i:Nat} {u:Value} {x:AV} {φ:AV→Prop} (h:bM x i φ) (hu:a7 M L u x) :
 ∃ r z,(Instr.extract u i).run P w=.ok r w∧a7 M L r z∧φ z∧∀ own xs,z=.al own xs→own=0:=by
 unfold bM at h
 split at h
 ·rename_i xs
  obtain ⟨hi,hφ⟩:=h
  cases hu with
  | tuple cs _ hr=>
  have hl:=hr.length
  have gr:=hr.getD i
  have e0:cs.getD i undef=cs[i]:=by rw [th,Hj (by omega)];rfl
  rw [e0] at gr
  exact ⟨_,_,by simp [Instr.extract,show i < cs.length by omega],gr.ab,hφ,AV.bR _⟩
 ·exact h.elim
theorem yO {o:Oper} {X:Operand} {ρ:Operand→Value} (ho:o.op=.nilCheck X) {x:AV} {φ:AV→Prop} (h:cw x φ) (hu:a7 M L (ρ X) x) :
 ∃ r z,(execOp ρ o).run P w=.ok (.value r) w∧a7 M L r z∧φ z∧∀ own xs,z=.al own xs→own=0:=by
 unfold cw at h
 simp only [execOp,ho]
 generalize hρ:ρ X=u at hu
 split at h
 ·cases hu;exact ⟨_,_,rfl,.ptr _ _ _ (by assumption),h,by intro _ _ e;cases e⟩
 ·cases hu;exact ⟨_,_,rfl,.ah _ _ _ _ (by assumption) (by assumption),h,by intro _ _ e;cases e⟩
 ·cases hu;exact ⟨_,_,rfl,.fn _ _ _ _ _ (by assumption) (by assumption),h,by intro _ _ e;cases e⟩
 ·exact h.elim
theorem A5 {src dst:TypeId} {d:TypeDesc} {k:IntKind} (hs:P.underlying src=some d) (hd:P.underlying dst=some (.int k)) {u:Value} {x:AV} {φ:AV→Prop} (h:dj k x φ) (hu:a7 M L u x) :
 ∃ r z,(convert src dst u).run P w=.ok r w∧a7 M L r z∧φ z∧∀ own xs,z=.al own xs→own=0:=by
 unfold dj at h
 split at h
 ·rename_i k' n'
  cases hu
  refine ⟨_,_,?_,.int _ _,h,by intro _ _ e;cases e⟩
  simp [convert,run_underlying hs,run_underlying hd,Conv.intToInt]
 ·exact h.elim
theorem Hp {big:Bool} {u v:Value} {x y:AV} {φ:AV→Prop} (h:A0 big x y φ) (hu:a7 M L u x) (hv:a7 M L v y) (ts:Array TypeId) (ty:TypeId) :
 ∃ r z,(if big then Builtin.max_ ts ty #[u,v] else Builtin.min_ ts ty #[u,v]).run P w=.ok r w∧a7 M L r z∧φ z∧∀ own xs,z=.al own xs→own=0:=by
 unfold A0 at h
 split at h
 ·cases hu;cases hv
  cases big
  ·exact ⟨_,_,rfl,.int _ _,h,by intro _ _ e;cases e⟩
  ·exact ⟨_,_,rfl,.int _ _,h,by intro _ _ e;cases e⟩
 ·exact h.elim
end
end Go.aI
end
section
namespace Go.aI
open Go
def cr (zero:List AV) (parts:List (Nat×Nat×AV)) (φ:AV→Prop):Prop:=gb zero parts fun xs=>φ (.agg xs)
def bi (xs:List AV) (esz:Nat):List (Nat×AV)→(List AV→Prop)→Prop
 | [],φ=>φ xs
 | (i,x)::r,φ=>x.val=true∧x.cells.length=esz∧i < xs.length∧bi (xs.set i (a9 x)) esz r φ
where a9:AV→AV
 | .agg ys=>.agg (ys.map AV.drop)
 | x=>x.drop
abbrev a9:=bi.a9
section
variable {M:Mem} {L:List Nat}
theorem a7.a9 {v:Value} {x:AV} (h:a7 M L v x):a7 M L v (a9 x):=by
 cases x <;> first | exact h.drop | skip
 cases h with
 | agg cs _ hr=>exact .agg cs _ hr.map_drop
theorem fI (x:AV):(a9 x).cells.length=x.cells.length:=by
 cases x <;> simp [bi.a9,AV.cells,AV.drop]
theorem tG {x:AV} (h:x.val=true):(a9 x).val=true:=by
 cases x <;> simp_all [bi.a9,AV.val,AV.drop]
theorem Fi (x:AV):∀ own xs,a9 x=.al own xs→own=0:=by
 intro own xs h
 cases x <;> simp_all [bi.a9,AV.drop]
end
section
variable {P:Program} {w:World} {M:Mem} {L:List Nat} {H:List aa} {A:Perm} {ev:Nat→Value} {ea:Nat→AV} {O:Pos→Option Nat}
theorem IS (hs:St A M L w H ev ea O) (e:TypeId) {u:Value} {x:AV} (hu:a7 M L u x) (hv:x.val=true) :
 ∃ r M' w',(Instr.box e u).run P w=.ok r w'∧a7 M' L r (.ah x)∧St A M' L w' H ev ea O∧Ext A M w M' w':=by
 obtain ⟨h1,h2,h3⟩:=hs.Fc u.cells e
 exact ⟨_,_,_,rfl,.ah _ _ _ _ ((hu.gU hv).mono h2.oD (aaD _)) h3,h1,h2⟩
theorem CO (hs:St A M L w H ev ea O) (e:TypeId) {u:Value} {x:AV} (hu:a7 M L u x) (hv:x.val=true) (hb:aw (H.length + 1) (x.cells.map AV.ab)=true) :
 ∃ r L' w',(Instr.box e u).run P w=.ok r w'∧a7 M L' r (.ptr H.length 0)∧St A M L' w' (H++[.cells (x.cells.map AV.ab)]) ev ea O∧Ext A M w M w'∧L <+: L':=by
 obtain ⟨h1,h2⟩:=hs.tA (.cells u.cells e) (.cells (x.cells.map AV.ab)) (fun w' hw hM=>⟨u.cells,e,hw,((hu.gU hv).dm).mono (Mem.b8 M) ⟨_,rfl⟩,hM⟩) hb (fun j=>by
  simp only [oR]
  refine bm.free ?_
  intro own xs h
  rw [th,abZ] at h
  cases hx:x.cells[j]? with
  | none=>simp [hx] at h
  | some y=>simp [hx] at h;exact AV.bR y own xs h)
 refine ⟨_,_,_,rfl,.ptr _ _ _ ?_,h1,h2,⟨_,rfl⟩⟩
 rw [abx (by rw [hs.len];exact zy _),hs.len];simp
theorem Fj (hs:St A M L w H ev ea O) {e:TypeId} {z:AV} (hz:fZ P e=some z) (hv:z.val=true) (hb:aw (H.length + 1) (z.cells.map AV.ab)=true) :
 ∃ r L' w',(Instr.alloc e true (.tuple #[])).run P w=.ok r w'∧a7 M L' r (.ptr H.length 0)∧St A M L' w' (H++[.cells (z.cells.map AV.ab)]) ev ea O∧Ext A M w M w'∧L <+: L':=by
 unfold fZ at hz
 split at hz
 ·rename_i i hi
  split at hz
  ·rename_i v qx
   obtain ⟨r,L',w',h1,h2⟩:=CO (P:=P) hs e (cQ hz) hv hb
   refine ⟨r,L',w',?_,h2⟩
   rw [← h1]
   simp only [Instr.alloc,Instr.box,zeroValue,typeInfo,Sem.run_bind,run_program,Result.andThen_ok,hi,Sem.run_pure,qx]
  ·cases hz
 ·cases hz
theorem wO (vs:List Value):∀ (off k:Nat) (cs:Array Value),off + k + vs.length≤cs.size→
 ((vs.zipIdx k).foldl (fun cs (x:Value×Nat)=>cs.setIfInBounds (off + x.2) x.1) cs).toList=ai cs.toList (off + k) vs:=by
 induction vs with
 | nil=>intro off k cs h;simp [ai]
 | cons v vs ih=>
   intro off k cs h
   simp only [List.zipIdx_cons,List.foldl_cons]
   rw [ih off (k + 1) _ (by simp at h ⊢;omega)]
   simp only [Array.toList_setIfInBounds,ai]
   simp only [List.length_cons] at h
   apply abT
   intro j
   simp only [afC,aaG,abS,ab7,afW,aeC,List.length_cons,aaj,afD]
   by_cases h1:j < off + k
   ·have:j < min (off + k) cs.size:=by omega
    have:j < min (off + (k + 1)) cs.size:=by omega
    simp only [*,if_true]
    rw [if_pos (by omega),zA (by omega)]
   ·by_cases h2:j=off + k
    ·subst h2
     have:off + k < min (off + (k + 1)) cs.size:=by omega
     simp only [this,if_true]
     rw [if_pos (by omega),Sx (by simp;omega),if_neg (by omega)]
     rw [show off + k - min (off + k) cs.size=0 by omega]
     simp
    ·have n1:¬ j < min (off + (k + 1)) cs.size:=by omega
     have n2:¬ j < min (off + k) cs.size:=by omega
     simp only [n1,n2,if_false]
     rw [show j - min (off + k) cs.size=(j - min (off + (k + 1)) cs.size) + 1 by omega]
     simp only [Nat.add_lt_add_iff_right,List.getElem?_cons_succ]
     split
     ·rfl
     ·rw [zA (by omega)]
      congr 1
      omega
theorem zH {place:Nat→Option (Nat×Nat)}:∀ (parts:List (Nat×Nat×AV)) (vs:List (Nat×Value)) {cs:Array Value} {zs:List AV} {φ:List AV→Prop},
 (∀ (j:Nat) (p:Nat×Nat×AV),parts[j]?=some p→∃ i v,vs[j]?=some (i,v)∧place i=some (p.1,p.2.1)∧a7 M L v p.2.2)→vs.length=parts.length→aP M L cs.toList zs→gb zs parts φ→
 ∃ cs' zs',Instr.fill place cs vs=some cs'∧aP M L cs'.toList zs'∧φ zs'
 | [],[],cs,zs,φ,_,_,hr,h=>⟨cs,zs,rfl,hr,h⟩
 | [],_::_,_,_,_,_,hl,_,_=>by simp at hl
 | _::_,[],_,_,_,_,hl,_,_=>by simp at hl
 | (off,sz,x)::r,(i,v)::vs,cs,zs,φ,H,hl,hr,h=>by
   obtain ⟨hv,dd,hle,h⟩:=h
   obtain ⟨i',v',e1,e2,e3⟩:=H 0 _ rfl
   simp at e1
   obtain ⟨rfl,rfl⟩:=e1
   have hlen:=hr.length
   have hc:=e3.gU hv
   have jY:v.cells.size=sz:=by have:=hc.length;simp at this;rw [this];exact dd
   have oE:aP M L (v.cells.zipIdx.foldl (fun cs (x:Value×Nat)=>cs.setIfInBounds (off + x.2) x.1) cs).toList (ai zs off (x.cells.map AV.ab)):=by
    have h0:=wO v.cells.toList off 0 cs (by simp at hlen ⊢;omega)
    have h1:v.cells.zipIdx.foldl (fun cs (x:Value×Nat)=>cs.setIfInBounds (off + x.2) x.1) cs=(v.cells.toList.zipIdx 0).foldl (fun cs (x:Value×Nat)=>cs.setIfInBounds (off + x.2) x.1) cs:=by
     rw [← ago,Array.toList_zipIdx]
    rw [h1,h0]
    exact hc.dm.AZ off hr
   obtain ⟨cs',zs',f1,f2,f3⟩:=zH r vs (fun j p hp=>by
    obtain ⟨i,v,a1,a2⟩:=H (j + 1) p (by simpa using hp)
    exact ⟨i,v,by simpa using a1,a2⟩) (by simpa using hl) oE h
   refine ⟨cs',zs',?_,f2,f3⟩
   unfold Instr.fill
   simp only [e2]
   have Wj:off + v.cells.size≤cs.size:=by simp at hlen;omega
   simp only [jY,ne_eq,not_true_eq_false,decide_false,Bool.false_or]
   rw [if_neg (by simp;omega)]
   exact f1
def Fk (P:Program) (t:TypeId):Option (AV×List (Nat×Nat)):=
 match P.info? t,P.underlying t,fZ P t with
 | some _,some (.struct fields),some z=>match fields.toList.mapM (fun f=>(P.info? f.type).map fun i=>(f.offset,i.size)) with
   | some places=>some (z,places)
   | none=>none
 | some _,some (.array n e),some z=>match P.info? e with
   | some ie=>some (z,(List.range n).map fun i=>(i * ie.size,ie.size))
   | none=>none
 | _,_,_=>none
def fT (places:List (Nat×Nat)):List (Nat×Operand)→Option (List (Nat×Nat×IX))
 | []=>some []
 | (i,x)::r=>match places[i]?,aY x,fT places r with
   | some (off,sz),some ix,some rest=>some ((off,sz,ix)::rest)
   | _,_,_=>none
theorem oV {n:Nat} {env:Env} {a:Act} (hf:Fr A n M L w H env O a) {places:List (Nat×Nat)} {place:Nat→Option (Nat×Nat)} (hp:∀ i q,places[i]?=some q→place i=some q) :
 ∀ (parts:List (Nat×Operand)) (ps:List (Nat×Nat×IX)),fT places parts=some ps→
  ∀ (j:Nat) (p:Nat×Nat×AV),(ps.map fun q=>(q.1,q.2.1,aE env q.2.2))[j]?=some p→∃ i v,(parts.map fun q=>(q.1,a.eval q.2))[j]?=some (i,v)∧place i=some (p.1,p.2.1)∧a7 M L v p.2.2
 | [],ps,h,j,p,hj=>by simp [fT] at h;subst h;simp at hj
 | (i,x)::r,ps,h,j,p,hj=>by
   unfold fT at h
   split at h
   ·rename_i off sz ix rest h1 h2 h3
    cases h
    cases j with
    | zero=>
      simp at hj;subst hj
      exact ⟨i,a.eval x,by simp,hp _ _ h1,hf.eval h2⟩
    | succ j=>
      obtain ⟨i',v',a1,a2⟩:=oV hf hp r rest h3 j p (by simpa using hj)
      exact ⟨i',v',by simpa using a1,a2⟩
   ·cases h
theorem mA {places:List (Nat×Nat)}:∀ (parts:List (Nat×Operand)) (ps:List (Nat×Nat×IX)),fT places parts=some ps→ps.length=parts.length
 | [],ps,h=>by simp [fT] at h;subst h;rfl
 | (i,x)::r,ps,h=>by
   unfold fT at h
   split at h
   ·rename_i off sz ix rest h1 h2 h3
    cases h
    simp [mA r rest h3]
   ·cases h
theorem Fl {n:Nat} {env:Env} {a:Act} (hf:Fr A n M L w H env O a) {t:TypeId} {z:AV} {places:List (Nat×Nat)} (ht:Fk P t=some (z,places)) {parts:Array (Nat×Operand)} {ps:List (Nat×Nat×IX)}
 (hc:fT places parts.toList=some ps) {φ:AV→Prop} (h:cr z.cells (ps.map fun q=>(q.1,q.2.1,aE env q.2.2)) φ) (qx:z.val=true) :
 ∃ r x,(Instr.build t (parts.map fun (i,x)=>(i,a.eval x))).run P w=.ok r w∧a7 M L r x∧φ x∧∀ own xs,x=.al own xs→own=0:=by
 have hparts:(parts.map fun (i,x)=>(i,a.eval x)).toList=parts.toList.map fun q=>(q.1,a.eval q.2):=by simp
 have key:∀ (place:Nat→Option (Nat×Nat)) (v:Value),(∀ i q,places[i]?=some q→place i=some q)→ofValue v=some z→
  ∃ cs' x,Instr.fill place v.cells (parts.toList.map fun q=>(q.1,a.eval q.2))=some cs'∧a7 M L (.agg cs') x∧φ x∧∀ own xs,x=.al own xs→own=0:=by
  intro place v hp hv
  obtain ⟨cs',zs',f1,f2,f3⟩:=zH (M:=M) (L:=L) (place:=place) _ (parts.toList.map fun q=>(q.1,a.eval q.2)) (oV hf hp _ _ hc) (by simp [mA _ _ hc]) ((cQ hv).gU qx) h
  exact ⟨cs',_,f1,by simpa using a7.agg cs'.toList zs' f2,f3,by intro _ _ e;cases e⟩
 unfold Fk at ht
 split at ht
 ·rename_i it fields z' hi hu hz
  split at ht
  ·rename_i pl vU
   cases ht
   unfold fZ at hz
   simp only [hi] at hz
   split at hz
   ·rename_i v hv
    obtain ⟨cs',x,f1,f2,f3,f4⟩:=key (places.toArray[·]?) v (fun i q h=>by simpa using h) hz
    refine ⟨_,x,run_build w t _ cs' ?_,f2,f3,f4⟩
    rw [hparts]
    unfold Program.built
    simp only [hi,hu,hv,vU]
    exact f1
   ·cases hz
  ·cases ht
 ·rename_i it m e z' hi hu hz
  split at ht
  ·rename_i ie KS
   cases ht
   unfold fZ at hz
   simp only [hi] at hz
   split at hz
   ·rename_i v hv
    obtain ⟨cs',x,f1,f2,f3,f4⟩:=key (fun i=>some (i * ie.size,ie.size)) v (fun i q h=>by
     rw [abZ] at h
     obtain ⟨k,hk,rfl⟩:=aal.1 h
     rw [List.getElem?_range (by rcases aeQ i m with h' | h';exact h';rw [abL (by simpa using h')] at hk;cases hk)] at hk
     cases hk;rfl) hz
    refine ⟨_,x,run_build w t _ cs' ?_,f2,f3,f4⟩
    rw [hparts]
    unfold Program.built
    simp only [hi,hu,hv,KS]
    exact f1
   ·cases hz
  ·cases ht
 ·cases ht
theorem CP:∀ (xs:List AV) (e i:Nat) (x:AV),(∀ y∈xs,y.cells.length=e)→x.cells.length=e→i < xs.length→flat (xs.set i x)=ai (flat xs) (i * e) x.cells
 | [],_,_,_,_,_,h=>by simp at h
 | y::ys,e,0,x,hx,hc,_=>by
   have:=hx y (by simp)
   simp [flat,ai,hc,this]
 | y::ys,e,i + 1,x,hx,hc,h=>by
   have hy:=hx y (by simp)
   have ih:=CP ys e i x (fun z hz=>hx z (by simp [hz])) hc (by simpa using h)
   simp only [flat] at ih
   simp only [af1,flat,List.flatMap_cons,ih,ai]
   rw [af9,aax (l:=y.cells) (by rw [hy,abO];omega),aek,af6 (as:=y.cells) (by rw [hy,abO];omega),hy]
   simp only [List.nil_append,abe]
   rw [show (i + 1) * e - e=i * e by rw [abO];omega,show (i + 1) * e + x.cells.length - e=i * e + x.cells.length by rw [abO];omega]
theorem cR:∀ (xs:List AV) (e:Nat),(∀ y∈xs,y.cells.length=e)→(flat xs).length=xs.length * e
 | [],e,_=>by simp [flat]
 | y::ys,e,hx=>by
   have hy:=hx y (by simp)
   have ih:=cR ys e (fun z hz=>hx z (by simp [hz]))
   simp only [flat] at ih
   simp only [flat,List.flatMap_cons,aaj,hy,ih,List.length_cons,abO,Nat.one_mul]
   omega
theorem CQ {place:Nat→Option (Nat×Nat)} {i off:Nat} {v:Value} {vs:List (Nat×Value)} {cs:Array Value} (hp:place i=some (off,v.cells.size)) (hle:off + v.cells.size≤cs.size) :
 Instr.fill place cs ((i,v)::vs)=Instr.fill place (ai cs.toList off v.cells.toList).toArray vs:=by
 have h0:=wO v.cells.toList off 0 cs (by simpa using hle)
 have h1:v.cells.zipIdx.foldl (fun cs (x:Value×Nat)=>cs.setIfInBounds (off + x.2) x.1) cs=(v.cells.toList.zipIdx 0).foldl (fun cs (x:Value×Nat)=>cs.setIfInBounds (off + x.2) x.1) cs:=by
  rw [← ago,Array.toList_zipIdx]
 rw [← h1] at h0
 conv=>lhs;unfold Instr.fill
 simp only [hp,ne_eq,not_true_eq_false,decide_false,Bool.false_or]
 rw [if_neg (by simp;omega)]
 congr 1
 apply Array.ext'
 simpa using h0
theorem oW (e:Nat):∀ (parts:List (Nat×AV)) (vs:List (Nat×Value)) {cs:Array Value} {xs:List AV} {φ:List AV→Prop},
 (∀ (j:Nat) (p:Nat×AV),parts[j]?=some p→∃ v,vs[j]?=some (p.1,v)∧a7 M L v p.2)→vs.length=parts.length→aP M L cs.toList (flat xs)→(∀ y∈xs,y.cells.length=e)→bi xs e parts φ→
 ∃ cs' xs',Instr.fill (fun i=>some (i * e,e)) cs vs=some cs'∧aP M L cs'.toList (flat xs')∧(∀ y∈xs',y.cells.length=e)∧xs'.length=xs.length∧φ xs'
 | [],[],cs,xs,φ,_,_,hr,hx,h=>⟨cs,xs,rfl,hr,hx,rfl,h⟩
 | [],_::_,_,_,_,_,hl,_,_,_=>by simp at hl
 | _::_,[],_,_,_,_,hl,_,_,_=>by simp at hl
 | (i,x)::r,(i',v)::vs,cs,xs,φ,H,hl,hr,hx,h=>by
   obtain ⟨hv,dd,hi,h⟩:=h
   obtain ⟨v',e1,e3⟩:=H 0 _ rfl
   simp at e1
   obtain ⟨rfl,rfl⟩:=e1
   have hc:=(e3.a9).gU (tG hv)
   have jY:v.cells.size=e:=by have:=hc.length;simp at this;rw [this,fI];exact dd
   have hlen:=hr.length
   rw [cR xs e hx] at hlen
   simp only [afW] at hlen
   have hle:i' * e + v.cells.size≤cs.size:=by
    rw [jY,hlen]
    calc i' * e + e=(i' + 1) * e:=by rw [abO];omega
     _≤xs.length * e:=acu _ hi
   rw [CQ (place:=fun i=>some (i * e,e)) (by rw [jY]) hle]
   have rN:∀ y∈xs.set i' (a9 x),y.cells.length=e:=by
    intro y hy
    rcases ab6 hy with h' | rfl
    ·exact hx y h'
    ·rw [fI];exact dd
   have oE:aP M L (ai cs.toList (i' * e) v.cells.toList).toArray.toList (flat (xs.set i' (a9 x))):=by
    rw [CP xs e i' _ hx (by rw [fI];exact dd) hi]
    exact hc.AZ _ hr
   obtain ⟨cs',xs',f1,f2,f3,f4,f5⟩:=oW e r vs (fun j p hp=>by
    obtain ⟨v,a1,a2⟩:=H (j + 1) p (by simpa using hp)
    exact ⟨v,by simpa using a1,a2⟩) (by simpa using hl) oE rN h
   exact ⟨cs',xs',f1,f2,f3,by simpa using f4,f5⟩
def kO:List (Nat×Operand)→Option (List (Nat×IX))
 | []=>some []
 | (i,x)::r=>match aY x,kO r with
   | some ix,some rest=>some ((i,ix)::rest)
   | _,_=>none
theorem ow {n:Nat} {env:Env} {a:Act} (hf:Fr A n M L w H env O a) :
 ∀ (parts:List (Nat×Operand)) (ps:List (Nat×IX)),kO parts=some ps→
  (∀ (j:Nat) (p:Nat×AV),(ps.map fun q=>(q.1,aE env q.2))[j]?=some p→∃ v,(parts.map fun q=>(q.1,a.eval q.2))[j]?=some (p.1,v)∧a7 M L v p.2)∧ps.length=parts.length
 | [],ps,h=>by simp [kO] at h;subst h;simp
 | (i,x)::r,ps,h=>by
   unfold kO at h
   split at h
   ·rename_i ix rest h2 h3
    cases h
    obtain ⟨i1,i2⟩:=ow hf r rest h3
    refine ⟨fun j p hj=>?_,by simp [i2]⟩
    cases j with
    | zero=>
      simp at hj;subst hj
      exact ⟨a.eval x,by simp,hf.eval h2⟩
    | succ j=>
      obtain ⟨v',a1,a2⟩:=i1 j p (by simpa using hj)
      exact ⟨v',by simpa using a1,a2⟩
   ·cases h
theorem kP (z:Array Value) (e len:Nat) (hz:z.size=e) (he:0 < e) (x:AV) (hr:aP M L z.toList x.cells) :
 aP M L (((Array.range (len * e)).map (z[· % z.size]!)).toList) (flat (List.replicate len x)):=by
 have E4:x.cells.length=e:=by rw [← hr.length];simpa using hz
 have fU:∀ y∈List.replicate len x,y.cells.length=e:=fun y hy=>by rw [abX hy];exact E4
 apply aP.AW
 ·rw [cR _ e fU];simp
 ·intro j y hj
  have lA:j < len * e:=by have:=aS hj;rw [cR _ e fU] at this;simpa using this
  have hq:j / e < len:=Nat.div_lt_of_lt_mul (by rw [Nat.mul_comm];exact lA)
  have hm:j % e < e:=Nat.mod_lt _ he
  have h1:=flat_get (List.replicate len x) e fU (j / e) (j % e) x (by simp [hq]) hm
  rw [show j / e * e + j % e=j from Nat.div_add_mod' j e] at h1
  rw [h1] at hj
  obtain ⟨v,hv,gr⟩:=hr.get _ _ hj
  refine ⟨v,?_,gr⟩
  have gW:j % e < z.size:=by omega
  simp only [Array.toList_map,Array.toList_range,abZ,List.getElem?_range lA,Option.map_some,hz]
  simp only [ad8] at hv
  simp [getElem!_pos,gW,aeb gW] at hv ⊢
  exact hv
theorem vB (hs:St A M L w H ev ea O) {t e:TypeId} (ht:P.underlying t=some (.slice e)) {esz:Nat} (he:ey P e=some esz) (h0:0 < esz) {z:AV} (hz:fZ P e=some z) (gW:z.cells.length=esz) (qx:z.val=true) (own:Nat)
 {len:Nat} (hlen:len * esz≤16777216) {parts:List (Nat×AV)} {vs:Array (Nat×Value)} (hp:∀ (j:Nat) (p:Nat×AV),parts[j]?=some p→∃ v,vs.toList[j]?=some (p.1,v)∧a7 M L v p.2) (hl:vs.toList.length=parts.length)
 {φ:List AV→Prop} (h:bi (List.replicate len (a9 z)) esz parts φ) :
 ∃ m xs M' w' ad,(Instr.buildSlice t len vs).run P w=.ok (.slice ad m m) w'∧a7 M' L (.slice ad m m) (.al own xs)∧(∀ y∈xs,y.cells.length=esz)∧φ xs∧St A M' L w' H ev ea O∧Ext A M w M' w':=by
 unfold fZ at hz
 obtain ⟨ie,KS,dd⟩:=aal.1 he
 simp only [KS] at hz
 split at hz
 ·rename_i zv tH
  have CR:=(cQ (M:=M) (L:=L) hz).a9.gU (tG qx)
  have vV:zv.cells.size=esz:=by have:=CR.length;rw [fI,gW] at this;simpa using this
  obtain ⟨cs',xs',f1,f2,f3,f4,f5⟩:=oW (M:=M) (L:=L) esz parts vs.toList hp hl (kP zv.cells esz len vV h0 (a9 z) CR) (fun y hy=>by rw [abX hy,fI];exact gW) h
  simp only [ach] at f4
  obtain ⟨g1,g2,g3⟩:=hs.Fc cs' e
  have bK:(Instr.buildSlice t len vs).run P w=.ok (.slice (some ⟨w.heap.size,0,none⟩) len len) { w with heap:=w.heap.push (.cells cs' e) }:=by
   by_cases nC:len * ie.size=0
   ·have A6:len=0:=by
     rcases Nat.mul_eq_zero.1 nC with h' | h'
     ·exact h'
     ·omega
    subst A6
    have Kt:cs'=#[]:=by
     have:=f2.length
     rw [cR _ esz f3,f4] at this
     simp at this
     exact this
    have Wk:vs.toList=[]:=by
     cases wP:vs.toList with
     | nil=>rfl
     | cons q r=>
       rw [wP] at hl
       cases parts with
       | nil=>simp at hl
       | cons p ps=>obtain ⟨_,_,h3,_⟩:=h;simp at h3
    subst Kt
    have hf:Instr.fill (fun i=>some (i * ie.size,ie.size)) #[] vs.toList=some #[]:=by rw [Wk];rfl
    simp [Instr.buildSlice,run_underlying ht,sizeOf,typeInfo,KS,newRow,Wk,Instr.fill]
    congr 2
    apply Array.ext'
    simp
   ·rw [run_buildSlice w t e len vs cs' ie zv ht KS tH (by rw [dd];omega) nC (by rw [dd];exact f1)]
    rfl
  refine ⟨len,xs',_,_,_,bK,?_,f3,f5,g1,g2⟩
  by_cases A6:len=0
  ·subst A6
   have:xs'=[]:=adJ f4
   subst this
   exact .iN _ _ _ (by decide)
  ·have:=a7.al (M:=M.add w.heap.size cs'.toList) (L:=L) w.heap.size 0 len own esz cs'.toList xs' h0 f3 (by omega) (by omega) (by
    have:len≤len * esz:=ab5 _ h0
    omega) (f2.mono g2.oD (aaD _)) g3
   rw [f4] at this
   exact this
 ·cases hz
end
end Go.aI
end
section
namespace Go.aI
open Go
def kQ (m:Nat) (p x:AV) (H:List aa) (K:List aa→Prop):Prop:=
 match p with
 | .ptr id off=>match H[id]? with
   | some (.cells es)=>x.val=true∧x.cells.length=m∧off + m≤es.length∧x.cells.all AV.one=true∧aw (id + 1) (x.cells.map AV.ab)=true∧
      K (H.set id (.cells (ai es off (x.cells.map AV.ab))))
   | _=>False
 | _=>False
theorem bw {n:Nat} {xs ys:List AV}:aw n (xs++ys)=true↔aw n xs=true∧aw n ys=true:=by
 simp only [bg,abF]
 constructor
 ·intro h;exact ⟨fun x hx=>h x (.inl hx),fun x hx=>h x (.inr hx)⟩
 ·rintro ⟨h1,h2⟩ x (hx | hx)
  ·exact h1 x hx
  ·exact h2 x hx
theorem uL {n m:Nat} {xs:List AV} (h:aw n xs=true):aw n (xs.take m)=true:=by
 rw [bg] at *;exact fun x hx=>h x (acs hx)
theorem uM {n m:Nat} {xs:List AV} (h:aw n xs=true):aw n (xs.drop m)=true:=by
 rw [bg] at *;exact fun x hx=>h x (afE hx)
theorem fJ {α:Type} (zs:List α) (off:Nat) (xs:List α) (h:off + xs.length≤zs.length) (j:Nat) :
 (ai zs off xs)[j]?=if off≤j∧j < off + xs.length then xs[j - off]? else zs[j]?:=by
 unfold ai
 simp only [afC,abS,aaG,aeC]
 by_cases h1:j < off
 ·rw [if_pos (by omega),if_pos h1,if_neg (by omega)]
 ·rw [if_neg (by omega),show j - min off zs.length=j - off by omega]
  by_cases h2:j < off + xs.length
  ·rw [if_pos (by omega),if_pos ⟨by omega,h2⟩]
  ·rw [if_neg (by omega),if_neg (by omega)]
   congr 1;omega
section
variable {P:Program} {w:World} {M:Mem} {L:List Nat} {H:List aa} {A:Perm} {ev:Nat→Value} {ea:Nat→AV} {O:Pos→Option Nat}
theorem wF.sub {O O':Pos→Option Nat} (SC:∀ p q b,O p=some b→O q=some b→p=q) (h:∀ p b,O' p=some b→O p=some b):wF O O':=
 ⟨fun p q b hp hq=>SC p q b (h p b hp) (h q b hq),fun p b hp=>⟨p,h p b hp⟩⟩
theorem zJ (hs:St A M L w H ev ea O) {t:TypeId} {m:Nat} (ht:ey P t=some m) {v:Value} {x:AV} {id off b:Nat} {es:List AV} (hl:L[id]?=some b) (bF:H[id]?=some (.cells es)) (hv:a7 M L v x)
 (nD:x.val=true) (hlen:x.cells.length=m) (hle:off + m≤es.length) (lT:x.cells.all AV.one=true) (nj:aw (A.jk H.length id) (x.cells.map AV.ab)=true) :
 ∃ w' O',(Instr.storeAt t (.pointer (some ⟨b,off,none⟩)) v).run P w=.ok () w'∧St A M L w' (H.set id (.cells (ai es off (x.cells.map AV.ab)))) ev ea O'∧Ext A M w M w':=by
 obtain ⟨cs,e,h1,h2,h3⟩:=hs.obj id _ b bF hl
 have Ow:=hv.gU nD
 have rO:=Ow.length
 have jY:=h2.length
 obtain ⟨i,hi,KT⟩:=aal.1 ht
 have dd:(sizeOf t).run P w=.ok m w:=by simp [sizeOf,typeInfo,hi,KT]
 have bT:=run_storeCells_at P b off e v.cells.toList 0 cs w h1 (by simp at jY ⊢;simp at rO;omega) (Ow.iO lT)
 have bK:(Instr.storeAt t (.pointer (some ⟨b,off,none⟩)) v).run P w=.ok () (w.setRow b (ai cs.toList off v.cells.toList).toArray):=by
  simp only [Instr.storeAt,Instr.sureAddr,storeVar,Sem.run_bind,Sem.run_pure,Result.andThen_ok,dd,ne_eq]
  rw [if_neg (by simp at rO;omega)]
  simpa [ai] using bT
 let O':Pos→Option Nat:=fun q=>match q with
  | .t t=>O (.t t)
  | .c id' j=>if id'=id∧off≤j∧j < off + m then none else O (.c id' j)
 have hO:∀ q b,O' q=some b→O q=some b:=by
  intro q b hq
  cases q with
  | t t=>exact hq
  | c id' j=>
    simp only [O'] at hq
    split at hq
    ·cases hq
    ·exact hq
 have Hl:off + (x.cells.map AV.ab).length≤es.length:=by simp;omega
 have hsv:off + v.cells.toList.length≤cs.toList.length:=by omega
 obtain ⟨g1,g2⟩:=hs.write (cs':=(ai cs.toList off v.cells.toList).toArray) (es':=ai es off (x.cells.map AV.ab)) (O':=O') bF hl h1
  (by simpa using Ow.dm.AZ off h2)
  (by
    have bT:=hs.bJ id _ bF
    simp only [aa.bc] at bT
    unfold ai
    exact bw.2 ⟨uL bT,bw.2 ⟨nj,uM bT⟩⟩)
  (wF.sub hs.cU hO) hs.env hs.jX (by
  intro j
  have e1:((ai cs.toList off v.cells.toList).toArray)[j]?=(ai cs.toList off v.cells.toList)[j]?:=by simp
  rw [e1,fJ _ _ _ hsv,th,fJ _ _ _ Hl]
  simp only [acz]
  have e2:v.cells.toList.length=x.cells.length:=rO
  rw [e2,hlen]
  by_cases hj:off≤j∧j < off + m
  ·simp only [hj,and_self,if_true]
   have:O' (.c id j)=none:=by simp [O',hj]
   rw [this]
   refine bm.free ?_
   intro own xs hh
   rw [abZ] at hh
   cases hx:x.cells[j - off]? with
   | none=>simp [hx] at hh
   | some y=>simp [hx] at hh;exact AV.bR y own xs hh
  ·simp only [hj,if_false]
   have:O' (.c id j)=O (.c id j):=by simp only [O'];rw [if_neg (by intro h';exact hj h'.2)]
   rw [this]
   have h0:=hs.jD id j
   have e3:bW L w id j=(cs.toList[j]?).getD undef:=by
    unfold bW;simp [hl,World.cell?,h1]
   have e4:bB H id j=(es[j]?).getD .any:=by
    unfold bB;simp [bF,th]
   rw [e3,e4] at h0
   exact h0)
  (by intro id' j dP;simp [O',dP])
 exact ⟨_,_,bK,g1,g2⟩
theorem Fp (hs:St A M L w H ev ea O) {t:TypeId} {m:Nat} (ht:ey P t=some m) {u v:Value} {p x:AV} {K:List aa→Prop} (h:kQ m p x H K) (hu:a7 M L u p) (hv:a7 M L v x) :
 ∃ w' H' O',(Instr.storeAt t u v).run P w=.ok () w'∧K H'∧St A M L w' H' ev ea O'∧Ext A M w M w':=by
 unfold kQ at h
 split at h <;> try exact h.elim
 rename_i id off
 cases hu with
 | ptr b _ _ hl=>
 split at h <;> try exact h.elim
 rename_i es bF
 obtain ⟨nD,hlen,hle,lT,nj,hK⟩:=h
 obtain ⟨w',O',h1,h2,h3⟩:=zJ hs ht hl bF hv nD hlen hle lT (bI (A.lS (aS bF)) _ nj)
 exact ⟨w',_,O',h1,hK,h2,h3⟩
def iU (lo m:Nat) (p x:AV) (H:List aa) (K:List aa→Prop):Prop:=
 match p with
 | .ptr id off=>match H[id]? with
   | some (.cells es)=>lo≤id∧x.val=true∧x.cells.length=m∧off + m≤es.length∧x.cells.all AV.one=true∧aw H.length (x.cells.map AV.ab)=true∧
      K (H.set id (.cells (ai es off (x.cells.map AV.ab))))
   | _=>False
 | _=>False
theorem CU (hs:St A M L w H ev ea O) {t:TypeId} {m lo:Nat} (tn:∀ id,lo≤id→A.top id=none) (ht:ey P t=some m) {u v:Value} {p x:AV} {K:List aa→Prop} (h:iU lo m p x H K) (hu:a7 M L u p) (hv:a7 M L v x) :
 ∃ w' H' O',(Instr.storeAt t u v).run P w=.ok () w'∧K H'∧St A M L w' H' ev ea O'∧Ext A M w M w':=by
 unfold iU at h
 split at h <;> try exact h.elim
 rename_i id off
 cases hu with
 | ptr b _ _ hl=>
 split at h <;> try exact h.elim
 rename_i es bF
 obtain ⟨hi,nD,hlen,hle,lT,nj,hK⟩:=h
 have e:A.jk H.length id=H.length:=by unfold Perm.jk;rw [tn id hi]
 obtain ⟨w',O',h1,h2,h3⟩:=zJ hs ht hl bF hv nD hlen hle lT (by rw [e];exact nj)
 exact ⟨w',_,O',h1,hK,h2,h3⟩
theorem St.IT (hs:St A M L w H ev ea O) {id b off:Nat} {es:List AV} (bF:H[id]?=some (.cells es)) (hl:L[id]?=some b) (qn:off < es.length) :
 St A M L w (H.set id (.cells (es.set off (es.getD off .any).ab))) ev ea (eV O (.c id off) none):=by
 obtain ⟨cs,e,h1,h2,h3⟩:=hs.obj id _ b bF hl
 have jY:=h2.length
 have hO:∀ q b,eV O (.c id off) none q=some b→O q=some b:=by
  intro q b hq
  simp only [eV] at hq
  split at hq
  ·cases hq
  ·exact hq
 have hgetD:es.getD off .any=es[off]:=by rw [th,Hj qn];rfl
 have gr:aP M L cs.toList (es.set off (es.getD off .any).ab):=by
  have hg:=(h2.getD off).ab
  have:=h2.set hg off
  have zK:off < cs.toList.length:=by omega
  have e0:cs.toList.set off (cs.toList.getD off undef)=cs.toList:=by
   rw [th,Hj zK]
   exact List.set_getElem_self zK
  rwa [e0] at this
 obtain ⟨g1,g2⟩:=hs.write (cs':=cs) (es':=es.set off (es.getD off .any).ab) (O':=eV O (.c id off) none) bF hl h1 gr (by
  have bT:=hs.bJ id _ bF
  simp only [aa.bc] at bT
  rw [bg] at bT ⊢
  intro y hy
  rcases ab6 hy with h' | rfl
  ·exact bT y h'
  ·have hb:=bT es[off] (acA qn)
   rw [hgetD]
   revert hb
   cases es[off] <;> simp [AV.ab,AV.bc]) (wF.sub hs.cU hO) hs.env (fun t=>by simpa [eV] using hs.jX t) (fun j=>by
  by_cases hj:j=off
  ·subst hj
   have e1:(es.set j (es.getD j .any).ab).getD j .any=(es.getD j .any).ab:=by
    rw [th,Sx qn];rfl
   rw [e1]
   simp only [eV,if_true]
   exact bm.free (AV.bR _)
  ·have e1:(es.set off (es.getD off .any).ab).getD j .any=es.getD j .any:=by
    rw [th,zA (fun e=>hj e.symm),th]
   rw [e1]
   have h0:=hs.jD id j
   have e3:bW L w id j=(cs[j]?).getD undef:=by unfold bW;simp [hl,World.cell?,h1]
   have e4:bB H id j=es.getD j .any:=by unfold bB;simp [bF]
   rw [e3,e4] at h0
   simpa [eV,hj] using h0) (fun id' j dP=>by simp [eV,dP])
 rwa [setRow_self w b cs e (0,0) h1] at g1
def fK (p x:AV) (H:List aa) (K:List aa→Prop):Prop:=
 match p with
 | .ptr id off=>match H[id]? with
   | some (.cells es)=>off < es.length∧x.one=true∧x.bc (id + 1)=true∧K (H.set id (.cells (es.set off x)))
   | _=>False
 | _=>False
theorem A7 (hs:St A M L w H ev ea O) {t:TypeId} (ht:ey P t=some 1) {u v:Value} {p x:AV} {K:List aa→Prop} (h:fK p x H K) (hu:a7 M L u p) (s:Nat) (Wl:ev s=v) (hea:ea s=x) :
 ∃ w' H' O',(Instr.storeAt t u v).run P w=.ok () w'∧K H'∧St A M L w' H' ev (gR ea s x.ab) O'∧Ext A M w M w':=by
 unfold fK at h
 split at h <;> try exact h.elim
 rename_i id off
 cases hu with
 | ptr b _ _ hl=>
 split at h <;> try exact h.elim
 rename_i es bF
 obtain ⟨qn,lT,nj,hK⟩:=h
 obtain ⟨cs,e,h1,h2,h3⟩:=hs.obj id _ b bF hl
 have hv:a7 M L v x:=by have:=hs.env s;rwa [Wl,hea] at this
 have jY:=h2.length
 have hv1:v.oneCell'=true:=hv.iO lT
 have Ow:v.cells=#[v]:=by cases v <;> first | rfl | simp [Value.oneCell'] at hv1
 obtain ⟨i,hi,KT⟩:=aal.1 ht
 have dd:(sizeOf t).run P w=.ok 1 w:=by simp [sizeOf,typeInfo,hi,KT]
 have zK:off < cs.toList.length:=by omega
 have bT:=run_storeCells_at P b off e [v] 0 cs w h1 (by simp at zK ⊢;omega) (by simpa using hv1)
 have iJ:cs.toList.take off++[v]++cs.toList.drop (off + 1)=cs.toList.set off v:=by
  rw [af7,if_pos zK];simp
 have bK:(Instr.storeAt t (.pointer (some ⟨b,off,none⟩)) v).run P w=.ok () (w.setRow b (cs.toList.set off v).toArray):=by
  simp only [Instr.storeAt,Instr.sureAddr,storeVar,Sem.run_bind,Sem.run_pure,Result.andThen_ok,dd,ne_eq,Ow]
  rw [if_neg (by simp)]
  rw [← iJ]
  simpa using bT
 -- the slot forgets, the cell takes over
 have oX:=hs.oQ s (v:=v) (x:=x.ab) hv.ab (AV.bR x)
 have SE:gR ev s v=ev:=by funext t';simp only [gR];split;rename_i e0;rw [e0,Wl];rfl
 rw [SE] at oX
 let O':Pos→Option Nat:=fun q=>if q=.c id off then O (.t s) else eV O (.t s) none q
 have SC:wF O O':=by
  refine ⟨fun q r b hq hr=>?_,fun q b hq=>?_⟩
  ·simp only [O',eV] at hq hr
   split at hq <;> split at hr
   ·simp_all
   ·split at hr
    ·cases hr
    ·rename_i n1 n2;exact absurd (hs.cU _ _ b hr hq) n2
   ·split at hq
    ·cases hq
    ·rename_i n1 n2;exact absurd (hs.cU _ _ b hq hr) (by assumption)
   ·split at hq
    ·cases hq
    ·split at hr
     ·cases hr
     ·exact hs.cU _ _ b hq hr
  ·simp only [O',eV] at hq
   split at hq
   ·exact ⟨_,hq⟩
   ·split at hq
    ·cases hq
    ·exact ⟨_,hq⟩
 obtain ⟨g1,g2⟩:=St.write (h:=hs) (cs':=(cs.toList.set off v).toArray) (es':=es.set off x) (ea':=gR ea s x.ab) (O':=O') bF hl h1 (by simpa using h2.set hv off) (by
  have bT:=hs.bJ id _ bF
  simp only [aa.bc] at bT
  rw [bg] at bT ⊢
  intro y hy
  rcases ab6 hy with h' | rfl
  ·exact bT y h'
  ·exact AV.cH (A.lS (aS bF)) _ nj) SC oX.env (fun t'=>by simpa [O',eV] using oX.jX t') (fun j=>by
  by_cases hj:j=off
  ·subst hj
   have e1:((cs.toList.set j v).toArray)[j]?=some v:=by rw [List.getElem?_toArray,Sx zK]
   have e2:(es.set j x).getD j .any=x:=by rw [th,Sx qn];rfl
   rw [e1,e2]
   have:=hs.jX s
   rw [Wl,hea] at this
   simpa [O'] using this
  ·have e1:((cs.toList.set off v).toArray)[j]?=cs[j]?:=by
    simp [zA (fun e=>hj e.symm)]
   have e2:(es.set off x).getD j .any=es.getD j .any:=by rw [th,zA (fun e=>hj e.symm),th]
   rw [e1,e2]
   have h0:=hs.jD id j
   have e3:bW L w id j=(cs[j]?).getD undef:=by unfold bW;simp [hl,World.cell?,h1]
   have e4:bB H id j=es.getD j .any:=by unfold bB;simp [bF]
   rw [e3,e4] at h0
   simpa [O',eV,hj] using h0) (fun id' j dP=>by simp [O',eV,dP])
 exact ⟨_,_,_,bK,hK,g1,g2⟩
theorem lF (P:Program) (g o:Nat) (t:TypeId) (fr:Nat×Nat):∀ (vs:List Value) (i:Nat) (cur:Array Value) (w:World),w.heap[g]?=some (.cells cur t fr)→Oo fr cur.size→o + i + vs.length≤cur.size→(∀ v∈vs,v.oneCell'=true)→
 (storeCells ⟨g,o,none⟩ vs i).run P w=.ok () (w.setRow g (ai cur.toList (o + i) vs).toArray)
 | [],i,cur,w,hg,_,_,_=>by
   simp only [storeCells,ai,List.length_nil,af0,List.nil_append,aff,age]
   rw [setRow_self w g cur t fr hg]
   rfl
 | v::rest,i,cur,w,hg,hf,hl,h1=>by
   have hi:o + i < cur.size:=by simp at hl;omega
   have ab9:(⟨g,o,none⟩:Addr).add i=⟨g,o + i,none⟩:=Addr.add_lit _ _ _
   have hcell:w.cell? ⟨g,o + i,none⟩=some cur[o + i]:=by simp [World.cell?,hg,hi]
   have aca:w.frozen? ⟨g,o + i,none⟩=false:=by
    have:=hf (o + i) hi
    simp only [World.frozen?,hg]
    cases h:(decide (fr.1≤o + i) && decide (o + i < fr.2)) with
    | false=>rfl
    | true=>simp at h;exact absurd h this
   have bT:(store ((⟨g,o,none⟩:Addr).add i) v).run P w=.ok () (w.setRow g (cur.setIfInBounds (o + i) v)):=by
    rw [ab9,run_store P w _ v _ (h1 v (by simp)),hcell]
    simp [aca,setCell_eq_setRow w g (o + i) cur t fr v hg]
   have ih:=lF P g o t fr rest (i + 1) (cur.setIfInBounds (o + i) v) (w.setRow g (cur.setIfInBounds (o + i) v)) (setRow_heap w g cur _ t _ hg) (by simpa using hf) (by simp at hl ⊢;omega) (fun x hx=>h1 x (by simp [hx]))
   simp only [storeCells,Sem.run_bind,bT,Result.andThen_ok,ih,setRow_setRow]
   congr 3
   apply abT
   intro j
   rw [fJ _ _ _ (by simp at hl ⊢;omega),fJ _ _ _ (by simpa using hl)]
   simp only [Array.toList_setIfInBounds,List.length_cons]
   by_cases h2:j=o + i
   ·subst h2
    rw [if_neg (by omega),if_pos (by omega),Sx (by simpa using hi)]
    simp
   ·by_cases h3:o + i < j∧j < o + i + (rest.length + 1)
    ·rw [if_pos (by omega),if_pos (by omega),show j - (o + i)=(j - (o + (i + 1))) + 1 by omega]
     simp
    ·rw [if_neg (by omega),if_neg (by omega),zA (by omega)]
theorem gX {t ty e e':TypeId} {i:TypeInfo} (ht:P.underlying t=some (.slice e)) (hi:P.info? e=some i) (w:World)
 (g o sLen sCap:Nat) (cur:Array Value) (fr:Nat×Nat) (hg:w.heap[g]?=some (.cells cur e' fr)) (E5:Oo fr cur.size)
 (a:Addr) (m c:Nat) (news:List Value) (hl:news.length=m * i.size) (hnews:∀ j u,news[j]?=some u→w.cell? (a.add j)=some u) (h1:∀ u∈news,u.oneCell'=true)
 (hroom:sLen + m≤sCap) (vC:o + sLen * i.size + news.length≤cur.size) :
 (Builtin.append_ #[t,t] ty #[.slice (some ⟨g,o,none⟩) sLen sCap,.slice (some a) m c]).run P w =
   .ok (.slice (some ⟨g,o,none⟩) (sLen + m) sCap) (w.setRow g (ai cur.toList (o + sLen * i.size) news).toArray):=by
 have hf:=run_firstCells_some (P:=P) w i.size m a m c news hl hnews
 have bT:=lF P g (o + sLen * i.size) e' fr news 0 cur w hg E5 (by simpa using vC) h1
 simp only [af0] at bT
 simp [Builtin.append_,run_underlying ht,sizeOf,typeInfo,hi,Builtin.lenOf,hroom,hf,Addr.add_lit,bT]
theorem dJ {t ty e:TypeId} {i:TypeInfo} (ht:P.underlying t=some (.slice e)) (hi:P.info? e=some i) (w:World) (b:Option Addr) (n c:Nat) (Ra:n≤c) (b':Option Addr) (c':Nat) :
 (Builtin.append_ #[t,t] ty #[.slice b n c,.slice b' 0 c']).run P w=.ok (.slice b n c) w:=by
 have hf:(Builtin.firstCells i.size 0 (.slice b' 0 c')).run P w=.ok #[] w:=by
  cases b' with
  | none=>exact run_firstCells_none w _ _ _ _
  | some a=>exact run_firstCells_some w i.size 0 a 0 c' [] (by simp) (by simp)
 cases b with
 | none=>simp [Builtin.append_,run_underlying ht,sizeOf,typeInfo,hi,Builtin.lenOf,Ra,hf]
 | some a=>simp [Builtin.append_,run_underlying ht,sizeOf,typeInfo,hi,Builtin.lenOf,Ra,hf,storeCells]
def oY (esz:Nat):AV→Option (List AV)
 | .ag=>some []
 | .al own xs=>if own=esz then some xs else none
 | _=>none
def dK:AV→Option (List AV)
 | .ag=>some []
 | .al _ xs=>some xs
 | _=>none
def qR (esz:Nat) (ys:List AV):Prop:=∀ y∈ys,y.cells.length=esz∧y.cells.all AV.one=true
def Mem.mB (M:Mem) (b off:Nat) (cs:List Value):Mem:=fun b' o=>if b'=b∧off≤o∧o < off + cs.length then cs[o - off]? else M b' o
theorem St.inPlace (hs:St A M L w H ev ea O) {p:Pos} {b:Nat} (hp:O p=some b) {cur:Array Value} {e:TypeId} {fr:Nat×Nat} (hg:w.heap[b]?=some (.cells cur e fr)) {off:Nat} {news:List Value}
 (vC:off + news.length≤cur.size) (hnone:∀ k,k < news.length→M b (off + k)=none)
 {ea':Nat→AV} (Fe:∀ t,a7 M L (ev t) (ea' t)) (acb:∀ t,bm M w (ev t) (ea' t) (eV O p none (.t t))) (acd:∀ id j,bm M w (bW L w id j) (bB H id j) (eV O p none (.c id j))) :
 St A (M.mB b off news) L (w.setRow b (ai cur.toList off news).toArray) H ev ea' (eV O p none)∧Ext A M w (M.mB b off news) (w.setRow b (ai cur.toList off news).toArray)∧(M.mB b off news).row b off news:=by
 have zD:b∉L:=hs.cZ p b hp
 have dd:(w.setRow b (ai cur.toList off news).toArray).heap.size=w.heap.size:=by simp [World.setRow]
 have gT:∀ k,k≠b→(w.setRow b (ai cur.toList off news).toArray).heap[k]?=w.heap[k]?:=fun k hk=>setRow_other w b k _ hk
 have oE:=setRow_heap w b cur (ai cur.toList off news).toArray e fr hg
 have gS:M.sub (M.mB b off news):=by
  intro b' o v hv
  unfold Mem.mB
  split
  ·rename_i h
   obtain ⟨rfl,h1,h2⟩:=h
   have:=hnone (o - off) (by omega)
   rw [show off + (o - off)=o by omega,hv] at this
   cases this
  ·exact hv
 have Wm:∀ k,k≠b→∀ o,(M.mB b off news) k o=M k o:=by
  intro k hk o
  unfold Mem.mB
  rw [if_neg (fun h=>hk h.1)]
 have vD:∀ q k,eV O p none q=some k→k≠b:=by
  intro q k hq hk
  subst hk
  simp only [eV] at hq
  split at hq
  ·cases hq
  ·rename_i n;exact n (hs.cU _ _ _ hq hp)
 have hO:∀ q k,eV O p none q=some k→O q=some k:=by
  intro q k hq
  simp only [eV] at hq
  split at hq
  ·cases hq
  ·exact hq
 have Fq:off + news.length≤cur.toList.length:=by simpa using vC
 refine ⟨{ len:=hs.len,nodup:=hs.nodup,env:=fun t=>(Fe t).mono gS (aaD _),mem:=?_,obj:=?_,bJ:=hs.bJ,lt:=?_,jX:=?_,jD:=?_,cU:=fun q r k hq hr=>hs.cU q r k (hO q k hq) (hO r k hr),cZ:=fun q k hq=>hs.cZ q k (hO q k hq),iA:=?_,La:=hs.La,Oa:=fun q k hq=>hs.Oa q k (hO q k hq),fresh:=?_ },?_,?_⟩
 ·intro b' o v hv
  by_cases hb:b'=b
  ·subst hb
   simp only [World.cell?,oE]
   have e1:((ai cur.toList off news).toArray)[o]?=(ai cur.toList off news)[o]?:=by simp
   simp only [aeF,abI,if_false]
   rw [e1,fJ _ _ _ Fq]
   unfold Mem.mB at hv
   split at hv
   ·rename_i h;rw [if_pos h.2];exact hv
   ·rename_i h
    rw [if_neg (fun h'=>h ⟨rfl,h'⟩)]
    have:=hs.mem _ o v hv
    simpa [World.cell?,hg] using this
  ·rw [Wm b' hb o] at hv
   have:=hs.mem b' o v hv
   simp only [World.cell?] at this ⊢
   rw [gT b' hb];exact this
 ·intro id o k ho hk
  have E3:k≠b:=by rintro rfl;exact zD (abB hk)
  exact (hs.obj id o k ho hk).mono gS (aaD _) (gT k E3) (Wm k E3)
 ·intro k hk;rw [dd];exact hs.lt k hk
 ·intro t
  exact (acb t).mono fun k hk=>⟨gT k (vD _ k hk),Wm k (vD _ k hk)⟩
 ·intro id j
  have e1:bW L (w.setRow b (ai cur.toList off news).toArray) id j=bW L w id j:=by
   unfold bW
   split
   ·rename_i k hk
    have E3:k≠b:=by rintro rfl;exact zD (abB hk)
    simp only [World.cell?]
    rw [gT k E3]
   ·rfl
  rw [e1]
  exact (acd id j).mono fun k hk=>⟨gT k (vD _ k hk),Wm k (vD _ k hk)⟩
 ·intro q k hq;rw [dd];exact hs.iA q k (hO q k hq)
 ·intro k hk;rw [dd] at hk;exact hs.fresh k hk
 ·exact ⟨gS,by rw [dd];exact zy _,rfl,rfl,rfl,fun k hk hA=>⟨gT k (fun e0=>hA (e0 ▸ hs.Oa p b hp)),Wm k (fun e0=>hA (e0 ▸ hs.Oa p b hp))⟩,fun k r hk=>⟨r,(gT k (fun e0=>by rw [e0,hg] at hk;cases hk)).trans hk,rfl⟩⟩
 ·intro j v hv
  have hj:=aS hv
  show Mem.mB M b off news b (off + j)=some v
  unfold Mem.mB
  rw [if_pos ⟨rfl,by omega,by omega⟩,show off + j - off=j by omega]
  exact hv
theorem St.newRow (hs:St A M L w H ev ea O) (e:TypeId) {esz need cap:Nat} (h0:0 < esz) {rw rest:List Value} {zs:List AV} (hl:rw.length=need * esz) (hc:rw.length + rest.length=cap * esz) (bY:cap < 9223372036854775808) (Ra:need≤cap) (hn:0 < need)
 (hz:zs.length=need) (hx:∀ y∈zs,y.cells.length=esz) (hr:aP M L rw (flat zs)) (cs:Array Value) (zL:cs.toList=rw++rest) :
 ∃ M',a7 M' L (.slice (some ⟨w.heap.size,0,none⟩) need cap) (.al esz zs)∧bm M' { w with heap:=w.heap.push (.cells cs e) } (.slice (some ⟨w.heap.size,0,none⟩) need cap) (.al esz zs) (some w.heap.size)∧
  St A M' L { w with heap:=w.heap.push (.cells cs e) } H ev ea O∧Ext A M w M' { w with heap:=w.heap.push (.cells cs e) }:=by
 obtain ⟨g1,g2,g3⟩:=hs.rR cs e (0,0) rw (fun j v hv=>by
  have:cs.toList[j]?=some v:=by rw [zL,zz (aS hv)];exact hv
  simpa using this)
 refine ⟨_,?_,?_,g1,g2⟩
 ·subst hz
  exact .al _ _ _ _ esz rw zs h0 hx hn Ra bY (hr.mono g2.oD (aaD _)) g3
 ·unfold bm
  simp only [Nat.ne_of_gt h0,if_false]
  refine ⟨hx,.inr ⟨_,0,need,cap,cs,e,(0,0),rfl,rfl,eo w _,pJ _,?_,?_⟩⟩
  ·have:cs.size=cap * esz:=by rw [← afW,zL,aaj];exact hc
   omega
  ·intro k hk _
   simp only [Mem.add,if_true,abK]
   exact abL (by omega)
theorem vW {bs:Option Addr} {n c own:Nat} {xs:List AV} (h:a7 M L (.slice bs n c) (.al own xs)) :
 n=xs.length∧((xs=[]∧n=0)∨∃ b off cs,bs=some ⟨b,off,none⟩∧aP M L cs (flat xs)∧M.row b off cs):=by
 generalize hv:Value.slice bs n c=v at h
 cases h with
 | iN a c _ hc=>cases hv;exact ⟨rfl,.inl ⟨rfl,rfl⟩⟩
 | al b off c _ e cs _ he hx hn hle hc hr hm=>cases hv;exact ⟨rfl,.inr ⟨b,off,cs,rfl,hr,hm⟩⟩
def bC (esz bytes:Nat) (s x:AV) (φ:List AV→Prop):Prop:=
 match oY esz s,dK x with
 | some xs,some ys=>(xs.length + ys.length) * bytes≤140737488355328∧qR esz ys∧φ (xs++ys)
 | _,_=>False
def IX.slot:IX→Option Nat
 | .t n=>some n
 | .c _=>none
def lU (ea:Nat→AV) (s:Option Nat):Nat→AV:=match s with | some d=>gR ea d (ea d).ab | none=>ea
theorem IU {esz:Nat} {s:AV} {xs:List AV} (hs:oY esz s=some xs) {u:Value} (hu:a7 M L u s):a7 M L u (.al esz xs)∧(s=.ag∧u=.slice none 0 0∨s=.al esz xs):=by
 unfold oY at hs
 split at hs
 ·cases hs;cases hu;exact ⟨.iN _ _ _ (by decide),.inl ⟨rfl,rfl⟩⟩
 ·rename_i own ys
  split at hs
  ·rename_i e;cases hs;subst e;exact ⟨hu,.inr rfl⟩
  ·cases hs
 ·cases hs
theorem nE {esz:Nat} {x:AV} {ys:List AV} (hx:dK x=some ys) (kw:qR esz ys) {u:Value} (hu:a7 M L u x) :
 (ys=[]∧∃ b c,u=.slice b 0 c)∨(0 < ys.length∧∃ b off c news,u=.slice (some ⟨b,off,none⟩) ys.length c∧aP M L news (flat ys)∧M.row b off news∧news.length=ys.length * esz):=by
 have key:∀ own,a7 M L u (.al own ys)→(ys=[]∧∃ b c,u=.slice b 0 c)∨(0 < ys.length∧∃ b off c news,u=.slice (some ⟨b,off,none⟩) ys.length c∧aP M L news (flat ys)∧M.row b off news∧news.length=ys.length * esz):=by
  intro own h
  cases h with
  | iN a c _ hc=>exact .inl ⟨rfl,_,_,rfl⟩
  | al b off c _ e cs _ he hx hn hle hc hr hm=>
    refine .inr ⟨hn,b,off,c,cs,rfl,hr,hm,?_⟩
    rw [hr.length,cR ys esz (fun y hy=>(kw y hy).1)]
 unfold dK at hx
 split at hx
 ·cases hx;cases hu;exact .inl ⟨rfl,_,_,rfl⟩
 ·rename_i own zs;cases hx;exact key own hu
 ·cases hx
theorem uN (xs ys:List AV):flat (xs++ys)=flat xs++flat ys:=by simp [flat]
theorem CV {ys:List AV} {esz:Nat} (h:qR esz ys):(flat ys).all AV.one=true:=by
 rw [abc]
 intro x hx
 simp only [flat,abY] at hx
 obtain ⟨y,hy,hxy⟩:=hx
 exact abc.1 (h y hy).2 x hxy
theorem CW (hs:St A M L w H ev ea O) {t ty e:TypeId} {i:TypeInfo} {z:Value} {esz bytes:Nat} (ht:P.underlying t=some (.slice e)) (hi:P.info? e=some i) (hz:i.zero=some z) (dd:i.size=esz) (rP:i.bytes=bytes) (vV:z.cells.size=esz) (h0:0 < esz) (rQ:0 < bytes)
 {u v:Value} {s x:AV} {φ:List AV→Prop} (h:bC esz bytes s x φ) (slot:Option Nat) (hu:a7 M L u s) (Ox:match slot with | some d=>ev d=u∧ea d=s | none=>s=.ag) (hv:a7 M L v x) :
 ∃ r w' M' O' ob zs,(Builtin.append_ #[t,t] ty #[u,v]).run P w=.ok r w'∧φ zs∧a7 M' L r (.al esz zs)∧bm M' w' r (.al esz zs) ob∧St A M' L w' H ev (lU ea slot) O'∧Ext A M w M' w'∧
  (∀ q b,ob=some b→O' q≠some b)∧(∀ b,ob=some b→b∉L∧b < w'.heap.size∧A b):=by
 unfold bC at h
 split at h <;> try exact h.elim
 rename_i xs ys fe tu
 obtain ⟨hbound,kw,hφ⟩:=h
 obtain ⟨A8,hcase⟩:=IU fe hu
 have hesz0:esz≠0:=by omega
 -- the slot forgets what it owned
 have hforget:∃ O1 ob1,St A M L w H ev (lU ea slot) O1∧bm M w u (.al esz xs) ob1∧(∀ q b,ob1=some b→O1 q≠some b)∧(∀ b,ob1=some b→b∉L∧b < w.heap.size∧A b∧∃ d,slot=some d∧O (.t d)=some b∧O1=eV O (.t d) none):=by
  have vE:u=.slice none 0 0→s=.ag→bm M w u (.al esz xs) none:=by
   rintro rfl rfl
   simp [oY] at fe;subst fe
   simp only [bm,hesz0,if_false]
   exact ⟨by simp,.inl ⟨trivial,none,0,rfl⟩⟩
  cases slot with
  | none=>
    simp only at Ox
    subst Ox
    cases hu
    exact ⟨O,none,hs,vE rfl rfl,(by intro q b e;cases e),(by intro b e;cases e)⟩
  | some d=>
    simp only at Ox
    have oX:=hs.oQ d (v:=u) (x:=(ea d).ab) (by rw [Ox.2];exact hu.ab) (AV.bR _)
    have SE:gR ev d u=ev:=by funext t';simp only [gR];split;rename_i e0;rw [e0,Ox.1];rfl
    rw [SE] at oX
    rcases hcase with ⟨h1,h2⟩ | h1
    ·exact ⟨_,none,oX,vE h2 h1,(by intro q b e;cases e),(by intro b e;cases e)⟩
    ·refine ⟨_,O (.t d),oX,?_,?_,?_⟩
     ·have:=hs.jX d
      rwa [Ox.1,Ox.2,h1] at this
     ·intro q b hb hq
      simp only [eV] at hq
      split at hq
      ·cases hq
      ·rename_i n;exact n (hs.cU _ _ b hq hb)
     ·intro b hb
      exact ⟨hs.cZ _ b hb,hs.iA _ b hb,hs.Oa _ b hb,d,rfl,hb,rfl⟩
 obtain ⟨O1,ob1,NX,Oy,KU,IW⟩:=hforget
 have E4:∀ y∈xs,y.cells.length=esz:=by
  have:=Oy
  simp only [bm,hesz0,if_false] at this
  exact this.1
 have hform:∃ bs n c,u=.slice bs n c∧n=xs.length∧n≤c∧c < 9223372036854775808:=by
  cases A8 with
  | iN a c _ hc=>exact ⟨a,0,c,rfl,rfl,ac6 _,hc⟩
  | al b off c _ e cs _ he hx hn hle hc hr hm=>exact ⟨_,_,c,rfl,rfl,hle,hc⟩
 rcases nE tu kw hv with ⟨rfl,b',c',rfl⟩ | ⟨CX,b2,o2,c2,news,rfl,A9,Re,vX⟩
 ·-- nothing is appended
  obtain ⟨bs,n,c,rfl,hn,Ra,hc⟩:=hform
  refine ⟨_,w,M,O1,ob1,xs++[],dJ ht hi w bs n c Ra b' c',hφ,by simpa using A8,by simpa using Oy,NX,Ext.refl A M w,KU,fun b hb=>⟨(IW b hb).1,(IW b hb).2.1,(IW b hb).2.2.1⟩⟩
 ·have hnews:∀ j u,news[j]?=some u→w.cell? ((⟨b2,o2,none⟩:Addr).add j)=some u:=jt Re hs.mem
  have lT:=A9.iO (CV kw)
  have hlen:(xs.length + ys.length)≤140737488355328:=abW (ab5 _ rQ) hbound
  have gW:∀ y∈xs++ys,y.cells.length=esz:=by
   intro y hy
   rcases abF.1 hy with h' | h'
   ·exact E4 y h'
   ·exact (kw y h').1
  -- a new row
  have grow:∀ (olds:List Value) (oldCap:Nat) (w':World),aP M L olds (flat xs)→olds.length=xs.length * esz→w'=w.drew.alloc (.cells (olds.toArray++news.toArray++Builtin.zeroCells z.cells (grownCap w (xs.length + ys.length) oldCap e - (xs.length + ys.length))) e)→
   (Builtin.append_ #[t,t] ty #[u,.slice (some ⟨b2,o2,none⟩) ys.length c2]).run P w=.ok (.slice (some ⟨w.heap.size,0,none⟩) (xs.length + ys.length) (grownCap w (xs.length + ys.length) oldCap e)) w'→
   ∃ r w' M' O' ob zs,(Builtin.append_ #[t,t] ty #[u,.slice (some ⟨b2,o2,none⟩) ys.length c2]).run P w=.ok r w'∧φ zs∧a7 M' L r (.al esz zs)∧bm M' w' r (.al esz zs) ob∧St A M' L w' H ev (lU ea slot) O'∧Ext A M w M' w'∧
    (∀ q b,ob=some b→O' q≠some b)∧(∀ b,ob=some b→b∉L∧b < w'.heap.size∧A b):=by
   intro olds oldCap w' Wn VS KV bK
   have fV:=grownCap_ge w (xs.length + ys.length) oldCap e
   have hle:=grownCap_le_maxLen w (xs.length + ys.length) oldCap e (by simp only [maxLen];omega)
   simp only [maxLen] at hle
   have hd:=NX.drew
   obtain ⟨M',k1,k2,k3,k4⟩:=hd.newRow e (need:=xs.length + ys.length) (cap:=grownCap w (xs.length + ys.length) oldCap e) h0 (rw:=olds++news) (rest:=(Builtin.zeroCells z.cells (grownCap w (xs.length + ys.length) oldCap e - (xs.length + ys.length))).toList) (zs:=xs++ys)
    (by rw [aaj,VS,vX,abO]) (by
      have hzc:(Builtin.zeroCells z.cells (grownCap w (xs.length + ys.length) oldCap e - (xs.length + ys.length))).toList.length=(grownCap w (xs.length + ys.length) oldCap e - (xs.length + ys.length)) * esz:=by
       rw [afW,size_zeroCells,vV]
      rw [aaj,VS,vX,hzc,← abO,← abO]
      congr 1;omega) (by omega) fV (by omega) (by simp) gW (by rw [uN];exact Wn.append A9)
    (olds.toArray++news.toArray++Builtin.zeroCells z.cells (grownCap w (xs.length + ys.length) oldCap e - (xs.length + ys.length))) (by simp)
   have dS:Ext A M w M' { { w with drawn:=w.drawn + 1 } with heap:=w.heap.push (.cells (olds.toArray++news.toArray++Builtin.zeroCells z.cells (grownCap w (xs.length + ys.length) oldCap e - (xs.length + ys.length))) e) }:=Ext.drew.trans k4
   have hww:w'={ { w with drawn:=w.drawn + 1 } with heap:=w.heap.push (.cells (olds.toArray++news.toArray++Builtin.zeroCells z.cells (grownCap w (xs.length + ys.length) oldCap e - (xs.length + ys.length))) e) }:=KV
   refine ⟨_,_,M',O1,some w.heap.size,xs++ys,bK,hφ,k1,by rw [hww];exact k2,by rw [hww];exact k3,by rw [hww];exact dS,?_,?_⟩
   ·intro q b hb hq
    cases hb
    exact absurd (NX.iA q _ hq) (adj _)
   ·intro b hb
    cases hb
    refine ⟨fun hm=>absurd (hs.lt _ hm) (adj _),by rw [hww];simp,hs.fresh _ (zy _)⟩
  obtain ⟨bs,n,c,rfl,hn,Ra,hc⟩:=hform
  subst hn
  by_cases hroom:xs.length + ys.length≤c
  ·-- in place
   have Fq:=Oy
   simp only [bm,hesz0,if_false] at Fq
   rcases Fq.2 with ⟨_,a,n,hn⟩ | ⟨b,off,n,c',cs,e',fr,e1,e2,e3,e4,e5,e6⟩
   ·cases hn;omega
   ·cases e2
    obtain ⟨f1,f2,f3,d,rfl,f5,rfl⟩:=IW b e1
    have ace:news.length=ys.length * i.size:=by rw [dd];exact vX
    have yP:(xs.length + ys.length) * esz≤c * esz:=acu _ hroom
    rw [abO] at yP
    have vC:off + xs.length * esz + news.length≤cs.size:=by rw [vX];omega
    have bK:=gX (P:=P) (ty:=ty) ht hi w b off xs.length c cs fr e3 e4 ⟨b2,o2,none⟩ ys.length c2 news ace hnews lT hroom (by rw [dd];exact vC)
    rw [dd] at bK
    have hnone:∀ k,k < news.length→M b (off + xs.length * esz + k)=none:=by
     intro k hk
     rw [adE]
     exact e6 _ (by omega) (by rw [vX] at hk;omega)
    have SF:∀ t',a7 M L (ev t') (lU ea (some d) t'):=NX.env
    obtain ⟨g1,g2,g3⟩:=hs.inPlace (p:=.t d) f5 e3 vC hnone (ea':=lU ea (some d)) SF NX.jX (fun id j=>by simpa [eV] using hs.jD id j)
    refine ⟨_,_,_,_,some b,xs++ys,bK,hφ,?_,?_,g1,g2,?_,?_⟩
    ·-- what it reads as
     have oE:aP (M.mB b (off + xs.length * esz) news) L news (flat ys):=A9.mono g2.oD (aaD _)
     have hold:∃ olds,aP M L olds (flat xs)∧M.row b off olds∧olds.length=xs.length * esz:=by
      rcases (vW A8).2 with ⟨h',_⟩ | ⟨b1,off1,cs1,Wo,hr,hm⟩
      ·subst h';exact ⟨[],.nil,by intro j v hv;simp at hv,by simp⟩
      ·cases Wo;exact ⟨cs1,hr,hm,by rw [hr.length,cR xs esz E4]⟩
     obtain ⟨olds,o1,o2',o3⟩:=hold
     have:=a7.al (M:=M.mB b (off + xs.length * esz) news) (L:=L) b off c esz esz (olds++news) (xs++ys) h0 gW (by simp;omega) (by simpa using hroom) hc (by rw [uN];exact (o1.mono g2.oD (aaD _)).append oE) (by
      intro j v hv
      rw [afC] at hv
      split at hv
      ·exact g2.oD _ _ _ (o2' j v hv)
      ·rename_i hj
       have:=g3 _ v hv
       rwa [show off + xs.length * esz + (j - olds.length)=off + j by omega] at this)
     simpa using this
    ·simp only [bm,hesz0,if_false]
     refine ⟨gW,.inr ⟨b,off,xs.length + ys.length,c,(ai cs.toList (off + xs.length * esz) news).toArray,e',fr,rfl,by simp,setRow_heap w b cs _ e' fr e3,?_,?_,?_⟩⟩
     ·have:(ai cs.toList (off + xs.length * esz) news).toArray.size=cs.size:=by
       rw [List.size_toArray,oU _ _ _ (by simpa using vC)];simp
      rw [this];exact e4
     ·rw [List.size_toArray,oU _ _ _ (by simpa using vC)];simpa using e5
     ·intro k hk KH
      unfold Mem.mB
      rw [abO] at hk
      rw [if_neg (by rw [vX];omega)]
      exact e6 k (by omega) KH
    ·intro q b' hb hq
     cases hb
     exact KU q b e1 hq
    ·intro b' hb
     cases hb
     refine ⟨f1,?_,f3⟩
     simpa [World.setRow] using f2
  ·-- a new one
   have hbound':(xs.length + ys.length) * i.bytes≤140737488355328:=by rw [rP];exact hbound
   cases bs with
   | none=>
     have KW:xs.length=0:=by
      rcases (vW A8).2 with ⟨_,h'⟩ | ⟨b1,off1,cs1,Wo,_⟩
      ·exact h'
      ·cases Wo
     have Kt:c=0:=by
      have Fq:=Oy
      simp only [bm,hesz0,if_false] at Fq
      rcases Fq.2 with ⟨_,a,n,hn⟩ | ⟨b,off,n,c',cs,e',fr,e1,e2,_⟩
      ·cases hn;exact KW
      ·cases e2
     have hxnil:xs=[]:=adJ KW
     subst hxnil
     subst Kt
     have hr:=run_append_nil (P:=P) w t ty e i z ht hi hz ⟨b2,o2,none⟩ ys.length c2 news (by rw [dd];exact vX) hnews CX (by omega) (by simp at hbound';omega)
     refine grow [] 0 _ (by exact .nil) (by simp) rfl ?_
     simpa using hr
   | some a=>
     have hold:∃ olds,aP M L olds (flat xs)∧(∀ j v,olds[j]?=some v→w.cell? (a.add j)=some v)∧olds.length=xs.length * esz:=by
      rcases (vW A8).2 with ⟨h',_⟩ | ⟨b1,off1,cs1,Wo,hr,hm⟩
      ·subst h';exact ⟨[],.nil,by intro j v hv;simp at hv,by simp⟩
      ·cases Wo;exact ⟨cs1,hr,jt hm hs.mem,by rw [hr.length,cR xs esz E4]⟩
     obtain ⟨olds,o1,o2',o3⟩:=hold
     have hr:=run_append_grow (P:=P) w t ty e i z ht hi hz a xs.length c olds (by rw [dd];exact o3) o2' ⟨b2,o2,none⟩ ys.length c2 news (by rw [dd];exact vX) hnews (by omega) (by omega) (growslice_fits (by omega) hbound')
     exact grow olds c _ o1 o3 rfl hr
end
end Go.aI
end
section
namespace Go.aI
open Go
def bU:AV→AV
 | .agg ys=>.agg (ys.map AV.drop)
 | z=>z
section
variable {P:Program} {w:World} {M:Mem} {L:List Nat} {H:List aa} {A:Perm} {ev:Nat→Value} {ea:Nat→AV} {O:Pos→Option Nat}
theorem kx (z:AV):(bU z).cells.length=z.cells.length:=by cases z <;> simp [bU,AV.cells]
theorem a7.bU {v:Value} {z:AV} (h:a7 M L v z):a7 M L v (bU z):=by
 cases z <;> first | exact h | skip
 cases h with
 | agg cs _ hr=>exact .agg cs _ hr.map_drop
theorem qS {x:AV} (h:x.val=true):(Go.aI.bU x).val=true:=by
 cases x <;> simp_all [Go.aI.bU,AV.val]
def gY (esz bytes:Nat) (z n:AV) (H:List aa) (K:AV→List aa→Prop):Prop:=
 match n with
 | .int .i64 n=>0≤n∧n.toNat * bytes≤140737488355328∧aw (H.length + 1) (flat (List.replicate n.toNat (bU z)))=true∧
    K (.aZ H.length 0 n.toNat n.toNat) (H++[.cells (flat (List.replicate n.toNat (bU z)))])
 | _=>False
theorem run_mk {t e:TypeId} {i:TypeInfo} {z:Value} {esz bytes:Nat} (ht:P.underlying t=some (.slice e)) (hi:P.info? e=some i) (hz:i.zero=some z) (dd:i.size=esz) (rP:i.bytes=bytes) (vV:z.cells.size=esz) (h0:0 < esz) (rQ:0 < bytes)
 (l c:Int) (A6:0≤l) (zK:l≤c) (hc:c.toNat * bytes≤140737488355328) (w:World) :
 ∃ cs:Array Value,(Instr.makeSlice t (.int .i64 l) (.int .i64 c)).run P w=.ok (.slice (some ⟨w.heap.size,0,none⟩) l.toNat c.toNat) { w with heap:=w.heap.push (.cells cs e) }∧cs=(Array.range (c.toNat * esz)).map (z.cells[· % z.cells.size]!):=by
 have jY:c.toNat≤140737488355328:=abW (ab5 _ rQ) hc
 have Kt:0≤c:=by omega
 have w1:IntKind.i64.wrap l=l:=by
  have:IntKind.i64.bits=64:=rfl
  have:IntKind.i64.signed=true:=rfl
  simp only [IntKind.wrap, *]
  have:l % 2 ^ 64=l:=agp A6 (by omega)
  rw [this]
  rw [if_neg (by simp;omega)]
 have w2:IntKind.i64.wrap c=c:=by
  have:IntKind.i64.bits=64:=rfl
  have:IntKind.i64.signed=true:=rfl
  simp only [IntKind.wrap, *]
  have:c % 2 ^ 64=c:=agp Kt (by omega)
  rw [this]
  rw [if_neg (by simp;omega)]
 have hcn:(c.toNat:Int)=c:=Int.toNat_of_nonneg Kt
 have Ft:¬ ((bytes:Int) * c > 2 ^ 48):=by
  have:(bytes:Int) * c=((c.toNat * bytes:Nat):Int):=by rw [Int.natCast_mul,hcn,Int.mul_comm]
  rw [this];omega
 have yQ:¬ c < 0:=by omega
 have hneg2:¬ l < 0:=by omega
 have Rf:¬ l > c:=by omega
 refine ⟨_,?_,rfl⟩
 simp only [Instr.makeSlice,Sem.run_bind,run_underlying ht,Result.andThen_ok,asInt,asIntOf,Sem.run_pure,typeInfo,run_program,hi,rP,w1,w2,yQ,hneg2,Rf,Ft,decide_false,Bool.or_self,abI,or_self,if_false,run_askRoom,sizeOf,dd]
 by_cases hn:c.toNat * esz=0
 ·simp [hn,newRow]
  congr 2
  apply Array.ext'
  simp
 ·simp [hn,zeroValue,typeInfo,hi,hz,newRow]
theorem Fu (hs:St A M L w H ev ea O) {t e:TypeId} {i:TypeInfo} {zv:Value} {esz bytes:Nat} (ht:P.underlying t=some (.slice e)) (hi:P.info? e=some i) (hz:i.zero=some zv) (dd:i.size=esz) (rP:i.bytes=bytes) (h0:0 < esz) (rQ:0 < bytes)
 {z:AV} (Hq:ofValue zv=some z) (qx:z.val=true) (gW:z.cells.length=esz) (CY:∀ y∈z.cells,∀ own xs,y=.al own xs→own=0) {u:Value} {n:AV} {K:AV→List aa→Prop} (h:gY esz bytes z n H K) (hu:a7 M L u n) :
 ∃ r x L' w' H',(Instr.makeSlice t u u).run P w=.ok r w'∧a7 M L' r x∧(∀ own xs,x=.al own xs→own=0)∧K x H'∧St A M L' w' H' ev ea O∧Ext A M w M w'∧L <+: L':=by
 unfold gY at h
 split at h <;> try exact h.elim
 rename_i n
 obtain ⟨Ba,Wp,nj,hK⟩:=h
 cases hu
 have CR:=(cQ (M:=M) (L:=L) Hq).bU.gU (qS qx)
 have vV:zv.cells.size=esz:=by have:=CR.length;rw [kx,gW] at this;simpa using this
 obtain ⟨cs,bK,rfl⟩:=run_mk ht hi hz dd rP vV h0 rQ n n Ba (afV _) Wp w
 have hcells:=kP (M:=M) (L:=L) zv.cells esz n.toNat vV h0 (bU z) CR
 have hcn:n.toNat≤140737488355328:=abW (ab5 _ rQ) Wp
 obtain ⟨g1,g2⟩:=hs.tA (.cells ((Array.range (n.toNat * esz)).map (zv.cells[· % zv.cells.size]!)) e) (.cells (flat (List.replicate n.toNat (bU z)))) (fun w' hw hM=>⟨_,e,hw,hcells.mono (Mem.b8 M) ⟨_,rfl⟩,hM⟩) (by simpa [aa.bc] using nj) (fun j=>by
  simp only [oR]
  refine bm.free ?_
  intro own xs hh
  rw [th] at hh
  cases hx:(flat (List.replicate n.toNat (bU z)))[j]? with
  | none=>simp [hx] at hh
  | some y=>
    simp [hx] at hh
    have hy:=abB hx
    simp only [flat,abY] at hy
    obtain ⟨q,hq,Oz⟩:=hy
    rw [abX hq] at Oz
    subst hh
    cases z <;> simp only [bU,AV.cells] at Oz CY
    case agg ys=>
     obtain ⟨y',_,hy'⟩:=aaw.1 Oz
     exact AV.kF y' own xs hy'
    all_goals exact CY _ Oz own xs rfl)
 refine ⟨_,.aZ H.length 0 n.toNat n.toNat,_,_,_,bK,.aZ w.heap.size 0 _ _ H.length ?_ (by omega),(by intro _ _ e;cases e),hK,g1,g2,⟨_,rfl⟩⟩
 rw [abx (by rw [hs.len];exact zy _),hs.len];simp
def lV (esz bytes:Nat) (n:AV) (φ:AV→Prop):Prop:=
 match n with
 | .int .i64 n=>0≤n∧n.toNat * bytes≤140737488355328∧φ (.al esz [])
 | _=>False
theorem Fv (hs:St A M L w H ev ea O) {t e:TypeId} {i:TypeInfo} {zv:Value} {esz bytes:Nat} (ht:P.underlying t=some (.slice e)) (hi:P.info? e=some i) (hz:i.zero=some zv) (dd:i.size=esz) (rP:i.bytes=bytes) (h0:0 < esz) (rQ:0 < bytes)
 (vV:zv.cells.size=esz) {u:Value} {n:AV} {φ:AV→Prop} (h:lV esz bytes n φ) (hu:a7 M L u n) :
 ∃ r w' M' b,(Instr.makeSlice t (.int .i64 0) u).run P w=.ok r w'∧a7 M' L r (.al esz [])∧φ (.al esz [])∧bm M' w' r (.al esz []) (some b)∧St A M' L w' H ev ea O∧Ext A M w M' w'∧
  (∀ q,O q≠some b)∧b∉L∧b < w'.heap.size∧A b:=by
 unfold lV at h
 split at h <;> try exact h.elim
 rename_i n
 obtain ⟨Ba,Wp,hφ⟩:=h
 cases hu
 obtain ⟨cs,bK,zL⟩:=run_mk ht hi hz dd rP vV h0 rQ 0 n (afV _) Ba Wp w
 have hcn:n.toNat≤140737488355328:=abW (ab5 _ rQ) Wp
 obtain ⟨g1,g2,g3⟩:=hs.rR cs e (0,0) [] (fun j v hv=>by simp at hv)
 refine ⟨_,_,_,w.heap.size,bK,.iN _ _ _ (by omega),hφ,?_,g1,g2,fun q hq=>absurd (hs.iA q _ hq) (adj _),fun hm=>absurd (hs.lt _ hm) (adj _),by simp,hs.fresh _ (zy _)⟩
 unfold bm
 simp only [Nat.ne_of_gt h0,if_false]
 refine ⟨by simp,.inr ⟨_,0,0,n.toNat,cs,e,(0,0),rfl,by simp,eo w _,pJ _,?_,?_⟩⟩
 ·rw [zL];simp
 ·intro k _ _
  simp [Mem.add]
def eS (x:Option AV) (d:Nat) (φ:Nat→Prop):Prop:=
 match x with
 | none=>φ d
 | some (.int _ i)=>0≤i∧φ i.toNat
 | _=>False
def gZ (esz:Nat) (x:AV) (lo hi mx:Option AV) (φ:AV→Prop):Prop:=
 match dK x with
 | some xs=>eS hi xs.length fun h=>eS lo 0 fun l=>l≤h∧h≤xs.length∧
    match mx with
    | none=>φ (.al 0 ((xs.take h).drop l))
    | some m=>hi.isSome=true∧eS (some m) 0 fun m=>m=h∧(∀ y∈xs,y.cells.length=esz)∧φ (.al esz ((xs.take h).drop l))
 | none=>False
theorem zM:∀ (xs:List AV) (e n:Nat),(∀ y∈xs,y.cells.length=e)→flat (xs.take n)=(flat xs).take (n * e)
 | [],e,n,_=>by simp [flat]
 | y::ys,e,0,_=>by simp [flat]
 | y::ys,e,n + 1,hx=>by
   have hy:=hx y (by simp)
   have ih:=zM ys e n (fun z hz=>hx z (by simp [hz]))
   simp only [flat] at ih
   simp only [List.take_succ_cons,flat,List.flatMap_cons,ih]
   rw [af9,aax (l:=y.cells) (by rw [hy,abO];omega),hy,show (n + 1) * e - e=n * e by rw [abO];omega]
theorem zO:∀ (xs:List AV) (e n:Nat),(∀ y∈xs,y.cells.length=e)→flat (xs.drop n)=(flat xs).drop (n * e)
 | [],e,n,_=>by simp [flat]
 | y::ys,e,0,_=>by simp [flat]
 | y::ys,e,n + 1,hx=>by
   have hy:=hx y (by simp)
   have ih:=zO ys e n (fun z hz=>hx z (by simp [hz]))
   simp only [flat] at ih
   simp only [List.drop_succ_cons,flat,List.flatMap_cons]
   rw [ih,aek,af6 (as:=y.cells) (by rw [hy,abO];omega),hy,show (n + 1) * e - e=n * e by rw [abO];omega]
   rfl
def ke (M:Mem) (L:List Nat) (x:Option AV) (v:Option Value):Prop:=match x,v with | none,none=>True | some x,some v=>a7 M L v x | _,_=>False
theorem eC {x:Option AV} {v:Option Value} (hx:ke M L x v) {d:Nat} {φ:Nat→Prop} (h:eS x d φ) :
 ∃ k,φ k∧((x=none∧v=none∧k=d)∨∃ kd i,v=some (.int kd i)∧0≤i∧i.toNat=k):=by
 unfold eS at h
 split at h
 ·cases v with
  | none=>exact ⟨d,h,.inl ⟨rfl,rfl,rfl⟩⟩
  | some v=>exact hx.elim
 ·rename_i kd i
  cases v with
  | none=>exact hx.elim
  | some v=>
    have rN:a7 M L v (.int kd i):=hx
    cases rN
    exact ⟨_,h.2,.inr ⟨_,_,rfl,h.1,rfl⟩⟩
 ·exact h.elim
theorem run_sliceBound (w:World) (kd:IntKind) (i:Int) (y:Nat) (code:BoundsCode) (h0:0≤i) (h1:i.toNat≤y):(Instr.sliceBound (.int kd i) y code).run P w=.ok i.toNat w:=by
 have:0≤i∧i≤(y:Int):=⟨h0,by omega⟩
 simp [Instr.sliceBound,asIntOf,this]
theorem wQ (hs:St A M L w H ev ea O) {t e:TypeId} {esz:Nat} (ht:P.underlying t=some (.slice e)) (he:ey P e=some esz) (h0:0 < esz) {u:Value} {x:AV} {lo hi mx:Option AV} {vlo vhi vmx:Option Value} {φ:AV→Prop}
 (h:gZ esz x lo hi mx φ) (hu:a7 M L u x) (SA:∀ own xs,x=.al own xs→∀ z∈xs,z.cells.length=esz)
 (h1:ke M L lo vlo) (h2:ke M L hi vhi) (h3:ke M L mx vmx) :
 ∃ a n c own ys,(Instr.sliceAt t u vlo vhi vmx).run P w=.ok (.slice a n c) w∧a7 M L (.slice a n c) (.al own ys)∧φ (.al own ys)∧(own≠0→n=c∧∀ y∈ys,y.cells.length=own):=by
 unfold gZ at h
 split at h <;> try exact h.elim
 rename_i xs fe
 have dd:(sizeOf e).run P w=.ok esz w:=by
  obtain ⟨i,hi,Ov⟩:=aal.1 he
  simp [sizeOf,typeInfo,hi,Ov]
 obtain ⟨hh,h,KX⟩:=eC h2 h
 obtain ⟨ll,h,tn⟩:=eC h1 h
 obtain ⟨hle,hhl,h⟩:=h
 have A8:∃ own,a7 M L u (.al own xs):=by
  unfold dK at fe
  split at fe
  ·cases fe;cases hu;exact ⟨0,.iN _ _ _ (by decide)⟩
  ·cases fe;exact ⟨_,hu⟩
  ·cases fe
 obtain ⟨own0,A8⟩:=A8
 have E4:∀ z∈xs,z.cells.length=esz:=by
  unfold dK at fe
  split at fe
  ·cases fe;simp
  ·cases fe;exact SA _ _ rfl
  ·cases fe
 have hform:∃ bs c,u=.slice bs xs.length c∧xs.length≤c∧c < 9223372036854775808:=by
  cases A8 with
  | iN a c _ hc=>exact ⟨a,c,rfl,ac6 _,hc⟩
  | al b off c _ e cs _ he hx hn hle hc hr hm=>exact ⟨_,c,rfl,hle,hc⟩
 obtain ⟨bs,c,rfl,hxc,hc⟩:=hform
 have Wq:∀ (own m:Nat),hh≤m→m≤c→a7 M L (.slice (if m=ll then bs else bs.map (·.add (ll * esz))) (hh - ll) (m - ll)) (.al own ((xs.take hh).drop ll)):=by
  intro own m hm1 VT
  have hlen:((xs.take hh).drop ll).length=hh - ll:=by simp;omega
  by_cases hz:hh - ll=0
  ·have:(xs.take hh).drop ll=[]:=adJ (by omega)
   rw [this,hz]
   exact .iN _ _ _ (by omega)
  ·rcases (vW A8).2 with ⟨h',_⟩ | ⟨b,off,cs,rfl,hr,hm⟩
   ·subst h';simp at hlen;omega
   ·rw [if_neg (by omega)]
    simp only [Option.map_some,Addr.add_lit]
    have rN:∀ z∈(xs.take hh).drop ll,z.cells.length=esz:=fun z hz=>E4 z (acs (afE hz))
    have:=a7.al (M:=M) (L:=L) b (off + ll * esz) (m - ll) own esz ((cs.take (hh * esz)).drop (ll * esz)) ((xs.take hh).drop ll) h0 rN (by omega) (by omega) (by omega) (by
     rw [zO _ esz ll (fun z hz=>E4 z (acs hz)),zM _ esz hh E4]
     exact (hr.take _).drop _) (by
     intro j v hv
     rw [aeC,aaG] at hv
     split at hv
     ·have:=hm _ v hv
      rwa [← adE] at this
     ·cases hv)
    rwa [hlen] at this
 cases mx with
 | none=>
   cases vmx with
   | some v=>exact h3.elim
   | none=>
     refine ⟨_,_,_,0,_,?_,Wq 0 c (by omega) (zy _),h,fun h=>absurd rfl h⟩
     have hb:(Instr.sliceBounds true xs.length c vlo vhi none).run P w=.ok (ll,hh,c) w:=by
      rcases KX with ⟨_,rfl,rfl⟩ | ⟨kd,i,rfl,vY,rfl⟩ <;> rcases tn with ⟨_,rfl,rfl⟩ | ⟨kd',i',rfl,vF,rfl⟩
      ·rfl
      ·have qy:=run_sliceBound (P:=P) w kd' i' xs.length .sliceB vF hle
       simp [Instr.sliceBounds,qy]
      ·have qy:=run_sliceBound (P:=P) w kd i c .sliceAcap vY (by omega)
       simp [Instr.sliceBounds,qy]
      ·have qy:=run_sliceBound (P:=P) w kd i c .sliceAcap vY (by omega)
       have qz:=run_sliceBound (P:=P) w kd' i' i.toNat .sliceB vF hle
       simp [Instr.sliceBounds,qy,qz]
     simp only [Instr.sliceAt,Instr.slice,Sem.run_bind,run_underlying ht,Result.andThen_ok,hb,dd,Sem.run_pure]
 | some m=>
   cases vmx with
   | none=>exact h3.elim
   | some vm=>
     obtain ⟨hsome,h⟩:=h
     obtain ⟨mm,⟨rfl,_,hφ⟩,VU⟩:=eC (v:=some vm) h3 h
     rcases VU with ⟨hh',_⟩ | ⟨kdm,im,hvm,aci,KT⟩
     ·cases hh'
     cases hvm
     refine ⟨_,_,_,esz,_,?_,Wq esz mm (zy _) (by omega),hφ,fun _=>⟨rfl,fun y hy=>E4 y (acs (afE hy))⟩⟩
     have hb:(Instr.sliceBounds true xs.length c vlo vhi (some (.int kdm im))).run P w=.ok (ll,mm,mm) w:=by
      have Ou:=run_sliceBound (P:=P) w kdm im c .slice3Acap aci (by omega)
      rw [KT] at Ou
      rcases KX with ⟨hn,rfl,hd⟩ | ⟨kd,i,rfl,vY,hi1⟩
      ·rw [hn] at hsome;cases hsome
      ·have qy:=run_sliceBound (P:=P) w kd i mm .slice3B vY (by omega)
       rw [hi1] at qy
       rcases tn with ⟨_,rfl,rfl⟩ | ⟨kd',i',rfl,vF,rfl⟩
       ·simp [Instr.sliceBounds,Ou,qy]
       ·have qz:=run_sliceBound (P:=P) w kd' i' mm .slice3C vF hle
        simp [Instr.sliceBounds,Ou,qy,qz]
     simp only [Instr.sliceAt,Instr.slice,Sem.run_bind,run_underlying ht,Result.andThen_ok,hb,dd,Sem.run_pure]
def db (x:AV) (lo hi:Option AV) (φ:AV→Prop):Prop:=
 match x with
 | .str s=>eS hi s.size fun h=>eS lo 0 fun l=>l≤h∧h≤s.size∧φ (.str (s.extract l h))
 | _=>False
theorem yR {t:TypeId} (ht:P.underlying t=some .string) {u:Value} {x:AV} {lo hi:Option AV} {vlo vhi:Option Value} {φ:AV→Prop}
 (h:db x lo hi φ) (hu:a7 M L u x) (h1:ke M L lo vlo) (h2:ke M L hi vhi) :
 ∃ r z,(Instr.sliceAt t u vlo vhi none).run P w=.ok r w∧a7 M L r z∧φ z∧∀ own xs,z=.al own xs→own=0:=by
 unfold db at h
 split at h <;> try exact h.elim
 rename_i s
 cases hu
 obtain ⟨hh,h,KX⟩:=eC h2 h
 obtain ⟨ll,h,tn⟩:=eC h1 h
 obtain ⟨hle,hhl,hφ⟩:=h
 refine ⟨_,_,?_,.str _,hφ,by intro _ _ e;cases e⟩
 have hb:(Instr.sliceBounds false s.size s.size vlo vhi none).run P w=.ok (ll,hh,s.size) w:=by
  rcases KX with ⟨_,rfl,rfl⟩ | ⟨kd,i,rfl,vY,rfl⟩ <;> rcases tn with ⟨_,rfl,rfl⟩ | ⟨kd',i',rfl,vF,rfl⟩
  ·rfl
  ·have qy:=run_sliceBound (P:=P) w kd' i' s.size .sliceB vF hle
   simp [Instr.sliceBounds,qy]
  ·have qy:=run_sliceBound (P:=P) w kd i s.size .sliceAlen vY (by omega)
   simp [Instr.sliceBounds,qy]
  ·have qy:=run_sliceBound (P:=P) w kd i s.size .sliceAlen vY (by omega)
   have qz:=run_sliceBound (P:=P) w kd' i' i.toNat .sliceB vF hle
   simp [Instr.sliceBounds,qy,qz]
 simp only [Instr.sliceAt,Instr.slice,Sem.run_bind,run_underlying ht,Result.andThen_ok,aeF,abI,if_false,Sem.run_pure,hb]
def bD (l:List UInt8):List AV:=l.map fun b=>.int .u8 b.toNat
def jM (x:AV) (φ:AV→Prop):Prop:=match x with | .str s=>φ (.str s) | _=>False
theorem Bb {src dst:TypeId} {d:TypeDesc} (hs:P.underlying src=some d) (hd:P.underlying dst=some .string) {u:Value} {x:AV} {φ:AV→Prop} (h:jM x φ) (hu:a7 M L u x) :
 ∃ r z,(convert src dst u).run P w=.ok r w∧a7 M L r z∧φ z∧∀ own xs,z=.al own xs→own=0:=by
 unfold jM at h
 split at h <;> try exact h.elim
 cases hu
 refine ⟨_,_,?_,.str _,h,by intro _ _ e;cases e⟩
 simp [convert,run_underlying hs,run_underlying hd]
def nF (x:AV) (φ:AV→Prop):Prop:=
 match dK x with
 | some ys=>∃ l,ys=bD l∧φ (.str ⟨l.toArray⟩)
 | none=>False
theorem wR (l:List UInt8):flat (bD l)=bD l:=by
 induction l with
 | nil=>rfl
 | cons b l ih=>simp only [bD,List.map_cons,flat,List.flatMap_cons,AV.cells] at ih ⊢;rw [ih];rfl
theorem aP.bytes:∀ {cs:List Value} {l:List UInt8},aP M L cs (bD l)→cs=l.map fun b=>.int .u8 b.toNat
 | [],[],_=>rfl
 | [],b::l,h=>by have:=h.length;simp [bD] at this
 | c::cs,[],h=>by have:=h.length;simp [bD] at this
 | c::cs,b::l,h=>by
   simp only [bD,List.map_cons] at h
   cases h with
   | cons _ _ _ _ h t=>cases h;simp [aP.bytes (l:=l) t]
theorem Fx (hs:St A M L w H ev ea O) {src dst e:TypeId} (h1:P.underlying src=some (.slice e)) (h2:P.underlying e=some (.int .u8)) (hd:P.underlying dst=some .string) {u:Value} {x:AV} {φ:AV→Prop} (h:nF x φ) (hu:a7 M L u x) :
 ∃ r z,(convert src dst u).run P w=.ok r w∧a7 M L r z∧φ z∧∀ own xs,z=.al own xs→own=0:=by
 unfold nF at h
 split at h <;> try exact h.elim
 rename_i ys tu
 obtain ⟨l,rfl,hφ⟩:=h
 have A8:∃ own,a7 M L u (.al own (bD l)):=by
  unfold dK at tu
  split at tu
  ·cases l with
   | nil=>cases hu;exact ⟨0,.iN _ _ _ (by decide)⟩
   | cons b l=>simp [bD] at tu
  ·cases tu;exact ⟨_,hu⟩
  ·cases tu
 obtain ⟨own,A8⟩:=A8
 refine ⟨_,_,?_,.str _,hφ,by intro _ _ e;cases e⟩
 cases l with
 | nil=>
   have:∃ a c,u=.slice a 0 c:=by
    cases A8 with
    | iN a c _ hc=>exact ⟨a,c,rfl⟩
    | al b off c _ e cs _ he hx hn=>simp [bD] at hn
   obtain ⟨a,c,rfl⟩:=this
   cases a with
   | none=>rw [run_convert_bytes_nil w src e h1 h2 0 c dst hd];rfl
   | some a=>
     simp [convert,run_underlying h1,run_underlying hd,run_underlying h2,Conv.bytesToString,loadCells,loadCellsFrom]
     rfl
 | cons b0 l=>
   have:∃ b off c cs,u=.slice (some ⟨b,off,none⟩) (bD (b0::l)).length c∧aP M L cs (bD (b0::l))∧M.row b off cs:=by
    generalize hl:bD (b0::l)=q at A8
    cases A8 with
    | iN=>simp [bD] at hl
    | al b off c _ e cs _ he hx hn hle hc hr hm=>
      subst hl
      rw [wR] at hr
      exact ⟨b,off,c,cs,rfl,hr,hm⟩
   obtain ⟨b,off,c,cs,rfl,hr,hm⟩:=this
   have zL:=hr.bytes
   have bK:=run_convert_bytes_arg (P:=P) w src e h1 h2 b off (bD (b0::l)).length c ((b0::l).map fun b=>(b.toNat:Int)) (by simp [bD]) (fun i hi=>by
    have lW:i < (b0::l).length:=by simpa [bD] using hi
    have:=hs.mem _ _ _ (hm i (.int .u8 ((b0::l)[i]).toNat) (by rw [zL,abZ,Hj lW];rfl))
    rw [this,th,abZ,Hj lW]
    rfl) dst hd
   rw [bK]
   congr 2
   simp only [strOfNums,acH]
   congr 1
   congr 1
   conv=>rhs;rw [← List.map_id (b0::l)]
   apply ab2
   intro b _
   simp
def iV (own:Nat) (x:AV) (φ:AV→Prop):Prop:=
 match x with
 | .str s=>s.size < 9223372036854775808∧φ (.al own (bD s.data.toList))
 | _=>False
end
end Go.aI
end
section
namespace Go.aI
open Go
section
variable {P:Program} {w:World} {M:Mem} {L:List Nat} {H:List aa} {A:Perm} {ev:Nat→Value} {ea:Nat→AV} {O:Pos→Option Nat}
theorem CZ (w:World) (cs:Array Value) (e:TypeId) :
 ({ w with heap:=w.heap.push (.cells cs e) }:World).freeze { block:=w.heap.size,off:=cs.size } 1={ w with heap:=w.heap.push (.cells cs e (cs.size,cs.size + 1)) }:=by
 simp only [World.freeze,Nat.one_ne_zero,if_false]
 congr 1
 apply Array.ext
 ·simp
 ·intro i h1 h2
  rw [agf]
  by_cases hi:w.heap.size=i
  ·subst hi;simp
  ·simp only [hi,if_false]
   have:i < w.heap.size:=by simp at h2;omega
   rw [afg this,afg this]
theorem C0 (l:List UInt8):aP M L (l.map fun b=>Value.int .u8 b.toNat) (bD l):=by
 induction l with
 | nil=>exact .nil
 | cons b l ih=>exact .cons _ _ _ _ (.int _ _) ih
theorem Bc (hs:St A M L w H ev ea O) {src dst e:TypeId} (h1:P.underlying src=some .string) (hd:P.underlying dst=some (.slice e)) (h2:P.underlying e=some (.int .u8)) {u:Value} {x:AV} {φ:AV→Prop} (h:iV 1 x φ) (hu:a7 M L u x) :
 ∃ r z w' M' ob,(convert src dst u).run P w=.ok r w'∧a7 M' L r z∧φ z∧bm M' w' r z ob∧St A M' L w' H ev ea O∧Ext A M w M' w'∧
  (∀ q b,ob=some b→O q≠some b)∧(∀ b,ob=some b→b∉L∧b < w'.heap.size∧A b):=by
 unfold iV at h
 split at h <;> try exact h.elim
 rename_i s
 obtain ⟨dd,hφ⟩:=h
 cases hu
 let cap:=(Question.appendCap s.size 0 e).cut (w.tape w.drawn (.appendCap s.size 0 e))
 have NY:s.size≤cap:=by simp [cap,Question.cut]
 have nG:cap < 9223372036854775808:=by
  have:=Nat.mod_lt (w.tape w.drawn (.appendCap s.size 0 e)) (show 0 < 2 ^ 63 - s.size by omega)
  simp only [cap,Question.cut];omega
 let elems:Array Value:=s.data.map fun b=>.int .u8 b.toNat
 let cs:Array Value:=elems++Array.replicate (cap - s.size) (.int .u8 0)
 have zL:cs.size=cap:=by
  simp only [cs,elems,Array.size_append,Array.size_map,Array.size_replicate]
  have:s.data.size=s.size:=rfl
  omega
 have KY:elems.toList=s.data.toList.map fun b=>Value.int .u8 b.toNat:=by simp [elems]
 let W:World:={ { w with drawn:=w.drawn + 1 } with heap:=w.heap.push (.cells cs e (cs.size,cs.size + 1)) }
 have bK:(convert src dst (.string s)).run P w=.ok (.slice (some ⟨w.heap.size,0,none⟩) s.size cap) W:=by
  have E5:=CZ { w with drawn:=w.drawn + 1 } cs e
  have Sy:({ { w with drawn:=w.drawn + 1 } with heap:=w.heap.push (.cells cs e) }:World).shape? w.heap.size=some (e,cs.size):=by
   simp [World.shape?]
  simp only [convert,Sem.run_bind,run_underlying h1,run_underlying hd,run_underlying h2,Result.andThen_ok,Conv.stringToBytes,run_choose,Question.forced,abI,if_false]
  have A9:∀ W:World,(newRow e cs).run P W=.ok ⟨W.heap.size,0,none⟩ { W with heap:=W.heap.push (.cells cs e) }:=fun _=>rfl
  refine Eq.trans (congrArg (fun r=>Result.andThen r _) (A9 _)) ?_
  simp only [Result.andThen_ok,Sem.run_pure,markStringish,run_shape,Sem.run_bind]
  rw [Sy]
  simp only [run_freeze,Result.andThen_ok]
  rw [E5]
 obtain ⟨g1,g2,g3⟩:=hs.drew.rR cs e (cs.size,cs.size + 1) elems.toList (fun j v hv=>by
  have:cs.toList[j]?=some v:=by
   simp only [cs,agj]
   rw [zz (aS hv)];exact hv
  simpa using this)
 have gr:aP (M.add w.heap.size elems.toList) L elems.toList (bD s.data.toList):=by rw [KY];exact C0 _
 have hlen:(bD s.data.toList).length=s.size:=by simp [bD]
 have hx:∀ y∈bD s.data.toList,y.cells.length=1:=by
  intro y hy
  simp only [bD,aaw] at hy
  obtain ⟨b,_,rfl⟩:=hy
  rfl
 refine ⟨_,_,W,_,some w.heap.size,bK,?_,hφ,?_,g1,Ext.drew.trans g2,?_,?_⟩
 ·by_cases h0:s.size=0
  ·have:bD s.data.toList=[]:=adJ (by omega)
   rw [this,h0]
   exact .iN _ _ _ nG
  ·have:=a7.al (M:=M.add w.heap.size elems.toList) (L:=L) w.heap.size 0 cap 1 1 elems.toList (bD s.data.toList) (by omega) hx (by omega) (by omega) nG (by rw [wR];exact gr) g3
   rwa [hlen] at this
 ·unfold bm
  simp only [Nat.one_ne_zero,if_false]
  refine ⟨hx,.inr ⟨_,0,s.size,cap,cs,e,(cs.size,cs.size + 1),rfl,rfl,eo _ _,?_,by omega,?_⟩⟩
  ·intro j hj h;simp at h;omega
  ·intro k hk _
   simp only [Mem.add,if_true,abK]
   refine abL ?_
   have:elems.toList.length=s.size:=by rw [KY];simp
   omega
 ·intro q b hb hq
  cases hb
  exact absurd (hs.iA q _ hq) (adj _)
 ·intro b hb
  cases hb
  exact ⟨fun hm=>absurd (hs.lt _ hm) (adj _),by simp [W],hs.fresh _ (zy _)⟩
def de (kd:Nat) (x y:AV):Option Bool:=
 match kd,x,y with
 | 0,.int k a,.int k' b=>if k=k' then some (decide (a=b)) else none
 | 1,.str a,.str b=>some (decide (a=b))
 | 2,.agg [.int k a,.int l b],.agg [.int k' a',.int l' b']=>if k=k'∧l=l' then some (decide (a=a'∧b=b')) else none
 | _,_,_=>none
def lX (kd:Nat) (d:TypeDesc):Prop:=match kd,d with | 0,.int _=>True | 1,.string=>True | _,_=>False
def Fy (P:Program) (kd:Nat) (d:TypeDesc):Prop:=kd=2∧∃ e q,d=.array 2 e∧P.underlying e=some (.int q)∧(P.info? e).map (·.size)=some 1
theorem Bd (a b:ByteArray):(a == b)=decide (a=b):=by
 rcases a with ⟨a⟩
 rcases b with ⟨b⟩
 show (a == b)=_
 by_cases h:a=b <;> simp [h]
def pL (P:Program) (t:TypeId):Option Nat:=
 match P.underlying t with
 | some (.int _)=>some 0
 | some .string=>some 1
 | some (.array 2 e)=>match P.underlying e,(P.info? e).map (·.size) with
   | some (.int _),some 1=>some 2
   | _,_=>none
 | _=>none
def dL (kd:Nat) (k:AV):List (AV×AV)→Nat→Option (Option (Nat×AV))
 | [],_=>some none
 | (a,v)::r,i=>match de kd k a with
   | some true=>some (some (i,v))
   | some false=>dL kd k r (i + 1)
   | none=>none
def dg (kd:Nat) (zero m k:AV) (ok:Bool) (H:List aa) (φ:AV→Prop):Prop:=
 match m with
 | .nr=>de kd k k=some true∧φ (if ok then .tuple [a9 zero,.bool false] else a9 zero)
 | .map id=>match H[id]? with
   | some (.map es)=>match dL kd k es 0 with
     | some (some (_,v))=>φ (if ok then .tuple [v.drop,.bool true] else v.drop)
     | some none=>de kd k k=some true∧φ (if ok then .tuple [a9 zero,.bool false] else a9 zero)
     | none=>False
   | _=>False
 | _=>False
def iW (kd:Nat) (m k x:AV) (H:List aa) (K:List aa→Prop):Prop:=
 match m with
 | .map id=>match H[id]? with
   | some (.map es)=>k.bc (id + 1)=true∧x.bc (id + 1)=true∧x.val=true∧match dL kd k es 0 with
     | some (some (i,_))=>K (H.set id (.map (es.set i (k,a9 x))))
     | some none=>de kd k k=some true∧K (H.set id (.map (es++[(k,a9 x)])))
     | none=>False
   | _=>False
 | _=>False
theorem wS {kd:Nat} {d:TypeDesc} (hd:lX kd d) {k y:AV} {b:Bool} (h:de kd k y=some b) {u v:Value} (hu:a7 M L u k) (hv:a7 M L v y) :
 Instr.sameNow d u v=some b∧(b=true→v=u):=by
 unfold de at h
 split at h
 ·rename_i k a k' b'
  cases hu;cases hv
  split at h
  ·rename_i e;subst e
   cases h
   cases d <;> simp only [lX] at hd
   refine ⟨by simp [Instr.sameNow,rU],?_⟩
   intro h;simp at h;rw [h]
  ·cases h
 ·rename_i a b'
  cases hu;cases hv
  cases h
  cases d <;> simp only [lX] at hd
  refine ⟨by simp only [Instr.sameNow,Bd],?_⟩
  intro h;simp at h;rw [h]
 ·cases d <;> simp only [lX] at hd
 ·cases h
theorem zP {kd:Nat} {d:TypeDesc} (hd:lX kd d) {k:AV} {u:Value} (hu:a7 M L u k) :
 ∀ (es:List (AV×AV)) (ents:List MapEntry) (i:Nat) (r:Option (Nat×AV)),aP M L (ents.map (·.key)) (es.map (·.1))→aP M L (ents.map (·.val)) (es.map (·.2))→dL kd k es i=some r→
  match r with
  | none=>Instr.findNow d u ents i=some none
  | some (j,x)=>i≤j∧∃ v,Instr.findNow d u ents i=some (some (j,v))∧a7 M L v x∧∃ en,ents[j - i]?=some en∧en.key=u∧en.val=v∧j - i < es.length
 | [],ents,i,r,h1,h2,h=>by
   cases ents with
   | nil=>simp [dL] at h;subst h;rfl
   | cons a b=>have:=h1.length;simp at this
 | (a,x)::es,[],i,r,h1,h2,h=>by have:=h1.length;simp at this
 | (a,x)::es,en::ents,i,r,h1,h2,h=>by
   simp only [List.map_cons] at h1 h2
   cases h1 with
   | cons _ _ _ _ hk Fz=>
   cases h2 with
   | cons _ _ _ _ hv wP=>
   unfold dL at h
   split at h
   ·rename_i he
    cases h
    obtain ⟨e1,e2⟩:=wS hd he hu hk
    exact ⟨zy _,en.val,by simp [Instr.findNow,e1],hv,en,by simp,e2 rfl,rfl,by simp⟩
   ·rename_i he
    obtain ⟨e1,_⟩:=wS hd he hu hk
    have ih:=zP hd hu es ents (i + 1) r Fz wP h
    cases r with
    | none=>simp only at ih ⊢;simp [Instr.findNow,e1,ih]
    | some jx=>
      obtain ⟨j,y⟩:=jx
      simp only at ih ⊢
      obtain ⟨hij,v,f1,f2,en',f3,f4,f5,f6⟩:=ih
      refine ⟨by omega,v,by simp [Instr.findNow,e1,f1],f2,en',?_,f4,f5,by simp;omega⟩
      rw [show j - i=(j - (i + 1)) + 1 by omega]
      simpa using f3
   ·cases h
theorem rV {t:TypeId} {kd:Nat} (h:pL P t=some kd):∃ d,P.underlying t=some d∧(lX kd d∨Fy P kd d):=by
 unfold pL at h
 split at h
 ·rename_i k hu;cases h;exact ⟨_,hu,.inl trivial⟩
 ·rename_i hu;cases h;exact ⟨_,hu,.inl trivial⟩
 ·rename_i e hu
  split at h <;> cases h
  rename_i q h1 h2
  exact ⟨_,hu,.inr ⟨rfl,e,q,rfl,h1,h2⟩⟩
 ·cases h
theorem rW {e:TypeId} {q:IntKind} (h2:P.underlying e=some (.int q)) {cs:Array Value} {off:Nat} {v:Value} (hv:cs[off]?=some v) (w:World):(part e cs off).run P w=.ok v w:=by
 simp [part,isAgg,run_underlying h2,hv]
theorem IY {e:TypeId} {q:IntKind} (h2:P.underlying e=some (.int q)) (d:Nat) (k:IntKind) (a a':Int) (w:World):(Op.equalIn (d + 1) e (.int k a) (.int k a')).run P w=.ok (decide (a=a')) w:=by
 rw [Op.equalIn]
 simp [run_underlying h2,rU]
theorem zQ {kt e:TypeId} {q:IntKind} (h1:P.underlying kt=some (.array 2 e)) (h2:P.underlying e=some (.int q)) (h3:(P.info? e).map (·.size)=some 1) (d:Nat) (k l:IntKind) (a b a' b':Int) (w:World) :
 (Op.equalIn (d + 1 + 1) kt (.agg #[.int k a,.int l b]) (.agg #[.int k a',.int l b'])).run P w=.ok (decide (a=a'∧b=b')) w:=by
 obtain ⟨i,hi,hs⟩:=aal.1 h3
 have hz:(sizeOf e).run P w=.ok 1 w:=by simp [sizeOf,typeInfo,hi,hs]
 have p0:∀ x y:Value,(part e #[x,y] 0).run P w=.ok x w:=fun x y=>rW h2 (by simp) w
 have p1:∀ x y:Value,(part e #[x,y] 1).run P w=.ok y w:=fun x y=>rW h2 (by simp) w
 rw [Op.equalIn]
 simp only [Sem.run_bind,run_underlying h1,Result.andThen_ok,hz]
 by_cases ha:a=a' <;> by_cases hb:b=b' <;>
 simp [Std.Legacy.Range.forIn_eq_forIn_range',List.range',p0,p1,IY h2,ha,hb]
theorem aP.two {vs:List Value} {x y:AV} (h:aP M L vs [x,y]):∃ u v,vs=[u,v]∧a7 M L u x∧a7 M L v y:=by
 cases h with
 | cons u x vs xs h1 h2=>obtain ⟨v,rfl,h3⟩:=h2.Hk;exact ⟨u,v,rfl,h1,h3⟩
theorem a7.pair {u:Value} {k l:IntKind} {a b:Int} (h:a7 M L u (.agg [.int k a,.int l b])):u=.agg #[.int k a,.int l b]:=by
 cases h with
 | agg cs xs hr=>
   obtain ⟨x,y,rfl,h1,h2⟩:=hr.two
   cases h1;cases h2
   rfl
theorem qT {k y:AV} {b:Bool} (h:de 2 k y=some b):∃ p q i j i' j',k=.agg [.int p i,.int q j]∧y=.agg [.int p i',.int q j']∧b=decide (i=i'∧j=j'):=by
 unfold de at h
 split at h
 ·have:(2:Nat)=0:=by assumption
  omega
 ·have:(2:Nat)=1:=by assumption
  omega
 ·split at h <;> cases h
  rename_i e
  obtain ⟨rfl,rfl⟩:=e
  exact ⟨_,_,_,_,_,_,rfl,rfl,rfl⟩
 ·cases h
def found (P:Program) (kt:TypeId) (u:Value) (ents:List MapEntry) (M:Mem) (L:List Nat) (n:Nat) (r:Option (Nat×AV)):Prop:=
 match r with
 | none=>∀ w,(Instr.findKey kt u ents).run P w=.ok none w
 | some (j,x)=>∃ v,(∀ w,(Instr.findKey kt u ents).run P w=.ok (some (j,v)) w)∧a7 M L v x∧∃ en,ents[j]?=some en∧en.key=u∧en.val=v∧j < n
theorem wT {kt e:TypeId} {q:IntKind} (h1:P.underlying kt=some (.array 2 e)) (h2:P.underlying e=some (.int q)) (h3:(P.info? e).map (·.size)=some 1) {k:AV} {u:Value} (hu:a7 M L u k) :
 ∀ (es:List (AV×AV)) (ents:List MapEntry) (i:Nat) (r:Option (Nat×AV)),aP M L (ents.map (·.key)) (es.map (·.1))→aP M L (ents.map (·.val)) (es.map (·.2))→dL 2 k es i=some r→
  match r with
  | none=>∀ w,(Instr.findAsking kt u ents i).run P w=.ok none w
  | some (j,x)=>i≤j∧∃ v,(∀ w,(Instr.findAsking kt u ents i).run P w=.ok (some (j,v)) w)∧a7 M L v x∧∃ en,ents[j - i]?=some en∧en.key=u∧en.val=v∧j - i < es.length
 | [],ents,i,r,k1,k2,h=>by
   cases ents with
   | nil=>simp [dL] at h;subst h;exact fun w=>rfl
   | cons a b=>have:=k1.length;simp at this
 | (a,x)::es,[],i,r,k1,k2,h=>by have:=k1.length;simp at this
 | (a,x)::es,en::ents,i,r,k1,k2,h=>by
   simp only [List.map_cons] at k1 k2
   cases k1 with
   | cons _ _ _ _ hk Fz=>
   cases k2 with
   | cons _ _ _ _ hv wP=>
   unfold dL at h
   split at h
   ·rename_i he
    cases h
    obtain ⟨p,q',m,n,m',n',rfl,rfl,hb⟩:=qT he
    have hd:=of_decide_eq_true hb.symm
    have e1:=hu.pair
    have e2:=hk.pair
    refine ⟨zy _,en.val,fun w=>?_,hv,en,by simp,?_,rfl,by simp⟩
    ·have:=zQ (P:=P) h1 h2 h3 9998 p q' m n m' n' w
     simp only [Instr.findAsking,e1,e2,Sem.run_bind,Op.equal,Op.maxDepth]
     rw [this]
     simp [hd]
    ·rw [e1,e2,hd.1,hd.2]
   ·rename_i he
    obtain ⟨p,q',m,n,m',n',rfl,rfl,hb⟩:=qT he
    have hd:=of_decide_eq_false hb.symm
    have e1:=hu.pair
    have e2:=hk.pair
    have jZ:∀ w,(Instr.findAsking kt u (en::ents) i).run P w=(Instr.findAsking kt u ents (i + 1)).run P w:=fun w=>by
     have:=zQ (P:=P) h1 h2 h3 9998 p q' m n m' n' w
     rw [Instr.findAsking,Sem.run_bind,e1,e2,Op.equal,Op.maxDepth,this]
     simp only [Result.andThen_ok,hd,decide_false]
     rfl
    have ih:=wT h1 h2 h3 hu es ents (i + 1) r Fz wP h
    cases r with
    | none=>exact fun w=>(jZ w).trans (ih w)
    | some jx=>
      obtain ⟨j,y⟩:=jx
      simp only at ih ⊢
      obtain ⟨hij,v,f1,f2,en',f3,f4,f5,f6⟩:=ih
      refine ⟨by omega,v,fun w=>(jZ w).trans (f1 w),f2,en',?_,f4,f5,by simp;omega⟩
      rw [show j - i=(j - (i + 1)) + 1 by omega]
      simpa using f3
   ·cases h
theorem lG {kt:TypeId} {kd:Nat} {d:TypeDesc} (KP:P.underlying kt=some d) (hd:lX kd d∨Fy P kd d) {k:AV} {u:Value} (hu:a7 M L u k) {es:List (AV×AV)} {ents:List MapEntry} {r:Option (Nat×AV)}
 (h1:aP M L (ents.map (·.key)) (es.map (·.1))) (h2:aP M L (ents.map (·.val)) (es.map (·.2))) (h:dL kd k es 0=some r):found P kt u ents M L es.length r:=by
 rcases hd with hd | ⟨rfl,e,q,rfl,k1,k2⟩
 ·have:=zP hd hu es ents 0 r h1 h2 h
  cases r with
  | none=>intro w;simp only at this;simp [Instr.findKey,run_underlying KP,this]
  | some jx=>
    obtain ⟨j,x⟩:=jx
    simp only [agh] at this
    obtain ⟨_,v,f1,f2,f3⟩:=this
    exact ⟨v,fun w=>by simp [Instr.findKey,run_underlying KP,f1],f2,f3⟩
 ·have:=wT KP k1 k2 hu es ents 0 r h1 h2 h
  have Wr:∀ en (l:List MapEntry),Instr.findNow (.array 2 e) u (en::l) 0=none:=fun en l=>rfl
  cases ents with
  | nil=>
    have yS:es=[]:=by have:=h1.length;simpa using this.symm
    subst yS
    simp [dL] at h;subst h
    intro w
    simp [Instr.findKey,run_underlying KP,Instr.findNow]
  | cons en l=>
    cases r with
    | none=>intro w;simp only at this;simp [Instr.findKey,run_underlying KP,Wr,this]
    | some jx=>
      obtain ⟨j,x⟩:=jx
      simp only [agh] at this
      obtain ⟨_,v,f1,f2,f3⟩:=this
      exact ⟨v,fun w=>by simp [Instr.findKey,run_underlying KP,Wr,f1],f2,f3⟩
theorem run_checkKey_plain {t:TypeId} {d:TypeDesc} {kd:Nat} (ht:P.underlying t=some d) (hd:lX kd d) (w:World) (oP:Bool) (n:Nat) (v:Value) :
 (Instr.checkKey oP (n + 1) t v).run P w=.ok () w:=by
 have:d=.string∨∃ k,d=.int k:=by
  unfold lX at hd
  split at hd
  ·exact .inr ⟨_,rfl⟩
  ·exact .inl rfl
  ·exact hd.elim
 rcases this with rfl | ⟨k,rfl⟩ <;> simp [Instr.checkKey,run_underlying ht]
theorem run_checkKey {t:TypeId} {d:TypeDesc} {kd:Nat} (ht:P.underlying t=some d) (hd:lX kd d∨Fy P kd d) (w:World) (oP:Bool) (n:Nat) {v:Value} {k y:AV} {b:Bool} (hv:a7 M L v k) (hk:de kd k y=some b) :
 (Instr.checkKey oP (n + 1 + 1) t v).run P w=.ok () w:=by
 rcases hd with hd | ⟨rfl,e,q,rfl,k1,k2⟩
 ·exact run_checkKey_plain ht hd w oP _ v
 ·obtain ⟨p,q',m,n',m',n2,rfl,_⟩:=qT hk
  have e1:=hv.pair
  obtain ⟨i,hi,hs⟩:=aal.1 k2
  have hz:(sizeOf e).run P w=.ok 1 w:=by simp [sizeOf,typeInfo,hi,hs]
  have p0:∀ x y:Value,(part e #[x,y] 0).run P w=.ok x w:=fun x y=>rW k1 (by simp) w
  have p1:∀ x y:Value,(part e #[x,y] 1).run P w=.ok y w:=fun x y=>rW k1 (by simp) w
  have c:∀ v,(Instr.checkKey oP (n + 1) e v).run P w=.ok () w:=fun v=>run_checkKey_plain (kd:=0) k1 trivial w oP n v
  rw [Instr.checkKey,e1]
  simp only [Sem.run_bind,run_underlying ht,Result.andThen_ok]
  simp [Std.Legacy.Range.forIn_eq_forIn_range',List.range',p0,p1,c,hz]
theorem Be {kd:Nat} {k:AV} (hk:∃ b,de kd k k=some b) {u:Value} (hu:a7 M L u k) (n:Nat):Instr.sameBits (n + 1) u u=true:=by
 obtain ⟨b,hk⟩:=hk
 unfold de at hk
 split at hk
 ·cases hu;simp [Instr.sameBits]
 ·cases hu;simp [Instr.sameBits,Bd]
 ·rw [hu.pair];simp [Instr.sameBits]
 ·cases hk
theorem qB {kd:Nat} {k y:AV} {b:Bool} (h:de kd k y=some b):∃ b,de kd k k=some b:=by
 unfold de at h
 split at h
 ·exact ⟨true,by simp [de]⟩
 ·exact ⟨true,by simp [de]⟩
 ·exact ⟨true,by simp [de]⟩
 ·cases h
theorem tI {kd:Nat} {k:AV}:∀ (es:List (AV×AV)) (i j:Nat) (x:AV),dL kd k es i=some (some (j,x))→∃ b,de kd k k=some b
 | [],i,j,x,h=>by simp [dL] at h
 | (a,v)::es,i,j,x,h=>by
   unfold dL at h
   split at h
   ·rename_i he;exact qB he
   ·rename_i he;exact qB he
   ·cases h
theorem C1 (hs:St A M L w H ev ea O) {t kt et:TypeId} {kd:Nat} (ht:P.underlying t=some (.map kt et)) (hk:pL P kt=some kd) {zero:AV} (hz:fZ P et=some zero) {u v:Value} {m k:AV} {ok:Bool} {φ:AV→Prop}
 (h:dg kd zero m k ok H φ) (hu:a7 M L u m) (hv:a7 M L v k) :
 ∃ r z,(Instr.lookup t u v ok).run P w=.ok r w∧a7 M L r z∧φ z∧∀ own xs,z=.al own xs→own=0:=by
 obtain ⟨d,KU,IW⟩:=rV hk
 have hzero:∃ zv,(zeroValue et).run P w=.ok zv w∧a7 M L zv (a9 zero):=by
  unfold fZ at hz
  split at hz
  ·rename_i i hi
   split at hz
   ·rename_i zv qx
    exact ⟨zv,by simp [zeroValue,typeInfo,hi,qx],(cQ hz).a9⟩
   ·cases hz
  ·cases hz
 obtain ⟨zv,CR,hzrep⟩:=hzero
 have IZ:(∃ b,de kd k k=some b)→∀ oP,(Instr.checkKey oP 10000 kt v).run P w=.ok () w:=fun ⟨b,hb⟩ oP=>run_checkKey (n:=9998) KU IW w oP hv hb
 have free:∀ z own xs,(if ok then AV.tuple [a9 z,.bool false] else a9 z)=.al own xs→own=0:=by
  intro z own xs e
  cases ok
  ·simp at e;exact Fi z own xs e
  ·simp at e
 unfold dg at h
 split at h
 ·obtain ⟨NW,hφ⟩:=h
  have OA:=IZ ⟨_,NW⟩
  cases hu
  refine ⟨if ok then .tuple #[zv,.bool false] else zv,_,?_,?_,hφ,free zero⟩
  ·have:(Instr.findKey kt v (#[]:Array MapEntry).toList).run P w=.ok none w:=by simp [Instr.findKey,run_underlying KU,Instr.findNow]
   simp only [Instr.lookup,Sem.run_bind,run_underlying ht,Result.andThen_ok,Sem.run_pure,OA,this,CR]
  ·cases ok
   ·simpa using hzrep
   ·simpa using a7.tuple [zv,.bool false] _ (.cons _ _ _ _ hzrep (.cons _ _ _ _ (.bool _) .nil))
 ·rename_i id
  cases hu with
  | map b _ hl=>
  split at h <;> try exact h.elim
  rename_i es bF
  obtain ⟨ents,ck,h1,h2,h3⟩:=hs.obj id _ b bF hl
  have kM:(getObj b).run P w=.ok (.map ents ck) w:=by simp [getObj,Sem.run,h1]
  split at h
  ·rename_i j x hf
   obtain ⟨y,f1,f2,_⟩:=lG KU IW hv (ents:=ents.toList) (by simpa using h2) (by simpa using h3) hf
   have OA:=IZ (tI _ _ _ _ hf)
   refine ⟨if ok then .tuple #[y,.bool true] else y,_,?_,?_,h,?_⟩
   ·simp only [Instr.lookup,Sem.run_bind,run_underlying ht,Result.andThen_ok,Sem.run_pure,kM,OA,f1 w]
   ·cases ok
    ·simpa using f2.drop
    ·simpa using a7.tuple [y,.bool true] _ (.cons _ _ _ _ f2.drop (.cons _ _ _ _ (.bool _) .nil))
   ·intro own xs e
    cases ok
    ·simp at e;exact AV.kF x own xs e
    ·simp at e
  ·rename_i hf
   obtain ⟨NW,hφ⟩:=h
   have OA:=IZ ⟨_,NW⟩
   have f1:∀ w,(Instr.findKey kt v ents.toList).run P w=.ok none w:=lG KU IW hv (ents:=ents.toList) (by simpa using h2) (by simpa using h3) hf
   refine ⟨if ok then .tuple #[zv,.bool false] else zv,_,?_,?_,hφ,free zero⟩
   ·simp only [Instr.lookup,Sem.run_bind,run_underlying ht,Result.andThen_ok,Sem.run_pure,kM,OA,f1 w,CR]
   ·cases ok
    ·simpa using hzrep
    ·simpa using a7.tuple [zv,.bool false] _ (.cons _ _ _ _ hzrep (.cons _ _ _ _ (.bool _) .nil))
  ·exact h.elim
 ·exact h.elim
theorem FA (hs:St A M L w H ev ea O) (t:TypeId) :
 ∃ r L' w',(Instr.makeMap t none).run P w=.ok r w'∧a7 M L' r (.map H.length)∧St A M L' w' (H++[.map []]) ev ea O∧Ext A M w M w'∧L <+: L':=by
 obtain ⟨h1,h2⟩:=hs.tA (.map #[] 0) (.map []) (fun w' hw hM=>⟨#[],0,hw,.nil,.nil⟩) rfl (fun j=>rfl)
 refine ⟨_,_,_,rfl,.map _ _ ?_,h1,h2,⟨_,rfl⟩⟩
 rw [abx (by rw [hs.len];exact zy _),hs.len];simp
theorem C2 (hs:St A M L w H ev ea O) {t kt et:TypeId} {kd:Nat} (ht:P.underlying t=some (.map kt et)) (hk:pL P kt=some kd) {u v y:Value} {m k x:AV} {K:List aa→Prop}
 (h:iW kd m k x H K) (hu:a7 M L u m) (hv:a7 M L v k) (hy:a7 M L y x) :
 ∃ w' H',(Instr.mapUpdate t u v y).run P w=.ok () w'∧K H'∧St A M L w' H' ev ea O∧Ext A M w M w':=by
 obtain ⟨d,KU,IW⟩:=rV hk
 have IZ:(∃ b,de kd k k=some b)→(Instr.checkKey false 10000 kt v).run P w=.ok () w:=fun ⟨b,hb⟩=>run_checkKey (n:=9998) KU IW w false hv hb
 unfold iW at h
 split at h <;> try exact h.elim
 rename_i id
 cases hu with
 | map b _ hl=>
 split at h <;> try exact h.elim
 rename_i es bF
 obtain ⟨qy,qz,nD,h⟩:=h
 obtain ⟨ents,ck,h1,h2,h3⟩:=hs.obj id _ b bF hl
 have hlen:ents.size=es.length:=by have:=h2.length;simpa using this
 have bT:=hs.bJ id _ bF
 replace qy:=AV.cH (A.lS (aS bF)) _ qy
 replace qz:=AV.cH (A.lS (aS bF)) _ qz
 simp only [aa.bc,zC] at bT
 have kM:(getObj b).run P w=.ok (.map ents ck) w:=by simp [getObj,Sem.run,h1]
 have iJ:∀ o,(setObj b o).run P w=.ok () { w with heap:=w.heap.setIfInBounds b o }:=by intro o;simp [setObj,Sem.run,h1]
 have hcb:(a9 x).bc (A.jk H.length id)=true:=by
  have hdrop:∀ z:AV,z.bc (A.jk H.length id)=true→z.drop.bc (A.jk H.length id)=true:=by
   intro z hz;cases z <;> simp_all [AV.drop,AV.bc,aw]
  cases x <;> simp only [bi.a9] <;> first | exact hdrop _ qz | skip
  rename_i xs
  simp only [AV.bc,bg,aaw] at qz ⊢
  rintro z ⟨q,hq,rfl⟩
  exact hdrop q (qz q hq)
 split at h
 ·rename_i j z hf
  obtain ⟨v0,f1,f2,en,f3,f4,f5,f6⟩:=lG KU IW hv (ents:=ents.toList) (by simpa using h2) (by simpa using h3) hf
  have OA:=IZ (tI _ _ _ _ hf)
  have hj:j < ents.size:=by omega
  have hen:ents[j]?=some en:=by simpa using f3
  have ack:((ents[j]?).map (·.key)).getD v=v:=by simp [hen,f4]
  have hstay:(Instr.keyThatStays v v).run P w=.ok v w:=by simp [Instr.keyThatStays,Be (tI es 0 j z hf) hv 9999]
  have bK:(Instr.mapUpdate t (.map (some b)) v y).run P w=.ok () { w with heap:=w.heap.setIfInBounds b (.map (ents.modify j fun e=>{ e with key:=v,val:=y }) ck) }:=by
   simp only [Instr.mapUpdate,Sem.run_bind,run_underlying ht,Result.andThen_ok,kM,OA]
   simp only [f1 w,Result.andThen_ok,Sem.run_bind,ack,hstay,iJ]
  have Ws:(ents.modify j fun e=>{ e with key:=v,val:=y }).toList.map (·.key)=(ents.toList.map (·.key)).set j v∧(ents.modify j fun e=>{ e with key:=v,val:=y }).toList.map (·.val)=(ents.toList.map (·.val)).set j y:=by
   constructor
   ·apply abT
    intro q
    simp only [abZ,ad8,ae8,ab4]
    by_cases hq:j=q
    ·subst hq;simp [hen,hj]
    ·simp [hq]
   ·apply abT
    intro q
    simp only [abZ,ad8,ae8,ab4]
    by_cases hq:j=q
    ·subst hq;simp [hen,hj]
    ·simp [hq]
  obtain ⟨g1,g2⟩:=hs.CK (es':=es.set j (k,a9 x)) (o':=.map (ents.modify j fun e=>{ e with key:=v,val:=y }) ck) bF hl (by intro _ _ _ e;cases e) (fun w' hw=>⟨_,_,hw,by
   rw [Ws.1]
   have:=aP.set (by simpa using h2) hv j
   rwa [show (es.set j (k,a9 x)).map (·.1)=(es.map (·.1)).set j k by rw [ad6]],by
   rw [Ws.2]
   have:=aP.set (by simpa using h3) hy.a9 j
   rwa [show (es.set j (k,a9 x)).map (·.2)=(es.map (·.2)).set j (a9 x) by rw [ad6]]⟩) (by
   simp only [aa.bc,zC,ad6]
   rw [bg,bg] at *
   refine ⟨fun q hq=>?_,fun q hq=>?_⟩
   ·rcases ab6 hq with h' | rfl
    ·exact bT.1 q h'
    ·exact qy
   ·rcases ab6 hq with h' | rfl
    ·exact bT.2 q h'
    ·exact hcb)
  exact ⟨_,_,bK,h,g1,g2⟩
 ·rename_i hf
  obtain ⟨NW,hK⟩:=h
  have OA:=IZ ⟨_,NW⟩
  have f1:∀ w,(Instr.findKey kt v ents.toList).run P w=.ok none w:=lG KU IW hv (ents:=ents.toList) (by simpa using h2) (by simpa using h3) hf
  have bK:(Instr.mapUpdate t (.map (some b)) v y).run P w=.ok () { w with heap:=w.heap.setIfInBounds b (.map (ents.push { key:=v,val:=y,born:=ck }) (ck + 1)) }:=by
   simp only [Instr.mapUpdate,Sem.run_bind,run_underlying ht,Result.andThen_ok,kM,OA]
   simp only [f1 w,Result.andThen_ok,iJ]
  obtain ⟨g1,g2⟩:=hs.CK (es':=es++[(k,a9 x)]) (o':=.map (ents.push { key:=v,val:=y,born:=ck }) (ck + 1)) bF hl (by intro _ _ _ e;cases e) (fun w' hw=>⟨_,_,hw,by
   simpa using h2.append (.one hv),by
   simpa using h3.append (.one hy.a9)⟩) (by
   simp only [aa.bc,zC,ab8,List.map_cons,List.map_nil]
   exact ⟨bw.2 ⟨bT.1,by simp [aw,qy]⟩,bw.2 ⟨bT.2,by simp [aw,hcb]⟩⟩)
  exact ⟨_,_,bK,hK,g1,g2⟩
 ·exact h.elim
end
end Go.aI
end
section
namespace Go.aI
open Go
def yT (esz:Nat) (s:AV) (H:List aa):Option (Nat×List AV):=
 match s with
 | .ag=>some (0,[])
 | .al _ xs=>if xs.all (fun y=>y.cells.length == esz)=true then some (xs.length,flat xs) else none
 | .aZ id off len _=>match H[id]? with
   | some (.cells es)=>if off + len * esz≤es.length then some (len,es.drop off) else none
   | _=>none
 | _=>none
def mC (esz:Nat) (d s:AV) (H:List aa) (K:AV→List aa→Prop):Prop:=
 match d,yT esz s H with
 | .aZ id off len _,some (n,ys)=>match H[id]? with
   | some (.cells es)=>(ys.take (min n len * esz)).all AV.one=true∧off + min n len * esz≤es.length∧aw (id + 1) ((ys.take (min n len * esz)).map AV.ab)=true∧
      K (.int .i64 (min n len:Nat)) (H.set id (.cells (ai es off ((ys.take (min n len * esz)).map AV.ab))))
   | _=>False
 | _,_=>False
def jF (esz:Nat) (x:AV) (lo hi:Option AV) (φ:AV→Prop):Prop:=
 match x with
 | .aZ id off len cap=>eS hi len fun h=>eS lo 0 fun l=>l≤h∧h≤cap∧φ (.aZ id (if cap=l then off else off + l * esz) (h - l) (cap - l))
 | _=>False
def pM (esz:Nat) (x:AV) (lo hi:Option AV) (m:AV) (φ:AV→Prop):Prop:=
 match x with
 | .aZ id off len cap=>hi.isSome=true∧eS (some m) 0 fun m=>eS hi len fun h=>eS lo 0 fun l=>l≤h∧h≤m∧m≤cap∧φ (.aZ id (if m=l then off else off + l * esz) (h - l) (m - l))
 | _=>False
def bH (esz:Nat) (x:AV) (lo hi mx:Option AV) (φ:AV→Prop):Prop:=
 match x with
 | .aZ a b c d=>match mx with
   | none=>jF esz (.aZ a b c d) lo hi φ
   | some m=>pM esz (.aZ a b c d) lo hi m φ
 | _=>(∀ own xs,x=.al own xs→∀ z∈xs,z.cells.length=esz)∧gZ esz x lo hi mx φ
section
variable {P:Program} {w:World} {M:Mem} {L:List Nat} {H:List aa} {A:Perm} {ev:Nat→Value} {ea:Nat→AV} {O:Pos→Option Nat}
theorem St.Bf (hs:St A M L w H ev ea O) {id off b:Nat} {es:List AV} (bF:H[id]?=some (.cells es)) (hl:L[id]?=some b) {cs:Array Value} {e:TypeId} (h1:w.heap[b]?=some (.cells cs e (0,0)))
 (h2:aP M L cs.toList es) {vs:List Value} {xs:List AV} (hv:aP M L vs xs) (hle:off + xs.length≤es.length) (nj:aw (A.jk H.length id) (xs.map AV.ab)=true) :
 ∃ O',St A M L (w.setRow b (ai cs.toList off vs).toArray) (H.set id (.cells (ai es off (xs.map AV.ab)))) ev ea O'∧Ext A M w M (w.setRow b (ai cs.toList off vs).toArray):=by
 have rO:=hv.length
 have jY:=h2.length
 let O':Pos→Option Nat:=fun q=>match q with
  | .t t=>O (.t t)
  | .c id' j=>if id'=id∧off≤j∧j < off + xs.length then none else O (.c id' j)
 have hO:∀ q b,O' q=some b→O q=some b:=by
  intro q b hq
  cases q with
  | t t=>exact hq
  | c id' j=>
    simp only [O'] at hq
    split at hq
    ·cases hq
    ·exact hq
 have Hl:off + (xs.map AV.ab).length≤es.length:=by simp;omega
 have hsv:off + vs.length≤cs.toList.length:=by omega
 exact ⟨O',hs.write (cs':=(ai cs.toList off vs).toArray) (es':=ai es off (xs.map AV.ab)) (O':=O') bF hl h1
  (by simpa using hv.dm.AZ off h2)
  (by
    have bT:=hs.bJ id _ bF
    simp only [aa.bc] at bT
    unfold ai
    exact bw.2 ⟨uL bT,bw.2 ⟨nj,uM bT⟩⟩)
  (wF.sub hs.cU hO) hs.env hs.jX (by
  intro j
  have e1:((ai cs.toList off vs).toArray)[j]?=(ai cs.toList off vs)[j]?:=by simp
  rw [e1,fJ _ _ _ hsv,th,fJ _ _ _ Hl]
  simp only [acz]
  rw [rO]
  by_cases hj:off≤j∧j < off + xs.length
  ·simp only [hj,and_self,if_true]
   have:O' (.c id j)=none:=by simp [O',hj]
   rw [this]
   refine bm.free ?_
   intro own ys hh
   rw [abZ] at hh
   cases hx:xs[j - off]? with
   | none=>simp [hx] at hh
   | some y=>simp [hx] at hh;exact AV.bR y own ys hh
  ·simp only [hj,if_false]
   have:O' (.c id j)=O (.c id j):=by simp only [O'];rw [if_neg (by intro h';exact hj h'.2)]
   rw [this]
   have h0:=hs.jD id j
   have e3:bW L w id j=(cs.toList[j]?).getD undef:=by
    unfold bW;simp [hl,World.cell?,h1]
   have e4:bB H id j=(es[j]?).getD .any:=by
    unfold bB;simp [bF,th]
   rw [e3,e4] at h0
   exact h0)
  (by intro id' j dP;simp [O',dP])⟩
theorem St.KZ (hs:St A M L w H ev ea O) {id off b:Nat} {es:List AV} (bF:H[id]?=some (.cells es)) (hl:L[id]?=some b) {cs:Array Value} {e:TypeId} (h1:w.heap[b]?=some (.cells cs e (0,0)))
 (h2:aP M L cs.toList es) {vs:List Value} {xs:List AV} (hv:aP M L vs xs) (hle:off + xs.length≤es.length) (nj:aw (id + 1) (xs.map AV.ab)=true) :
 ∃ O',St A M L (w.setRow b (ai cs.toList off vs).toArray) (H.set id (.cells (ai es off (xs.map AV.ab)))) ev ea O'∧Ext A M w M (w.setRow b (ai cs.toList off vs).toArray):=
 hs.Bf bF hl h1 h2 hv hle (bI (A.lS (aS bF)) _ nj)
theorem K0 (hs:St A M L w H ev ea O) {esz n m:Nat} {s:AV} {ys:List AV} {v:Value} (h:yT esz s H=some (n,ys)) (hv:a7 M L v s) (hm:m≤n) :
 (Builtin.lenOf v).run P w=.ok n w∧∃ vs,(Builtin.firstCells esz m v).run P w=.ok vs.toArray w∧aP M L vs (ys.take (m * esz)):=by
 unfold yT at h
 split at h
 ·cases h
  cases hv
  have:m=0:=by omega
  subst this
  refine ⟨rfl,[],?_,by simpa using aP.nil⟩
  simp [Builtin.firstCells]
 ·rename_i own xs
  split at h <;> cases h
  rename_i fU
  have Wt:∀ y∈xs,y.cells.length=esz:=by
   intro y hy
   have:=abc.1 fU y hy
   simpa using this
  cases hv with
  | iN a c _ hc=>
    have:m=0:=by simpa using hm
    subst this
    refine ⟨rfl,[],?_,by simpa [flat] using aP.nil⟩
    cases a with
    | none=>simp [Builtin.firstCells]
    | some a=>simpa [Builtin.firstCells] using run_loadCells_list (P:=P) w a [] (by simp)
  | al b off c _ e cs _ he hx hn hle hc hr K3=>
    have Wu:=jt K3 hs.mem
    have jY:=hr.length
    have OB:(flat xs).length=xs.length * esz:=cR xs esz Wt
    have KO:=run_loadCells_list (P:=P) w ⟨b,off,none⟩ (cs.take (m * esz)) (fun j v hv=>Wu j v (by
     rw [aaG] at hv
     split at hv
     ·exact hv
     ·cases hv))
    have hlen:(cs.take (m * esz)).length=m * esz:=by
     have:m * esz≤xs.length * esz:=acu _ hm
     simp;omega
    rw [hlen] at KO
    exact ⟨rfl,cs.take (m * esz),by simpa [Builtin.firstCells] using KO,hr.take _⟩
 ·rename_i id off len cap
  split at h <;> try cases h
  rename_i es bF
  split at h <;> cases h
  rename_i vC
  cases hv with
  | aZ b _ _ _ _ hl hc=>
  obtain ⟨cs,e,h1,h2,h3⟩:=fS hs bF hl
  have jY:=h2.length
  have hlen:((cs.toList.drop off).take (m * esz)).length=m * esz:=by
   have:m * esz≤n * esz:=acu _ hm
   simp at jY ⊢;omega
  have KO:=run_loadCells_list (P:=P) w ⟨b,off,none⟩ ((cs.toList.drop off).take (m * esz)) (fun j v hv=>by rw [Addr.add_lit];exact h3 _ _ (dI _ _ _ _ _ hv))
  rw [hlen] at KO
  exact ⟨rfl,(cs.toList.drop off).take (m * esz),by simpa [Builtin.firstCells] using KO,(h2.drop off).take _⟩
 ·cases h
theorem I0 (hs:St A M L w H ev ea O) {t e:TypeId} {esz:Nat} (ht:P.underlying t=some (.slice e)) (he:ey P e=some esz) {u v:Value} {d s:AV} {K:AV→List aa→Prop} (h:mC esz d s H K) (hu:a7 M L u d) (hv:a7 M L v s) (t' ty:TypeId) :
 ∃ r z w' H' O',(Builtin.copy_ #[t,t'] ty #[u,v]).run P w=.ok r w'∧a7 M L r z∧K z H'∧St A M L w' H' ev ea O'∧Ext A M w M w'∧∀ own xs,z=.al own xs→own=0:=by
 unfold mC at h
 split at h <;> try exact h.elim
 rename_i id off len cap n ys wU
 split at h <;> try exact h.elim
 rename_i es bF
 obtain ⟨lT,hle,nj,hK⟩:=h
 cases hu with
 | aZ b _ _ _ _ hl hc=>
 obtain ⟨hlen,vs,hfc,hr⟩:=K0 (P:=P) hs wU hv (afX n len)
 obtain ⟨cs,e',h1,h2,h3⟩:=hs.obj id _ b bF hl
 have jY:=h2.length
 have rO:=hr.length
 have hyl:(ys.take (min n len * esz)).length≤min n len * esz:=by simp;omega
 have bT:=run_storeCells_at P b off e' vs 0 cs w h1 (by simp at jY ⊢;omega) (hr.iO lT)
 obtain ⟨O',g1,g2⟩:=hs.KZ (off:=off) bF hl h1 h2 hr (by omega) nj
 obtain ⟨i,hi,KT⟩:=aal.1 he
 refine ⟨.int .i64 (min n len:Nat),.int .i64 (min n len:Nat),_,_,O',?_,.int _ _,hK,g1,g2,by intro _ _ e;cases e⟩
 have SH:Nat.min n len=min n len:=rfl
 have nH:(storeCells ⟨b,off,none⟩ vs).run P w=.ok () (w.setRow b (ai cs.toList off vs).toArray):=by simpa [ai] using bT
 simp [Builtin.copy_,run_underlying ht,hlen,sizeOf,typeInfo,hi,KT,SH,hfc,nH,goInt]
theorem C3 {t e:TypeId} {esz:Nat} (ht:P.underlying t=some (.slice e)) (he:ey P e=some esz) {u:Value} {x:AV} {lo hi:Option AV} {vlo vhi:Option Value} {φ:AV→Prop} (h:jF esz x lo hi φ) (hu:a7 M L u x) (h1:ke M L lo vlo) (h2:ke M L hi vhi) :
 ∃ r z,(Instr.sliceAt t u vlo vhi none).run P w=.ok r w∧a7 M L r z∧φ z∧∀ own xs,z=.al own xs→own=0:=by
 unfold jF at h
 split at h <;> try exact h.elim
 rename_i id off len cap
 cases hu with
 | aZ b _ _ _ _ hl hc=>
 obtain ⟨hh,h,KX⟩:=eC h2 h
 obtain ⟨ll,h,tn⟩:=eC h1 h
 obtain ⟨hle,hhl,hφ⟩:=h
 obtain ⟨i,iT,KT⟩:=aal.1 he
 have dd:(sizeOf e).run P w=.ok esz w:=by simp [sizeOf,typeInfo,iT,KT]
 refine ⟨_,_,?_,.aZ b (if cap=ll then off else off + ll * esz) (hh - ll) (cap - ll) id hl (by omega),hφ,by intro _ _ e;cases e⟩
 have hb:(Instr.sliceBounds true len cap vlo vhi none).run P w=.ok (ll,hh,cap) w:=by
  rcases KX with ⟨_,rfl,rfl⟩ | ⟨kd,i,rfl,vY,rfl⟩ <;> rcases tn with ⟨_,rfl,rfl⟩ | ⟨kd',i',rfl,vF,rfl⟩
  ·rfl
  ·have qy:=run_sliceBound (P:=P) w kd' i' hh .sliceB vF hle
   simp [Instr.sliceBounds,qy]
  ·have qy:=run_sliceBound (P:=P) w kd i cap .sliceAcap vY (by omega)
   simp [Instr.sliceBounds,qy]
  ·have qy:=run_sliceBound (P:=P) w kd i cap .sliceAcap vY (by omega)
   have qz:=run_sliceBound (P:=P) w kd' i' i.toNat .sliceB vF hle
   simp [Instr.sliceBounds,qy,qz]
 simp only [Instr.sliceAt,Instr.slice,Sem.run_bind,run_underlying ht,Result.andThen_ok,hb,dd,Sem.run_pure]
 by_cases jY:cap=ll
 ·simp [jY]
 ·simp [jY,Addr.add_lit]
theorem C4 {t e:TypeId} {esz:Nat} (ht:P.underlying t=some (.slice e)) (he:ey P e=some esz) {u:Value} {x m:AV} {lo hi:Option AV} {vlo vhi vm:Option Value} {φ:AV→Prop} (h:pM esz x lo hi m φ) (hu:a7 M L u x) (h1:ke M L lo vlo) (h2:ke M L hi vhi) (h3:ke M L (some m) vm) :
 ∃ r z,(Instr.sliceAt t u vlo vhi vm).run P w=.ok r w∧a7 M L r z∧φ z∧∀ own xs,z=.al own xs→own=0:=by
 unfold pM at h
 split at h <;> try exact h.elim
 rename_i id off len cap
 cases hu with
 | aZ b _ _ _ _ hl hc=>
 obtain ⟨hsome,h⟩:=h
 obtain ⟨mm,h,VV⟩:=eC h3 h
 obtain ⟨hh,h,KX⟩:=eC h2 h
 obtain ⟨ll,h,tn⟩:=eC h1 h
 obtain ⟨hle,hhl,hmc,hφ⟩:=h
 obtain ⟨i,iT,KT⟩:=aal.1 he
 have dd:(sizeOf e).run P w=.ok esz w:=by simp [sizeOf,typeInfo,iT,KT]
 refine ⟨_,_,?_,.aZ b (if mm=ll then off else off + ll * esz) (hh - ll) (mm - ll) id hl (by omega),hφ,by intro _ _ e;cases e⟩
 have hb:(Instr.sliceBounds true len cap vlo vhi vm).run P w=.ok (ll,hh,mm) w:=by
  rcases VV with ⟨e0,_⟩ | ⟨kd3,i3,rfl,hi3,rfl⟩
  ·cases e0
  have Wv:=run_sliceBound (P:=P) w kd3 i3 cap .slice3Acap hi3 hmc
  rcases KX with ⟨rfl,_,_⟩ | ⟨kd,i,rfl,vY,rfl⟩
  ·cases hsome
  have qy:=run_sliceBound (P:=P) w kd i i3.toNat .slice3B vY hhl
  rcases tn with ⟨_,rfl,rfl⟩ | ⟨kd',i',rfl,vF,rfl⟩
  ·simp [Instr.sliceBounds,qy,Wv]
  ·have qz:=run_sliceBound (P:=P) w kd' i' i.toNat .slice3C vF hle
   simp [Instr.sliceBounds,qy,qz,Wv]
 simp only [Instr.sliceAt,Instr.slice,Sem.run_bind,run_underlying ht,Result.andThen_ok,hb,dd,Sem.run_pure]
 by_cases jY:mm=ll
 ·simp [jY]
 ·simp [jY,Addr.add_lit]
end
end Go.aI
end
section
namespace Go.aI
open Go
def chunks (esz:Nat):Nat→List AV→List AV
 | 0,_=>[]
 | n + 1,es=>(if esz=1 then (es.getD 0 .any).ab else .agg ((es.take esz).map AV.ab))::chunks esz n (es.drop esz)
def eK (esz:Nat) (x:AV) (H:List aa) (K:AV→List aa→Prop):Prop:=
 match x with
 | .aZ id off len cap=>match H[id]? with
   | some (.cells es)=>0 < esz∧len≤cap∧off + len * esz≤es.length∧(es.drop off).all AV.one=true∧K (.al 0 (chunks esz len (es.drop off))) (H.set id .dead)
   | _=>False
 | .any=>False
 | .oP=>K (.al 0 []) H
 | x=>K x.ab H
def nI (esz:Nat):List AV→List aa→(List AV→List aa→Prop)→Prop
 | [],H,K=>K [] H
 | x::r,H,K=>eK esz x H fun y H'=>nI esz r H' fun ys H''=>K (y::ys) H''
def Bg (e id c:Nat) (H:List aa) (K:List aa→Prop):Prop:=
 match H[id]? with
 | some (.cells es)=>match es[c]? with
   | some (.aZ a1 a2 a3 a4)=>eK e (.aZ a1 a2 a3 a4) H fun y H'=>H'[id]?=some (.cells es)∧y.bc (id + 1)=true∧K (H'.set id (.cells (es.set c y)))
   | some .ag=>K H
   | _=>False
 | _=>False
def jl (esz:Nat) (x:AV) (H:List aa) (K:AV→List aa→Prop):Prop:=
 match x with
 | .agg xs=>nI esz xs H fun ys H'=>K (.agg ys) H'
 | .ptr id off=>if 1000≤esz then Bg (esz % 1000) id (off + esz / 1000 - 1) H (K (.ptr id off)) else eK esz (.ptr id off) H K
 | x=>eK esz x H K
theorem zR {x:AV} (h:x.one=true):x.cells=[x]:=by cases x <;> first | rfl | simp [AV.one] at h
theorem I3 {x:AV} (h:x.one=true):x.ab.one=true:=by cases x <;> first | rfl | exact h
theorem uO (esz:Nat) (h0:0 < esz):∀ (n:Nat) (es:List AV),n * esz≤es.length→es.all AV.one=true→
 flat (chunks esz n es)=(es.take (n * esz)).map AV.ab∧(chunks esz n es).length=n∧∀ x∈chunks esz n es,x.cells.length=esz
 | 0,es,_,_=>by simp [chunks,flat]
 | n + 1,es,hle,h1=>by
   have Wj:n * esz + esz≤es.length:=by rw [abO] at hle;omega
   obtain ⟨i1,i2,i3⟩:=uO esz h0 n (es.drop esz) (by simp;omega) (by
    rw [abc] at h1 ⊢
    exact fun x hx=>h1 x (afE hx))
   have hhead:(if esz=1 then (es.getD 0 .any).ab else AV.agg ((es.take esz).map AV.ab)).cells=(es.take esz).map AV.ab:=by
    split
    ·rename_i e
     subst e
     cases es with
     | nil=>simp at Wj
     | cons x r=>
       have hx:x.one=true:=abc.1 h1 x (by simp)
       simp [zR (I3 hx)]
    ·rfl
   refine ⟨?_,by simp [chunks,i2],?_⟩
   ·simp only [flat] at i1
    simp only [chunks,flat,List.flatMap_cons,hhead,i1]
    rw [← ab8]
    congr 1
    rw [abO,Nat.one_mul,af2 (n * esz) esz,List.take_add]
   ·intro x hx
    simp only [chunks,aak] at hx
    rcases hx with rfl | hx
    ·rw [hhead];simp;omega
    ·exact i3 x hx
section
variable {P:Program} {w:World} {M:Mem} {L:List Nat} {H:List aa} {A:Perm} {ev:Nat→Value} {ea:Nat→AV} {O:Pos→Option Nat}
theorem St.freeze (h:St A M L w H ev ea O) {id b:Nat} {es:List AV} (bF:H[id]?=some (.cells es)) (hl:L[id]?=some b) :
 ∃ (cs:Array Value) (O':Pos→Option Nat),aP M L cs.toList es∧M.sub (M.add b cs.toList)∧(M.add b cs.toList).row b 0 cs.toList∧St A (M.add b cs.toList) L w (H.set id .dead) ev ea O'∧Ext A M w (M.add b cs.toList) w∧(∀ t,O' (.t t)=O (.t t)):=by
 obtain ⟨cs,e,h1,h2,h3⟩:=h.obj id _ b bF hl
 have zD:b∈L:=abB hl
 have gS:M.sub (M.add b cs.toList):=by
  intro b' o v hv
  have dP:b'≠b:=by
   rintro rfl
   rw [h3] at hv;cases hv
  simp [Mem.add,dP,hv]
 have hM:∀ b',b'≠b→∀ o,(M.add b cs.toList) b' o=M b' o:=fun b' hb o=>by simp [Mem.add,hb]
 let O':Pos→Option Nat:=fun p=>match p with | .t t=>O (.t t) | .c id' j=>if id'=id then none else O (.c id' j)
 have hO:∀ q b,O' q=some b→O q=some b:=by
  intro q b hq
  cases q with
  | t t=>exact hq
  | c id' j=>
    simp only [O'] at hq
    split at hq
    ·cases hq
    ·exact hq
 have hOb:∀ q b',O q=some b'→b'≠b:=fun q b' hq e=>h.cZ q b' hq (e ▸ zD)
 refine ⟨cs,O',h2,gS,?_,?_,?_,fun t=>rfl⟩
 ·intro j v hv
  simpa [Mem.add] using hv
 ·exact { len:=by simp [h.len],nodup:=h.nodup,env:=fun t=>(h.env t).mono gS (aaD _)
          mem:=by
           intro b' o v hv
           by_cases e0:b'=b
           ·subst e0
            simp only [Mem.add,if_true] at hv
            simpa [World.cell?,h1] using hv
           ·rw [hM b' e0] at hv
            exact h.mem b' o v hv
          obj:=by
           intro id' o b' ho ew
           rw [ab4] at ho
           split at ho
           ·split at ho <;> cases ho
            trivial
           ·rename_i dP
            refine (h.obj id' o b' ho ew).mono gS (aaD _) rfl (hM b' ?_)
            rintro rfl
            exact dP ((adB (aS hl) h.nodup).1 (hl.trans ew.symm))
          bJ:=by
           intro id' o ho
           rw [ab7]
           rw [ab4] at ho
           split at ho
           ·split at ho <;> cases ho
            rfl
           ·exact h.bJ id' o ho
          lt:=h.lt
          jX:=fun t=>(h.jX t).mono fun b' ew=>⟨rfl,hM b' (hOb _ b' ew)⟩
          jD:=by
           intro id' j
           by_cases e0:id'=id
           ·subst e0
            have:bB (H.set id' .dead) id' j=.any:=by
             unfold bB
             rw [ab4]
             simp
            rw [this]
            simp [O',bm]
           ·have e1:bB (H.set id .dead) id' j=bB H id' j:=by
             unfold bB
             rw [ab4,if_neg (Ne.symm e0)]
            rw [e1]
            have:O' (.c id' j)=O (.c id' j):=by simp [O',e0]
            rw [this]
            exact (h.jD id' j).mono fun b' ew=>⟨rfl,hM b' (hOb _ b' ew)⟩
          cU:=fun p q b hp hq=>h.cU p q b (hO p b hp) (hO q b hq)
          cZ:=fun p b hp=>h.cZ p b (hO p b hp)
          iA:=fun p b hp=>h.iA p b (hO p b hp)
          La:=h.La
          Oa:=fun p b hp=>h.Oa p b (hO p b hp)
          fresh:=h.fresh }
 ·exact ⟨gS,zy _,rfl,rfl,rfl,fun b' _ hA=>⟨rfl,hM b' (fun e=>hA (e ▸ h.La b zD))⟩,fun k r hk=>⟨r,hk,rfl⟩⟩
theorem nJ (hs:St A M L w H ev ea O) {esz:Nat} {u:Value} {x:AV} {K:AV→List aa→Prop} (h:eK esz x H K) (hu:a7 M L u x) :
 ∃ z M' H' O',a7 M' L u z∧K z H'∧St A M' L w H' ev ea O'∧Ext A M w M' w∧∀ own xs,z=.al own xs→own=0:=by
 unfold eK at h
 split at h
 ·rename_i id off len cap
  split at h <;> try exact h.elim
  rename_i es bF
  obtain ⟨h0,bY,hle,h1,hK⟩:=h
  cases hu with
  | aZ b _ _ _ _ hl hc=>
  obtain ⟨cs,O',k1,k2,k3,k4,k5,_⟩:=hs.freeze bF hl
  obtain ⟨c1,c2,c3⟩:=uO esz h0 len (es.drop off) (by simp;omega) h1
  refine ⟨_,_,_,O',?_,hK,k4,k5,by intro own xs e;cases e;rfl⟩
  have jY:=k1.length
  by_cases hz:len=0
  ·subst hz
   simp only [chunks]
   exact .iN _ _ _ hc
  ·have hr:aP (M.add b cs.toList) L ((cs.toList.drop off).take (len * esz)) (flat (chunks esz len (es.drop off))):=by
    rw [c1]
    exact (((k1.drop off).take _).dm).mono k2 (aaD _)
   have K3:(M.add b cs.toList).row b off ((cs.toList.drop off).take (len * esz)):=by
    intro j v hv
    have:=k3 (off + j) v (dI _ _ _ _ _ hv)
    simpa using this
   have:=a7.al (M:=M.add b cs.toList) (L:=L) b off cap 0 esz _ (chunks esz len (es.drop off)) h0 c3 (by omega) (by omega) hc hr K3
   rw [c2] at this
   exact this
 ·exact h.elim
 ·cases hu
  exact ⟨_,M,H,O,.iN _ 0 0 (by decide),h,hs,Ext.refl A M w,by intro _ _ e;cases e;rfl⟩
 ·rename_i aie SJ
  refine ⟨_,M,H,O,hu.ab,h,hs,Ext.refl A M w,AV.bR x⟩
theorem wV {esz:Nat}:∀ {xs:List AV} {us:List Value} {M:Mem} {H:List aa} {O:Pos→Option Nat} {K:List AV→List aa→Prop},St A M L w H ev ea O→nI esz xs H K→aP M L us xs→
 ∃ zs M' H' O',aP M' L us zs∧K zs H'∧St A M' L w H' ev ea O'∧Ext A M w M' w
 | [],us,M,H,O,K,hs,h,hu=>⟨[],M,H,O,hu,h,hs,Ext.refl A M w⟩
 | x::r,us,M,H,O,K,hs,h,hu=>by
   cases hu with
   | cons u _ us _ h1 h2=>
   obtain ⟨z,M1,H1,O1,k1,k2,k3,k4,_⟩:=nJ hs h h1
   obtain ⟨zs,M2,H2,O2,g1,g2,g3,g4⟩:=wV k3 k2 (h2.mono k4.oD (aaD L))
   exact ⟨z::zs,M2,H2,O2,.cons _ _ _ _ (k1.mono g4.oD (aaD L)) g1,g2,g3,k4.trans g4⟩
theorem setRow_self {b:Nat} {cs:Array Value} {e:TypeId} {f:Nat×Nat} (h:w.heap[b]?=some (.cells cs e f)):w.setRow b cs=w:=by
 have:(w.setRow b cs).heap=w.heap:=by
  apply Array.ext
  ·simp [World.setRow]
  ·intro i h1 h2
   simp only [World.setRow,agf]
   split
   ·rename_i e0
    subst e0
    obtain ⟨_,h'⟩:=abR.1 h
    rw [h']
   ·rfl
 show ({ w with heap:=(w.setRow b cs).heap }:World)=w
 rw [this]
theorem K4 (hs:St A M L w H ev ea O) {e id c:Nat} {K:List aa→Prop} (h:Bg e id c H K) :
 ∃ M' H' O',K H'∧St A M' L w H' ev ea O'∧Ext A M w M' w:=by
 unfold Bg at h
 split at h <;> try exact h.elim
 rename_i es bF
 split at h <;> try exact h.elim
 rotate_left
 ·exact ⟨M,H,O,h,hs,.refl A M w⟩
 rename_i a1 a2 a3 a4 hc
 have hb:∃ b,L[id]?=some b:=by
  have:=aS bF
  rw [← hs.len] at this
  exact ⟨L[id],by simp [this]⟩
 obtain ⟨b,hl⟩:=hb
 obtain ⟨cs,ty,k1,k2,k3⟩:=hs.obj id _ b bF hl
 obtain ⟨u,hu,hru⟩:=k2.get c _ hc
 obtain ⟨y,M',H1,O1,g1,⟨g2,g3,g4⟩,g5,g6,g7⟩:=nJ hs h hru
 obtain ⟨cs',ty',m1,m2,m3⟩:=g5.obj id _ b g2 hl
 rw [k1] at m1;cases m1
 have bT:=g5.bJ id _ g2
 have jY:c < es.length:=aS hc
 have iJ:cs.toList.set c u=cs.toList:=by
  apply abT
  intro j
  rw [ab4]
  split
  ·rename_i e0;subst e0
   have:c < cs.toList.length:=aS hu
   rw [if_pos this,hu]
  ·rfl
 have tJ:=m2.set g1 c
 rw [iJ] at tJ
 have hcv:∀ j,bW L w id j=(cs[j]?).getD undef:=by
  intro j
  unfold bW
  rw [hl]
  simp [World.cell?,k1]
 have hO:O1 (.c id c)=none:=by
  have:=g5.jD id c
  have e1:bB H1 id c=.aZ a1 a2 a3 a4:=by
   unfold bB
   rw [g2]
   simp [th,hc]
  rw [e1] at this
  exact this
 obtain ⟨q1,q2⟩:=g5.write (es':=es.set c y) (cs':=cs) (ea':=ea) (O':=O1) g2 hl k1 tJ (by
  simp only [aa.bc] at bT
  rw [bg] at bT ⊢
  intro z hz
  rcases ab6 hz with h' | rfl
  ·exact bT z h'
  ·exact AV.cH (A.lS (aS g2)) _ g3) ⟨fun p q b hp hq=>g5.cU p q b hp hq,fun p b hp=>⟨p,hp⟩⟩ g5.env g5.jX (fun j=>by
  by_cases e0:j=c
  ·subst e0
   rw [hO]
   have:(es.set j y).getD j .any=y:=by rw [th,Sx jY];rfl
   rw [this]
   exact bm.free g7
  ·have:=g5.jD id j
   rw [hcv j] at this
   have e1:bB H1 id j=es.getD j .any:=by unfold bB;rw [g2]
   rw [e1] at this
   rwa [th,zA (fun e=>e0 e.symm),← th]) (fun _ _ _=>rfl)
 rw [setRow_self k1] at q1 q2
 exact ⟨M',_,O1,g4,q1,g6.trans q2⟩
theorem tK (hs:St A M L w H ev ea O) {esz:Nat} {u:Value} {x:AV} {K:AV→List aa→Prop} (h:jl esz x H K) (hu:a7 M L u x) :
 ∃ z M' H' O',a7 M' L u z∧K z H'∧St A M' L w H' ev ea O'∧Ext A M w M' w∧∀ own xs,z=.al own xs→own=0:=by
 unfold jl at h
 split at h
 ·cases hu with
  | agg cs xs hr=>
  obtain ⟨zs,M',H',O',g1,g2,g3,g4⟩:=wV hs h hr
  exact ⟨.agg zs,M',H',O',.agg _ _ g1,g2,g3,g4,by intro own xs e;cases e⟩
 ·rename_i id off
  split at h
  ·obtain ⟨M',H',O',g1,g2,g3⟩:=K4 hs h
   exact ⟨.ptr id off,M',H',O',hu.mono g3.oD (aaD L),g1,g2,g3,by intro own xs e;cases e⟩
  ·exact nJ hs h hu
 ·exact nJ hs h hu
end
end Go.aI
end
