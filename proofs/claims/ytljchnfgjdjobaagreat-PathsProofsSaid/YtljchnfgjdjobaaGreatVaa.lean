/- Part 1 of 20 of the proof. -/
import Derived.WalkKit
import Derived.Laws.AppendOwn
import Derived.Laws.Cells
import Derived.Deep.Quiet
import Derived.RowKit
import Derived.RangeFuncLeaves
import Derived.RangeFuncRecord
import Derived.OrdersIn
import Derived.Laws.Strings
import Derived.Laws.Entries
import Derived.Laws.CopyRow
import Derived.Great.BuildSlice
import Derived.Laws.BytesArg
set_option linter.unusedVariables false
set_option linter.unusedSimpArgs false
set_option linter.defProp false
set_option linter.unusedSectionVars false
namespace Go
theorem af4 {α:Sort _} {a:α}:a=a:=_root_.id rfl
def hV:=@And.intro
def rB:=@List.getD_eq_getElem?_getD
def rC:=@Nat.le_refl
def yO:=@List.getElem?_append_left
def yP:=@Int.toNat_natCast
def yQ:=@List.getElem?_set_ne
def yR:=@Option.map_eq_some_iff
def yS:=@List.getElem?_set_self
def Oq:=@List.getElem?_eq_getElem
def Ot:=@Bool.and_eq_true
def aaf:=@List.length_append
def aai:=@List.mem_cons
def aal:=@List.mem_map
def aav:=@List.prefix_refl
def aaw:=@List.take_of_length_le
def aax:=@List.getElem?_take
def aaB:=@List.mem_singleton
def aaF:=@List.mem_cons_of_mem
def aaJ:=@List.getElem?_eq_some_iff
def aaR:=@List.take_append_of_le_length
def aaW:=@List.mem_cons_self
def abb:=@List.append_assoc
def abp:=@List.take_length
def abr:=@List.drop_eq_getElem_cons
def abt:=@List.getElem?_append_right
def abu:=@List.drop_of_length_le
def aby:=@List.length_eq_zero_iff
def abD:=@List.not_mem_nil
def abE:=@List.mem_of_getElem?
def abF:=@List.all_eq_true
def abG:=@Bool.not_eq_true'
def abH:=@Array.getD_eq_getD_getElem?
def abI:=@List.take_set_of_le
def abJ:=@List.mem_append
def abK:=@List.mem_range
def abL:=@List.getElem?_eq_none
def abM:=@Nat.zero_add
def abN:=@List.count_pos_iff
def abO:=@Bool.false_eq_true
def abP:=@Nat.add_mul
def abQ:=@List.append_nil
def abR:=@Nat.mul_one
def abS:=@Array.getElem?_eq_some_iff
def abT:=@List.take_succ_eq_append_getElem
def abU:=@List.ext_getElem?
def abV:=@Int.eq_ofNat_of_zero_le
def abW:=@List.getElem?_map
def abX:=@Nat.le_trans
def abY:=@Bool.eq_iff_iff
def abZ:=@List.mem_filter
def ab0:=@List.length_take
def ab1:=@Bool.or_eq_false_iff
def ab2:=@List.eq_of_mem_replicate
def ab3:=@List.map_append
def ab4:=@List.map_congr_left
def ab5:=@Nat.le_mul_of_pos_right
def ab6:=@List.getElem?_set
def ab7:=@List.mem_or_eq_of_mem_set
def ab8:=@Bool.or_eq_true
def ab9:=@ByteArray.toList_eq
def aca:=@Bool.eq_false_iff
def acb:=@Bool.and_true
def acd:=@List.length_set
def ace:=@List.length_map
def acf:=@List.getElem_mem
def acg:=@List.mem_of_mem_take
def ach:=@Nat.mul_le_mul_right
def aco:=@Bool.and_self
def acp:=@List.map_eq_nil_iff
def acq:=@List.getElem_of_mem
def acs:=@List.map_map
def acA:=@Nat.zero_le
def acB:=@Nat.lt_irrefl
def acC:=@List.map_toArray
def acH:=@List.length_replicate
def acI:=@List.eraseIdx_eq_take_drop_succ
def acJ:=@List.range_succ
def acK:=@List.mem_of_mem_eraseIdx
def acM:=@List.getElem?_inj
def acN:=@List.take_add_one
def acO:=@Nat.add_assoc
def acP:=@List.eq_nil_of_length_eq_zero
def acR:=@List.drop_append_of_le_length
def acY:=@List.flatMap_append
def ac9:=@Array.getElem?_setIfInBounds
def adf:=@Nat.lt_of_lt_of_le
def adj:=@Nat.sub_self
def ado:=@Array.getElem?_toList
def adp:=@Nat.le_of_ble_eq_true
def adr:=@List.set_append_right
def adv:=@List.any_eq_false
def ady:=@Array.getElem?_eq_getElem
def adB:=@List.mem_of_mem_drop
def adH:=@List.take_left
def adI:=@List.drop_append
def adJ:=@List.map_set
def adV:=@List.ext_getElem
def adW:=@List.length_pos_iff
def adX:=@List.getElem?_drop
def adY:=@List.count_append
def ad0:=@Array.getElem?_modify
def ad1:=@List.take_append_drop
def ad4:=@Array.getElem_push_lt
def aef:=@Bool.and_eq_false_iff
def aeg:=@List.set_set
def aeh:=@List.mem_iff_getElem?
def aei:=@List.getElem?_append
def aej:=@List.length_drop
def aek:=@List.mem_flatMap
def aem:=@List.countP_cons
def aeu:=@List.take_set
def aeA:=@Array.length_toList
def aeE:=@List.replicate_succ
def aeF:=@Nat.min_le_left
def aeG:=@Nat.lt_or_ge
def aeN:=@Bool.not_not
def aeR:=@Nat.add_zero
def aeW:=@Nat.add_comm
def ae9:=@Array.getElem?_replicate
def afe:=@List.set_cons_zero
def afh:=@Option.bind_eq_some_iff
def afi:=@Nat.lt_trichotomy
def afl:=@List.drop_eq_nil_of_le
def afn:=@List.set_eq_take_append_cons_drop
def afu:=@List.take_append
def afB:=@List.flatMap_nil
def afD:=@List.findIdx_lt_length_of_exists
def afF:=@List.length_singleton
def afG:=@List.countP_le_length
def afH:=@List.replicate_append_replicate
def afM:=@Nat.zero_mul
def afN:=@Array.toArray_toList
def afO:=@Array.getElem_modify
def afP:=@Nat.sub_zero
def afQ:=@List.set_append_left
def afR:=@List.findIdx_getElem
def afS:=@Array.toList_append
def afT:=@List.mem_map_of_mem
def afU:=@List.drop_left
def afV:=@Bool.false_and
def afW:=@Int.le_refl
def afX:=@Array.foldl_toList
def afY:=@List.set_cons_succ
def afZ:=@Bool.true_and
def af0:=@List.any_cons
def af2:=@Int.emod_eq_of_lt
def af3:=@List.reverse_cons
end Go
section
namespace Go.aK
open Go
inductive AV where
 | any
 | bool (b:Bool)
 | int (k:IntKind) (n:Int)
 | str (s:ByteArray)
 | ag
 | al (own:Nat) (xs:List AV)
 | aZ (id off len cap:Nat)
 | agg (xs:List AV)
 | tuple (xs:List AV)
 | ptr (id off:Nat)
 | ai (x:AV)
 | tg
 | map (id:Nat)
 | jN
 | fn (f:Fn) (first captured:List AV)
 | gn
 | iface (t:TypeId) (x:AV)
 | yX
 | ou (id:Nat)
 | om
 deriving Inhabited
def AV.cells:AV→List AV
 | .agg xs=>xs
 | x=>[x]
def flat (xs:List AV):List AV:=xs.flatMap AV.cells
abbrev Mem:=Nat→Nat→Option Value
def Mem.sub (M M':Mem):Prop:=∀ b o v,M b o=some v→M' b o=some v
theorem Mem.bY (M:Mem):M.sub M:=fun _ _ _ h=>h
theorem Mem.Jd {M1 M2 M3:Mem} (h:M1.sub M2) (k:M2.sub M3):M1.sub M3:=fun b o v hv=>k b o v (h b o v hv)
def Mem.row (M:Mem) (b o:Nat) (cs:List Value):Prop:=∀ j v,cs[j]?=some v→M b (o + j)=some v
mutual
inductive aW (M:Mem) (L:List Nat):Value→AV→Prop
 | any (v:Value):aW M L v .any
 | bool (b:Bool):aW M L (.bool b) (.bool b)
 | int (k:IntKind) (n:Int):aW M L (.int k n) (.int k n)
 | str (s:ByteArray):aW M L (.string s) (.str s)
 | ag:aW M L (.slice none 0 0) .ag
 | iw (a:Option Addr) (c own:Nat) (hc:c < 9223372036854775808):aW M L (.slice a 0 c) (.al own [])
 | al (b off c own e:Nat) (cs:List Value) (xs:List AV) (he:0 < e) (hx:∀ x∈xs,x.cells.length=e) (hn:0 < xs.length) (hle:xs.length≤c) (hc:c < 9223372036854775808)
    (hr:aP M L cs (flat xs)) (hm:M.row b off cs):aW M L (.slice (some ⟨b,off,none⟩) xs.length c) (.al own xs)
 | aZ (b off len cap id:Nat) (hl:L[id]?=some b) (hc:cap < 9223372036854775808):aW M L (.slice (some ⟨b,off,none⟩) len cap) (.aZ id off len cap)
 | agg (cs:List Value) (xs:List AV) (hr:aP M L cs xs):aW M L (.agg cs.toArray) (.agg xs)
 | tuple (cs:List Value) (xs:List AV) (hr:aP M L cs xs):aW M L (.tuple cs.toArray) (.tuple xs)
 | ptr (b off id:Nat) (hl:L[id]?=some b):aW M L (.pointer (some ⟨b,off,none⟩)) (.ptr id off)
 | ai (b off:Nat) (cs:List Value) (x:AV) (hr:aP M L cs x.cells) (hm:M.row b off cs):aW M L (.pointer (some ⟨b,off,none⟩)) (.ai x)
 | tg:aW M L (.pointer none) .tg
 | map (b id:Nat) (hl:L[id]?=some b):aW M L (.map (some b)) (.map id)
 | jN:aW M L (.map none) .jN
 | fn (f:Fn) (fs cs:List Value) (xs ys:List AV) (h1:aP M L fs xs) (h2:aP M L cs ys):aW M L (.func f fs.toArray cs.toArray) (.fn f xs ys)
 | gn:aW M L .nilFunc .gn
 | iface (t:TypeId) (v:Value) (x:AV) (h:aW M L v x):aW M L (.iface t v) (.iface t x)
 | yX:aW M L .nilIface .yX
 | ou (b id:Nat) (hl:L[id]?=some b):aW M L (.func (.yield b) #[] #[]) (.ou id)
 | om (a:Option Addr):aW M L (.slice a 0 0) .om
inductive aP (M:Mem) (L:List Nat):List Value→List AV→Prop
 | nil:aP M L [] []
 | cons (v:Value) (x:AV) (vs:List Value) (xs:List AV) (h:aW M L v x) (t:aP M L vs xs):aP M L (v::vs) (x::xs)
end
theorem gL {L L':List Nat} (h:L <+: L') {id b:Nat} (hb:L[id]?=some b):L'[id]?=some b:=by
 obtain ⟨r,rfl⟩:=h
 rw [yO]
 ·exact hb
 ·exact (aaJ.1 hb).1
theorem Mem.row.mono {M M':Mem} (hs:M.sub M') {b o:Nat} {cs:List Value} (h:M.row b o cs):M'.row b o cs:=fun j v hv=>hs _ _ _ (h j v hv)
mutual
theorem aW.mono {M M':Mem} {L L':List Nat} (hs:M.sub M') (hL:L <+: L'):∀ {v:Value} {x:AV},aW M L v x→aW M' L' v x
 | _,_,.any v=>.any v
 | _,_,.bool b=>.bool b
 | _,_,.int k n=>.int k n
 | _,_,.str s=>.str s
 | _,_,.ag=>.ag
 | _,_,.iw a c o h=>.iw a c o h
 | _,_,.al b off c own e cs xs he hx hn hle hc hr hm=>.al b off c own e cs xs he hx hn hle hc (hr.mono hs hL) (hm.mono hs)
 | _,_,.aZ b off len cap id hl hc=>.aZ b off len cap id (gL hL hl) hc
 | _,_,.agg cs xs hr=>.agg cs xs (hr.mono hs hL)
 | _,_,.tuple cs xs hr=>.tuple cs xs (hr.mono hs hL)
 | _,_,.ptr b off id hl=>.ptr b off id (gL hL hl)
 | _,_,.ai b off cs x hr hm=>.ai b off cs x (hr.mono hs hL) (hm.mono hs)
 | _,_,.tg=>.tg
 | _,_,.map b id hl=>.map b id (gL hL hl)
 | _,_,.jN=>.jN
 | _,_,.fn f fs cs xs ys h1 h2=>.fn f fs cs xs ys (h1.mono hs hL) (h2.mono hs hL)
 | _,_,.gn=>.gn
 | _,_,.iface t v x h=>.iface t v x (h.mono hs hL)
 | _,_,.yX=>.yX
 | _,_,.ou b id hl=>.ou b id (gL hL hl)
 | _,_,.om a=>.om a
theorem aP.mono {M M':Mem} {L L':List Nat} (hs:M.sub M') (hL:L <+: L'):∀ {vs:List Value} {xs:List AV},aP M L vs xs→aP M' L' vs xs
 | _,_,.nil=>.nil
 | _,_,.cons v x vs xs h t=>.cons v x vs xs (h.mono hs hL) (t.mono hs hL)
end
section
variable {M:Mem} {L:List Nat}
theorem aP.length:∀ {vs:List Value} {xs:List AV},aP M L vs xs→vs.length=xs.length
 | _,_,.nil=>rfl
 | _,_,.cons _ _ _ _ _ t=>by simp [t.length]
theorem aP.get:∀ {vs:List Value} {xs:List AV},aP M L vs xs→∀ (j:Nat) (x:AV),xs[j]?=some x→∃ v,vs[j]?=some v∧aW M L v x
 | _,_,.nil,j,x,h=>by simp at h
 | _,_,.cons v y vs xs h t,0,x,hx=>by simp at hx;subst hx;exact ⟨v,by simp,h⟩
 | _,_,.cons v y vs xs h t,j + 1,x,hx=>by
   obtain ⟨u,hu,hr⟩:=t.get j x (by simpa using hx)
   exact ⟨u,by simpa using hu,hr⟩
theorem aP.append:∀ {vs:List Value} {xs:List AV},aP M L vs xs→∀ {us:List Value} {ys:List AV},aP M L us ys→aP M L (vs++us) (xs++ys)
 | _,_,.nil,_,_,h2=>h2
 | _,_,.cons v x vs xs h t,_,_,h2=>.cons v x _ _ h (t.append h2)
theorem aP.take:∀ {vs:List Value} {xs:List AV},aP M L vs xs→∀ n,aP M L (vs.take n) (xs.take n)
 | _,_,.nil,n=>by simp;exact .nil
 | _,_,.cons v x vs xs h t,0=>.nil
 | _,_,.cons v x vs xs h t,n + 1=>.cons v x _ _ h (t.take n)
theorem aP.drop:∀ {vs:List Value} {xs:List AV},aP M L vs xs→∀ n,aP M L (vs.drop n) (xs.drop n)
 | _,_,.nil,n=>by simp;exact .nil
 | _,_,.cons v x vs xs h t,0=>.cons v x _ _ h t
 | _,_,.cons v x vs xs h t,n + 1=>t.drop n
theorem aP.set:∀ {vs:List Value} {xs:List AV},aP M L vs xs→∀ {u:Value} {y:AV},aW M L u y→∀ n,aP M L (vs.set n u) (xs.set n y)
 | _,_,.nil,_,_,_,n=>by simp;exact .nil
 | _,_,.cons v x vs xs h t,u,y,hu,0=>.cons u y _ _ hu t
 | _,_,.cons v x vs xs h t,u,y,hu,n + 1=>.cons v x _ _ h (t.set hu n)
theorem aP.Bg:∀ {vs:List Value} {xs:List AV},vs.length=xs.length→(∀ (j:Nat) (x:AV),xs[j]?=some x→∃ v,vs[j]?=some v∧aW M L v x)→aP M L vs xs
 | [],[],_,_=>.nil
 | [],_::_,h,_=>by simp at h
 | _::_,[],h,_=>by simp at h
 | v::vs,x::xs,h,H=>by
   obtain ⟨u,hu,hr⟩:=H 0 x rfl
   simp at hu;subst hu
   exact .cons v x vs xs hr (.Bg (by simpa using h) (fun j y hy=>by obtain ⟨u,hu,hr⟩:=H (j + 1) y (by simpa using hy);exact ⟨u,by simpa using hu,hr⟩))
theorem aP.one {v:Value} {x:AV} (h:aW M L v x):aP M L [v] [x]:=.cons _ _ _ _ h .nil
theorem aP.HO {vs:List Value} {x:AV} (h:aP M L vs [x]):∃ v,vs=[v]∧aW M L v x:=by
 cases h with
 | cons v x vs xs h t=>cases t with | nil=>exact ⟨v,rfl,h⟩
theorem aP.getD {vs:List Value} {xs:List AV} (h:aP M L vs xs) (j:Nat):aW M L (vs.getD j undef) (xs.getD j .any):=by
 rcases aeG j xs.length with hj | hj
 ·obtain ⟨v,hv,hr⟩:=h.get j xs[j] (by simp [hj])
  rw [rB,rB,hv]
  simpa [hj] using hr
 ·rw [rB,rB,abL hj]
  exact .any _
end
def AV.ab:AV→AV
 | .al _ xs=>.al 0 xs
 | x=>x
def AV.drop:AV→AV
 | .al _ xs=>.al 0 xs
 | .ag=>.al 0 []
 | x=>x
theorem aW.FF {M:Mem} {L:List Nat} {v:Value} {o o':Nat} {xs:List AV} (h:aW M L v (.al o xs)):aW M L v (.al o' xs):=by
 cases h with
 | iw a c _ hc=>exact .iw a c o' hc
 | al b off c _ e cs _ he hx hn hle hc hr hm=>exact .al b off c o' e cs xs he hx hn hle hc hr hm
theorem aW.ab {M:Mem} {L:List Nat} {v:Value} {x:AV} (h:aW M L v x):aW M L v x.ab:=by
 cases x <;> first | exact h | exact h.FF
theorem aW.drop {M:Mem} {L:List Nat} {v:Value} {x:AV} (h:aW M L v x):aW M L v x.drop:=by
 cases x <;> first | exact h | exact h.FF | (cases h;exact .iw _ _ _ (by decide))
theorem aP.map_drop {M:Mem} {L:List Nat}:∀ {vs:List Value} {xs:List AV},aP M L vs xs→aP M L vs (xs.map AV.drop)
 | _,_,.nil=>.nil
 | _,_,.cons v x vs xs h t=>.cons v _ _ _ h.drop t.map_drop
def AV.one:AV→Bool
 | .any=>false
 | .agg _=>false
 | .tuple _=>false
 | _=>true
theorem aW.iz {M:Mem} {L:List Nat} {v:Value} {x:AV} (h:aW M L v x) (h1:x.one=true):v.oneCell'=true:=by
 cases h <;> first | rfl | simp [AV.one] at h1
theorem aP.iz {M:Mem} {L:List Nat}:∀ {vs:List Value} {xs:List AV},aP M L vs xs→xs.all AV.one=true→∀ v∈vs,v.oneCell'=true
 | _,_,.nil,_,v,hv=>by simp at hv
 | _,_,.cons u x vs xs h t,h1,v,hv=>by
   simp only [List.all_cons,Ot] at h1
   rcases aai.1 hv with rfl | hv
   ·exact h.iz h1.1
   ·exact t.iz h1.2 v hv
mutual
def AV.bc (n:Nat):AV→Bool
 | .aZ id _ _ _=>id < n
 | .ptr id _=>id < n
 | .map id=>id < n
 | .ou id=>id < n
 | .al _ xs=>aj n xs
 | .agg xs=>aj n xs
 | .tuple xs=>aj n xs
 | .ai x=>x.bc n
 | .fn _ xs ys=>aj n xs && aj n ys
 | .iface _ x=>x.bc n
 | _=>true
def aj (n:Nat):List AV→Bool
 | []=>true
 | x::xs=>x.bc n && aj n xs
end
theorem a9 (n:Nat):∀ xs:List AV,aj n xs=true↔∀ x∈xs,x.bc n=true
 | []=>by simp [aj]
 | x::xs=>by simp [aj,a9 n xs]
theorem lh {L:List Nat} {id n b:Nat} (h:L[id]?=some b) (hn:id < n):(L.take n)[id]?=some b:=by
 rw [aax];simp [hn,h]
theorem cL {n:Nat} {x:AV} (h:x.bc n=true):aj n x.cells=true:=by
 cases x <;> simp_all [AV.cells,AV.bc,aj]
theorem uG {n:Nat}:∀ {xs:List AV},aj n xs=true→aj n (flat xs)=true
 | [],_=>rfl
 | x::xs,h=>by
   simp only [aj,Ot] at h
   have h1:=cL h.1
   have h2:=uG h.2
   rw [a9] at *
   intro y hy
   simp only [flat,List.flatMap_cons,abJ] at hy
   rcases hy with hy | hy
   ·exact h1 y hy
   ·exact h2 y hy
mutual
theorem aW.gX {M:Mem} {L:List Nat} {n:Nat}:∀ {v:Value} {x:AV},aW M L v x→x.bc n=true→aW M (L.take n) v x
 | _,_,.any v,_=>.any v
 | _,_,.bool b,_=>.bool b
 | _,_,.int k n,_=>.int k n
 | _,_,.str s,_=>.str s
 | _,_,.ag,_=>.ag
 | _,_,.iw a c o h,_=>.iw a c o h
 | _,_,.al b off c own e cs xs he hx hn hle hc hr hm,h=>.al b off c own e cs xs he hx hn hle hc (hr.gX (uG (by simpa [AV.bc] using h))) hm
 | _,_,.aZ b off len cap id hl hc,h=>.aZ b off len cap id (lh hl (by simpa [AV.bc] using h)) hc
 | _,_,.agg cs xs hr,h=>.agg cs xs (hr.gX (by simpa [AV.bc] using h))
 | _,_,.tuple cs xs hr,h=>.tuple cs xs (hr.gX (by simpa [AV.bc] using h))
 | _,_,.ptr b off id hl,h=>.ptr b off id (lh hl (by simpa [AV.bc] using h))
 | _,_,.ai b off cs x hr hm,h=>.ai b off cs x (hr.gX (cL (by simpa [AV.bc] using h))) hm
 | _,_,.tg,_=>.tg
 | _,_,.map b id hl,h=>.map b id (lh hl (by simpa [AV.bc] using h))
 | _,_,.jN,_=>.jN
 | _,_,.fn f fs cs xs ys h1 h2,h=>by
   simp only [AV.bc,Ot] at h
   exact .fn f fs cs xs ys (h1.gX h.1) (h2.gX h.2)
 | _,_,.gn,_=>.gn
 | _,_,.iface t v x h,hb=>.iface t v x (h.gX (by simpa [AV.bc] using hb))
 | _,_,.yX,_=>.yX
 | _,_,.ou b id hl,h=>.ou b id (lh hl (by simpa [AV.bc] using h))
 | _,_,.om a,_=>.om a
theorem aP.gX {M:Mem} {L:List Nat} {n:Nat}:∀ {vs:List Value} {xs:List AV},aP M L vs xs→aj n xs=true→aP M (L.take n) vs xs
 | _,_,.nil,_=>.nil
 | _,_,.cons v x vs xs h t,hb=>by
   simp only [aj,Ot] at hb
   exact .cons v x vs xs (h.gX hb.1) (t.gX hb.2)
end
theorem aR {α:Type} {L:List α} {id:Nat} {b:α} (h:L[id]?=some b):id < L.length:=(aaJ.1 h).1
mutual
theorem AV.cM {m k:Nat} (h:m≤k):∀ (x:AV),x.bc m=true→x.bc k=true
 | .any,_=>rfl
 | .bool _,_=>rfl
 | .int _ _,_=>rfl
 | .str _,_=>rfl
 | .ag,_=>rfl
 | .al _ xs,hb=>by simp only [AV.bc] at hb ⊢;exact bE h xs hb
 | .aZ _ _ _ _,hb=>by simp only [AV.bc,decide_eq_true_eq] at hb ⊢;omega
 | .agg xs,hb=>by simp only [AV.bc] at hb ⊢;exact bE h xs hb
 | .tuple xs,hb=>by simp only [AV.bc] at hb ⊢;exact bE h xs hb
 | .ptr _ _,hb=>by simp only [AV.bc,decide_eq_true_eq] at hb ⊢;omega
 | .ai x,hb=>by simp only [AV.bc] at hb ⊢;exact AV.cM h x hb
 | .tg,_=>rfl
 | .map _,hb=>by simp only [AV.bc,decide_eq_true_eq] at hb ⊢;omega
 | .jN,_=>rfl
 | .fn _ xs ys,hb=>by
   simp only [AV.bc,Ot] at hb ⊢
   exact ⟨bE h xs hb.1,bE h ys hb.2⟩
 | .gn,_=>rfl
 | .iface _ x,hb=>by simp only [AV.bc] at hb ⊢;exact AV.cM h x hb
 | .yX,_=>rfl
 | .ou _,hb=>by simp only [AV.bc,decide_eq_true_eq] at hb ⊢;omega
 | .om,_=>rfl
theorem bE {m k:Nat} (h:m≤k):∀ (xs:List AV),aj m xs=true→aj k xs=true
 | [],_=>rfl
 | x::xs,hb=>by
   simp only [aj,Ot] at hb ⊢
   exact ⟨AV.cM h x hb.1,bE h xs hb.2⟩
end
abbrev C1:=List (Nat×Nat×Nat)
abbrev l8:=List (Nat×List Nat)
inductive yY where
 | done
 | take (i:Nat) (st:Bool) (r:yY)
 | br (i:Nat) (t rest:yY)
 | nil
 deriving Inhabited
abbrev l9:=List (Nat×yY)
structure ju where
 n:Nat
 ps:List Nat
 as:Code
 bd:Code
 an:C1
 lv:l8
 pl:l9
inductive WK where
 | ready
 | busy
 | jump (c:Code)
 | ff
def WK.ok (st:WK) (r:Loop):Prop:=
 match st with
 | .ready=>r.state=.ready∧r.pending=none
 | .busy=>r.state=.busy
 | .jump c=>r.state=.done∧r.pending=some c
 | .ff=>True
inductive aa where
 | dead
 | cells (es:List AV)
 | map (es:List (AV×AV))
 | KZ (s:ByteArray) (pos:Nat)
 | loop (st:WK) (lc:ju) (es:List AV)
 deriving Inhabited
def aa.bc (n:Nat):aa→Bool
 | .cells es=>aj n es
 | .map es=>aj n (es.map (·.1)) && aj n (es.map (·.2))
 | .loop _ _ es=>aj n es
 | _=>true
theorem aa.cM {m k:Nat} (h:m≤k) (o:aa) (ho:o.bc m=true):o.bc k=true:=by
 cases o <;> simp only [aa.bc,Ot] at ho ⊢
 ·exact bE h _ ho
 ·exact ⟨bE h _ ho.1,bE h _ ho.2⟩
 ·exact bE h _ ho
def Bh (M:Mem) (L:List Nat) (w:World) (b:Nat):aa→Prop
 | .dead=>True
 | .cells es=>∃ cs e,w.heap[b]?=some (.cells cs e (0,0))∧aP M L cs.toList es∧∀ o,M b o=none
 | .map es=>∃ ents ck,w.heap[b]?=some (.map ents ck)∧aP M L (ents.toList.map (·.key)) (es.map (·.1))∧aP M L (ents.toList.map (·.val)) (es.map (·.2))
 | .KZ s pos=>w.heap[b]?=some (.stringIter s pos)
 | .loop st lc es=>∃ r,w.heap[b]?=some (.loop r)∧r.params=lc.ps.toArray∧r.assign=lc.as∧r.body=lc.bd∧aP M L r.tmps.toList es∧st.ok r
theorem Bh.mono {M M':Mem} {L L':List Nat} {w w':World} {b:Nat} {o:aa} (h:Bh M L w b o) (hs:M.sub M') (hL:L <+: L')
 (hw:w'.heap[b]?=w.heap[b]?) (hM:∀ o,M' b o=M b o):Bh M' L' w' b o:=by
 cases o with
 | dead=>trivial
 | cells es=>
   obtain ⟨cs,e,h1,h2,h3⟩:=h
   exact ⟨cs,e,hw.trans h1,h2.mono hs hL,fun o=>(hM o).trans (h3 o)⟩
 | map es=>
   obtain ⟨ents,ck,h1,h2,h3⟩:=h
   exact ⟨ents,ck,hw.trans h1,h2.mono hs hL,h3.mono hs hL⟩
 | KZ s pos=>exact hw.trans h
 | loop st lc es=>
   obtain ⟨r,h1,h2,h3,h4,h5,h6⟩:=h
   exact ⟨r,hw.trans h1,h2,h3,h4,h5.mono hs hL,h6⟩
theorem Bh.gX {M:Mem} {L:List Nat} {w:World} {b n:Nat} {o:aa} (h:Bh M L w b o) (hb:o.bc n=true):Bh M (L.take n) w b o:=by
 cases o with
 | dead=>trivial
 | cells es=>
   obtain ⟨cs,e,h1,h2,h3⟩:=h
   exact ⟨cs,e,h1,h2.gX (by simpa [aa.bc] using hb),h3⟩
 | map es=>
   obtain ⟨ents,ck,h1,h2,h3⟩:=h
   simp only [aa.bc,Ot] at hb
   exact ⟨ents,ck,h1,h2.gX hb.1,h3.gX hb.2⟩
 | KZ s pos=>exact h
 | loop st lc es=>
   obtain ⟨r,h1,h2,h3,h4,h5,h6⟩:=h
   exact ⟨r,h1,h2,h3,h4,h5.gX (by simpa [aa.bc] using hb),h6⟩
inductive Pos where
 | t (i:Nat)
 | c (id j:Nat)
 deriving DecidableEq
def OO (fr:Nat×Nat) (n:Nat):Prop:=∀ j,j < n→¬ (fr.1≤j∧j < fr.2)
theorem pj (n:Nat):OO (0,0) n:=fun j _ h=>by simp at h
def bj (M:Mem) (w:World) (v:Value) (x:AV) (ob:Option Nat):Prop:=
 match x with
 | .al own xs=>if own=0 then ob=none else
    (∀ y∈xs,y.cells.length=own)∧((ob=none∧∃ a n,v=.slice a n n)∨
    ∃ b off n c cs e fr,ob=some b∧v=.slice (some ⟨b,off,none⟩) n c∧w.heap[b]?=some (.cells cs e fr)∧OO fr cs.size∧off + c * own≤cs.size∧∀ k,n * own≤k→k < c * own→M b (off + k)=none)
 | _=>ob=none
theorem bj.mono {M M':Mem} {w w':World} {v:Value} {x:AV} {ob:Option Nat} (h:bj M w v x ob)
 (hw:∀ b,ob=some b→w'.heap[b]?=w.heap[b]?∧∀ o,M' b o=M b o):bj M' w' v x ob:=by
 cases x <;> first | exact h | skip
 rename_i own xs
 unfold bj at *
 simp only at *
 split
 ·rename_i h0;simp only [h0,if_true] at h;exact h
 ·rename_i h0
  simp only [h0,if_false] at h
  refine ⟨h.1,?_⟩
  rcases h.2 with h | ⟨b,off,n,c,cs,e,fr,h1,h2,h3,h4,h5,h6⟩
  ·exact .inl h
  ·obtain ⟨hb,hm⟩:=hw b h1
   exact .inr ⟨b,off,n,c,cs,e,fr,h1,h2,hb.trans h3,h4,h5,fun k hk OP=>(hm _).trans (h6 k hk OP)⟩
def bT (L:List Nat) (w:World) (id j:Nat):Value:=
 match L[id]? with
 | some b=>(w.cell? ⟨b,j,none⟩).getD undef
 | none=>undef
def bD (H:List aa) (id j:Nat):AV:=
 match H[id]? with
 | some (.cells es)=>es.getD j .any
 | _=>.any
structure Perm where
 wr:Nat→Prop
 top:Nat→Option Nat
 ok:∀ id n,top id=some n→id < n
 base:Nat:=0
instance:CoeFun Perm fun _=>Nat→Prop:=⟨Perm.wr⟩
def Perm.iS (A:Perm) (len id:Nat):Nat:=match A.top id with | some n=>min n len | none=>len
theorem Perm.wM (A:Perm) (len id:Nat):A.iS len id≤len:=by unfold Perm.iS;split <;> omega
theorem Perm.lI (A:Perm) {len id:Nat} (h:id < len):id + 1≤A.iS len id:=by
 unfold Perm.iS
 split
 ·rename_i n hn;have:=A.ok _ _ hn;omega
 ·omega
theorem Perm.C4 (A:Perm) {len len':Nat} (h:len≤len') (id:Nat):A.iS len id≤A.iS len' id:=by unfold Perm.iS;split <;> omega
theorem Perm.OQ (A:Perm) (len:Nat):A.iS (len + 1) len=len + 1:=by
 have h1:=A.lI (len:=len + 1) (id:=len) (by omega)
 have h2:=A.wM (len + 1) len
 omega
structure St (A:Perm) (M:Mem) (L:List Nat) (w:World) (H:List aa) (ev:Nat→Value) (ea:Nat→AV) (O:Pos→Option Nat):Prop where
 len:L.length=H.length
 nodup:L.Nodup
 env:∀ t,aW M L (ev t) (ea t)
 mem:∀ b o v,M b o=some v→w.cell? ⟨b,o,none⟩=some v
 obj:∀ (id:Nat) (o:aa) (b:Nat),H[id]?=some o→L[id]?=some b→Bh M L w b o
 bI:∀ (id:Nat) (o:aa),H[id]?=some o→o.bc (A.iS H.length id)=true
 lt:∀ b∈L,b < w.heap.size
 iX:∀ t,bj M w (ev t) (ea t) (O (.t t))
 iT:∀ id j,bj M w (bT L w id j) (bD H id j) (O (.c id j))
 cz:∀ p q b,O p=some b→O q=some b→p=q
 cG:∀ p b,O p=some b→b∉L
 fP:∀ p b,O p=some b→b < w.heap.size
 La:∀ b∈L,A b
 Oa:∀ p b,O p=some b→A b
 fresh:∀ b,w.heap.size≤b→A b
structure Ext (A:Perm) (M:Mem) (w:World) (M':Mem) (w':World):Prop where
 mc:M.sub M'
 size:w.heap.size≤w'.heap.size
 os:w'.os=w.os
 tape:w'.tape=w.tape
 output:w'.output=w.output
 ky:∀ b,b < w.heap.size→¬ A b→w'.heap[b]?=w.heap[b]?∧∀ o,M' b o=M b o
 loops:∀ (b:Nat) (r:Loop),w.heap[b]?=some (.loop r)→∃ r',w'.heap[b]?=some (.loop r')∧r'.defers=r.defers
theorem Ext.refl (A:Perm) (M:Mem) (w:World):Ext A M w M w:=⟨Mem.bY M,rC _,rfl,rfl,rfl,fun _ _ _=>⟨rfl,fun _=>rfl⟩,fun b r h=>⟨r,h,rfl⟩⟩
theorem Ext.trans {A:Perm} {M M1 M2:Mem} {w w1 w2:World} (h:Ext A M w M1 w1) (k:Ext A M1 w1 M2 w2):Ext A M w M2 w2:=
 ⟨Mem.Jd h.mc k.mc,abX h.size k.size,k.os.trans h.os,k.tape.trans h.tape,k.output.trans h.output,fun b hb hA=>by
   obtain ⟨h1,h2⟩:=h.ky b hb hA
   obtain ⟨k1,k2⟩:=k.ky b (adf hb h.size) hA
   exact ⟨k1.trans h1,fun o=>(k2 o).trans (h2 o)⟩,fun b r hr=>by
   obtain ⟨r1,h1,e1⟩:=h.loops b r hr
   obtain ⟨r2,h2,e2⟩:=k.loops b r1 h1
   exact ⟨r2,h2,e2.trans e1⟩⟩
end Go.aK
end
section
namespace Go.aK
open Go
def fW {α:Type} (f:Nat→α) (d:Nat) (v:α):Nat→α:=fun t=>if t=d then v else f t
def eT (O:Pos→Option Nat) (p:Pos) (ob:Option Nat):Pos→Option Nat:=fun q=>if q=p then ob else O q
theorem K0 {α:Type} (f:Nat→α) (d:Nat) (v:α):fW f d v d=v:=by simp [fW]
section
variable {A:Perm} {M:Mem} {L:List Nat} {w:World} {H:List aa} {ev:Nat→Value} {ea:Nat→AV} {O:Pos→Option Nat}
theorem St.put (h:St A M L w H ev ea O) (d:Nat) {v:Value} {x:AV} (hr:aW M L v x) (ob:Option Nat) (hs:bj M w v x ob)
 (h1:∀ p b,ob=some b→O p=some b→p=.t d) (h2:∀ b,ob=some b→b∉L∧b < w.heap.size∧A b) :
 St A M L w H (fW ev d v) (fW ea d x) (eT O (.t d) ob) where
 len:=h.len
 nodup:=h.nodup
 env t:=by
  by_cases e:t=d
  ·subst e;simpa [fW] using hr
  ·simpa [fW,e] using h.env t
 mem:=h.mem
 obj:=h.obj
 bI:=h.bI
 lt:=h.lt
 iX t:=by
  by_cases e:t=d
  ·subst e;simpa [fW,eT] using hs
  ·simpa [fW,eT,e] using h.iX t
 iT id j:=by simpa [eT] using h.iT id j
 cz p q b hp hq:=by
  simp only [eT] at hp hq
  split at hp <;> split at hq
  ·simp_all
  ·rename_i e1 e2;exact absurd (h1 q b hp hq) e2
  ·rename_i e1 e2;exact absurd (h1 p b hq hp) e1
  ·exact h.cz p q b hp hq
 cG p b hp:=by
  simp only [eT] at hp
  split at hp
  ·exact (h2 b hp).1
  ·exact h.cG p b hp
 fP p b hp:=by
  simp only [eT] at hp
  split at hp
  ·exact (h2 b hp).2.1
  ·exact h.fP p b hp
 La:=h.La
 Oa p b hp:=by
  simp only [eT] at hp
  split at hp
  ·exact (h2 b hp).2.2
  ·exact h.Oa p b hp
 fresh:=h.fresh
theorem bj.free {v:Value} {x:AV} (hx:∀ own xs,x=.al own xs→own=0):bj M w v x none:=by
 cases x <;> first | rfl | skip
 rename_i own xs
 have:=hx own xs rfl
 simp [bj,this]
theorem AV.bR (x:AV):∀ own xs,x.ab=.al own xs→own=0:=by
 intro own xs h
 cases x <;> simp_all [AV.ab]
theorem AV.kq (x:AV):∀ own xs,x.drop=.al own xs→own=0:=by
 intro own xs h
 cases x <;> simp_all [AV.drop]
theorem St.ow (h:St A M L w H ev ea O) (d:Nat) {v:Value} {x:AV} (hr:aW M L v x) (hx:∀ own xs,x=.al own xs→own=0) :
 St A M L w H (fW ev d v) (fW ea d x) (eT O (.t d) none):=
 h.put d hr none (bj.free hx) (fun p b e=>by cases e) (fun b e=>by cases e)
theorem St.congr (h:St A M L w H ev ea O) {ev':Nat→Value} {ea':Nat→AV} (h1:∀ t,ev' t=ev t) (h2:∀ t,ea' t=ea t):St A M L w H ev' ea' O:=by
 rw [show ev'=ev from funext h1,show ea'=ea from funext h2];exact h
theorem St.grow (h:St A M L w H ev ea O) {M':Mem} {w':World} (hs:M.sub M') (jO:∀ b o v,M' b o=some v→w'.cell? ⟨b,o,none⟩=some v)
 (di:w.heap.size≤w'.heap.size) (hw:∀ b,b < w.heap.size→w'.heap[b]?=w.heap[b]?) (hM:∀ b,b < w.heap.size→∀ o,M' b o=M b o):St A M' L w' H ev ea O where
 len:=h.len
 nodup:=h.nodup
 env t:=(h.env t).mono hs (aav _)
 mem:=jO
 obj id o b ho hb:=by
  have aS:=h.lt b (abE hb)
  exact (h.obj id o b ho hb).mono hs (aav _) (hw b aS) (hM b aS)
 bI:=h.bI
 lt b hb:=adf (h.lt b hb) di
 iX t:=(h.iX t).mono fun b hb=>⟨hw b (h.fP _ b hb),hM b (h.fP _ b hb)⟩
 iT id j:=by
  have e:bT L w' id j=bT L w id j:=by
   unfold bT
   split
   ·rename_i b hb
    have aS:=h.lt b (abE hb)
    simp [World.cell?,hw b aS]
   ·rfl
  rw [e]
  exact (h.iT id j).mono fun b hb=>⟨hw b (h.fP _ b hb),hM b (h.fP _ b hb)⟩
 cz:=h.cz
 cG:=h.cG
 fP p b hp:=adf (h.fP p b hp) di
 La:=h.La
 Oa:=h.Oa
 fresh b hb:=h.fresh b (abX di hb)
theorem Ext.grow {M':Mem} {w':World} (hs:M.sub M') (di:w.heap.size≤w'.heap.size) (hos:w'.os=w.os) (htape:w'.tape=w.tape) (K3:w'.output=w.output)
 (hw:∀ b,b < w.heap.size→w'.heap[b]?=w.heap[b]?) (hM:∀ b,b < w.heap.size→∀ o,M' b o=M b o):Ext A M w M' w':=
 ⟨hs,di,hos,htape,K3,fun b hb _=>⟨hw b hb,hM b hb⟩,fun b r h=>⟨r,(hw b (abS.1 h).1).trans h,rfl⟩⟩
theorem St.drew (h:St A M L w H ev ea O):St A M L { w with drawn:=w.drawn + 1 } H ev ea O:=
 h.grow (Mem.bY M) (fun b o v hv=>h.mem b o v hv) (rC _) (fun _ _=>rfl) (fun _ _ _=>rfl)
theorem Ext.drew:Ext A M w M { w with drawn:=w.drawn + 1 }:=Ext.grow (Mem.bY M) (rC _) rfl rfl rfl (fun _ _=>rfl) (fun _ _ _=>rfl)
theorem pk (h:St A M L w H ev ea O) {b:Nat} (hb:w.heap.size≤b) (o:Nat):M b o=none:=by
 cases hm:M b o with
 | none=>rfl
 | some v=>
   have:=h.mem b o v hm
   simp [World.cell?,Array.getElem?_eq_none hb] at this
def Mem.add (M:Mem) (b:Nat) (cs:List Value):Mem:=fun b' o=>if b'=b then cs[o]? else M b' o
theorem eU (w:World) (o:Obj) {b:Nat} (hb:b < w.heap.size):(w.heap.push o)[b]?=w.heap[b]?:=by
 rw [Array.getElem?_push,if_neg (by omega)]
theorem dW (w:World) (o:Obj):(w.heap.push o)[w.heap.size]?=some o:=by simp
theorem St.rK (h:St A M L w H ev ea O) (cs:Array Value) (e:TypeId) (fr:Nat×Nat) (rw:List Value) (hrw:∀ (j:Nat) (v:Value),rw[j]?=some v→cs[j]?=some v) :
 St A (M.add w.heap.size rw) L { w with heap:=w.heap.push (.cells cs e fr) } H ev ea O∧Ext A M w (M.add w.heap.size rw) { w with heap:=w.heap.push (.cells cs e fr) }∧
 (M.add w.heap.size rw).row w.heap.size 0 rw:=by
 have gM:M.sub (M.add w.heap.size rw):=by
  intro b o v hv
  have dJ:b≠w.heap.size:=by
   rintro rfl
   rw [pk h (rC _)] at hv;cases hv
  simp [Mem.add,dJ,hv]
 have hM:∀ b,b < w.heap.size→∀ o,(M.add w.heap.size rw) b o=M b o:=fun b hb o=>by simp [Mem.add,show b≠w.heap.size by omega]
 refine ⟨h.grow gM ?_ (by simp) (fun b hb=>eU w _ hb) hM,Ext.grow gM (by simp) rfl rfl rfl (fun b hb=>eU w _ hb) hM,?_⟩
 ·intro b o v hv
  by_cases e0:b=w.heap.size
  ·subst e0
   simp only [Mem.add,if_true] at hv
   simp only [World.cell?,dW]
   simpa using hrw o v hv
  ·simp only [Mem.add,e0,if_false] at hv
   have:=h.mem b o v hv
   have aS:b < w.heap.size:=by
    rcases aeG b w.heap.size with h' | h'
    ·exact h'
    ·rw [pk h h'] at hv;cases hv
   simp only [World.cell?] at this ⊢
   rw [eU w _ aS];exact this
 ·intro j v hv
  simpa [Mem.add] using hv
theorem St.FG (h:St A M L w H ev ea O) (cs:Array Value) (e:TypeId) :
 St A (M.add w.heap.size cs.toList) L { w with heap:=w.heap.push (.cells cs e) } H ev ea O∧Ext A M w (M.add w.heap.size cs.toList) { w with heap:=w.heap.push (.cells cs e) }∧
 (M.add w.heap.size cs.toList).row w.heap.size 0 cs.toList:=
 h.rK cs e (0,0) cs.toList (fun j v hv=>by simpa using hv)
def Bi (ob:Obj) (j:Nat):Value:=match ob with | .cells cs _ _=>(cs[j]?).getD undef | _=>undef
def ox (ao:aa) (j:Nat):AV:=match ao with | .cells es=>es.getD j .any | _=>.any
theorem St.th (h:St A M L w H ev ea O) (ob:Obj) (ao:aa) (Tr:∀ w',w'.heap[w.heap.size]?=some ob→(∀ o,M w.heap.size o=none)→Bh M (L++[w.heap.size]) w' w.heap.size ao)
 (hb:ao.bc (H.length + 1)=true) (HP:∀ j,bj M w (Bi ob j) (ox ao j) none) :
 St A M (L++[w.heap.size]) { w with heap:=w.heap.push ob } (H++[ao]) ev ea O∧Ext A M w M { w with heap:=w.heap.push ob }:=by
 have mQ:L <+: L++[w.heap.size]:=⟨_,rfl⟩
 have hO:∀ j,O (.c H.length j)=none:=by
  intro j
  have:=h.iT H.length j
  simp only [bD,abL (rC _)] at this
  exact this
 have hkeep:∀ b,b < w.heap.size→(w.heap.push ob)[b]?=w.heap[b]?:=fun b hb=>eU w _ hb
 refine ⟨?_,Ext.grow (Mem.bY M) (by simp) rfl rfl rfl hkeep (fun _ _ _=>rfl)⟩
 refine { len:=by simp [h.len],nodup:=?_,env:=fun t=>(h.env t).mono (Mem.bY M) mQ,mem:=?_,obj:=?_,bI:=?_,lt:=?_,iX:=?_,iT:=?_,cz:=h.cz,cG:=?_,fP:=?_,La:=?_,Oa:=h.Oa,fresh:=?_ }
 ·rw [List.nodup_append]
  refine ⟨h.nodup,by simp,?_⟩
  intro a ha b ey
  simp at ey
  subst ey
  exact Nat.ne_of_lt (h.lt a ha)
 ·intro b o v hv
  have:=h.mem b o v hv
  have aS:b < w.heap.size:=by
   rcases aeG b w.heap.size with h' | h'
   ·exact h'
   ·rw [pk h h'] at hv;cases hv
  simp only [World.cell?] at this ⊢
  rw [hkeep b aS];exact this
 ·intro id o b ho ey
  by_cases e:id < H.length
  ·rw [yO e] at ho
   rw [yO (by rw [h.len];exact e)] at ey
   exact (h.obj id o b ho ey).mono (Mem.bY M) mQ (hkeep b (h.lt b (abE ey))) (fun _=>rfl)
  ·rw [abt (by omega)] at ho
   rw [abt (by rw [h.len];omega)] at ey
   have e0:id - H.length=0:=by
    have:=(aaJ.1 ho).1
    simp at this;omega
   rw [e0] at ho
   rw [h.len,e0] at ey
   simp at ho ey
   subst ho;subst ey
   exact Tr _ (dW w ob) (fun o=>pk h (rC _) o)
 ·intro id o ho
  rw [aaf,afF]
  by_cases e:id < H.length
  ·rw [yO e] at ho
   exact aa.cM (A.C4 (Nat.le_succ _) id) o (h.bI id o ho)
  ·rw [abt (by omega)] at ho
   have e0:id - H.length=0:=by
    have:=(aaJ.1 ho).1
    simp at this;omega
   rw [e0] at ho
   simp at ho
   subst ho
   rw [show id=H.length by omega,A.OQ];exact hb
 ·intro b ey
  simp at ey ⊢
  rcases ey with ey | rfl
  ·have:=h.lt b ey;omega
  ·omega
 ·intro t
  exact (h.iX t).mono fun b ey=>⟨hkeep b (h.fP _ b ey),fun _=>rfl⟩
 ·intro id j
  by_cases e:id < H.length
  ·have e1:bT (L++[w.heap.size]) { w with heap:=w.heap.push ob } id j=bT L w id j:=by
    unfold bT
    rw [yO (by rw [h.len];exact e)]
    split
    ·rename_i b ey
     simp only [World.cell?]
     rw [hkeep b (h.lt b (abE ey))]
    ·rfl
   have e2:bD (H++[ao]) id j=bD H id j:=by
    unfold bD
    rw [yO e]
   rw [e1,e2]
   exact (h.iT id j).mono fun b ey=>⟨hkeep b (h.fP _ b ey),fun _=>rfl⟩
  ·by_cases e0:id=H.length
   ·subst e0
    rw [hO j]
    have e1:bT (L++[w.heap.size]) { w with heap:=w.heap.push ob } H.length j=Bi ob j:=by
     unfold bT
     rw [abt (by rw [h.len];omega),h.len]
     simp only [adj,List.getElem?_cons_zero,World.cell?,dW]
     cases ob <;> simp [Bi]
    have e2:bD (H++[ao]) H.length j=ox ao j:=by
     unfold bD
     rw [abt (rC _)]
     simp only [adj,List.getElem?_cons_zero]
     cases ao <;> rfl
    rw [e1,e2]
    exact (HP j).mono fun b ey=>by cases ey
   ·have hn:O (.c id j)=none:=by
     have:=h.iT id j
     simp only [bD,abL (show H.length≤id by omega)] at this
     exact this
    rw [hn]
    have e2:bD (H++[ao]) id j=.any:=by
     unfold bD
     rw [abL (by simp;omega)]
    rw [e2];rfl
 ·intro p b hp jO
  simp at jO
  rcases jO with jO | rfl
  ·exact h.cG p b hp jO
  ·exact absurd (h.fP p _ hp) (acB _)
 ·intro p b hp
  have:=h.fP p b hp
  simp;omega
 ·intro b ey
  simp at ey
  rcases ey with ey | rfl
  ·exact h.La b ey
  ·exact h.fresh _ (rC _)
 ·intro b ey
  simp at ey
  exact h.fresh b (by omega)
structure wN (O O':Pos→Option Nat):Prop where
 inj:∀ p q b,O' p=some b→O' q=some b→p=q
 RY:∀ p b,O' p=some b→∃ q,O q=some b
theorem St.write (h:St A M L w H ev ea O) {id b:Nat} {es es':List AV} {cs cs':Array Value} {e:TypeId} {ea':Nat→AV} {O':Pos→Option Nat} (bn:H[id]?=some (.cells es)) (hL:L[id]?=some b)
 (hc:w.heap[b]?=some (.cells cs e (0,0))) (hr:aP M L cs'.toList es') (me:aj (A.iS H.length id) es'=true) (hm:wN O O') (FH:∀ t,aW M L (ev t) (ea' t))
 (iX:∀ t,bj M w (ev t) (ea' t) (O' (.t t))) (iT:∀ j,bj M w ((cs'[j]?).getD undef) (es'.getD j .any) (O' (.c id j))) (spo:∀ id' j,id'≠id→O' (.c id' j)=O (.c id' j)) :
 St A M L (w.setRow b cs') (H.set id (.cells es')) ev ea' O'∧Ext A M w M (w.setRow b cs'):=by
 have zR:b∈L:=abE hL
 have di:(w.setRow b cs').heap.size=w.heap.size:=by simp [World.setRow]
 have gN:∀ k,k≠b→(w.setRow b cs').heap[k]?=w.heap[k]?:=by
  intro k hk
  simp only [World.setRow,ad0]
  rw [if_neg (fun e=>hk e.symm)]
 have nZ:(w.setRow b cs').heap[b]?=some (.cells cs' e (0,0)):=by
  simp only [World.setRow,ad0,if_true,hc,Option.map_some]
 obtain ⟨_,_,_,_,WL⟩:=h.obj id _ b bn hL
 have rL:id < H.length:=aR bn
 have howns:∀ p k,O' p=some k→(w.setRow b cs').heap[k]?=w.heap[k]?:=by
  intro p k hp
  obtain ⟨q,hq⟩:=hm.RY p k hp
  exact gN k (fun e0=>h.cG q k hq (e0 ▸ zR))
 refine ⟨{ len:=by simp [h.len],nodup:=h.nodup,env:=FH,mem:=?_,obj:=?_,bI:=?_,lt:=?_,iX:=?_,iT:=?_,cz:=hm.inj,cG:=?_,fP:=?_,La:=h.La,Oa:=?_,fresh:=?_ },?_⟩
 ·intro k o v hv
  have hk:k≠b:=by rintro rfl;rw [WL o] at hv;cases hv
  have:=h.mem k o v hv
  simp only [World.cell?] at this ⊢
  rw [gN k hk];exact this
 ·intro id' o k ho hk
  by_cases e0:id'=id
  ·subst e0
   rw [hL] at hk;cases hk
   rw [yS rL] at ho
   cases ho
   exact ⟨cs',e,nZ,hr,WL⟩
  ·rw [yQ (fun h'=>e0 h'.symm)] at ho
   have FA:k≠b:=by
    rintro rfl
    exact e0 ((acM (aR hk) h.nodup).1 (hk.trans hL.symm))
   exact (h.obj id' o k ho hk).mono (Mem.bY M) (aav _) (gN k FA) (fun _=>rfl)
 ·intro id' o ho
  rw [acd]
  by_cases e0:id'=id
  ·subst e0
   rw [yS rL] at ho
   cases ho
   simpa [aa.bc] using me
  ·rw [yQ (fun h'=>e0 h'.symm)] at ho
   exact h.bI id' o ho
 ·intro k hk;rw [di];exact h.lt k hk
 ·intro t
  exact (iX t).mono fun k hk=>⟨howns _ k hk,fun _=>rfl⟩
 ·intro id' j
  by_cases e0:id'=id
  ·subst e0
   have e1:bT L (w.setRow b cs') id' j=(cs'[j]?).getD undef:=by
    unfold bT
    simp only [hL,World.cell?,nZ]
    simp
   have e2:bD (H.set id' (.cells es')) id' j=es'.getD j .any:=by
    unfold bD
    rw [yS rL]
   rw [e1,e2]
   exact (iT j).mono fun k hk=>⟨howns _ k hk,fun _=>rfl⟩
  ·have e1:bT L (w.setRow b cs') id' j=bT L w id' j:=by
    unfold bT
    split
    ·rename_i k hk
     have FA:k≠b:=by
      rintro rfl
      exact e0 ((acM (aR hk) h.nodup).1 (hk.trans hL.symm))
     simp only [World.cell?]
     rw [gN k FA]
    ·rfl
   have e2:bD (H.set id (.cells es')) id' j=bD H id' j:=by
    unfold bD
    rw [yQ (fun h'=>e0 h'.symm)]
   rw [e1,e2,spo id' j e0]
   exact (h.iT id' j).mono fun k hk=>⟨gN k (fun e3=>h.cG _ k hk (e3 ▸ zR)),fun _=>rfl⟩
 ·intro p k hp
  obtain ⟨q,hq⟩:=hm.RY p k hp
  exact h.cG q k hq
 ·intro p k hp
  obtain ⟨q,hq⟩:=hm.RY p k hp
  rw [di];exact h.fP q k hq
 ·intro p k hp
  obtain ⟨q,hq⟩:=hm.RY p k hp
  exact h.Oa q k hq
 ·intro k hk;rw [di] at hk;exact h.fresh k hk
 ·exact ⟨Mem.bY M,by rw [di];exact rC _,rfl,rfl,rfl,fun k hk hA=>⟨gN k (fun e0=>hA (e0 ▸ h.La b zR)),fun _=>rfl⟩,fun k r hk=>⟨r,(gN k (fun e0=>by rw [e0,hc] at hk;cases hk)).trans hk,rfl⟩⟩
theorem St.C5 (h:St A M L w H ev ea O) {id b:Nat} {es es':List (AV×AV)} {o':Obj} (bn:H[id]?=some (.map es)) (hL:L[id]?=some b)
 (RZ:∀ cs e f,o'≠.cells cs e f) (hr:∀ w',w'.heap[b]?=some o'→Bh M L w' b (.map es')) (me:(aa.map es').bc (A.iS H.length id)=true) :
 St A M L { w with heap:=w.heap.setIfInBounds b o' } (H.set id (.map es')) ev ea O∧Ext A M w M { w with heap:=w.heap.setIfInBounds b o' }:=by
 have zR:b∈L:=abE hL
 have Ts:=h.lt b zR
 obtain ⟨ents,ck,hc,_,_⟩:=h.obj id _ b bn hL
 have gN:∀ k,k≠b→(w.heap.setIfInBounds b o')[k]?=w.heap[k]?:=fun k hk=>by rw [Array.getElem?_setIfInBounds_ne (fun e=>hk e.symm)]
 have nZ:(w.heap.setIfInBounds b o')[b]?=some o':=by simp [Ts]
 have WL:∀ o,M b o=none:=by
  intro o
  cases hm:M b o with
  | none=>rfl
  | some v=>
    have:=h.mem b o v hm
    simp [World.cell?,hc] at this
 have rL:id < H.length:=aR bn
 refine ⟨{ len:=by simp [h.len],nodup:=h.nodup,env:=h.env,mem:=?_,obj:=?_,bI:=?_,lt:=?_,iX:=?_,iT:=?_,cz:=h.cz,cG:=h.cG,fP:=?_,La:=h.La,Oa:=h.Oa,fresh:=?_ },?_⟩
 ·intro k o v hv
  have hk:k≠b:=by rintro rfl;rw [WL o] at hv;cases hv
  have:=h.mem k o v hv
  simp only [World.cell?] at this ⊢
  rw [gN k hk];exact this
 ·intro id' o k ho hk
  by_cases e0:id'=id
  ·subst e0
   rw [hL] at hk;cases hk
   rw [yS rL] at ho
   cases ho
   exact hr _ nZ
  ·rw [yQ (fun h'=>e0 h'.symm)] at ho
   have FA:k≠b:=by
    rintro rfl
    exact e0 ((acM (aR hk) h.nodup).1 (hk.trans hL.symm))
   exact (h.obj id' o k ho hk).mono (Mem.bY M) (aav _) (gN k FA) (fun _=>rfl)
 ·intro id' o ho
  rw [acd]
  by_cases e0:id'=id
  ·subst e0
   rw [yS rL] at ho
   cases ho
   exact me
  ·rw [yQ (fun h'=>e0 h'.symm)] at ho
   exact h.bI id' o ho
 ·intro k hk;simpa using h.lt k hk
 ·intro t
  exact (h.iX t).mono fun k hk=>⟨gN k (fun e3=>h.cG _ k hk (e3 ▸ zR)),fun _=>rfl⟩
 ·intro id' j
  by_cases e0:id'=id
  ·subst e0
   have hn:O (.c id' j)=none:=by
    have:=h.iT id' j
    simp only [bD,bn] at this
    exact this
   have e2:bD (H.set id' (.map es')) id' j=.any:=by
    unfold bD
    rw [yS rL]
   rw [e2,hn];rfl
  ·have e1:bT L { w with heap:=w.heap.setIfInBounds b o' } id' j=bT L w id' j:=by
    unfold bT
    split
    ·rename_i k hk
     have FA:k≠b:=by
      rintro rfl
      exact e0 ((acM (aR hk) h.nodup).1 (hk.trans hL.symm))
     simp only [World.cell?]
     rw [gN k FA]
    ·rfl
   have e2:bD (H.set id (.map es')) id' j=bD H id' j:=by
    unfold bD
    rw [yQ (fun h'=>e0 h'.symm)]
   rw [e1,e2]
   exact (h.iT id' j).mono fun k hk=>⟨gN k (fun e3=>h.cG _ k hk (e3 ▸ zR)),fun _=>rfl⟩
 ·intro p k hp;simpa using h.fP p k hp
 ·intro k hk;simp at hk;exact h.fresh k hk
 ·exact ⟨Mem.bY M,by simp,rfl,rfl,rfl,fun k hk hA=>⟨gN k (fun e0=>hA (e0 ▸ h.La b zR)),fun _=>rfl⟩,fun k r hk=>⟨r,(gN k (fun e0=>by rw [e0,hc] at hk;cases hk)).trans hk,rfl⟩⟩
def AV.le (x y:AV):Prop:=y=x∨y=.any∨(∃ o xs,x=.al o xs∧y=.al 0 xs)∨(x=.ag∧∃ o,y=.al o [])∨(∃ xs,x=.agg xs∧y=.agg (xs.map AV.drop))
theorem aW.le {v:Value} {x y:AV} (h:aW M L v x) (hl:x.le y):aW M L v y:=by
 rcases hl with rfl | rfl | ⟨o,xs,rfl,rfl⟩ | ⟨rfl,o,rfl⟩ | ⟨xs,rfl,rfl⟩
 ·exact h
 ·exact .any _
 ·exact h.FF
 ·cases h;exact .iw _ _ _ (by decide)
 ·cases h with
  | agg cs _ hr=>exact .agg cs _ hr.map_drop
theorem bj.le {v:Value} {x y:AV} {ob:Option Nat} (h:aW M L v x) (hs:bj M w v x ob) (hl:x.le y):∃ ob',bj M w v y ob'∧(ob'=none∨ob'=ob):=by
 rcases hl with rfl | rfl | ⟨o,xs,rfl,rfl⟩ | ⟨rfl,o,rfl⟩ | ⟨xs,rfl,rfl⟩
 ·exact ⟨ob,hs,.inr rfl⟩
 ·exact ⟨none,rfl,.inl rfl⟩
 ·exact ⟨none,by simp [bj],.inl rfl⟩
 ·cases h
  refine ⟨none,?_,.inl rfl⟩
  by_cases e:o=0
  ·simp [bj,e]
  ·simp only [bj,e,if_false];exact ⟨by simp,.inl ⟨trivial,none,0,rfl⟩⟩
 ·exact ⟨none,rfl,.inl rfl⟩
theorem St.HQ (h:St A M L w H ev ea O) {ea':Nat→AV} (hl:∀ t,(ea t).le (ea' t)):∃ O',St A M L w H ev ea' O'∧∀ p b,O' p=some b→O p=some b:=by
 have hx:∀ t,∃ ob',bj M w (ev t) (ea' t) ob'∧(ob'=none∨ob'=O (.t t)):=fun t=>(h.iX t).le (h.env t) (hl t)
 let f:Nat→Option Nat:=fun t=>Classical.choose (hx t)
 have hf:∀ t,bj M w (ev t) (ea' t) (f t)∧(f t=none∨f t=O (.t t)):=fun t=>Classical.choose_spec (hx t)
 let O':Pos→Option Nat:=fun p=>match p with | .t t=>f t | .c id j=>O (.c id j)
 have hO:∀ p b,O' p=some b→O p=some b:=by
  intro p b hp
  cases p with
  | t t=>
    rcases (hf t).2 with h0 | h0
    ·simp only [O',h0] at hp;cases hp
    ·simpa only [O',h0] using hp
  | c id j=>exact hp
 exact ⟨O',{ len:=h.len,nodup:=h.nodup,env:=fun t=>(h.env t).le (hl t),mem:=h.mem,obj:=h.obj,bI:=h.bI,lt:=h.lt,iX:=fun t=>(hf t).1,iT:=h.iT,cz:=fun p q b hp hq=>h.cz p q b (hO p b hp) (hO q b hq),cG:=fun p b hp=>h.cG p b (hO p b hp),fP:=fun p b hp=>h.fP p b (hO p b hp),La:=h.La,Oa:=fun p b hp=>h.Oa p b (hO p b hp),fresh:=h.fresh },hO⟩
theorem St.weaken (h:St A M L w H ev ea O) {ea':Nat→AV} (hl:∀ t,(ea t).le (ea' t)):∃ O',St A M L w H ev ea' O':=
 let ⟨O',h1,_⟩:=h.HQ hl
 ⟨O',h1⟩
theorem St.cut (h:St A M L w H ev ea O) (n:Nat) (hc:∀ id o,id < n→H[id]?=some o→o.bc n=true) (hb:∀ t,(ea t).bc n=true):∃ O',St A M (L.take n) w (H.take n) ev ea O':=by
 let O':Pos→Option Nat:=fun p=>match p with | .t t=>O (.t t) | .c id j=>if id < n then O (.c id j) else none
 have hO:∀ p b,O' p=some b→O p=some b:=by
  intro p b hp
  cases p with
  | t t=>exact hp
  | c id j=>
    simp only [O'] at hp
    split at hp
    ·exact hp
    ·cases hp
 have jv:∀ {α:Type} {l:List α} {i:Nat} {a:α},(l.take n)[i]?=some a→i < n∧l[i]?=some a:=by
  intro α l i a hi
  rw [aax] at hi
  split at hi
  ·exact ⟨by assumption,hi⟩
  ·cases hi
 have jO:∀ b,b∈L.take n→b∈L:=fun b hb=>acg hb
 have Je:∀ {m k:Nat} {o:aa},m≤k→o.bc m=true→o.bc k=true:=fun hmk ho=>aa.cM hmk _ ho
 refine ⟨O',{ len:=by simp [h.len],nodup:=(List.take_sublist n L).nodup h.nodup,env:=fun t=>(h.env t).gX (hb t),mem:=h.mem,obj:=?_,bI:=?_,lt:=fun b hb=>h.lt b (jO b hb),iX:=h.iX,iT:=?_,cz:=fun p q b hp hq=>h.cz p q b (hO p b hp) (hO q b hq),cG:=fun p b hp hm=>h.cG p b (hO p b hp) (jO b hm),fP:=fun p b hp=>h.fP p b (hO p b hp),La:=fun b hb=>h.La b (jO b hb),Oa:=fun p b hp=>h.Oa p b (hO p b hp),fresh:=h.fresh }⟩
 ·intro id o b ho ey
  obtain ⟨hn,ho⟩:=jv ho
  obtain ⟨_,ey⟩:=jv ey
  exact (h.obj id o b ho ey).gX (hc id o hn ho)
 ·intro id o ho
  obtain ⟨hn,ho⟩:=jv ho
  have h1:=h.bI id o ho
  have h2:=hc id o hn ho
  have hl:=aR ho
  rw [ab0]
  have e:A.iS (min n H.length) id=min n (A.iS H.length id):=by unfold Perm.iS;split <;> omega
  rw [e]
  rcases Nat.le_total n (A.iS H.length id) with h' | h'
  ·rw [Nat.min_eq_left h'];exact h2
  ·rw [Nat.min_eq_right h'];exact h1
 ·intro id j
  by_cases e:id < n
  ·have e1:bT (L.take n) w id j=bT L w id j:=by
    unfold bT
    rw [aax,if_pos e]
   have e2:bD (H.take n) id j=bD H id j:=by
    unfold bD
    rw [aax,if_pos e]
   rw [e1,e2]
   simpa [O',e] using h.iT id j
  ·have e2:bD (H.take n) id j=.any:=by
    unfold bD
    rw [aax,if_neg e]
   rw [e2]
   simp [O',e,bj]
end
end Go.aK
end
section
namespace Go.aK
open Go
abbrev Env:=List (Nat×AV)
def get:Env→Nat→AV
 | [],_=>.any
 | (k,v)::r,t=>if t=k then v else get r t
inductive IX where
 | t (n:Nat)
 | c (v:AV)
 deriving Inhabited
def aq (env:Env):IX→AV
 | .t n=>get env n
 | .c v=>v
inductive cv where
 | set (x:IX) (take:Bool)
 | pick (c a b:IX)
 | bin (op:BinOp) (x y:IX)
 | shift (op:BinOp) (x y:IX)
 | jd (neq:Bool) (x y:IX)
 | jZ (kd:Nat) (neq:Bool) (x:IX)
 | un (op:UnOp) (x:IX)
 | box (x:IX)
 | mR (x:IX)
 | tn (m:Nat) (x:IX)
 | alloc (zero:AV)
 | build (zero:AV) (parts:List (Nat×Nat×IX))
 | buildSlice (own esz:Nat) (zero:AV) (len:Nat) (parts:List (Nat×IX))
 | load (sz:Option Nat) (a:IX)
 | uH (sz:Option Nat) (esz:Nat) (a:IX)
 | eX (a:IX)
 | store (n:Nat) (a x:IX)
 | oz (n:Nat) (a x:IX)
 | fR (a:IX) (s:Nat)
 | nilCheck (x:IX)
 | fieldAddr (off:Nat) (sz:Option Nat) (x:IX)
 | field (off:Nat) (sz:Option Nat) (x:IX)
 | indexAddr (esz:Nat) (x i:IX)
 | dw (x i:IX)
 | eC (n:Nat) (x i:IX)
 | qI (esz:Nat) (x:IX) (lo hi mx:Option IX)
 | slice (esz:Nat) (x:IX) (lo hi max:Option IX)
 | eD (x:IX) (lo hi:Option IX)
 | len (kd:Nat) (x:IX)
 | append (esz bytes:Nat) (s x:IX)
 | uI (esz bytes:Nat) (zero:AV) (n:IX)
 | oA (esz bytes:Nat) (n:IX)
 | oB
 | lookup (kd:Nat) (zero:AV) (m k:IX) (ok:Bool)
 | lJ (kd:Nat) (m k x:IX)
 | fn (f:Fn) (first captured:List IX)
 | extract (x:IX) (i:Nat)
 | call (f:IX) (args:List IX) (pass:Option Nat)
 | fm (k:IntKind) (x:IX)
 | iA (x:IX)
 | bytesOf (x:IX)
 | strOf (x:IX)
 | mx (big:Bool) (a b:IX)
 | copy (esz:Nat) (d s:IX)
 | Bj (esz:Nat) (x:IX)
 | C6 (esz:Nat) (zero:AV) (len:Nat) (parts:List (Nat×IX))
 | j4 (esz bytes:Nat) (zero:AV) (s x:IX)
 | j5 (esz bytes:Nat) (zero:AV) (s x:IX)
 | oC (esz:Nat) (zero:AV) (x:IX)
 | never
 deriving Inhabited
def Xc:Value→Option AV
 | .bool b=>some (.bool b)
 | .int k n=>some (.int k n)
 | .string s=>some (.str s)
 | .pointer none=>some .tg
 | .map none=>some .jN
 | .nilFunc=>some .gn
 | .nilIface=>some .yX
 | .slice none 0 0=>some .ag
 | _=>none
def K4:List Value→Option (List AV)
 | []=>some []
 | v::vs=>match Xc v,K4 vs with
   | some x,some xs=>some (x::xs)
   | _,_=>none
def ofValue:Value→Option AV
 | .agg cs=>(K4 cs.toList).map .agg
 | v=>Xc v
section
variable {M:Mem} {L:List Nat}
theorem HR {v:Value} {x:AV} (h:Xc v=some x):aW M L v x:=by
 unfold Xc at h
 split at h <;> first | (cases h;constructor) | cases h
theorem C7:∀ {vs:List Value} {xs:List AV},K4 vs=some xs→aP M L vs xs
 | [],xs,h=>by simp [K4] at h;subst h;exact .nil
 | v::vs,xs,h=>by
   unfold K4 at h
   split at h
   ·rename_i x ys h1 h2
    cases h
    exact .cons _ _ _ _ (HR h1) (C7 h2)
   ·cases h
theorem cV {v:Value} {x:AV} (h:ofValue v=some x):aW M L v x:=by
 unfold ofValue at h
 split at h
 ·rename_i cs
  obtain ⟨xs,h1,rfl⟩:=yR.1 h
  have:=aW.agg cs.toList xs (C7 (M:=M) (L:=L) h1)
  simpa using this
 ·exact HR h
end
def aU:Operand→Option IX
 | .tmp t=>some (.t t)
 | .const v=>(ofValue v).map .c
 | .func f=>some (.c (.fn (.func f) [] []))
 | .global _=>none
def gh:List Operand→Option (List IX)
 | []=>some []
 | x::xs=>match aU x,gh xs with
   | some i,some is=>some (i::is)
   | _,_=>none
def KN (P:Program) (t:TypeId):Option (Option Nat):=
 match P.info? t,P.underlying t with
 | some i,some (.struct _)=>some (some i.size)
 | some i,some (.array _ _)=>some (some i.size)
 | some i,some _=>if i.size=1 then some none else none
 | _,_=>none
def fX (P:Program) (t:TypeId):Option AV:=
 match P.info? t with
 | some i=>match i.zero with
   | some v=>ofValue v
   | none=>none
 | none=>none
def dX (P:Program) (t:TypeId):Option Nat:=(P.info? t).map (·.size)
def R0 (A:Perm) (w:World) (ds:List Deferred):Prop:=A.base≤w.heap.size∧ds.Nodup∧∀ d∈ds,∃ D,d={ target:=.collected D,args:=#[] }∧w.heap[D]?=some (.deferred (some []))∧¬ A D∧A.base≤D
theorem R0.ext {A:Perm} {M M':Mem} {w w':World} {ds:List Deferred} (h:R0 A w ds) (hx:Ext A M w M' w'):R0 A w' ds:=
 ⟨abX h.1 hx.size,h.2.1,fun d hd=>by
   obtain ⟨D,h1,h2,h3⟩:=h.2.2 d hd
   exact ⟨D,h1,(hx.ky D (abS.1 h2).1 h3.1).1.trans h2,h3⟩⟩
def wf (ro:Option Nat):Fence:={ Fence.wide with round:=ro }
theorem K5 {o:Oper} {ρ:Operand→Value} {P:Program} {w w':World} {x:Next} (ro:Option Nat) (h:(execOp ρ o).run P w=.ok x w') (hx:∀ d,x≠.defer d):(o.semAt (wf ro).round ρ).run P w=.ok x w':=by
 rw [Oper.semAt_eq]
 ·exact h
 ·intro c hc
  simp only [execOp,hc,Sem.run_bind] at h
  cases hr:(resolve ρ c o.type).run P w with
  | ok d w1=>rw [hr] at h;simp only [Result.andThen_ok,Sem.run_pure] at h;cases h;exact hx _ rfl
  | halt e w1=>rw [hr] at h;cases h
theorem mf {o:Oper} {P:Program} {a:Act} {w w':World} {x:Next} {ro:Option Nat} {N:Act→World→Prop} {Q:Exit→Act→World→Prop} (h:(execOp a.eval o).run P w=.ok x w') (hx:∀ d,x≠.defer d)
 (hu:o.uponIn (wf ro) 0 P a N Q (.ok x w')):o.wpIn (wf ro) 0 P a w N Q:=by
 refine ⟨fun _ _=>trivial,?_⟩
 rw [K5 ro h hx]
 exact hu
structure Fr (A:Perm) (n:Nat) (M:Mem) (L:List Nat) (w:World) (H:List aa) (env:Env) (O:Pos→Option Nat) (a:Act):Prop where
 st:St A M L w H (fun t=>a.tmps.getD t undef) (get env) O
 size:a.tmps.size=n
 defers:R0 A w a.defers
def n7 (A:Perm) (n:Nat) (M:Mem) (L:List Nat) (w:World) (K:Env→List aa→Prop) (a':Act) (w':World):Prop:=
 ∃ M' L' H' aL O',K aL H'∧Fr A n M' L' w' H' aL O' a'∧Ext A M w M' w'∧L <+: L'
def put (dst:Option Nat) (x:AV) (env:Env):Env:=match dst with | some d=>(d,x)::env | none=>env
section
variable {ro:Option Nat} {A:Perm} {n:Nat} {M:Mem} {L:List Nat} {w:World} {H:List aa} {env:Env} {O:Pos→Option Nat} {a:Act}
theorem K6 (d:Nat) (x:AV) (env:Env):get ((d,x)::env)=fW (get env) d x:=rfl
theorem Fr.eval (h:Fr A n M L w H env O a) {x:Operand} {i:IX} (hc:aU x=some i):aW M L (a.eval x) (aq env i):=by
 cases x with
 | tmp t=>simp [aU] at hc;subst hc;exact h.st.env t
 | const v=>
   simp only [aU] at hc
   obtain ⟨y,h1,rfl⟩:=yR.1 hc
   exact cV h1
 | func f=>simp [aU] at hc;subst hc;exact .fn _ [] [] [] [] .nil .nil
 | global g=>simp [aU] at hc
theorem Fr.R1 (h:Fr A n M L w H env O a):∀ {xs:List Operand} {is:List IX},gh xs=some is→aP M L (xs.map a.eval) (is.map (aq env))
 | [],is,hc=>by simp [gh] at hc;subst hc;exact .nil
 | x::xs,is,hc=>by
   unfold gh at hc
   split at hc
   ·rename_i i is' h1 h2
    cases hc
    exact .cons _ _ _ _ (h.eval h1) (h.R1 h2)
   ·cases hc
theorem wO (a:Act) (d:Nat) (v:Value) (hd:d < a.tmps.size) (t:Nat):(a.put (some d) v).tmps.getD t undef=fW (fun t=>a.tmps.getD t undef) d v t:=by
 simp only [Act.put,fW,abH,ac9]
 by_cases e:t=d
 ·subst e;simp [hd]
 ·simp [e,show ¬ d=t from fun h=>e h.symm]
theorem Fr.FI (h:Fr A n M L w H env O a) {d:Nat} (hd:d < n) {v:Value} {x:AV} (hr:aW M L v x) (ob:Option Nat) (hs:bj M w v x ob)
 (h1:∀ p b,ob=some b→O p=some b→p=.t d) (h2:∀ b,ob=some b→b∉L∧b < w.heap.size∧A b) :
 Fr A n M L w H ((d,x)::env) (eT O (.t d) ob) (a.put (some d) v):=by
 refine ⟨(h.st.put d hr ob hs h1 h2).congr (fun t=>wO a d v (by rw [h.size];exact hd) t) (fun t=>rfl),?_,h.defers⟩
 simp [Act.put,h.size]
theorem Fr.ow (h:Fr A n M L w H env O a) {dst:Option Nat} (hd:∀ d,dst=some d→d < n) {v:Value} {x:AV} (hr:aW M L v x) (hx:∀ own xs,x=.al own xs→own=0) :
 ∃ O',Fr A n M L w H (put dst x env) O' (a.put dst v):=by
 cases dst with
 | none=>exact ⟨O,h⟩
 | some d=>exact ⟨_,h.FI (hd d rfl) hr none (bj.free hx) (fun p b e=>by cases e) (fun b e=>by cases e)⟩
theorem Fr.HS (h:Fr A n M L w H env O a) {dst:Option Nat} (hd:∀ d,dst=some d→d < n) {ad:Option Addr} {m:Nat} {own:Nat} {xs:List AV} (hr:aW M L (.slice ad m m) (.al own xs)) (hx:own≠0→∀ y∈xs,y.cells.length=own) :
 ∃ O',Fr A n M L w H (put dst (.al own xs) env) O' (a.put dst (.slice ad m m)):=by
 cases dst with
 | none=>exact ⟨O,h⟩
 | some d=>
   refine ⟨_,h.FI (hd d rfl) hr none ?_ (fun p b e=>by cases e) (fun b e=>by cases e)⟩
   by_cases e:own=0
   ·simp [bj,e]
   ·simp only [bj,e,if_false];exact ⟨hx e,.inl ⟨trivial,ad,m,rfl⟩⟩
theorem Fr.mono (h:Fr A n M L w H env O a) {M':Mem} {w':World} {L':List Nat} {H':List aa} {O':Pos→Option Nat} (bX:St A M' L' w' H' (fun t=>a.tmps.getD t undef) (get env) O') (hx:Ext A M w M' w'):Fr A n M' L' w' H' env O' a:=
 ⟨bX,h.size,h.defers.ext hx⟩
theorem dj {P:Program} {o:Oper} {Q:Exit→Act→World→Prop} {K:Env→List aa→Prop} {v:Value} {w':World} (bO:(execOp a.eval o).run P w=.ok (.value v) w')
 (h:n7 A n M L w K (a.put o.dst v) w'):o.wpIn (wf ro) 0 P a w (n7 A n M L w K) Q:=by
 exact mf bO (by intro d e;cases e) h
theorem mS {P:Program} {o:Oper} {Q:Exit→Act→World→Prop} {K:Env→List aa→Prop} {w':World} (bO:(execOp a.eval o).run P w=.ok .skip w')
 (h:n7 A n M L w K (a.put o.dst undef) w'):o.wpIn (wf ro) 0 P a w (n7 A n M L w K) Q:=by
 exact mf bO (by intro d e;cases e) h
theorem wp_pure {P:Program} {o:Oper} {Q:Exit→Act→World→Prop} {K:Env→List aa→Prop} {v:Value} {x:AV} (h:Fr A n M L w H env O a) (hd:∀ d,o.dst=some d→d < n)
 (bO:(execOp a.eval o).run P w=.ok (.value v) w) (hr:aW M L v x) (hx:∀ own xs,x=.al own xs→own=0) (hK:K (put o.dst x env) H):o.wpIn (wf ro) 0 P a w (n7 A n M L w K) Q:=by
 obtain ⟨O',hf⟩:=h.ow hd hr hx
 exact dj bO ⟨M,L,H,_,O',hK,hf,Ext.refl A M w,aav L⟩
end
def vJ (env:Env) (d:Nat) (x:IX) (take:Bool):Env:=
 match x,take with
 | .t s,true=>(d,get env s)::(s,(get env s).ab)::env
 | x,_=>(d,(aq env x).ab)::env
def fy (x:AV) (φ:Bool→Prop):Prop:=match x with | .bool b=>φ b | _=>False
end Go.aK
end
section
namespace Go.aK
open Go
def AV.val:AV→Bool
 | .any=>false
 | .tuple _=>false
 | _=>true
def ah {α:Type} (zs:List α) (off:Nat) (xs:List α):List α:=zs.take off++(xs++zs.drop (off + xs.length))
section
variable {M:Mem} {L:List Nat}
theorem aW.gO {v:Value} {x:AV} (h:aW M L v x) (hv:x.val=true):aP M L v.cells.toList x.cells:=by
 cases h with
 | agg cs xs hr=>simpa [Value.cells,AV.cells] using hr
 | any v=>simp [AV.val] at hv
 | tuple=>simp [AV.val] at hv
 | al b off c own e cs xs he hx hn hle hc hr hm=>exact .one (.al b off c own e cs xs he hx hn hle hc hr hm)
 | _=>(simp only [Value.cells,AV.cells];exact .one (by constructor <;> assumption))
theorem aP.Bk {cs:List Value} {xs:List AV} (h:aP M L cs xs) {zs:List Value} {ys:List AV} (off:Nat) (hz:aP M L zs ys):aP M L (ah zs off cs) (ah ys off xs):=by
 unfold ah
 rw [h.length]
 exact (hz.take off).append (h.append (hz.drop _))
theorem aP.dn:∀ {vs:List Value} {xs:List AV},aP M L vs xs→aP M L vs (xs.map AV.ab)
 | _,_,.nil=>.nil
 | _,_,.cons v x vs xs h t=>.cons v _ _ _ h.ab t.dn
end
theorem oD {α:Type} (zs:List α) (off:Nat) (xs:List α) (h:off + xs.length≤zs.length):(ah zs off xs).length=zs.length:=by
 unfold ah;simp;omega
def dt (op:BinOp) (x y:AV) (φ:AV→Prop):Prop:=
 match x,y with
 | .int k a,.int k' b=>k=k'∧
   match op with
   | .add=>φ (.int k (k.wrap (a + b)))
   | .sub=>φ (.int k (k.wrap (a - b)))
   | .mul=>φ (.int k (k.wrap (a * b)))
   | .quo=>b≠0∧φ (.int k (k.wrap (a.tdiv b)))
   | .rem=>b≠0∧φ (.int k (a.tmod b))
   | .and=>φ (.int k (k.wrap (BitVec.ofInt k.bits a &&& BitVec.ofInt k.bits b).toNat))
   | .or=>φ (.int k (k.wrap (BitVec.ofInt k.bits a ||| BitVec.ofInt k.bits b).toNat))
   | .xor=>φ (.int k (k.wrap (BitVec.ofInt k.bits a ^^^ BitVec.ofInt k.bits b).toNat))
   | .andNot=>φ (.int k (k.wrap (BitVec.ofInt k.bits a &&& ~~~ BitVec.ofInt k.bits b).toNat))
   | .eql=>φ (.bool (decide (a=b)))
   | .neq=>φ (.bool (decide (a≠b)))
   | .lss=>φ (.bool (decide (a < b)))
   | .leq=>φ (.bool (decide (a≤b)))
   | .gtr=>φ (.bool (decide (b < a)))
   | .geq=>φ (.bool (decide (b≤a)))
   | _=>False
 | .str a,.str b=>
   match op with
   | .add=>a.size + b.size < 9223372036854775808∧φ (.str (a++b))
   | .eql=>φ (.bool (decide (a=b)))
   | .neq=>φ (.bool (decide (a≠b)))
   | .lss=>φ (.bool (Op.bytesLess a.data.toList b.data.toList))
   | .geq=>φ (.bool (!Op.bytesLess a.data.toList b.data.toList))
   | .leq=>φ (.bool (!Op.bytesLess b.data.toList a.data.toList))
   | .gtr=>φ (.bool (Op.bytesLess b.data.toList a.data.toList))
   | _=>False
 | _,_=>False
def eE (op:BinOp) (x y:AV) (φ:AV→Prop):Prop:=
 match x,y with
 | .int k a,.int _ b=>0≤b∧
   match op with
   | .shl=>φ (.int k (k.wrap (a * 2 ^ (min b.toNat k.bits))))
   | .shr=>φ (.int k (a.fdiv (2 ^ (min b.toNat k.bits))))
   | _=>False
 | _,_=>False
def dg (neq:Bool) (x y:AV) (φ:AV→Prop):Prop:=
 match x,y with
 | .bool a,.bool b=>φ (.bool (if neq then decide (a≠b) else decide (a=b)))
 | _,_=>False
def isNil (kd:Nat) (x:AV):Option Bool:=
 match kd,x with
 | 0,.ag=>some true
 | 0,.al _ (_::_)=>some false
 | 0,.aZ _ _ _ _=>some false
 | 1,.tg=>some true
 | 1,.ptr _ _=>some false
 | 1,.ai _=>some false
 | 2,.jN=>some true
 | 2,.map _=>some false
 | 3,.gn=>some true
 | 3,.fn _ _ _=>some false
 | _,_=>none
def dz (kd:Nat) (neq:Bool) (x:AV) (φ:AV→Prop):Prop:=
 match isNil kd x with
 | some b=>φ (.bool (if neq then !b else b))
 | none=>match kd,x with
   | 0,.al _ []=>φ (.bool true)∧φ (.bool false)
   | _,_=>False
def Bl (op:UnOp) (x:AV) (φ:AV→Prop):Prop:=
 match op,x with
 | .not,.bool b=>φ (.bool (!b))
 | .neg,.int k n=>φ (.int k (k.wrap (0 - n)))
 | _,_=>False
def iB (zs:List AV):List (Nat×Nat×AV)→(List AV→Prop)→Prop
 | [],φ=>φ zs
 | (off,sz,x)::r,φ=>x.val=true∧x.cells.length=sz∧off + sz≤zs.length∧iB (ah zs off (x.cells.map AV.ab)) r φ
def aV (sz:Option Nat) (x:AV) (H:List aa) (φ:AV→Prop):Prop:=
 match x with
 | .ptr id off=>match H[id]? with
   | some (.cells es)=>match sz with
     | some m=>off + m≤es.length∧φ (.agg (((es.drop off).take m).map AV.drop))
     | none=>off < es.length∧φ (es.getD off .any).ab
   | _=>False
 | .ai y=>match sz with
   | some m=>y.cells.length=m∧φ (.agg y.cells)
   | none=>y.one=true∧φ y.ab
 | _=>False
def apart (off:Nat) (sz:Option Nat) (xs:List AV) (φ:AV→Prop):Prop:=
 match sz with
 | some m=>off + m≤xs.length∧φ (.agg ((xs.drop off).take m))
 | none=>off < xs.length∧(xs.getD off .any).one=true∧φ (xs.getD off .any)
def ap (off:Nat) (sz:Option Nat) (x:AV) (φ:AV→Prop):Prop:=
 match x with
 | .ptr id o=>φ (.ptr id (o + off))
 | .ai y=>apart off sz y.cells fun z=>φ (.ai z)
 | _=>False
def fz (off:Nat) (sz:Option Nat) (x:AV) (φ:AV→Prop):Prop:=
 match x with
 | .agg xs=>apart off sz xs fun z=>φ z.drop
 | _=>False
def aC (esz:Nat) (x i:AV) (φ:AV→Prop):Prop:=
 match x,i with
 | .al _ xs,.int _ i=>0≤i∧i.toNat < xs.length∧φ (.ai (xs.getD i.toNat .any))
 | .aZ id off len _,.int _ i=>0≤i∧i.toNat < len∧φ (.ptr id (off + i.toNat * esz))
 | _,_=>False
def ch (n:Nat) (x i:AV) (φ:AV→Prop):Prop:=
 match x,i with
 | .agg xs,.int _ i=>xs.length=n∧0≤i∧i.toNat < n∧φ (xs.getD i.toNat .any).drop
 | _,_=>False
def bQ (x i:AV) (φ:AV→Prop):Prop:=
 match x,i with
 | .str s,.int _ i=>0≤i∧i.toNat < s.size∧φ (.int .u8 (s.data.toList.getD i.toNat 0).toNat)
 | _,_=>False
def fg (x:AV) (H:List aa) (φ:AV→Prop):Prop:=
 match x with
 | .str s=>φ (.int .i64 s.size)
 | .ag=>φ (.int .i64 0)
 | .al _ xs=>xs.length < 9223372036854775808→φ (.int .i64 xs.length)
 | .aZ _ _ len _=>φ (.int .i64 len)
 | .om=>φ (.int .i64 0)
 | .jN=>φ (.int .i64 0)
 | .map id=>match H[id]? with
   | some (.map es)=>φ (.int .i64 es.length)
   | _=>False
 | _=>False
def bM (x:AV) (i:Nat) (φ:AV→Prop):Prop:=
 match x with
 | .tuple xs=>i < xs.length∧φ (xs.getD i .any).ab
 | _=>False
def cj (x:AV) (φ:AV→Prop):Prop:=
 match x with
 | .ptr .. | .ai _=>φ x
 | .fn (.func _) _ _=>φ x
 | _=>False
def cN (k:IntKind) (x:AV) (φ:AV→Prop):Prop:=
 match x with
 | .int _ n=>φ (.int k (k.wrap n))
 | _=>False
def yZ (big:Bool) (x y:AV) (φ:AV→Prop):Prop:=
 match x,y with
 | .int k a,.int _ b=>φ (.int k (if big then (if b > a then b else a) else (if b < a then b else a)))
 | _,_=>False
section
variable {P:Program} {w:World} {M:Mem} {L:List Nat} {H:List aa}
theorem mT:∀ x y:List UInt8,(Op.bytesLess x y || x == y)=!Op.bytesLess y x
 | [],[]=>rfl
 | [],b::y=>by simp [Op.bytesLess]
 | a::x,[]=>by simp [Op.bytesLess]
 | a::x,b::y=>by
   have ih:=mT x y
   simp only [Op.bytesLess,List.cons_beq_cons]
   rcases afi a.toNat b.toNat with h | h | h
   ·have h1:a < b:=UInt8.lt_iff_toNat_lt.2 h
    have h2:¬ b < a:=fun h'=>by have:=UInt8.lt_iff_toNat_lt.1 h';omega
    have h3:(b == a)=false:=by
     rw [beq_eq_false_iff_ne];rintro rfl;omega
    simp [h1,h2,h3]
   ·have h0:a=b:=UInt8.toNat_inj.1 h
    subst h0
    simp [ih]
   ·have h1:b < a:=UInt8.lt_iff_toNat_lt.2 h
    have h2:¬ a < b:=fun h'=>by have:=UInt8.lt_iff_toNat_lt.1 h';omega
    have h3:(a == b)=false:=by
     rw [beq_eq_false_iff_ne];rintro rfl;omega
    simp [h1,h2,h3]
theorem C8 (a b:ByteArray):(a.toList == b.toList)=decide (a=b):=by
 rw [ab9,ab9]
 by_cases e:a=b
 ·subst e;simp
 ·have h0:¬ a.data.toList=b.data.toList:=fun h=>e (by cases a;cases b;simp_all [Array.toList_inj])
  rw [show (a.data.toList == b.data.toList)=false from beq_eq_false_iff_ne.2 h0]
  simp [e]
theorem rM {α:Type} [DecidableEq α] (a b:α):(a == b)=decide (a=b):=by
 by_cases h:a=b <;> simp [h]
theorem K7 {op:BinOp} {t:TypeId} {u v:Value} {x y:AV} {φ:AV→Prop} (h:dt op x y φ) (hu:aW M L u x) (hv:aW M L v y) (X Y:Operand) :
 ∃ r z,(do eqGuard op t X Y u v;binOp op t u v:Sem Value).run P w=.ok r w∧aW M L r z∧φ z∧∀ own xs,z=.al own xs→own=0:=by
 have guard_int:∀ (k k':IntKind) (a b:Int),(eqGuard op t X Y (.int k a) (.int k' b)).run P w=.ok () w:=by
  intro k k' a b;unfold eqGuard;cases op <;> rfl
 have guard_str:∀ (a b:ByteArray),(eqGuard op t X Y (.string a) (.string b)).run P w=.ok () w:=by
  intro a b;unfold eqGuard;cases op <;> rfl
 unfold dt at h
 split at h
 ·rename_i k a k' b
  cases hu;cases hv
  obtain ⟨rfl,h⟩:=h
  simp only [Sem.run_bind,guard_int,Result.andThen_ok]
  cases op <;> simp only at h <;> first
   | exact h.elim
   | exact ⟨_,_,rfl,.int _ _,h,by intro _ _ e;cases e⟩
   | (obtain ⟨h0,h⟩:=h
      refine ⟨_,_,?_,.int _ _,h,by intro _ _ e;cases e⟩
      simp [binOp,Op.intDiv,h0];done)
   | skip
  all_goals first
   | (refine ⟨_,_,?_,.int _ _,h,by intro _ _ e;cases e⟩
      simp [binOp,Op.intArith,Op.intBits];done)
   | (refine ⟨_,_,?_,.bool _,h,by intro _ _ e;cases e⟩
      simp [binOp,Op.intCmp];done)
   | skip
  all_goals
   refine ⟨_,_,?_,.bool _,h,by intro _ _ e;cases e⟩
   simp [binOp,Op.intCmp,bne,rM]
 ·rename_i a b
  cases hu;cases hv
  simp only [Sem.run_bind,guard_str,Result.andThen_ok]
  cases op <;> simp only at h <;> first
   | exact h.elim
   | skip
  ·obtain ⟨h0,h⟩:=h
   refine ⟨_,_,?_,.str _,h,by intro _ _ e;cases e⟩
   have:¬ ((a.size + b.size:Nat):Int) > IntKind.i64.max:=by
    have:IntKind.i64.max=9223372036854775807:=rfl
    rw [this];omega
   simp only [binOp,Op.stringOp,this,if_false,Sem.run_pure]
  ·exact ⟨_,_,rfl,.bool _,by rw [C8];exact h,by intro _ _ e;cases e⟩
  ·exact ⟨_,_,rfl,.bool _,by rw [C8];simpa using h,by intro _ _ e;cases e⟩
  ·exact ⟨_,_,rfl,.bool _,by rw [ab9,ab9];exact h,by intro _ _ e;cases e⟩
  ·exact ⟨_,_,rfl,.bool _,by rw [ab9,ab9,mT];exact h,by intro _ _ e;cases e⟩
  ·exact ⟨_,_,rfl,.bool _,by rw [ab9,ab9,mT,aeN];exact h,by intro _ _ e;cases e⟩
  ·exact ⟨_,_,rfl,.bool _,by rw [ab9,ab9];exact h,by intro _ _ e;cases e⟩
 ·exact h.elim
theorem wP {op:BinOp} {t:TypeId} {u v:Value} {x y:AV} {φ:AV→Prop} (h:eE op x y φ) (hu:aW M L u x) (hv:aW M L v y) (X Y:Operand) :
 ∃ r z,(do eqGuard op t X Y u v;binOp op t u v:Sem Value).run P w=.ok r w∧aW M L r z∧φ z∧∀ own xs,z=.al own xs→own=0:=by
 unfold eE at h
 split at h
 ·rename_i k a k' b
  cases hu;cases hv
  obtain ⟨h0,h⟩:=h
  have guard_int:(eqGuard op t X Y (.int k a) (.int k' b)).run P w=.ok () w:=by
   unfold eqGuard;cases op <;> rfl
  simp only [Sem.run_bind,guard_int,Result.andThen_ok]
  have hn:¬ b < 0:=by omega
  cases op <;> simp only at h <;> first
   | exact h.elim
   | (refine ⟨_,_,?_,.int _ _,h,by intro _ _ e;cases e⟩
      simp [binOp,Op.shift,hn];done)
 ·exact h.elim
theorem run_equalIn_bool (d:Nat) {t:TypeId} (ht:P.underlying t=some .bool) (a b:Bool):(Op.equalIn (d + 1) t (.bool a) (.bool b)).run P w=.ok (a == b) w:=by
 simp only [Op.equalIn,Sem.run_bind,run_underlying ht,Result.andThen_ok,Sem.run_pure]
theorem run_equal_bool {t:TypeId} (ht:P.underlying t=some .bool) (a b:Bool):(Op.equal t (.bool a) (.bool b)).run P w=.ok (a == b) w:=run_equalIn_bool 9999 ht a b
theorem uJ {neq:Bool} {t:TypeId} (ht:P.underlying t=some .bool) {u v:Value} {x y:AV} {φ:AV→Prop} (h:dg neq x y φ) (hu:aW M L u x) (hv:aW M L v y) (X Y:Operand) :
 ∃ r z,(do eqGuard (if neq then .neq else .eql) t X Y u v;binOp (if neq then .neq else .eql) t u v:Sem Value).run P w=.ok r w∧aW M L r z∧φ z∧∀ own xs,z=.al own xs→own=0:=by
 unfold dg at h
 split at h
 ·rename_i a b
  cases hu;cases hv
  cases neq
  ·refine ⟨_,.bool (a == b),?_,.bool (a == b),?_,by intro _ _ e;cases e⟩
   ·simp only [abO,if_false,Sem.run_bind,eqGuard,Sem.run_pure,Result.andThen_ok,binOp,run_equal_bool ht];rfl
   ·rw [rM];exact h
  ·refine ⟨_,.bool (!(a == b)),?_,.bool (!(a == b)),?_,by intro _ _ e;cases e⟩
   ·simp only [if_true,Sem.run_bind,eqGuard,Sem.run_pure,Result.andThen_ok,binOp,run_equal_bool ht];rfl
   ·rw [rM];simpa using h
 ·exact h.elim
theorem OR {op:UnOp} {u:Value} {x:AV} {φ:AV→Prop} (h:Bl op x φ) (hu:aW M L u x) :
 ∃ r z,(Op.unary op u).run P w=.ok r w∧aW M L r z∧φ z∧∀ own xs,z=.al own xs→own=0:=by
 unfold Bl at h
 split at h
 ·cases hu;exact ⟨_,_,rfl,.bool _,h,by intro _ _ e;cases e⟩
 ·cases hu;exact ⟨_,_,rfl,.int _ _,h,by intro _ _ e;cases e⟩
 ·exact h.elim
theorem je {cs:List Value} {b off:Nat} (hm:M.row b off cs) (jO:∀ b o v,M b o=some v→w.cell? ⟨b,o,none⟩=some v) :
 ∀ j v,cs[j]?=some v→w.cell? ((⟨b,off,none⟩:Addr).add j)=some v:=by
 intro j v hv
 rw [Addr.add_lit]
 exact jO _ _ _ (hm j v hv)
theorem eY {t:TypeId} {m:Nat} (h:KN P t=some none):(isAgg t).run P w=.ok false w∧(P.info? t).map (·.size)=some 1:=by
 unfold KN at h
 split at h <;> try cases h
 rename_i i d h1 h2 hi hd
 split at h
 ·rename_i h3
  refine ⟨?_,by simp [hi,h3]⟩
  simp only [isAgg,Sem.run_bind,run_underlying hd,Result.andThen_ok]
  cases d <;> first | rfl | (exact absurd rfl (h1 _)) | (exact absurd rfl (h2 _ _))
 ·cases h
theorem kz {t:TypeId} {m:Nat} (h:KN P t=some (some m)):(isAgg t).run P w=.ok true w∧(sizeOf t).run P w=.ok m w:=by
 unfold KN at h
 split at h <;> try cases h
 ·rename_i i f hi hd
  refine ⟨?_,?_⟩
  ·simp only [isAgg,Sem.run_bind,run_underlying hd,Result.andThen_ok];rfl
  ·simp [sizeOf,typeInfo,hi]
 ·rename_i i l e hi hd
  refine ⟨?_,?_⟩
  ·simp only [isAgg,Sem.run_bind,run_underlying hd,Result.andThen_ok];rfl
  ·simp [sizeOf,typeInfo,hi]
 ·split at h <;> cases h
end
end Go.aK
end
section
namespace Go.aK
open Go
section
variable {P:Program} {w:World} {M:Mem} {L:List Nat} {H:List aa} {A:Perm} {ev:Nat→Value} {ea:Nat→AV} {O:Pos→Option Nat}
theorem fS (hs:St A M L w H ev ea O) {id b:Nat} {es:List AV} (bn:H[id]?=some (.cells es)) (hL:L[id]?=some b) :
 ∃ cs e,w.heap[b]?=some (.cells cs e (0,0))∧aP M L cs.toList es∧∀ j v,cs.toList[j]?=some v→w.cell? ⟨b,j,none⟩=some v:=by
 obtain ⟨cs,e,h1,h2,_⟩:=hs.obj id _ b bn hL
 exact ⟨cs,e,h1,h2,fun j v hv=>by simpa [World.cell?,h1] using hv⟩
theorem dF {α:Type} (l:List α) (off m j:Nat) (v:α) (h:((l.drop off).take m)[j]?=some v):l[off + j]?=some v:=by
 rw [aax] at h
 split at h
 ·rwa [adX] at h
 ·cases h
theorem tq {sz:Option Nat} {t:TypeId} (ht:KN P t=some sz) {u:Value} {x:AV} {φ:AV→Prop} (hs:St A M L w H ev ea O) (h:aV sz x H φ) (hu:aW M L u x) :
 ∃ r z,(Instr.loadAt t u).run P w=.ok r w∧aW M L r z∧φ z∧∀ own xs,z=.al own xs→own=0:=by
 unfold aV at h
 split at h
 ·rename_i id off
  cases hu with
  | ptr b _ _ hl=>
  split at h
  ·rename_i es bn
   obtain ⟨cs,e,h1,h2,h3⟩:=fS hs bn hl
   have hlen:=h2.length
   cases sz with
   | some m=>
     obtain ⟨hm,hφ⟩:=h
     obtain ⟨r1,r2⟩:=kz (w:=w) ht
     have jL:((cs.toList.drop off).take m).length=m:=by simp at hlen ⊢;omega
     have K8:=run_loadCells_list (P:=P) w ⟨b,off,none⟩ ((cs.toList.drop off).take m) (fun j v hv=>by rw [Addr.add_lit];exact h3 _ _ (dF _ _ _ _ _ hv))
     rw [jL] at K8
     refine ⟨.agg ((cs.toList.drop off).take m).toArray,.agg (((es.drop off).take m).map AV.drop),?_,?_,hφ,by intro _ _ e;cases e⟩
     ·simp only [Instr.loadAt,Instr.sureAddr,loadVar,Sem.run_bind,Sem.run_pure,Result.andThen_ok,r1,if_true,r2,K8]
     ·have:=aW.agg _ _ (((h2.drop off).take m).map_drop)
      simpa using this
   | none=>
     obtain ⟨hm,hφ⟩:=h
     obtain ⟨r1,r2⟩:=eY (w:=w) (m:=0) ht
     have qd:off < cs.toList.length:=by omega
     have hcell:=h3 off cs.toList[off] (by simp)
     have gk:=h2.getD off
     refine ⟨cs.toList[off],_,?_,?_,hφ,AV.bR _⟩
     ·simp only [Instr.loadAt,Instr.sureAddr,loadVar,Sem.run_bind,Sem.run_pure,Result.andThen_ok,r1,abO,if_false,run_load,hcell]
     ·have e0:cs.toList.getD off undef=cs.toList[off]:=by rw [rB,Oq qd];rfl
      rw [e0] at gk
      exact gk.ab
  ·exact h.elim
 ·rename_i y
  cases hu with
  | ai b off cs _ hr hm=>
  have hcells:=je hm hs.mem
  cases sz with
  | some m=>
    obtain ⟨OS,hφ⟩:=h
    obtain ⟨r1,r2⟩:=kz (w:=w) ht
    have jL:cs.length=m:=hr.length.trans OS
    have K8:=run_loadCells_list (P:=P) w ⟨b,off,none⟩ cs hcells
    rw [jL] at K8
    refine ⟨.agg cs.toArray,.agg y.cells,?_,.agg cs y.cells hr,hφ,by intro _ _ e;cases e⟩
    simp only [Instr.loadAt,Instr.sureAddr,loadVar,Sem.run_bind,Sem.run_pure,Result.andThen_ok,r1,if_true,r2,K8]
  | none=>
    obtain ⟨OS,hφ⟩:=h
    obtain ⟨r1,r2⟩:=eY (w:=w) (m:=0) ht
    have hy:y.cells=[y]:=by cases y <;> first | rfl | simp [AV.one] at OS
    rw [hy] at hr
    obtain ⟨v,rfl,hv⟩:=hr.HO
    have hcell:=hcells 0 v (by simp)
    rw [Addr.add_lit,aeR] at hcell
    refine ⟨v,_,?_,hv.ab,hφ,AV.bR _⟩
    simp only [Instr.loadAt,Instr.sureAddr,loadVar,Sem.run_bind,Sem.run_pure,Result.andThen_ok,r1,abO,if_false,run_load,hcell]
 ·exact h.elim
def tu (P:Program) (s:TypeId) (f:Nat):Option (Nat×Option Nat):=
 match P.underlying s with
 | some (.struct fields)=>match fields[f]? with
   | some fd=>match KN P fd.type,dX P fd.type with
     | some sz,some k=>if k=0 then none else some (fd.offset,sz)
     | _,_=>none
   | none=>none
 | _=>none
theorem uK {s:TypeId} {f off:Nat} {sz:Option Nat} (h:tu P s f=some (off,sz)) :
 ∃ fields fd k,P.underlying s=some (.struct fields)∧fields[f]?=some fd∧fd.offset=off∧KN P fd.type=some sz∧(P.info? fd.type).map (·.size)=some k∧k≠0:=by
 unfold tu at h
 split at h <;> try cases h
 rename_i fields hu
 split at h <;> try cases h
 rename_i fd hf
 split at h <;> try cases h
 rename_i sz' k hs hk
 split at h <;> cases h
 rename_i Jf
 exact ⟨fields,fd,k,hu,hf,rfl,hs,hk,Jf⟩
theorem wQ {s:TypeId} {f off:Nat} {sz:Option Nat} (ht:tu P s f=some (off,sz)) {u:Value} {x:AV} {φ:AV→Prop} (h:ap off sz x φ) (hu:aW M L u x) :
 ∃ r z,(Instr.fieldAt s u f).run P w=.ok r w∧aW M L r z∧φ z∧∀ own xs,z=.al own xs→own=0:=by
 obtain ⟨fields,fd,k,K9,hf,rfl,hs,hk,Jf⟩:=uK ht
 have bO:∀ b o,(Instr.fieldAt s (.pointer (some ⟨b,o,none⟩)) f).run P w=.ok (.pointer (some ⟨b,o + fd.offset,none⟩)) w:=by
  intro b o
  obtain ⟨i,hi,OT⟩:=yR.1 hk
  have di:(sizeOf fd.type).run P w=.ok k w:=by simp [sizeOf,typeInfo,hi,OT]
  simp only [Instr.fieldAt,Instr.sureAddr,Sem.run_bind,run_underlying K9,Result.andThen_ok,hf,Sem.run_pure,fieldPlace,di,Jf,if_false,Addr.add_lit]
 unfold ap at h
 split at h
 ·rename_i id o
  cases hu with
  | ptr b _ _ hl=>exact ⟨_,_,bO b o,.ptr b (o + fd.offset) id hl,h,by intro _ _ e;cases e⟩
 ·rename_i y
  cases hu with
  | ai b o cs _ hr hm=>
  refine ⟨.pointer (some ⟨b,o + fd.offset,none⟩),?_⟩
  unfold apart at h
  cases sz with
  | some m=>
    obtain ⟨hle,hφ⟩:=h
    refine ⟨_,bO b o,.ai b (o + fd.offset) ((cs.drop fd.offset).take m) _ (by simpa [AV.cells] using (hr.drop fd.offset).take m) ?_,hφ,by intro _ _ e;cases e⟩
    intro j v hv
    have:=hm _ _ (dF _ _ _ _ _ hv)
    rwa [← acO] at this
  | none=>
    obtain ⟨hle,h1,hφ⟩:=h
    have hl:=hr.length
    have qd:fd.offset < cs.length:=by omega
    have hx:∃ z,y.cells[fd.offset]?=some z:=⟨_,Oq hle⟩
    obtain ⟨z,hz⟩:=hx
    obtain ⟨v,hv,gk⟩:=hr.get _ z hz
    have e0:y.cells.getD fd.offset .any=z:=by rw [rB,hz];rfl
    rw [e0] at hφ h1
    have hag:z.cells=[z]:=by cases z <;> first | rfl | simp [AV.one] at h1
    refine ⟨_,bO b o,.ai b (o + fd.offset) [v] z (by rw [hag];exact .one gk) ?_,hφ,by intro _ _ e;cases e⟩
    intro j u' Jg
    cases j with
    | zero=>simp at Jg;subst Jg;simpa using hm _ _ hv
    | succ j=>simp at Jg
 ·exact h.elim
theorem FJ {s:TypeId} {f off:Nat} {sz:Option Nat} (ht:tu P s f=some (off,sz)) {u:Value} {x:AV} {φ:AV→Prop} (h:fz off sz x φ) (hu:aW M L u x) :
 ∃ r z,(Instr.field s u f).run P w=.ok r w∧aW M L r z∧φ z∧∀ own xs,z=.al own xs→own=0:=by
 obtain ⟨fields,fd,k,K9,hf,rfl,hs,hk,Jf⟩:=uK ht
 unfold fz at h
 split at h
 ·rename_i xs
  cases hu with
  | agg cs _ hr=>
  unfold apart at h
  cases sz with
  | some m=>
    obtain ⟨hle,hφ⟩:=h
    obtain ⟨r1,r2⟩:=kz (w:=w) hs
    refine ⟨.agg ((cs.drop fd.offset).take m).toArray,_,?_,(aW.agg _ _ ((hr.drop fd.offset).take m)).drop,hφ,AV.kq _⟩
    simp only [Instr.field,Sem.run_bind,run_underlying K9,Result.andThen_ok,hf,part,r1,if_true,asAgg,Sem.run_pure,r2]
    congr 2
    apply Array.ext'
    simp [List.drop_take]
  | none=>
    obtain ⟨hle,h1,hφ⟩:=h
    obtain ⟨r1,r2⟩:=eY (w:=w) (m:=0) hs
    have qd:fd.offset < cs.length:=by have:=hr.length;omega
    have gk:=hr.getD fd.offset
    have e0:cs.getD fd.offset undef=cs[fd.offset]:=by rw [rB,Oq qd];rfl
    rw [e0] at gk
    refine ⟨cs[fd.offset],_,?_,gk.drop,hφ,AV.kq _⟩
    simp [Instr.field,run_underlying K9,hf,part,r1,asAgg,qd]
 ·exact h.elim
theorem flat_get:∀ (xs:List AV) (e:Nat),(∀ x∈xs,x.cells.length=e)→∀ i j x,xs[i]?=some x→j < e→(flat xs)[i * e + j]?=x.cells[j]?
 | [],e,_,i,j,x,h,_=>by simp at h
 | y::ys,e,hx,0,j,x,h,hj=>by
   simp at h;subst h
   have:=hx y (by simp)
   simp only [flat,List.flatMap_cons,afM,abM]
   rw [yO (by omega)]
 | y::ys,e,hx,i + 1,j,x,h,hj=>by
   have hy:=hx y (by simp)
   have ih:=flat_get ys e (fun x h=>hx x (by simp [h])) i j x (by simpa using h) hj
   simp only [flat,List.flatMap_cons]
   rw [abt (by rw [hy,abP];omega),hy,show (i + 1) * e + j - e=i * e + j by rw [abP];omega]
   exact ih
theorem Lb {b off e:Nat} {cs:List Value} {xs:List AV} (hx:∀ x∈xs,x.cells.length=e) (hr:aP M L cs (flat xs)) (hm:M.row b off cs) {i:Nat} {x:AV} (hi:xs[i]?=some x) :
 aW M L (.pointer (some ⟨b,off + i * e,none⟩)) (.ai x):=by
 have hlen:=hx x (abE hi)
 refine .ai b (off + i * e) ((cs.drop (i * e)).take e) x ?_ ?_
 ·have h2:=(hr.drop (i * e)).take e
  have:((flat xs).drop (i * e)).take e=x.cells:=by
   apply abU
   intro j
   rw [aax]
   split
   ·rename_i hj
    rw [adX,flat_get xs e hx i j x hi hj]
   ·rename_i hj
    rw [abL (by omega)]
  rwa [this] at h2
 ·intro j v hv
  have:=hm _ _ (dF _ _ _ _ _ hv)
  rwa [← acO] at this
theorem wR {t e esz:Nat} (ht:P.underlying t=some (.slice e)) (hz:dX P e=some esz) {u v:Value} {x y:AV} {φ:AV→Prop} (h:aC esz x y φ)
 (Tv:∀ own xs,x=.al own xs→∀ z∈xs,z.cells.length=esz) (hu:aW M L u x) (hv:aW M L v y) :
 ∃ r z,(Instr.indexAt t u v).run P w=.ok r w∧aW M L r z∧φ z∧∀ own xs,z=.al own xs→own=0:=by
 have di:(sizeOf e).run P w=.ok esz w:=by
  obtain ⟨i,hi,OT⟩:=yR.1 hz
  simp [sizeOf,typeInfo,hi,OT]
 have bO:∀ (b o len cap:Nat) (k:IntKind) (i:Int),0≤i→i.toNat < len→(Instr.indexAt t (.slice (some ⟨b,o,none⟩) len cap) (.int k i)).run P w=.ok (.pointer (some ⟨b,o + i.toNat * esz,none⟩)) w:=by
  intro b o len cap k i h0 h1
  have hc:0≤i∧i < (len:Int):=⟨h0,by omega⟩
  simp only [Instr.indexAt,asIntOf,Sem.run_bind,Sem.run_pure,Result.andThen_ok,run_underlying ht,hc,and_self,if_true,di,Addr.add_lit]
 unfold aC at h
 split at h
 ·rename_i own xs k i
  obtain ⟨h0,h1,hφ⟩:=h
  cases hv
  have hi:xs[i.toNat]?=some (xs.getD i.toNat .any):=by rw [rB,Oq h1];rfl
  cases hu with
  | iw=>simp at h1
  | al b off c _ e' cs _ he hx hn hle hc hr hm=>
    have e0:e'=esz:=by
     have h2:=hx _ (abE hi)
     have h3:=Tv own xs rfl _ (abE hi)
     omega
    subst e0
    exact ⟨_,_,bO b off _ c _ i h0 h1,Lb hx hr hm hi,hφ,by intro _ _ e;cases e⟩
 ·rename_i id off len cap k i
  obtain ⟨h0,h1,hφ⟩:=h
  cases hv
  cases hu with
  | aZ b _ _ _ _ hl hc=>exact ⟨_,_,bO b off len cap _ i h0 h1,.ptr b _ id hl,hφ,by intro _ _ e;cases e⟩
 ·exact h.elim
theorem y7 {t e:TypeId} {n:Nat} (ht:P.underlying t=some (.array n e)) (he:KN P e=some none) {u v:Value} {x y:AV} {φ:AV→Prop} (h:ch n x y φ) (hu:aW M L u x) (hv:aW M L v y) :
 ∃ r z,(Instr.index t u v).run P w=.ok r w∧aW M L r z∧φ z∧∀ own xs,z=.al own xs→own=0:=by
 unfold ch at h
 split at h
 ·rename_i xs k i
  obtain ⟨hn,h0,h1,hφ⟩:=h
  cases hv
  cases hu with
  | agg cs _ hr=>
  obtain ⟨r1,r2⟩:=eY (w:=w) (m:=1) he
  have y8:i.toNat < cs.length:=by have:=hr.length;omega
  have gk:=hr.getD i.toNat
  have e0:cs.getD i.toNat undef=cs[i.toNat]:=by rw [rB,Oq y8];rfl
  rw [e0] at gk
  refine ⟨cs[i.toNat],_,?_,gk.drop,hφ,AV.kq _⟩
  have aS:i < (n:Int):=by omega
  obtain ⟨inf,iC,di⟩:=yR.1 r2
  have rz:(sizeOf e).run P w=.ok 1 w:=by simp [sizeOf,typeInfo,iC,di]
  simp [Instr.index,asIntOf,run_underlying ht,h0,aS,part,r1,rz,y8]
 ·exact h.elim
theorem y9 {t:TypeId} (ht:P.underlying t=some .string) {u v:Value} {x y:AV} {φ:AV→Prop} (h:bQ x y φ) (hu:aW M L u x) (hv:aW M L v y) :
 ∃ r z,(Instr.index t u v).run P w=.ok r w∧aW M L r z∧φ z∧∀ own xs,z=.al own xs→own=0:=by
 unfold bQ at h
 split at h
 ·rename_i s k i
  obtain ⟨h0,h1,hφ⟩:=h
  cases hu;cases hv
  have e1:s[i.toNat]?=some s[i.toNat]:=by simp [h1]
  have e2:s.data.toList.getD i.toNat 0=s[i.toNat]:=by
   have:i.toNat < s.data.size:=h1
   rw [rB,ado,ady this];rfl
  rw [e2] at hφ
  refine ⟨_,_,?_,.int _ _,hφ,by intro _ _ e;cases e⟩
  simp only [Instr.index,asIntOf,Sem.run_bind,Sem.run_pure,Result.andThen_ok,run_underlying ht,h0,if_true,e1]
 ·exact h.elim
def jP (d:TypeDesc) (x:AV):Bool:=
 match d,x with
 | .string,.str _=>true
 | .slice _,.ag=>true
 | .slice _,.al _ _=>true
 | .slice _,.aZ _ _ _ _=>true
 | .slice _,.om=>true
 | .map _ _,.jN=>true
 | .map _ _,.map _=>true
 | _,_=>false
theorem Lc {t:TypeId} {d:TypeDesc} (ht:P.underlying t=some d) {u:Value} {x:AV} {φ:AV→Prop} (hs:St A M L w H ev ea O)
 (hk:jP d x=true)
 (h:fg x H φ) (hu:aW M L u x) (ty:TypeId) :
 ∃ r z,(Builtin.len_ #[t] ty #[u]).run P w=.ok r w∧aW M L r z∧φ z∧∀ own xs,z=.al own xs→own=0:=by
 unfold fg at h
 split at h
 ·cases hu
  cases d <;> simp [jP] at hk
  exact ⟨_,_,by simp [Builtin.len_,run_underlying ht,goInt],.int _ _,h,by intro _ _ e;cases e⟩
 ·cases hu
  cases d <;> simp [jP] at hk
  exact ⟨_,_,by simp [Builtin.len_,run_underlying ht,goInt],.int _ _,h,by intro _ _ e;cases e⟩
 ·rename_i own xs
  cases d <;> simp [jP] at hk
  cases hu with
  | iw a c _ hc=>exact ⟨_,_,by simp [Builtin.len_,run_underlying ht,goInt],.int _ _,h (by decide),by intro _ _ e;cases e⟩
  | al b off c _ e' cs _ he hx hn hle hc hr hm=>exact ⟨_,_,by simp [Builtin.len_,run_underlying ht,goInt],.int _ _,h (by omega),by intro _ _ e;cases e⟩
 ·cases d <;> simp [jP] at hk
  cases hu with
  | aZ b off len cap id hl hc=>exact ⟨_,_,by simp [Builtin.len_,run_underlying ht,goInt],.int _ _,h,by intro _ _ e;cases e⟩
 ·cases d <;> simp [jP] at hk
  cases hu with
  | om a=>exact ⟨_,_,by simp [Builtin.len_,run_underlying ht,goInt],.int _ _,h,by intro _ _ e;cases e⟩
 ·cases d <;> simp [jP] at hk
  cases hu
  exact ⟨_,_,by simp [Builtin.len_,run_underlying ht,goInt],.int _ _,h,by intro _ _ e;cases e⟩
 ·rename_i id
  cases d <;> simp [jP] at hk
  cases hu with
  | map b _ hl=>
  split at h
  ·rename_i es bn
   obtain ⟨ents,ck,h1,h2,h3⟩:=hs.obj id _ b bn hl
   have hlen:ents.size=es.length:=by have:=h2.length;simpa using this
   refine ⟨_,_,?_,.int _ _,h,by intro _ _ e;cases e⟩
   simp [Builtin.len_,run_underlying ht,goInt,getObj,Sem.run,h1,hlen]
  ·exact h.elim
 ·exact h.elim
theorem Bm {i:Nat} {u:Value} {x:AV} {φ:AV→Prop} (h:bM x i φ) (hu:aW M L u x) :
 ∃ r z,(Instr.extract u i).run P w=.ok r w∧aW M L r z∧φ z∧∀ own xs,z=.al own xs→own=0:=by
 unfold bM at h
 split at h
 ·rename_i xs
  obtain ⟨hi,hφ⟩:=h
  cases hu with
  | tuple cs _ hr=>
  have hl:=hr.length
  have gk:=hr.getD i
  have e0:cs.getD i undef=cs[i]:=by rw [rB,Oq (by omega)];rfl
  rw [e0] at gk
  exact ⟨_,_,by simp [Instr.extract,show i < cs.length by omega],gk.ab,hφ,AV.bR _⟩
 ·exact h.elim
theorem za {o:Oper} {X:Operand} {ρ:Operand→Value} (ho:o.op=.nilCheck X) {x:AV} {φ:AV→Prop} (h:cj x φ) (hu:aW M L (ρ X) x) :
 ∃ r z,(execOp ρ o).run P w=.ok (.value r) w∧aW M L r z∧φ z∧∀ own xs,z=.al own xs→own=0:=by
 unfold cj at h
 simp only [execOp,ho]
 generalize hρ:ρ X=u at hu
 split at h
 ·cases hu;exact ⟨_,_,rfl,.ptr _ _ _ (by assumption),h,by intro _ _ e;cases e⟩
 ·cases hu;exact ⟨_,_,rfl,.ai _ _ _ _ (by assumption) (by assumption),h,by intro _ _ e;cases e⟩
 ·cases hu;exact ⟨_,_,rfl,.fn _ _ _ _ _ (by assumption) (by assumption),h,by intro _ _ e;cases e⟩
 ·exact h.elim
theorem Bn {src dst:TypeId} {d:TypeDesc} {k:IntKind} (hs:P.underlying src=some d) (hd:P.underlying dst=some (.int k)) {u:Value} {x:AV} {φ:AV→Prop} (h:cN k x φ) (hu:aW M L u x) :
 ∃ r z,(convert src dst u).run P w=.ok r w∧aW M L r z∧φ z∧∀ own xs,z=.al own xs→own=0:=by
 unfold cN at h
 split at h
 ·rename_i k' n'
  cases hu
  refine ⟨_,_,?_,.int _ _,h,by intro _ _ e;cases e⟩
  simp [convert,run_underlying hs,run_underlying hd,Conv.intToInt]
 ·exact h.elim
theorem HT {big:Bool} {u v:Value} {x y:AV} {φ:AV→Prop} (h:yZ big x y φ) (hu:aW M L u x) (hv:aW M L v y) (ts:Array TypeId) (ty:TypeId) :
 ∃ r z,(if big then Builtin.max_ ts ty #[u,v] else Builtin.min_ ts ty #[u,v]).run P w=.ok r w∧aW M L r z∧φ z∧∀ own xs,z=.al own xs→own=0:=by
 unfold yZ at h
 split at h
 ·cases hu;cases hv
  cases big
  ·exact ⟨_,_,rfl,.int _ _,h,by intro _ _ e;cases e⟩
  ·exact ⟨_,_,rfl,.int _ _,h,by intro _ _ e;cases e⟩
 ·exact h.elim
end
end Go.aK
end
section
namespace Go.aK
open Go
def cH (zero:List AV) (parts:List (Nat×Nat×AV)) (φ:AV→Prop):Prop:=iB zero parts fun xs=>φ (.agg xs)
def bw (xs:List AV) (esz:Nat):List (Nat×AV)→(List AV→Prop)→Prop
 | [],φ=>φ xs
 | (i,x)::r,φ=>x.val=true∧x.cells.length=esz∧i < xs.length∧bw (xs.set i (a7 x)) esz r φ
where a7:AV→AV
 | .agg ys=>.agg (ys.map AV.drop)
 | x=>x.drop
abbrev a7:=bw.a7
section
variable {M:Mem} {L:List Nat}
theorem aW.a7 {v:Value} {x:AV} (h:aW M L v x):aW M L v (a7 x):=by
 cases x <;> first | exact h.drop | skip
 cases h with
 | agg cs _ hr=>exact .agg cs _ hr.map_drop
theorem fA (x:AV):(a7 x).cells.length=x.cells.length:=by
 cases x <;> simp [bw.a7,AV.cells,AV.drop]
theorem tv {x:AV} (h:x.val=true):(a7 x).val=true:=by
 cases x <;> simp_all [bw.a7,AV.val,AV.drop]
theorem FK (x:AV):∀ own xs,a7 x=.al own xs→own=0:=by
 intro own xs h
 cases x <;> simp_all [bw.a7,AV.drop]
end
section
variable {P:Program} {w:World} {M:Mem} {L:List Nat} {H:List aa} {A:Perm} {ev:Nat→Value} {ea:Nat→AV} {O:Pos→Option Nat}
theorem Jh (hs:St A M L w H ev ea O) (e:TypeId) {u:Value} {x:AV} (hu:aW M L u x) (hv:x.val=true) :
 ∃ r M' w',(Instr.box e u).run P w=.ok r w'∧aW M' L r (.ai x)∧St A M' L w' H ev ea O∧Ext A M w M' w':=by
 obtain ⟨h1,h2,h3⟩:=hs.FG u.cells e
 exact ⟨_,_,_,rfl,.ai _ _ _ _ ((hu.gO hv).mono h2.mc (aav _)) h3,h1,h2⟩
theorem C9 (hs:St A M L w H ev ea O) (e:TypeId) {u:Value} {x:AV} (hu:aW M L u x) (hv:x.val=true) (hb:aj (H.length + 1) (x.cells.map AV.ab)=true) :
 ∃ r L' w',(Instr.box e u).run P w=.ok r w'∧aW M L' r (.ptr H.length 0)∧St A M L' w' (H++[.cells (x.cells.map AV.ab)]) ev ea O∧Ext A M w M w'∧L <+: L':=by
 obtain ⟨h1,h2⟩:=hs.th (.cells u.cells e) (.cells (x.cells.map AV.ab)) (fun w' hw hM=>⟨u.cells,e,hw,((hu.gO hv).dn).mono (Mem.bY M) ⟨_,rfl⟩,hM⟩) hb (fun j=>by
  simp only [ox]
  refine bj.free ?_
  intro own xs h
  rw [rB,abW] at h
  cases hx:x.cells[j]? with
  | none=>simp [hx] at h
  | some y=>simp [hx] at h;exact AV.bR y own xs h)
 refine ⟨_,_,_,rfl,.ptr _ _ _ ?_,h1,h2,⟨_,rfl⟩⟩
 rw [abt (by rw [hs.len];exact rC _),hs.len];simp
theorem FL (hs:St A M L w H ev ea O) {e:TypeId} {z:AV} (hz:fX P e=some z) (hv:z.val=true) (hb:aj (H.length + 1) (z.cells.map AV.ab)=true) :
 ∃ r L' w',(Instr.alloc e true (.tuple #[])).run P w=.ok r w'∧aW M L' r (.ptr H.length 0)∧St A M L' w' (H++[.cells (z.cells.map AV.ab)]) ev ea O∧Ext A M w M w'∧L <+: L':=by
 unfold fX at hz
 split at hz
 ·rename_i i hi
  split at hz
  ·rename_i v qk
   obtain ⟨r,L',w',h1,h2⟩:=C9 (P:=P) hs e (cV hz) hv hb
   refine ⟨r,L',w',?_,h2⟩
   rw [← h1]
   simp only [Instr.alloc,Instr.box,zeroValue,typeInfo,Sem.run_bind,run_program,Result.andThen_ok,hi,Sem.run_pure,qk]
  ·cases hz
 ·cases hz
theorem wS (vs:List Value):∀ (off k:Nat) (cs:Array Value),off + k + vs.length≤cs.size→
 ((vs.zipIdx k).foldl (fun cs (x:Value×Nat)=>cs.setIfInBounds (off + x.2) x.1) cs).toList=ah cs.toList (off + k) vs:=by
 induction vs with
 | nil=>intro off k cs h;simp [ah]
 | cons v vs ih=>
   intro off k cs h
   simp only [List.zipIdx_cons,List.foldl_cons]
   rw [ih off (k + 1) _ (by simp at h ⊢;omega)]
   simp only [Array.toList_setIfInBounds,ah]
   simp only [List.length_cons] at h
   apply abU
   intro j
   simp only [aei,aax,ab0,acd,aeA,adX,List.length_cons,aaf,aej]
   by_cases h1:j < off + k
   ·have:j < min (off + k) cs.size:=by omega
    have:j < min (off + (k + 1)) cs.size:=by omega
    simp only [*,if_true]
    rw [if_pos (by omega),yQ (by omega)]
   ·by_cases h2:j=off + k
    ·subst h2
     have:off + k < min (off + (k + 1)) cs.size:=by omega
     simp only [this,if_true]
     rw [if_pos (by omega),yS (by simp;omega),if_neg (by omega)]
     rw [show off + k - min (off + k) cs.size=0 by omega]
     simp
    ·have n1:¬ j < min (off + (k + 1)) cs.size:=by omega
     have n2:¬ j < min (off + k) cs.size:=by omega
     simp only [n1,n2,if_false]
     rw [show j - min (off + k) cs.size=(j - min (off + (k + 1)) cs.size) + 1 by omega]
     simp only [Nat.add_lt_add_iff_right,List.getElem?_cons_succ]
     split
     ·rfl
     ·rw [yQ (by omega)]
      congr 1
      omega
theorem zS {place:Nat→Option (Nat×Nat)}:∀ (parts:List (Nat×Nat×AV)) (vs:List (Nat×Value)) {cs:Array Value} {zs:List AV} {φ:List AV→Prop},
 (∀ (j:Nat) (p:Nat×Nat×AV),parts[j]?=some p→∃ i v,vs[j]?=some (i,v)∧place i=some (p.1,p.2.1)∧aW M L v p.2.2)→vs.length=parts.length→aP M L cs.toList zs→iB zs parts φ→
 ∃ cs' zs',Instr.fill place cs vs=some cs'∧aP M L cs'.toList zs'∧φ zs'
 | [],[],cs,zs,φ,_,_,hr,h=>⟨cs,zs,rfl,hr,h⟩
 | [],_::_,_,_,_,_,hl,_,_=>by simp at hl
 | _::_,[],_,_,_,_,hl,_,_=>by simp at hl
 | (off,sz,x)::r,(i,v)::vs,cs,zs,φ,H,hl,hr,h=>by
   obtain ⟨hv,di,hle,h⟩:=h
   obtain ⟨i',v',e1,e2,e3⟩:=H 0 _ rfl
   simp at e1
   obtain ⟨rfl,rfl⟩:=e1
   have hlen:=hr.length
   have hc:=e3.gO hv
   have jL:v.cells.size=sz:=by have:=hc.length;simp at this;rw [this];exact di
   have nZ:aP M L (v.cells.zipIdx.foldl (fun cs (x:Value×Nat)=>cs.setIfInBounds (off + x.2) x.1) cs).toList (ah zs off (x.cells.map AV.ab)):=by
    have h0:=wS v.cells.toList off 0 cs (by simp at hlen ⊢;omega)
    have h1:v.cells.zipIdx.foldl (fun cs (x:Value×Nat)=>cs.setIfInBounds (off + x.2) x.1) cs=(v.cells.toList.zipIdx 0).foldl (fun cs (x:Value×Nat)=>cs.setIfInBounds (off + x.2) x.1) cs:=by
     rw [← afX,Array.toList_zipIdx]
    rw [h1,h0]
    exact hc.dn.Bk off hr
   obtain ⟨cs',zs',f1,f2,f3⟩:=zS r vs (fun j p hp=>by
    obtain ⟨i,v,a1,a2⟩:=H (j + 1) p (by simpa using hp)
    exact ⟨i,v,by simpa using a1,a2⟩) (by simpa using hl) nZ h
   refine ⟨cs',zs',?_,f2,f3⟩
   unfold Instr.fill
   simp only [e2]
   have Xd:off + v.cells.size≤cs.size:=by simp at hlen;omega
   simp only [jL,ne_eq,not_true_eq_false,decide_false,Bool.false_or]
   rw [if_neg (by simp;omega)]
   exact f1
def FM (P:Program) (t:TypeId):Option (AV×List (Nat×Nat)):=
 match P.info? t,P.underlying t,fX P t with
 | some _,some (.struct fields),some z=>match fields.toList.mapM (fun f=>(P.info? f.type).map fun i=>(f.offset,i.size)) with
   | some places=>some (z,places)
   | none=>none
 | some _,some (.array n e),some z=>match P.info? e with
   | some ie=>some (z,(List.range n).map fun i=>(i * ie.size,ie.size))
   | none=>none
 | _,_,_=>none
def fT (places:List (Nat×Nat)):List (Nat×Operand)→Option (List (Nat×Nat×IX))
 | []=>some []
 | (i,x)::r=>match places[i]?,aU x,fT places r with
   | some (off,sz),some ix,some rest=>some ((off,sz,ix)::rest)
   | _,_,_=>none
theorem oE {n:Nat} {env:Env} {a:Act} (hf:Fr A n M L w H env O a) {places:List (Nat×Nat)} {place:Nat→Option (Nat×Nat)} (hp:∀ i q,places[i]?=some q→place i=some q) :
 ∀ (parts:List (Nat×Operand)) (ps:List (Nat×Nat×IX)),fT places parts=some ps→
  ∀ (j:Nat) (p:Nat×Nat×AV),(ps.map fun q=>(q.1,q.2.1,aq env q.2.2))[j]?=some p→∃ i v,(parts.map fun q=>(q.1,a.eval q.2))[j]?=some (i,v)∧place i=some (p.1,p.2.1)∧aW M L v p.2.2
 | [],ps,h,j,p,hj=>by simp [fT] at h;subst h;simp at hj
 | (i,x)::r,ps,h,j,p,hj=>by
   unfold fT at h
   split at h
   ·rename_i off sz ix rest h1 h2 h3
    cases h
    cases j with
    | zero=>
      simp at hj;subst hj
      exact ⟨i,a.eval x,by simp,hp _ _ h1,hf.eval h2⟩
    | succ j=>
      obtain ⟨i',v',a1,a2⟩:=oE hf hp r rest h3 j p (by simpa using hj)
      exact ⟨i',v',by simpa using a1,a2⟩
   ·cases h
theorem mg {places:List (Nat×Nat)}:∀ (parts:List (Nat×Operand)) (ps:List (Nat×Nat×IX)),fT places parts=some ps→ps.length=parts.length
 | [],ps,h=>by simp [fT] at h;subst h;rfl
 | (i,x)::r,ps,h=>by
   unfold fT at h
   split at h
   ·rename_i off sz ix rest h1 h2 h3
    cases h
    simp [mg r rest h3]
   ·cases h
theorem FN {n:Nat} {env:Env} {a:Act} (hf:Fr A n M L w H env O a) {t:TypeId} {z:AV} {places:List (Nat×Nat)} (ht:FM P t=some (z,places)) {parts:Array (Nat×Operand)} {ps:List (Nat×Nat×IX)}
 (hc:fT places parts.toList=some ps) {φ:AV→Prop} (h:cH z.cells (ps.map fun q=>(q.1,q.2.1,aq env q.2.2)) φ) (qk:z.val=true) :
 ∃ r x,(Instr.build t (parts.map fun (i,x)=>(i,a.eval x))).run P w=.ok r w∧aW M L r x∧φ x∧∀ own xs,x=.al own xs→own=0:=by
 have hparts:(parts.map fun (i,x)=>(i,a.eval x)).toList=parts.toList.map fun q=>(q.1,a.eval q.2):=by simp
 have key:∀ (place:Nat→Option (Nat×Nat)) (v:Value),(∀ i q,places[i]?=some q→place i=some q)→ofValue v=some z→
  ∃ cs' x,Instr.fill place v.cells (parts.toList.map fun q=>(q.1,a.eval q.2))=some cs'∧aW M L (.agg cs') x∧φ x∧∀ own xs,x=.al own xs→own=0:=by
  intro place v hp hv
  obtain ⟨cs',zs',f1,f2,f3⟩:=zS (M:=M) (L:=L) (place:=place) _ (parts.toList.map fun q=>(q.1,a.eval q.2)) (oE hf hp _ _ hc) (by simp [mg _ _ hc]) ((cV hv).gO qk) h
  exact ⟨cs',_,f1,by simpa using aW.agg cs'.toList zs' f2,f3,by intro _ _ e;cases e⟩
 unfold FM at ht
 split at ht
 ·rename_i it fields z' hi hu hz
  split at ht
  ·rename_i pl ta
   cases ht
   unfold fX at hz
   simp only [hi] at hz
   split at hz
   ·rename_i v hv
    obtain ⟨cs',x,f1,f2,f3,f4⟩:=key (places.toArray[·]?) v (fun i q h=>by simpa using h) hz
    refine ⟨_,x,run_build w t _ cs' ?_,f2,f3,f4⟩
    rw [hparts]
    unfold Program.built
    simp only [hi,hu,hv,ta]
    exact f1
   ·cases hz
  ·cases ht
 ·rename_i it m e z' hi hu hz
  split at ht
  ·rename_i ie Ld
   cases ht
   unfold fX at hz
   simp only [hi] at hz
   split at hz
   ·rename_i v hv
    obtain ⟨cs',x,f1,f2,f3,f4⟩:=key (fun i=>some (i * ie.size,ie.size)) v (fun i q h=>by
     rw [abW] at h
     obtain ⟨k,hk,rfl⟩:=yR.1 h
     rw [List.getElem?_range (by rcases aeG i m with h' | h';exact h';rw [abL (by simpa using h')] at hk;cases hk)] at hk
     cases hk;rfl) hz
    refine ⟨_,x,run_build w t _ cs' ?_,f2,f3,f4⟩
    rw [hparts]
    unfold Program.built
    simp only [hi,hu,hv,Ld]
    exact f1
   ·cases hz
  ·cases ht
 ·cases ht
theorem Da:∀ (xs:List AV) (e i:Nat) (x:AV),(∀ y∈xs,y.cells.length=e)→x.cells.length=e→i < xs.length→flat (xs.set i x)=ah (flat xs) (i * e) x.cells
 | [],_,_,_,_,_,h=>by simp at h
 | y::ys,e,0,x,hx,hc,_=>by
   have:=hx y (by simp)
   simp [flat,ah,hc,this]
 | y::ys,e,i + 1,x,hx,hc,h=>by
   have hy:=hx y (by simp)
   have ih:=Da ys e i x (fun z hz=>hx z (by simp [hz])) hc (by simpa using h)
   simp only [flat] at ih
   simp only [afY,flat,List.flatMap_cons,ih,ah]
   rw [afu,aaw (l:=y.cells) (by rw [hy,abP];omega),adI,afl (as:=y.cells) (by rw [hy,abP];omega),hy]
   simp only [List.nil_append,abb]
   rw [show (i + 1) * e - e=i * e by rw [abP];omega,show (i + 1) * e + x.cells.length - e=i * e + x.cells.length by rw [abP];omega]
theorem cW:∀ (xs:List AV) (e:Nat),(∀ y∈xs,y.cells.length=e)→(flat xs).length=xs.length * e
 | [],e,_=>by simp [flat]
 | y::ys,e,hx=>by
   have hy:=hx y (by simp)
   have ih:=cW ys e (fun z hz=>hx z (by simp [hz]))
   simp only [flat] at ih
   simp only [flat,List.flatMap_cons,aaf,hy,ih,List.length_cons,abP,Nat.one_mul]
   omega
theorem Db {place:Nat→Option (Nat×Nat)} {i off:Nat} {v:Value} {vs:List (Nat×Value)} {cs:Array Value} (hp:place i=some (off,v.cells.size)) (hle:off + v.cells.size≤cs.size) :
 Instr.fill place cs ((i,v)::vs)=Instr.fill place (ah cs.toList off v.cells.toList).toArray vs:=by
 have h0:=wS v.cells.toList off 0 cs (by simpa using hle)
 have h1:v.cells.zipIdx.foldl (fun cs (x:Value×Nat)=>cs.setIfInBounds (off + x.2) x.1) cs=(v.cells.toList.zipIdx 0).foldl (fun cs (x:Value×Nat)=>cs.setIfInBounds (off + x.2) x.1) cs:=by
  rw [← afX,Array.toList_zipIdx]
 rw [← h1] at h0
 conv=>lhs;unfold Instr.fill
 simp only [hp,ne_eq,not_true_eq_false,decide_false,Bool.false_or]
 rw [if_neg (by simp;omega)]
 congr 1
 apply Array.ext'
 simpa using h0
theorem oF (e:Nat):∀ (parts:List (Nat×AV)) (vs:List (Nat×Value)) {cs:Array Value} {xs:List AV} {φ:List AV→Prop},
 (∀ (j:Nat) (p:Nat×AV),parts[j]?=some p→∃ v,vs[j]?=some (p.1,v)∧aW M L v p.2)→vs.length=parts.length→aP M L cs.toList (flat xs)→(∀ y∈xs,y.cells.length=e)→bw xs e parts φ→
 ∃ cs' xs',Instr.fill (fun i=>some (i * e,e)) cs vs=some cs'∧aP M L cs'.toList (flat xs')∧(∀ y∈xs',y.cells.length=e)∧xs'.length=xs.length∧φ xs'
 | [],[],cs,xs,φ,_,_,hr,hx,h=>⟨cs,xs,rfl,hr,hx,rfl,h⟩
 | [],_::_,_,_,_,_,hl,_,_,_=>by simp at hl
 | _::_,[],_,_,_,_,hl,_,_,_=>by simp at hl
 | (i,x)::r,(i',v)::vs,cs,xs,φ,H,hl,hr,hx,h=>by
   obtain ⟨hv,di,hi,h⟩:=h
   obtain ⟨v',e1,e3⟩:=H 0 _ rfl
   simp at e1
   obtain ⟨rfl,rfl⟩:=e1
   have hc:=(e3.a7).gO (tv hv)
   have jL:v.cells.size=e:=by have:=hc.length;simp at this;rw [this,fA];exact di
   have hlen:=hr.length
   rw [cW xs e hx] at hlen
   simp only [aeA] at hlen
   have hle:i' * e + v.cells.size≤cs.size:=by
    rw [jL,hlen]
    calc i' * e + e=(i' + 1) * e:=by rw [abP];omega
     _≤xs.length * e:=ach _ hi
   rw [Db (place:=fun i=>some (i * e,e)) (by rw [jL]) hle]
   have rD:∀ y∈xs.set i' (a7 x),y.cells.length=e:=by
    intro y hy
    rcases ab7 hy with h' | rfl
    ·exact hx y h'
    ·rw [fA];exact di
   have nZ:aP M L (ah cs.toList (i' * e) v.cells.toList).toArray.toList (flat (xs.set i' (a7 x))):=by
    rw [Da xs e i' _ hx (by rw [fA];exact di) hi]
    exact hc.Bk _ hr
   obtain ⟨cs',xs',f1,f2,f3,f4,f5⟩:=oF e r vs (fun j p hp=>by
    obtain ⟨v,a1,a2⟩:=H (j + 1) p (by simpa using hp)
    exact ⟨v,by simpa using a1,a2⟩) (by simpa using hl) nZ rD h
   exact ⟨cs',xs',f1,f2,f3,by simpa using f4,f5⟩
def kA:List (Nat×Operand)→Option (List (Nat×IX))
 | []=>some []
 | (i,x)::r=>match aU x,kA r with
   | some ix,some rest=>some ((i,ix)::rest)
   | _,_=>none
theorem nR {n:Nat} {env:Env} {a:Act} (hf:Fr A n M L w H env O a) :
 ∀ (parts:List (Nat×Operand)) (ps:List (Nat×IX)),kA parts=some ps→
  (∀ (j:Nat) (p:Nat×AV),(ps.map fun q=>(q.1,aq env q.2))[j]?=some p→∃ v,(parts.map fun q=>(q.1,a.eval q.2))[j]?=some (p.1,v)∧aW M L v p.2)∧ps.length=parts.length
 | [],ps,h=>by simp [kA] at h;subst h;simp
 | (i,x)::r,ps,h=>by
   unfold kA at h
   split at h
   ·rename_i ix rest h2 h3
    cases h
    obtain ⟨i1,i2⟩:=nR hf r rest h3
    refine ⟨fun j p hj=>?_,by simp [i2]⟩
    cases j with
    | zero=>
      simp at hj;subst hj
      exact ⟨a.eval x,by simp,hf.eval h2⟩
    | succ j=>
      obtain ⟨v',a1,a2⟩:=i1 j p (by simpa using hj)
      exact ⟨v',by simpa using a1,a2⟩
   ·cases h
theorem kB (z:Array Value) (e len:Nat) (hz:z.size=e) (he:0 < e) (x:AV) (hr:aP M L z.toList x.cells) :
 aP M L (((Array.range (len * e)).map (z[· % z.size]!)).toList) (flat (List.replicate len x)):=by
 have HU:x.cells.length=e:=by rw [← hr.length];simpa using hz
 have iU:∀ y∈List.replicate len x,y.cells.length=e:=fun y hy=>by rw [ab2 hy];exact HU
 apply aP.Bg
 ·rw [cW _ e iU];simp
 ·intro j y hj
  have mU:j < len * e:=by have:=aR hj;rw [cW _ e iU] at this;simpa using this
  have hq:j / e < len:=Nat.div_lt_of_lt_mul (by rw [Nat.mul_comm];exact mU)
  have hm:j % e < e:=Nat.mod_lt _ he
  have h1:=flat_get (List.replicate len x) e iU (j / e) (j % e) x (by simp [hq]) hm
  rw [show j / e * e + j % e=j from Nat.div_add_mod' j e] at h1
  rw [h1] at hj
  obtain ⟨v,hv,gk⟩:=hr.get _ _ hj
  refine ⟨v,?_,gk⟩
  have eS:j % e < z.size:=by omega
  simp only [Array.toList_map,Array.toList_range,abW,List.getElem?_range mU,Option.map_some,hz]
  simp only [ado] at hv
  simp [getElem!_pos,eS,ady eS] at hv ⊢
  exact hv
theorem vK (hs:St A M L w H ev ea O) {t e:TypeId} (ht:P.underlying t=some (.slice e)) {esz:Nat} (he:dX P e=some esz) (h0:0 < esz) {z:AV} (hz:fX P e=some z) (eS:z.cells.length=esz) (qk:z.val=true) (own:Nat)
 {len:Nat} (hlen:len * esz≤16777216) {parts:List (Nat×AV)} {vs:Array (Nat×Value)} (hp:∀ (j:Nat) (p:Nat×AV),parts[j]?=some p→∃ v,vs.toList[j]?=some (p.1,v)∧aW M L v p.2) (hl:vs.toList.length=parts.length)
 {φ:List AV→Prop} (h:bw (List.replicate len (a7 z)) esz parts φ) :
 ∃ m xs M' w' ad,(Instr.buildSlice t len vs).run P w=.ok (.slice ad m m) w'∧aW M' L (.slice ad m m) (.al own xs)∧(∀ y∈xs,y.cells.length=esz)∧φ xs∧St A M' L w' H ev ea O∧Ext A M w M' w':=by
 unfold fX at hz
 obtain ⟨ie,Ld,di⟩:=yR.1 he
 simp only [Ld] at hz
 split at hz
 ·rename_i zv tw
  have Dc:=(cV (M:=M) (L:=L) hz).a7.gO (tv qk)
  have v8:zv.cells.size=esz:=by have:=Dc.length;rw [fA,eS] at this;simpa using this
  obtain ⟨cs',xs',f1,f2,f3,f4,f5⟩:=oF (M:=M) (L:=L) esz parts vs.toList hp hl (kB zv.cells esz len v8 h0 (a7 z) Dc) (fun y hy=>by rw [ab2 hy,fA];exact eS) h
  simp only [acH] at f4
  obtain ⟨g1,g2,g3⟩:=hs.FG cs' e
  have bO:(Instr.buildSlice t len vs).run P w=.ok (.slice (some ⟨w.heap.size,0,none⟩) len len) { w with heap:=w.heap.push (.cells cs' e) }:=by
   by_cases n8:len * ie.size=0
   ·have Dd:len=0:=by
     rcases Nat.mul_eq_zero.1 n8 with h' | h'
     ·exact h'
     ·omega
    subst Dd
    have OU:cs'=#[]:=by
     have:=f2.length
     rw [cW _ esz f3,f4] at this
     simp at this
     exact this
    have Xe:vs.toList=[]:=by
     cases zc:vs.toList with
     | nil=>rfl
     | cons q r=>
       rw [zc] at hl
       cases parts with
       | nil=>simp at hl
       | cons p ps=>obtain ⟨_,_,h3,_⟩:=h;simp at h3
    subst OU
    have hf:Instr.fill (fun i=>some (i * ie.size,ie.size)) #[] vs.toList=some #[]:=by rw [Xe];rfl
    simp [Instr.buildSlice,run_underlying ht,sizeOf,typeInfo,Ld,newRow,Xe,Instr.fill]
    congr 2
    apply Array.ext'
    simp
   ·rw [run_buildSlice w t e len vs cs' ie zv ht Ld tw (by rw [di];omega) n8 (by rw [di];exact f1)]
    rfl
  refine ⟨len,xs',_,_,_,bO,?_,f3,f5,g1,g2⟩
  by_cases Dd:len=0
  ·subst Dd
   have:xs'=[]:=acP f4
   subst this
   exact .iw _ _ _ (by decide)
  ·have:=aW.al (M:=M.add w.heap.size cs'.toList) (L:=L) w.heap.size 0 len own esz cs'.toList xs' h0 f3 (by omega) (by omega) (by
    have:len≤len * esz:=ab5 _ h0
    omega) (f2.mono g2.mc (aav _)) g3
   rw [f4] at this
   exact this
 ·cases hz
end
end Go.aK
end
section
namespace Go.aK
open Go
def jf (m:Nat) (p x:AV) (H:List aa) (K:List aa→Prop):Prop:=
 match p with
 | .ptr id off=>match H[id]? with
   | some (.cells es)=>x.val=true∧x.cells.length=m∧off + m≤es.length∧x.cells.all AV.one=true∧aj (id + 1) (x.cells.map AV.ab)=true∧
      K (H.set id (.cells (ah es off (x.cells.map AV.ab))))
   | _=>False
 | _=>False
theorem bK {n:Nat} {xs ys:List AV}:aj n (xs++ys)=true↔aj n xs=true∧aj n ys=true:=by
 simp only [a9,abJ]
 constructor
 ·intro h;exact ⟨fun x hx=>h x (.inl hx),fun x hx=>h x (.inr hx)⟩
 ·rintro ⟨h1,h2⟩ x (hx | hx)
  ·exact h1 x hx
  ·exact h2 x hx
theorem uL {n m:Nat} {xs:List AV} (h:aj n xs=true):aj n (xs.take m)=true:=by
 rw [a9] at *;exact fun x hx=>h x (acg hx)
theorem uM {n m:Nat} {xs:List AV} (h:aj n xs=true):aj n (xs.drop m)=true:=by
 rw [a9] at *;exact fun x hx=>h x (adB hx)
theorem fB {α:Type} (zs:List α) (off:Nat) (xs:List α) (h:off + xs.length≤zs.length) (j:Nat) :
 (ah zs off xs)[j]?=if off≤j∧j < off + xs.length then xs[j - off]? else zs[j]?:=by
 unfold ah
 simp only [aei,ab0,aax,adX]
 by_cases h1:j < off
 ·rw [if_pos (by omega),if_pos h1,if_neg (by omega)]
 ·rw [if_neg (by omega),show j - min off zs.length=j - off by omega]
  by_cases h2:j < off + xs.length
  ·rw [if_pos (by omega),if_pos ⟨by omega,h2⟩]
  ·rw [if_neg (by omega),if_neg (by omega)]
   congr 1;omega
section
variable {P:Program} {w:World} {M:Mem} {L:List Nat} {H:List aa} {A:Perm} {ev:Nat→Value} {ea:Nat→AV} {O:Pos→Option Nat}
theorem wN.sub {O O':Pos→Option Nat} (Tw:∀ p q b,O p=some b→O q=some b→p=q) (h:∀ p b,O' p=some b→O p=some b):wN O O':=
 ⟨fun p q b hp hq=>Tw p q b (h p b hp) (h q b hq),fun p b hp=>⟨p,h p b hp⟩⟩
theorem zU (hs:St A M L w H ev ea O) {t:TypeId} {m:Nat} (ht:dX P t=some m) {v:Value} {x:AV} {id off b:Nat} {es:List AV} (hl:L[id]?=some b) (bn:H[id]?=some (.cells es)) (hv:aW M L v x)
 (kC:x.val=true) (hlen:x.cells.length=m) (hle:off + m≤es.length) (lK:x.cells.all AV.one=true) (me:aj (A.iS H.length id) (x.cells.map AV.ab)=true) :
 ∃ w' O',(Instr.storeAt t (.pointer (some ⟨b,off,none⟩)) v).run P w=.ok () w'∧St A M L w' (H.set id (.cells (ah es off (x.cells.map AV.ab)))) ev ea O'∧Ext A M w M w':=by
 obtain ⟨cs,e,h1,h2,h3⟩:=hs.obj id _ b bn hl
 have OV:=hv.gO kC
 have rN:=OV.length
 have jL:=h2.length
 obtain ⟨i,hi,Lf⟩:=yR.1 ht
 have di:(sizeOf t).run P w=.ok m w:=by simp [sizeOf,typeInfo,hi,Lf]
 have bX:=run_storeCells_at P b off e v.cells.toList 0 cs w h1 (by simp at jL ⊢;simp at rN;omega) (OV.iz lK)
 have bO:(Instr.storeAt t (.pointer (some ⟨b,off,none⟩)) v).run P w=.ok () (w.setRow b (ah cs.toList off v.cells.toList).toArray):=by
  simp only [Instr.storeAt,Instr.sureAddr,storeVar,Sem.run_bind,Sem.run_pure,Result.andThen_ok,di,ne_eq]
  rw [if_neg (by simp at rN;omega)]
  simpa [ah] using bX
 let O':Pos→Option Nat:=fun q=>match q with
  | .t t=>O (.t t)
  | .c id' j=>if id'=id∧off≤j∧j < off + m then none else O (.c id' j)
 have hO:∀ q b,O' q=some b→O q=some b:=by
  intro q b hq
  cases q with
  | t t=>exact hq
  | c id' j=>
    simp only [O'] at hq
    split at hq
    ·cases hq
    ·exact hq
 have HP:off + (x.cells.map AV.ab).length≤es.length:=by simp;omega
 have hsv:off + v.cells.toList.length≤cs.toList.length:=by omega
 obtain ⟨g1,g2⟩:=hs.write (cs':=(ah cs.toList off v.cells.toList).toArray) (es':=ah es off (x.cells.map AV.ab)) (O':=O') bn hl h1
  (by simpa using OV.dn.Bk off h2)
  (by
    have bX:=hs.bI id _ bn
    simp only [aa.bc] at bX
    unfold ah
    exact bK.2 ⟨uL bX,bK.2 ⟨me,uM bX⟩⟩)
  (wN.sub hs.cz hO) hs.env hs.iX (by
  intro j
  have e1:((ah cs.toList off v.cells.toList).toArray)[j]?=(ah cs.toList off v.cells.toList)[j]?:=by simp
  rw [e1,fB _ _ _ hsv,rB,fB _ _ _ HP]
  simp only [ace]
  have e2:v.cells.toList.length=x.cells.length:=rN
  rw [e2,hlen]
  by_cases hj:off≤j∧j < off + m
  ·simp only [hj,and_self,if_true]
   have:O' (.c id j)=none:=by simp [O',hj]
   rw [this]
   refine bj.free ?_
   intro own xs hh
   rw [abW] at hh
   cases hx:x.cells[j - off]? with
   | none=>simp [hx] at hh
   | some y=>simp [hx] at hh;exact AV.bR y own xs hh
  ·simp only [hj,if_false]
   have:O' (.c id j)=O (.c id j):=by simp only [O'];rw [if_neg (by intro h';exact hj h'.2)]
   rw [this]
   have h0:=hs.iT id j
   have e3:bT L w id j=(cs.toList[j]?).getD undef:=by
    unfold bT;simp [hl,World.cell?,h1]
   have e4:bD H id j=(es[j]?).getD .any:=by
    unfold bD;simp [bn,rB]
   rw [e3,e4] at h0
   exact h0)
  (by intro id' j dJ;simp [O',dJ])
 exact ⟨_,_,bO,g1,g2⟩
theorem FO (hs:St A M L w H ev ea O) {t:TypeId} {m:Nat} (ht:dX P t=some m) {u v:Value} {p x:AV} {K:List aa→Prop} (h:jf m p x H K) (hu:aW M L u p) (hv:aW M L v x) :
 ∃ w' H' O',(Instr.storeAt t u v).run P w=.ok () w'∧K H'∧St A M L w' H' ev ea O'∧Ext A M w M w':=by
 unfold jf at h
 split at h <;> try exact h.elim
 rename_i id off
 cases hu with
 | ptr b _ _ hl=>
 split at h <;> try exact h.elim
 rename_i es bn
 obtain ⟨kC,hlen,hle,lK,me,hK⟩:=h
 obtain ⟨w',O',h1,h2,h3⟩:=zU hs ht hl bn hv kC hlen hle lK (bE (A.lI (aR bn)) _ me)
 exact ⟨w',_,O',h1,hK,h2,h3⟩
def iD (lo m:Nat) (p x:AV) (H:List aa) (K:List aa→Prop):Prop:=
 match p with
 | .ptr id off=>match H[id]? with
   | some (.cells es)=>lo≤id∧x.val=true∧x.cells.length=m∧off + m≤es.length∧x.cells.all AV.one=true∧aj H.length (x.cells.map AV.ab)=true∧
      K (H.set id (.cells (ah es off (x.cells.map AV.ab))))
   | _=>False
 | _=>False
theorem De (hs:St A M L w H ev ea O) {t:TypeId} {m lo:Nat} (vL:∀ id,lo≤id→A.top id=none) (ht:dX P t=some m) {u v:Value} {p x:AV} {K:List aa→Prop} (h:iD lo m p x H K) (hu:aW M L u p) (hv:aW M L v x) :
 ∃ w' H' O',(Instr.storeAt t u v).run P w=.ok () w'∧K H'∧St A M L w' H' ev ea O'∧Ext A M w M w':=by
 unfold iD at h
 split at h <;> try exact h.elim
 rename_i id off
 cases hu with
 | ptr b _ _ hl=>
 split at h <;> try exact h.elim
 rename_i es bn
 obtain ⟨hi,kC,hlen,hle,lK,me,hK⟩:=h
 have e:A.iS H.length id=H.length:=by unfold Perm.iS;rw [vL id hi]
 obtain ⟨w',O',h1,h2,h3⟩:=zU hs ht hl bn hv kC hlen hle lK (by rw [e];exact me)
 exact ⟨w',_,O',h1,hK,h2,h3⟩
theorem St.Ji (hs:St A M L w H ev ea O) {id b off:Nat} {es:List AV} (bn:H[id]?=some (.cells es)) (hl:L[id]?=some b) (qd:off < es.length) :
 St A M L w (H.set id (.cells (es.set off (es.getD off .any).ab))) ev ea (eT O (.c id off) none):=by
 obtain ⟨cs,e,h1,h2,h3⟩:=hs.obj id _ b bn hl
 have jL:=h2.length
 have hO:∀ q b,eT O (.c id off) none q=some b→O q=some b:=by
  intro q b hq
  simp only [eT] at hq
  split at hq
  ·cases hq
  ·exact hq
 have hgetD:es.getD off .any=es[off]:=by rw [rB,Oq qd];rfl
 have gk:aP M L cs.toList (es.set off (es.getD off .any).ab):=by
  have hg:=(h2.getD off).ab
  have:=h2.set hg off
  have Bo:off < cs.toList.length:=by omega
  have e0:cs.toList.set off (cs.toList.getD off undef)=cs.toList:=by
   rw [rB,Oq Bo]
   exact List.set_getElem_self Bo
  rwa [e0] at this
 obtain ⟨g1,g2⟩:=hs.write (cs':=cs) (es':=es.set off (es.getD off .any).ab) (O':=eT O (.c id off) none) bn hl h1 gk (by
  have bX:=hs.bI id _ bn
  simp only [aa.bc] at bX
  rw [a9] at bX ⊢
  intro y hy
  rcases ab7 hy with h' | rfl
  ·exact bX y h'
  ·have hb:=bX es[off] (acf qd)
   rw [hgetD]
   revert hb
   cases es[off] <;> simp [AV.ab,AV.bc]) (wN.sub hs.cz hO) hs.env (fun t=>by simpa [eT] using hs.iX t) (fun j=>by
  by_cases hj:j=off
  ·subst hj
   have e1:(es.set j (es.getD j .any).ab).getD j .any=(es.getD j .any).ab:=by
    rw [rB,yS qd];rfl
   rw [e1]
   simp only [eT,if_true]
   exact bj.free (AV.bR _)
  ·have e1:(es.set off (es.getD off .any).ab).getD j .any=es.getD j .any:=by
    rw [rB,yQ (fun e=>hj e.symm),rB]
   rw [e1]
   have h0:=hs.iT id j
   have e3:bT L w id j=(cs[j]?).getD undef:=by unfold bT;simp [hl,World.cell?,h1]
   have e4:bD H id j=es.getD j .any:=by unfold bD;simp [bn]
   rw [e3,e4] at h0
   simpa [eT,hj] using h0) (fun id' j dJ=>by simp [eT,dJ])
 rwa [setRow_self w b cs e (0,0) h1] at g1
def eF (p x:AV) (H:List aa) (K:List aa→Prop):Prop:=
 match p with
 | .ptr id off=>match H[id]? with
   | some (.cells es)=>off < es.length∧x.one=true∧x.bc (id + 1)=true∧K (H.set id (.cells (es.set off x)))
   | _=>False
 | _=>False
theorem Bp (hs:St A M L w H ev ea O) {t:TypeId} (ht:dX P t=some 1) {u v:Value} {p x:AV} {K:List aa→Prop} (h:eF p x H K) (hu:aW M L u p) (s:Nat) (Xf:ev s=v) (hea:ea s=x) :
 ∃ w' H' O',(Instr.storeAt t u v).run P w=.ok () w'∧K H'∧St A M L w' H' ev (fW ea s x.ab) O'∧Ext A M w M w':=by
 unfold eF at h
 split at h <;> try exact h.elim
 rename_i id off
 cases hu with
 | ptr b _ _ hl=>
 split at h <;> try exact h.elim
 rename_i es bn
 obtain ⟨qd,lK,me,hK⟩:=h
 obtain ⟨cs,e,h1,h2,h3⟩:=hs.obj id _ b bn hl
 have hv:aW M L v x:=by have:=hs.env s;rwa [Xf,hea] at this
 have jL:=h2.length
 have hv1:v.oneCell'=true:=hv.iz lK
 have OV:v.cells=#[v]:=by cases v <;> first | rfl | simp [Value.oneCell'] at hv1
 obtain ⟨i,hi,Lf⟩:=yR.1 ht
 have di:(sizeOf t).run P w=.ok 1 w:=by simp [sizeOf,typeInfo,hi,Lf]
 have Bo:off < cs.toList.length:=by omega
 have bX:=run_storeCells_at P b off e [v] 0 cs w h1 (by simp at Bo ⊢;omega) (by simpa using hv1)
 have gr:cs.toList.take off++[v]++cs.toList.drop (off + 1)=cs.toList.set off v:=by
  rw [afn,if_pos Bo];simp
 have bO:(Instr.storeAt t (.pointer (some ⟨b,off,none⟩)) v).run P w=.ok () (w.setRow b (cs.toList.set off v).toArray):=by
  simp only [Instr.storeAt,Instr.sureAddr,storeVar,Sem.run_bind,Sem.run_pure,Result.andThen_ok,di,ne_eq,OV]
  rw [if_neg (by simp)]
  rw [← gr]
  simpa using bX
 -- the slot forgets, the cell takes over
 have oG:=hs.ow s (v:=v) (x:=x.ab) hv.ab (AV.bR x)
 have Tx:fW ev s v=ev:=by funext t';simp only [fW];split;rename_i e0;rw [e0,Xf];rfl
 rw [Tx] at oG
 let O':Pos→Option Nat:=fun q=>if q=.c id off then O (.t s) else eT O (.t s) none q
 have Tw:wN O O':=by
  refine ⟨fun q r b hq hr=>?_,fun q b hq=>?_⟩
  ·simp only [O',eT] at hq hr
   split at hq <;> split at hr
   ·simp_all
   ·split at hr
    ·cases hr
    ·rename_i n1 n2;exact absurd (hs.cz _ _ b hr hq) n2
   ·split at hq
    ·cases hq
    ·rename_i n1 n2;exact absurd (hs.cz _ _ b hq hr) (by assumption)
   ·split at hq
    ·cases hq
    ·split at hr
     ·cases hr
     ·exact hs.cz _ _ b hq hr
  ·simp only [O',eT] at hq
   split at hq
   ·exact ⟨_,hq⟩
   ·split at hq
    ·cases hq
    ·exact ⟨_,hq⟩
 obtain ⟨g1,g2⟩:=St.write (h:=hs) (cs':=(cs.toList.set off v).toArray) (es':=es.set off x) (ea':=fW ea s x.ab) (O':=O') bn hl h1 (by simpa using h2.set hv off) (by
  have bX:=hs.bI id _ bn
  simp only [aa.bc] at bX
  rw [a9] at bX ⊢
  intro y hy
  rcases ab7 hy with h' | rfl
  ·exact bX y h'
  ·exact AV.cM (A.lI (aR bn)) _ me) Tw oG.env (fun t'=>by simpa [O',eT] using oG.iX t') (fun j=>by
  by_cases hj:j=off
  ·subst hj
   have e1:((cs.toList.set j v).toArray)[j]?=some v:=by rw [List.getElem?_toArray,yS Bo]
   have e2:(es.set j x).getD j .any=x:=by rw [rB,yS qd];rfl
   rw [e1,e2]
   have:=hs.iX s
   rw [Xf,hea] at this
   simpa [O'] using this
  ·have e1:((cs.toList.set off v).toArray)[j]?=cs[j]?:=by
    simp [yQ (fun e=>hj e.symm)]
   have e2:(es.set off x).getD j .any=es.getD j .any:=by rw [rB,yQ (fun e=>hj e.symm),rB]
   rw [e1,e2]
   have h0:=hs.iT id j
   have e3:bT L w id j=(cs[j]?).getD undef:=by unfold bT;simp [hl,World.cell?,h1]
   have e4:bD H id j=es.getD j .any:=by unfold bD;simp [bn]
   rw [e3,e4] at h0
   simpa [O',eT,hj] using h0) (fun id' j dJ=>by simp [O',eT,dJ])
 exact ⟨_,_,_,bO,hK,g1,g2⟩
theorem lj (P:Program) (g o:Nat) (t:TypeId) (fr:Nat×Nat):∀ (vs:List Value) (i:Nat) (cur:Array Value) (w:World),w.heap[g]?=some (.cells cur t fr)→OO fr cur.size→o + i + vs.length≤cur.size→(∀ v∈vs,v.oneCell'=true)→
 (storeCells ⟨g,o,none⟩ vs i).run P w=.ok () (w.setRow g (ah cur.toList (o + i) vs).toArray)
 | [],i,cur,w,hg,_,_,_=>by
   simp only [storeCells,ah,List.length_nil,aeR,List.nil_append,ad1,afN]
   rw [setRow_self w g cur t fr hg]
   rfl
 | v::rest,i,cur,w,hg,hf,hl,h1=>by
   have hi:o + i < cur.size:=by simp at hl;omega
   have aci:(⟨g,o,none⟩:Addr).add i=⟨g,o + i,none⟩:=Addr.add_lit _ _ _
   have hcell:w.cell? ⟨g,o + i,none⟩=some cur[o + i]:=by simp [World.cell?,hg,hi]
   have acj:w.frozen? ⟨g,o + i,none⟩=false:=by
    have:=hf (o + i) hi
    simp only [World.frozen?,hg]
    cases h:(decide (fr.1≤o + i) && decide (o + i < fr.2)) with
    | false=>rfl
    | true=>simp at h;exact absurd h this
   have bX:(store ((⟨g,o,none⟩:Addr).add i) v).run P w=.ok () (w.setRow g (cur.setIfInBounds (o + i) v)):=by
    rw [aci,run_store P w _ v _ (h1 v (by simp)),hcell]
    simp [acj,setCell_eq_setRow w g (o + i) cur t fr v hg]
   have ih:=lj P g o t fr rest (i + 1) (cur.setIfInBounds (o + i) v) (w.setRow g (cur.setIfInBounds (o + i) v)) (setRow_heap w g cur _ t _ hg) (by simpa using hf) (by simp at hl ⊢;omega) (fun x hx=>h1 x (by simp [hx]))
   simp only [storeCells,Sem.run_bind,bX,Result.andThen_ok,ih,setRow_setRow]
   congr 3
   apply abU
   intro j
   rw [fB _ _ _ (by simp at hl ⊢;omega),fB _ _ _ (by simpa using hl)]
   simp only [Array.toList_setIfInBounds,List.length_cons]
   by_cases h2:j=o + i
   ·subst h2
    rw [if_neg (by omega),if_pos (by omega),yS (by simpa using hi)]
    simp
   ·by_cases h3:o + i < j∧j < o + i + (rest.length + 1)
    ·rw [if_pos (by omega),if_pos (by omega),show j - (o + i)=(j - (o + (i + 1))) + 1 by omega]
     simp
    ·rw [if_neg (by omega),if_neg (by omega),yQ (by omega)]
theorem gP {t ty e e':TypeId} {i:TypeInfo} (ht:P.underlying t=some (.slice e)) (hi:P.info? e=some i) (w:World)
 (g o sLen sCap:Nat) (cur:Array Value) (fr:Nat×Nat) (hg:w.heap[g]?=some (.cells cur e' fr)) (zV:OO fr cur.size)
 (a:Addr) (m c:Nat) (news:List Value) (hl:news.length=m * i.size) (hnews:∀ j u,news[j]?=some u→w.cell? (a.add j)=some u) (h1:∀ u∈news,u.oneCell'=true)
 (hroom:sLen + m≤sCap) (vM:o + sLen * i.size + news.length≤cur.size) :
 (Builtin.append_ #[t,t] ty #[.slice (some ⟨g,o,none⟩) sLen sCap,.slice (some a) m c]).run P w =
   .ok (.slice (some ⟨g,o,none⟩) (sLen + m) sCap) (w.setRow g (ah cur.toList (o + sLen * i.size) news).toArray):=by
 have hf:=run_firstCells_some (P:=P) w i.size m a m c news hl hnews
 have bX:=lj P g (o + sLen * i.size) e' fr news 0 cur w hg zV (by simpa using vM) h1
 simp only [aeR] at bX
 simp [Builtin.append_,run_underlying ht,sizeOf,typeInfo,hi,Builtin.lenOf,hroom,hf,Addr.add_lit,bX]
theorem dG {t ty e:TypeId} {i:TypeInfo} (ht:P.underlying t=some (.slice e)) (hi:P.info? e=some i) (w:World) (b:Option Addr) (n c:Nat) (RZ:n≤c) (b':Option Addr) (c':Nat) :
 (Builtin.append_ #[t,t] ty #[.slice b n c,.slice b' 0 c']).run P w=.ok (.slice b n c) w:=by
 have hf:(Builtin.firstCells i.size 0 (.slice b' 0 c')).run P w=.ok #[] w:=by
  cases b' with
  | none=>exact run_firstCells_none w _ _ _ _
  | some a=>exact run_firstCells_some w i.size 0 a 0 c' [] (by simp) (by simp)
 cases b with
 | none=>simp [Builtin.append_,run_underlying ht,sizeOf,typeInfo,hi,Builtin.lenOf,RZ,hf]
 | some a=>simp [Builtin.append_,run_underlying ht,sizeOf,typeInfo,hi,Builtin.lenOf,RZ,hf,storeCells]
def nS (esz:Nat):AV→Option (List AV)
 | .ag=>some []
 | .al own xs=>if own=esz then some xs else none
 | _=>none
def dB:AV→Option (List AV)
 | .ag=>some []
 | .al _ xs=>some xs
 | _=>none
def rE (esz:Nat) (ys:List AV):Prop:=∀ y∈ys,y.cells.length=esz∧y.cells.all AV.one=true
def Mem.mh (M:Mem) (b off:Nat) (cs:List Value):Mem:=fun b' o=>if b'=b∧off≤o∧o < off + cs.length then cs[o - off]? else M b' o
theorem St.inPlace (hs:St A M L w H ev ea O) {p:Pos} {b:Nat} (hp:O p=some b) {cur:Array Value} {e:TypeId} {fr:Nat×Nat} (hg:w.heap[b]?=some (.cells cur e fr)) {off:Nat} {news:List Value}
 (vM:off + news.length≤cur.size) (hnone:∀ k,k < news.length→M b (off + k)=none)
 {ea':Nat→AV} (FH:∀ t,aW M L (ev t) (ea' t)) (ack:∀ t,bj M w (ev t) (ea' t) (eT O p none (.t t))) (acm:∀ id j,bj M w (bT L w id j) (bD H id j) (eT O p none (.c id j))) :
 St A (M.mh b off news) L (w.setRow b (ah cur.toList off news).toArray) H ev ea' (eT O p none)∧Ext A M w (M.mh b off news) (w.setRow b (ah cur.toList off news).toArray)∧(M.mh b off news).row b off news:=by
 have zR:b∉L:=hs.cG p b hp
 have di:(w.setRow b (ah cur.toList off news).toArray).heap.size=w.heap.size:=by simp [World.setRow]
 have gN:∀ k,k≠b→(w.setRow b (ah cur.toList off news).toArray).heap[k]?=w.heap[k]?:=fun k hk=>setRow_other w b k _ hk
 have nZ:=setRow_heap w b cur (ah cur.toList off news).toArray e fr hg
 have gM:M.sub (M.mh b off news):=by
  intro b' o v hv
  unfold Mem.mh
  split
  ·rename_i h
   obtain ⟨rfl,h1,h2⟩:=h
   have:=hnone (o - off) (by omega)
   rw [show off + (o - off)=o by omega,hv] at this
   cases this
  ·exact hv
 have Xg:∀ k,k≠b→∀ o,(M.mh b off news) k o=M k o:=by
  intro k hk o
  unfold Mem.mh
  rw [if_neg (fun h=>hk h.1)]
 have vN:∀ q k,eT O p none q=some k→k≠b:=by
  intro q k hq hk
  subst hk
  simp only [eT] at hq
  split at hq
  ·cases hq
  ·rename_i n;exact n (hs.cz _ _ _ hq hp)
 have hO:∀ q k,eT O p none q=some k→O q=some k:=by
  intro q k hq
  simp only [eT] at hq
  split at hq
  ·cases hq
  ·exact hq
 have FP:off + news.length≤cur.toList.length:=by simpa using vM
 refine ⟨{ len:=hs.len,nodup:=hs.nodup,env:=fun t=>(FH t).mono gM (aav _),mem:=?_,obj:=?_,bI:=hs.bI,lt:=?_,iX:=?_,iT:=?_,cz:=fun q r k hq hr=>hs.cz q r k (hO q k hq) (hO r k hr),cG:=fun q k hq=>hs.cG q k (hO q k hq),fP:=?_,La:=hs.La,Oa:=fun q k hq=>hs.Oa q k (hO q k hq),fresh:=?_ },?_,?_⟩
 ·intro b' o v hv
  by_cases hb:b'=b
  ·subst hb
   simp only [World.cell?,nZ]
   have e1:((ah cur.toList off news).toArray)[o]?=(ah cur.toList off news)[o]?:=by simp
   simp only [Option.isSome_none,abO,if_false]
   rw [e1,fB _ _ _ FP]
   unfold Mem.mh at hv
   split at hv
   ·rename_i h;rw [if_pos h.2];exact hv
   ·rename_i h
    rw [if_neg (fun h'=>h ⟨rfl,h'⟩)]
    have:=hs.mem _ o v hv
    simpa [World.cell?,hg] using this
  ·rw [Xg b' hb o] at hv
   have:=hs.mem b' o v hv
   simp only [World.cell?] at this ⊢
   rw [gN b' hb];exact this
 ·intro id o k ho hk
  have FA:k≠b:=by rintro rfl;exact zR (abE hk)
  exact (hs.obj id o k ho hk).mono gM (aav _) (gN k FA) (Xg k FA)
 ·intro k hk;rw [di];exact hs.lt k hk
 ·intro t
  exact (ack t).mono fun k hk=>⟨gN k (vN _ k hk),Xg k (vN _ k hk)⟩
 ·intro id j
  have e1:bT L (w.setRow b (ah cur.toList off news).toArray) id j=bT L w id j:=by
   unfold bT
   split
   ·rename_i k hk
    have FA:k≠b:=by rintro rfl;exact zR (abE hk)
    simp only [World.cell?]
    rw [gN k FA]
   ·rfl
  rw [e1]
  exact (acm id j).mono fun k hk=>⟨gN k (vN _ k hk),Xg k (vN _ k hk)⟩
 ·intro q k hq;rw [di];exact hs.fP q k (hO q k hq)
 ·intro k hk;rw [di] at hk;exact hs.fresh k hk
 ·exact ⟨gM,by rw [di];exact rC _,rfl,rfl,rfl,fun k hk hA=>⟨gN k (fun e0=>hA (e0 ▸ hs.Oa p b hp)),Xg k (fun e0=>hA (e0 ▸ hs.Oa p b hp))⟩,fun k r hk=>⟨r,(gN k (fun e0=>by rw [e0,hg] at hk;cases hk)).trans hk,rfl⟩⟩
 ·intro j v hv
  have hj:=aR hv
  show Mem.mh M b off news b (off + j)=some v
  unfold Mem.mh
  rw [if_pos ⟨rfl,by omega,by omega⟩,show off + j - off=j by omega]
  exact hv
theorem St.newRow (hs:St A M L w H ev ea O) (e:TypeId) {esz need cap:Nat} (h0:0 < esz) {rw rest:List Value} {zs:List AV} (hl:rw.length=need * esz) (hc:rw.length + rest.length=cap * esz) (cp:cap < 9223372036854775808) (RZ:need≤cap) (hn:0 < need)
 (hz:zs.length=need) (hx:∀ y∈zs,y.cells.length=esz) (hr:aP M L rw (flat zs)) (cs:Array Value) (zW:cs.toList=rw++rest) :
 ∃ M',aW M' L (.slice (some ⟨w.heap.size,0,none⟩) need cap) (.al esz zs)∧bj M' { w with heap:=w.heap.push (.cells cs e) } (.slice (some ⟨w.heap.size,0,none⟩) need cap) (.al esz zs) (some w.heap.size)∧
  St A M' L { w with heap:=w.heap.push (.cells cs e) } H ev ea O∧Ext A M w M' { w with heap:=w.heap.push (.cells cs e) }:=by
 obtain ⟨g1,g2,g3⟩:=hs.rK cs e (0,0) rw (fun j v hv=>by
  have:cs.toList[j]?=some v:=by rw [zW,yO (aR hv)];exact hv
  simpa using this)
 refine ⟨_,?_,?_,g1,g2⟩
 ·subst hz
  exact .al _ _ _ _ esz rw zs h0 hx hn RZ cp (hr.mono g2.mc (aav _)) g3
 ·unfold bj
  simp only [Nat.ne_of_gt h0,if_false]
  refine ⟨hx,.inr ⟨_,0,need,cap,cs,e,(0,0),rfl,rfl,dW w _,pj _,?_,?_⟩⟩
  ·have:cs.size=cap * esz:=by rw [← aeA,zW,aaf];exact hc
   omega
  ·intro k hk _
   simp only [Mem.add,if_true,abM]
   exact abL (by omega)
theorem v9 {bs:Option Addr} {n c own:Nat} {xs:List AV} (h:aW M L (.slice bs n c) (.al own xs)) :
 n=xs.length∧((xs=[]∧n=0)∨∃ b off cs,bs=some ⟨b,off,none⟩∧aP M L cs (flat xs)∧M.row b off cs):=by
 generalize hv:Value.slice bs n c=v at h
 cases h with
 | iw a c _ hc=>cases hv;exact ⟨rfl,.inl ⟨rfl,rfl⟩⟩
 | al b off c _ e cs _ he hx hn hle hc hr hm=>cases hv;exact ⟨rfl,.inr ⟨b,off,cs,rfl,hr,hm⟩⟩
def bF (esz bytes:Nat) (s x:AV) (φ:List AV→Prop):Prop:=
 match nS esz s,dB x with
 | some xs,some ys=>(xs.length + ys.length) * bytes≤140737488355328∧rE esz ys∧φ (xs++ys)
 | _,_=>False
def IX.slot:IX→Option Nat
 | .t n=>some n
 | .c _=>none
def lL (ea:Nat→AV) (s:Option Nat):Nat→AV:=match s with | some d=>fW ea d (ea d).ab | none=>ea
theorem Jj {esz:Nat} {s:AV} {xs:List AV} (hs:nS esz s=some xs) {u:Value} (hu:aW M L u s):aW M L u (.al esz xs)∧(s=.ag∧u=.slice none 0 0∨s=.al esz xs):=by
 unfold nS at hs
 split at hs
 ·cases hs;cases hu;exact ⟨.iw _ _ _ (by decide),.inl ⟨rfl,rfl⟩⟩
 ·rename_i own ys
  split at hs
  ·rename_i e;cases hs;subst e;exact ⟨hu,.inr rfl⟩
  ·cases hs
 ·cases hs
theorem mV {esz:Nat} {x:AV} {ys:List AV} (hx:dB x=some ys) (jM:rE esz ys) {u:Value} (hu:aW M L u x) :
 (ys=[]∧∃ b c,u=.slice b 0 c)∨(0 < ys.length∧∃ b off c news,u=.slice (some ⟨b,off,none⟩) ys.length c∧aP M L news (flat ys)∧M.row b off news∧news.length=ys.length * esz):=by
 have key:∀ own,aW M L u (.al own ys)→(ys=[]∧∃ b c,u=.slice b 0 c)∨(0 < ys.length∧∃ b off c news,u=.slice (some ⟨b,off,none⟩) ys.length c∧aP M L news (flat ys)∧M.row b off news∧news.length=ys.length * esz):=by
  intro own h
  cases h with
  | iw a c _ hc=>exact .inl ⟨rfl,_,_,rfl⟩
  | al b off c _ e cs _ he hx hn hle hc hr hm=>
    refine .inr ⟨hn,b,off,c,cs,rfl,hr,hm,?_⟩
    rw [hr.length,cW ys esz (fun y hy=>(jM y hy).1)]
 unfold dB at hx
 split at hx
 ·cases hx;cases hu;exact .inl ⟨rfl,_,_,rfl⟩
 ·rename_i own zs;cases hx;exact key own hu
 ·cases hx
theorem uN (xs ys:List AV):flat (xs++ys)=flat xs++flat ys:=by simp [flat]
theorem Df {ys:List AV} {esz:Nat} (h:rE esz ys):(flat ys).all AV.one=true:=by
 rw [abF]
 intro x hx
 simp only [flat,aek] at hx
 obtain ⟨y,hy,hxy⟩:=hx
 exact abF.1 (h y hy).2 x hxy
theorem Dg (hs:St A M L w H ev ea O) {t ty e:TypeId} {i:TypeInfo} {z:Value} {esz bytes:Nat} (ht:P.underlying t=some (.slice e)) (hi:P.info? e=some i) (hz:i.zero=some z) (di:i.size=esz) (tc:i.bytes=bytes) (v8:z.cells.size=esz) (h0:0 < esz) (rF:0 < bytes)
 {u v:Value} {s x:AV} {φ:List AV→Prop} (h:bF esz bytes s x φ) (slot:Option Nat) (hu:aW M L u s) (OW:match slot with | some d=>ev d=u∧ea d=s | none=>s=.ag) (hv:aW M L v x) :
 ∃ r w' M' O' ob zs,(Builtin.append_ #[t,t] ty #[u,v]).run P w=.ok r w'∧φ zs∧aW M' L r (.al esz zs)∧bj M' w' r (.al esz zs) ob∧St A M' L w' H ev (lL ea slot) O'∧Ext A M w M' w'∧
  (∀ q b,ob=some b→O' q≠some b)∧(∀ b,ob=some b→b∉L∧b < w'.heap.size∧A b):=by
 unfold bF at h
 split at h <;> try exact h.elim
 rename_i xs ys fx rG
 obtain ⟨hbound,jM,hφ⟩:=h
 obtain ⟨Br,hcase⟩:=Jj fx hu
 have hesz0:esz≠0:=by omega
 -- the slot forgets what it owned
 have hforget:∃ O1 ob1,St A M L w H ev (lL ea slot) O1∧bj M w u (.al esz xs) ob1∧(∀ q b,ob1=some b→O1 q≠some b)∧(∀ b,ob1=some b→b∉L∧b < w.heap.size∧A b∧∃ d,slot=some d∧O (.t d)=some b∧O1=eT O (.t d) none):=by
  have oH:u=.slice none 0 0→s=.ag→bj M w u (.al esz xs) none:=by
   rintro rfl rfl
   simp [nS] at fx;subst fx
   simp only [bj,hesz0,if_false]
   exact ⟨by simp,.inl ⟨trivial,none,0,rfl⟩⟩
  cases slot with
  | none=>
    simp only at OW
    subst OW
    cases hu
    exact ⟨O,none,hs,oH rfl rfl,(by intro q b e;cases e),(by intro b e;cases e)⟩
  | some d=>
    simp only at OW
    have oG:=hs.ow d (v:=u) (x:=(ea d).ab) (by rw [OW.2];exact hu.ab) (AV.bR _)
    have Tx:fW ev d u=ev:=by funext t';simp only [fW];split;rename_i e0;rw [e0,OW.1];rfl
    rw [Tx] at oG
    rcases hcase with ⟨h1,h2⟩ | h1
    ·exact ⟨_,none,oG,oH h2 h1,(by intro q b e;cases e),(by intro b e;cases e)⟩
    ·refine ⟨_,O (.t d),oG,?_,?_,?_⟩
     ·have:=hs.iX d
      rwa [OW.1,OW.2,h1] at this
     ·intro q b hb hq
      simp only [eT] at hq
      split at hq
      ·cases hq
      ·rename_i n;exact n (hs.cz _ _ b hq hb)
     ·intro b hb
      exact ⟨hs.cG _ b hb,hs.fP _ b hb,hs.Oa _ b hb,d,rfl,hb,rfl⟩
 obtain ⟨O1,ob1,R2,OX,Lg,Jk⟩:=hforget
 have HU:∀ y∈xs,y.cells.length=esz:=by
  have:=OX
  simp only [bj,hesz0,if_false] at this
  exact this.1
 have hform:∃ bs n c,u=.slice bs n c∧n=xs.length∧n≤c∧c < 9223372036854775808:=by
  cases Br with
  | iw a c _ hc=>exact ⟨a,0,c,rfl,rfl,acA _,hc⟩
  | al b off c _ e cs _ he hx hn hle hc hr hm=>exact ⟨_,_,c,rfl,rfl,hle,hc⟩
 rcases mV rG jM hv with ⟨rfl,b',c',rfl⟩ | ⟨Dh,b2,o2,c2,news,rfl,Bs,R3,wc⟩
 ·-- nothing is appended
  obtain ⟨bs,n,c,rfl,hn,RZ,hc⟩:=hform
  refine ⟨_,w,M,O1,ob1,xs++[],dG ht hi w bs n c RZ b' c',hφ,by simpa using Br,by simpa using OX,R2,Ext.refl A M w,Lg,fun b hb=>⟨(Jk b hb).1,(Jk b hb).2.1,(Jk b hb).2.2.1⟩⟩
 ·have hnews:∀ j u,news[j]?=some u→w.cell? ((⟨b2,o2,none⟩:Addr).add j)=some u:=je R3 hs.mem
  have lK:=Bs.iz (Df jM)
  have hlen:(xs.length + ys.length)≤140737488355328:=abX (ab5 _ rF) hbound
  have eS:∀ y∈xs++ys,y.cells.length=esz:=by
   intro y hy
   rcases abJ.1 hy with h' | h'
   ·exact HU y h'
   ·exact (jM y h').1
  -- a new row
  have grow:∀ (olds:List Value) (oldCap:Nat) (w':World),aP M L olds (flat xs)→olds.length=xs.length * esz→w'=w.drew.alloc (.cells (olds.toArray++news.toArray++Builtin.zeroCells z.cells (grownCap w (xs.length + ys.length) oldCap e - (xs.length + ys.length))) e)→
   (Builtin.append_ #[t,t] ty #[u,.slice (some ⟨b2,o2,none⟩) ys.length c2]).run P w=.ok (.slice (some ⟨w.heap.size,0,none⟩) (xs.length + ys.length) (grownCap w (xs.length + ys.length) oldCap e)) w'→
   ∃ r w' M' O' ob zs,(Builtin.append_ #[t,t] ty #[u,.slice (some ⟨b2,o2,none⟩) ys.length c2]).run P w=.ok r w'∧φ zs∧aW M' L r (.al esz zs)∧bj M' w' r (.al esz zs) ob∧St A M' L w' H ev (lL ea slot) O'∧Ext A M w M' w'∧
    (∀ q b,ob=some b→O' q≠some b)∧(∀ b,ob=some b→b∉L∧b < w'.heap.size∧A b):=by
   intro olds oldCap w' Xh hol Lh bO
   have jw:=grownCap_ge w (xs.length + ys.length) oldCap e
   have hle:=grownCap_le_maxLen w (xs.length + ys.length) oldCap e (by simp only [maxLen];omega)
   simp only [maxLen] at hle
   have hd:=R2.drew
   obtain ⟨M',k1,k2,k3,k4⟩:=hd.newRow e (need:=xs.length + ys.length) (cap:=grownCap w (xs.length + ys.length) oldCap e) h0 (rw:=olds++news) (rest:=(Builtin.zeroCells z.cells (grownCap w (xs.length + ys.length) oldCap e - (xs.length + ys.length))).toList) (zs:=xs++ys)
    (by rw [aaf,hol,wc,abP]) (by
      have hzc:(Builtin.zeroCells z.cells (grownCap w (xs.length + ys.length) oldCap e - (xs.length + ys.length))).toList.length=(grownCap w (xs.length + ys.length) oldCap e - (xs.length + ys.length)) * esz:=by
       rw [aeA,size_zeroCells,v8]
      rw [aaf,hol,wc,hzc,← abP,← abP]
      congr 1;omega) (by omega) jw (by omega) (by simp) eS (by rw [uN];exact Xh.append Bs)
    (olds.toArray++news.toArray++Builtin.zeroCells z.cells (grownCap w (xs.length + ys.length) oldCap e - (xs.length + ys.length))) (by simp)
   have cP:Ext A M w M' { { w with drawn:=w.drawn + 1 } with heap:=w.heap.push (.cells (olds.toArray++news.toArray++Builtin.zeroCells z.cells (grownCap w (xs.length + ys.length) oldCap e - (xs.length + ys.length))) e) }:=Ext.drew.trans k4
   have hww:w'={ { w with drawn:=w.drawn + 1 } with heap:=w.heap.push (.cells (olds.toArray++news.toArray++Builtin.zeroCells z.cells (grownCap w (xs.length + ys.length) oldCap e - (xs.length + ys.length))) e) }:=Lh
   refine ⟨_,_,M',O1,some w.heap.size,xs++ys,bO,hφ,k1,by rw [hww];exact k2,by rw [hww];exact k3,by rw [hww];exact cP,?_,?_⟩
   ·intro q b hb hq
    cases hb
    exact absurd (R2.fP q _ hq) (acB _)
   ·intro b hb
    cases hb
    refine ⟨fun hm=>absurd (hs.lt _ hm) (acB _),by rw [hww];simp,hs.fresh _ (rC _)⟩
  obtain ⟨bs,n,c,rfl,hn,RZ,hc⟩:=hform
  subst hn
  by_cases hroom:xs.length + ys.length≤c
  ·-- in place
   have FP:=OX
   simp only [bj,hesz0,if_false] at FP
   rcases FP.2 with ⟨_,a,n,hn⟩ | ⟨b,off,n,c',cs,e',fr,e1,e2,e3,e4,e5,e6⟩
   ·cases hn;omega
   ·cases e2
    obtain ⟨f1,f2,f3,d,rfl,f5,rfl⟩:=Jk b e1
    have acn:news.length=ys.length * i.size:=by rw [di];exact wc
    have zd:(xs.length + ys.length) * esz≤c * esz:=ach _ hroom
    rw [abP] at zd
    have vM:off + xs.length * esz + news.length≤cs.size:=by rw [wc];omega
    have bO:=gP (P:=P) (ty:=ty) ht hi w b off xs.length c cs fr e3 e4 ⟨b2,o2,none⟩ ys.length c2 news acn hnews lK hroom (by rw [di];exact vM)
    rw [di] at bO
    have hnone:∀ k,k < news.length→M b (off + xs.length * esz + k)=none:=by
     intro k hk
     rw [acO]
     exact e6 _ (by omega) (by rw [wc] at hk;omega)
    have Tz:∀ t',aW M L (ev t') (lL ea (some d) t'):=R2.env
    obtain ⟨g1,g2,g3⟩:=hs.inPlace (p:=.t d) f5 e3 vM hnone (ea':=lL ea (some d)) Tz R2.iX (fun id j=>by simpa [eT] using hs.iT id j)
    refine ⟨_,_,_,_,some b,xs++ys,bO,hφ,?_,?_,g1,g2,?_,?_⟩
    ·-- what it reads as
     have nZ:aP (M.mh b (off + xs.length * esz) news) L news (flat ys):=Bs.mono g2.mc (aav _)
     have hold:∃ olds,aP M L olds (flat xs)∧M.row b off olds∧olds.length=xs.length * esz:=by
      rcases (v9 Br).2 with ⟨h',_⟩ | ⟨b1,off1,cs1,Xi,hr,hm⟩
      ·subst h';exact ⟨[],.nil,by intro j v hv;simp at hv,by simp⟩
      ·cases Xi;exact ⟨cs1,hr,hm,by rw [hr.length,cW xs esz HU]⟩
     obtain ⟨olds,o1,o2',o3⟩:=hold
     have:=aW.al (M:=M.mh b (off + xs.length * esz) news) (L:=L) b off c esz esz (olds++news) (xs++ys) h0 eS (by simp;omega) (by simpa using hroom) hc (by rw [uN];exact (o1.mono g2.mc (aav _)).append nZ) (by
      intro j v hv
      rw [aei] at hv
      split at hv
      ·exact g2.mc _ _ _ (o2' j v hv)
      ·rename_i hj
       have:=g3 _ v hv
       rwa [show off + xs.length * esz + (j - olds.length)=off + j by omega] at this)
     simpa using this
    ·simp only [bj,hesz0,if_false]
     refine ⟨eS,.inr ⟨b,off,xs.length + ys.length,c,(ah cs.toList (off + xs.length * esz) news).toArray,e',fr,rfl,by simp,setRow_heap w b cs _ e' fr e3,?_,?_,?_⟩⟩
     ·have:(ah cs.toList (off + xs.length * esz) news).toArray.size=cs.size:=by
       rw [List.size_toArray,oD _ _ _ (by simpa using vM)];simp
      rw [this];exact e4
     ·rw [List.size_toArray,oD _ _ _ (by simpa using vM)];simpa using e5
     ·intro k hk OP
      unfold Mem.mh
      rw [abP] at hk
      rw [if_neg (by rw [wc];omega)]
      exact e6 k (by omega) OP
    ·intro q b' hb hq
     cases hb
     exact Lg q b e1 hq
    ·intro b' hb
     cases hb
     refine ⟨f1,?_,f3⟩
     simpa [World.setRow] using f2
  ·-- a new one
   have hbound':(xs.length + ys.length) * i.bytes≤140737488355328:=by rw [tc];exact hbound
   cases bs with
   | none=>
     have Li:xs.length=0:=by
      rcases (v9 Br).2 with ⟨_,h'⟩ | ⟨b1,off1,cs1,Xi,_⟩
      ·exact h'
      ·cases Xi
     have OU:c=0:=by
      have FP:=OX
      simp only [bj,hesz0,if_false] at FP
      rcases FP.2 with ⟨_,a,n,hn⟩ | ⟨b,off,n,c',cs,e',fr,e1,e2,_⟩
      ·cases hn;exact Li
      ·cases e2
     have hxnil:xs=[]:=acP Li
     subst hxnil
     subst OU
     have hr:=run_append_nil (P:=P) w t ty e i z ht hi hz ⟨b2,o2,none⟩ ys.length c2 news (by rw [di];exact wc) hnews Dh (by omega) (by simp at hbound';omega)
     refine grow [] 0 _ (by exact .nil) (by simp) rfl ?_
     simpa using hr
   | some a=>
     have hold:∃ olds,aP M L olds (flat xs)∧(∀ j v,olds[j]?=some v→w.cell? (a.add j)=some v)∧olds.length=xs.length * esz:=by
      rcases (v9 Br).2 with ⟨h',_⟩ | ⟨b1,off1,cs1,Xi,hr,hm⟩
      ·subst h';exact ⟨[],.nil,by intro j v hv;simp at hv,by simp⟩
      ·cases Xi;exact ⟨cs1,hr,je hm hs.mem,by rw [hr.length,cW xs esz HU]⟩
     obtain ⟨olds,o1,o2',o3⟩:=hold
     have hr:=run_append_grow (P:=P) w t ty e i z ht hi hz a xs.length c olds (by rw [di];exact o3) o2' ⟨b2,o2,none⟩ ys.length c2 news (by rw [di];exact wc) hnews (by omega) (by omega) (growslice_fits (by omega) hbound')
     exact grow olds c _ o1 o3 rfl hr
end
end Go.aK
end
section
namespace Go.aK
open Go
def bS:AV→AV
 | .agg ys=>.agg (ys.map AV.drop)
 | z=>z
section
variable {P:Program} {w:World} {M:Mem} {L:List Nat} {H:List aa} {A:Perm} {ev:Nat→Value} {ea:Nat→AV} {O:Pos→Option Nat}
theorem kc (z:AV):(bS z).cells.length=z.cells.length:=by cases z <;> simp [bS,AV.cells]
theorem aW.bS {v:Value} {z:AV} (h:aW M L v z):aW M L v (bS z):=by
 cases z <;> first | exact h | skip
 cases h with
 | agg cs _ hr=>exact .agg cs _ hr.map_drop
theorem qJ {x:AV} (h:x.val=true):(Go.aK.bS x).val=true:=by
 cases x <;> simp_all [Go.aK.bS,AV.val]
def fC (esz bytes:Nat) (z n:AV) (H:List aa) (K:AV→List aa→Prop):Prop:=
 match n with
 | .int .i64 n=>0≤n∧n.toNat * bytes≤140737488355328∧aj (H.length + 1) (flat (List.replicate n.toNat (bS z)))=true∧
    K (.aZ H.length 0 n.toNat n.toNat) (H++[.cells (flat (List.replicate n.toNat (bS z)))])
 | _=>False
theorem run_mk {t e:TypeId} {i:TypeInfo} {z:Value} {esz bytes:Nat} (ht:P.underlying t=some (.slice e)) (hi:P.info? e=some i) (hz:i.zero=some z) (di:i.size=esz) (tc:i.bytes=bytes) (v8:z.cells.size=esz) (h0:0 < esz) (rF:0 < bytes)
 (l c:Int) (Dd:0≤l) (Bo:l≤c) (hc:c.toNat * bytes≤140737488355328) (w:World) :
 ∃ cs:Array Value,(Instr.makeSlice t (.int .i64 l) (.int .i64 c)).run P w=.ok (.slice (some ⟨w.heap.size,0,none⟩) l.toNat c.toNat) { w with heap:=w.heap.push (.cells cs e) }∧cs=(Array.range (c.toNat * esz)).map (z.cells[· % z.cells.size]!):=by
 have jL:c.toNat≤140737488355328:=abX (ab5 _ rF) hc
 have OU:0≤c:=by omega
 have w1:IntKind.i64.wrap l=l:=by
  have:IntKind.i64.bits=64:=rfl
  have:IntKind.i64.signed=true:=rfl
  simp only [IntKind.wrap, *]
  have:l % 2 ^ 64=l:=af2 Dd (by omega)
  rw [this]
  rw [if_neg (by simp;omega)]
 have w2:IntKind.i64.wrap c=c:=by
  have:IntKind.i64.bits=64:=rfl
  have:IntKind.i64.signed=true:=rfl
  simp only [IntKind.wrap, *]
  have:c % 2 ^ 64=c:=af2 OU (by omega)
  rw [this]
  rw [if_neg (by simp;omega)]
 have hcn:(c.toNat:Int)=c:=Int.toNat_of_nonneg OU
 have OY:¬ ((bytes:Int) * c > 2 ^ 48):=by
  have:(bytes:Int) * c=((c.toNat * bytes:Nat):Int):=by rw [Int.natCast_mul,hcn,Int.mul_comm]
  rw [this];omega
 have ze:¬ c < 0:=by omega
 have hneg2:¬ l < 0:=by omega
 have R4:¬ l > c:=by omega
 refine ⟨_,?_,rfl⟩
 simp only [Instr.makeSlice,Sem.run_bind,run_underlying ht,Result.andThen_ok,asInt,asIntOf,Sem.run_pure,typeInfo,run_program,hi,tc,w1,w2,ze,hneg2,R4,OY,decide_false,Bool.or_self,abO,or_self,if_false,run_askRoom,sizeOf,di]
 by_cases hn:c.toNat * esz=0
 ·simp [hn,newRow]
  congr 2
  apply Array.ext'
  simp
 ·simp [hn,zeroValue,typeInfo,hi,hz,newRow]
theorem FQ (hs:St A M L w H ev ea O) {t e:TypeId} {i:TypeInfo} {zv:Value} {esz bytes:Nat} (ht:P.underlying t=some (.slice e)) (hi:P.info? e=some i) (hz:i.zero=some zv) (di:i.size=esz) (tc:i.bytes=bytes) (h0:0 < esz) (rF:0 < bytes)
 {z:AV} (yT:ofValue zv=some z) (qk:z.val=true) (eS:z.cells.length=esz) (Di:∀ y∈z.cells,∀ own xs,y=.al own xs→own=0) {u:Value} {n:AV} {K:AV→List aa→Prop} (h:fC esz bytes z n H K) (hu:aW M L u n) :
 ∃ r x L' w' H',(Instr.makeSlice t u u).run P w=.ok r w'∧aW M L' r x∧(∀ own xs,x=.al own xs→own=0)∧K x H'∧St A M L' w' H' ev ea O∧Ext A M w M w'∧L <+: L':=by
 unfold fC at h
 split at h <;> try exact h.elim
 rename_i n
 obtain ⟨HV,Xj,me,hK⟩:=h
 cases hu
 have Dc:=(cV (M:=M) (L:=L) yT).bS.gO (qJ qk)
 have v8:zv.cells.size=esz:=by have:=Dc.length;rw [kc,eS] at this;simpa using this
 obtain ⟨cs,bO,rfl⟩:=run_mk ht hi hz di tc v8 h0 rF n n HV (afW _) Xj w
 have hcells:=kB (M:=M) (L:=L) zv.cells esz n.toNat v8 h0 (bS z) Dc
 have hcn:n.toNat≤140737488355328:=abX (ab5 _ rF) Xj
 obtain ⟨g1,g2⟩:=hs.th (.cells ((Array.range (n.toNat * esz)).map (zv.cells[· % zv.cells.size]!)) e) (.cells (flat (List.replicate n.toNat (bS z)))) (fun w' hw hM=>⟨_,e,hw,hcells.mono (Mem.bY M) ⟨_,rfl⟩,hM⟩) (by simpa [aa.bc] using me) (fun j=>by
  simp only [ox]
  refine bj.free ?_
  intro own xs hh
  rw [rB] at hh
  cases hx:(flat (List.replicate n.toNat (bS z)))[j]? with
  | none=>simp [hx] at hh
  | some y=>
    simp [hx] at hh
    have hy:=abE hx
    simp only [flat,aek] at hy
    obtain ⟨q,hq,OZ⟩:=hy
    rw [ab2 hq] at OZ
    subst hh
    cases z <;> simp only [bS,AV.cells] at OZ Di
    case agg ys=>
     obtain ⟨y',_,hy'⟩:=aal.1 OZ
     exact AV.kq y' own xs hy'
    all_goals exact Di _ OZ own xs rfl)
 refine ⟨_,.aZ H.length 0 n.toNat n.toNat,_,_,_,bO,.aZ w.heap.size 0 _ _ H.length ?_ (by omega),(by intro _ _ e;cases e),hK,g1,g2,⟨_,rfl⟩⟩
 rw [abt (by rw [hs.len];exact rC _),hs.len];simp
def jQ (esz bytes:Nat) (n:AV) (φ:AV→Prop):Prop:=
 match n with
 | .int .i64 n=>0≤n∧n.toNat * bytes≤140737488355328∧φ (.al esz [])
 | _=>False
theorem FR (hs:St A M L w H ev ea O) {t e:TypeId} {i:TypeInfo} {zv:Value} {esz bytes:Nat} (ht:P.underlying t=some (.slice e)) (hi:P.info? e=some i) (hz:i.zero=some zv) (di:i.size=esz) (tc:i.bytes=bytes) (h0:0 < esz) (rF:0 < bytes)
 (v8:zv.cells.size=esz) {u:Value} {n:AV} {φ:AV→Prop} (h:jQ esz bytes n φ) (hu:aW M L u n) :
 ∃ r w' M' b,(Instr.makeSlice t (.int .i64 0) u).run P w=.ok r w'∧aW M' L r (.al esz [])∧φ (.al esz [])∧bj M' w' r (.al esz []) (some b)∧St A M' L w' H ev ea O∧Ext A M w M' w'∧
  (∀ q,O q≠some b)∧b∉L∧b < w'.heap.size∧A b:=by
 unfold jQ at h
 split at h <;> try exact h.elim
 rename_i n
 obtain ⟨HV,Xj,hφ⟩:=h
 cases hu
 obtain ⟨cs,bO,zW⟩:=run_mk ht hi hz di tc v8 h0 rF 0 n (afW _) HV Xj w
 have hcn:n.toNat≤140737488355328:=abX (ab5 _ rF) Xj
 obtain ⟨g1,g2,g3⟩:=hs.rK cs e (0,0) [] (fun j v hv=>by simp at hv)
 refine ⟨_,_,_,w.heap.size,bO,.iw _ _ _ (by omega),hφ,?_,g1,g2,fun q hq=>absurd (hs.fP q _ hq) (acB _),fun hm=>absurd (hs.lt _ hm) (acB _),by simp,hs.fresh _ (rC _)⟩
 unfold bj
 simp only [Nat.ne_of_gt h0,if_false]
 refine ⟨by simp,.inr ⟨_,0,0,n.toNat,cs,e,(0,0),rfl,by simp,dW w _,pj _,?_,?_⟩⟩
 ·rw [zW];simp
 ·intro k _ _
  simp [Mem.add]
def eo (x:Option AV) (d:Nat) (φ:Nat→Prop):Prop:=
 match x with
 | none=>φ d
 | some (.int _ i)=>0≤i∧φ i.toNat
 | _=>False
def fD (esz:Nat) (x:AV) (lo hi mx:Option AV) (φ:AV→Prop):Prop:=
 match dB x with
 | some xs=>eo hi xs.length fun h=>eo lo 0 fun l=>l≤h∧h≤xs.length∧
    match mx with
    | none=>φ (.al 0 ((xs.take h).drop l))
    | some m=>hi.isSome=true∧eo (some m) 0 fun m=>m=h∧(∀ y∈xs,y.cells.length=esz)∧φ (.al esz ((xs.take h).drop l))
 | none=>False
theorem zX:∀ (xs:List AV) (e n:Nat),(∀ y∈xs,y.cells.length=e)→flat (xs.take n)=(flat xs).take (n * e)
 | [],e,n,_=>by simp [flat]
 | y::ys,e,0,_=>by simp [flat]
 | y::ys,e,n + 1,hx=>by
   have hy:=hx y (by simp)
   have ih:=zX ys e n (fun z hz=>hx z (by simp [hz]))
   simp only [flat] at ih
   simp only [List.take_succ_cons,flat,List.flatMap_cons,ih]
   rw [afu,aaw (l:=y.cells) (by rw [hy,abP];omega),hy,show (n + 1) * e - e=n * e by rw [abP];omega]
theorem zY:∀ (xs:List AV) (e n:Nat),(∀ y∈xs,y.cells.length=e)→flat (xs.drop n)=(flat xs).drop (n * e)
 | [],e,n,_=>by simp [flat]
 | y::ys,e,0,_=>by simp [flat]
 | y::ys,e,n + 1,hx=>by
   have hy:=hx y (by simp)
   have ih:=zY ys e n (fun z hz=>hx z (by simp [hz]))
   simp only [flat] at ih
   simp only [List.drop_succ_cons,flat,List.flatMap_cons]
   rw [ih,adI,afl (as:=y.cells) (by rw [hy,abP];omega),hy,show (n + 1) * e - e=n * e by rw [abP];omega]
   rfl
def jR (M:Mem) (L:List Nat) (x:Option AV) (v:Option Value):Prop:=match x,v with | none,none=>True | some x,some v=>aW M L v x | _,_=>False
theorem dY {x:Option AV} {v:Option Value} (hx:jR M L x v) {d:Nat} {φ:Nat→Prop} (h:eo x d φ) :
 ∃ k,φ k∧((x=none∧v=none∧k=d)∨∃ kd i,v=some (.int kd i)∧0≤i∧i.toNat=k):=by
 unfold eo at h
 split at h
 ·cases v with
  | none=>exact ⟨d,h,.inl ⟨rfl,rfl,rfl⟩⟩
  | some v=>exact hx.elim
 ·rename_i kd i
  cases v with
  | none=>exact hx.elim
  | some v=>
    have rD:aW M L v (.int kd i):=hx
    cases rD
    exact ⟨_,h.2,.inr ⟨_,_,rfl,h.1,rfl⟩⟩
 ·exact h.elim
theorem run_sliceBound (w:World) (kd:IntKind) (i:Int) (y:Nat) (code:BoundsCode) (h0:0≤i) (h1:i.toNat≤y):(Instr.sliceBound (.int kd i) y code).run P w=.ok i.toNat w:=by
 have:0≤i∧i≤(y:Int):=⟨h0,by omega⟩
 simp [Instr.sliceBound,asIntOf,this]
theorem wT (hs:St A M L w H ev ea O) {t e:TypeId} {esz:Nat} (ht:P.underlying t=some (.slice e)) (he:dX P e=some esz) (h0:0 < esz) {u:Value} {x:AV} {lo hi mx:Option AV} {vlo vhi vmx:Option Value} {φ:AV→Prop}
 (h:fD esz x lo hi mx φ) (hu:aW M L u x) (Tv:∀ own xs,x=.al own xs→∀ z∈xs,z.cells.length=esz)
 (h1:jR M L lo vlo) (h2:jR M L hi vhi) (h3:jR M L mx vmx) :
 ∃ a n c own ys,(Instr.sliceAt t u vlo vhi vmx).run P w=.ok (.slice a n c) w∧aW M L (.slice a n c) (.al own ys)∧φ (.al own ys)∧(own≠0→n=c∧∀ y∈ys,y.cells.length=own):=by
 unfold fD at h
 split at h <;> try exact h.elim
 rename_i xs fx
 have di:(sizeOf e).run P w=.ok esz w:=by
  obtain ⟨i,hi,OT⟩:=yR.1 he
  simp [sizeOf,typeInfo,hi,OT]
 obtain ⟨hh,h,Lj⟩:=dY h2 h
 obtain ⟨ll,h,vL⟩:=dY h1 h
 obtain ⟨hle,hhl,h⟩:=h
 have Br:∃ own,aW M L u (.al own xs):=by
  unfold dB at fx
  split at fx
  ·cases fx;cases hu;exact ⟨0,.iw _ _ _ (by decide)⟩
  ·cases fx;exact ⟨_,hu⟩
  ·cases fx
 obtain ⟨own0,Br⟩:=Br
 have HU:∀ z∈xs,z.cells.length=esz:=by
  unfold dB at fx
  split at fx
  ·cases fx;simp
  ·cases fx;exact Tv _ _ rfl
  ·cases fx
 have hform:∃ bs c,u=.slice bs xs.length c∧xs.length≤c∧c < 9223372036854775808:=by
  cases Br with
  | iw a c _ hc=>exact ⟨a,c,rfl,acA _,hc⟩
  | al b off c _ e cs _ he hx hn hle hc hr hm=>exact ⟨_,c,rfl,hle,hc⟩
 obtain ⟨bs,c,rfl,hxc,hc⟩:=hform
 have rep:∀ (own m:Nat),hh≤m→m≤c→aW M L (.slice (if m=ll then bs else bs.map (·.add (ll * esz))) (hh - ll) (m - ll)) (.al own ((xs.take hh).drop ll)):=by
  intro own m hm1 hm2
  have hlen:((xs.take hh).drop ll).length=hh - ll:=by simp;omega
  by_cases hz:hh - ll=0
  ·have:(xs.take hh).drop ll=[]:=acP (by omega)
   rw [this,hz]
   exact .iw _ _ _ (by omega)
  ·rcases (v9 Br).2 with ⟨h',_⟩ | ⟨b,off,cs,rfl,hr,hm⟩
   ·subst h';simp at hlen;omega
   ·rw [if_neg (by omega)]
    simp only [Option.map_some,Addr.add_lit]
    have rD:∀ z∈(xs.take hh).drop ll,z.cells.length=esz:=fun z hz=>HU z (acg (adB hz))
    have:=aW.al (M:=M) (L:=L) b (off + ll * esz) (m - ll) own esz ((cs.take (hh * esz)).drop (ll * esz)) ((xs.take hh).drop ll) h0 rD (by omega) (by omega) (by omega) (by
     rw [zY _ esz ll (fun z hz=>HU z (acg hz)),zX _ esz hh HU]
     exact (hr.take _).drop _) (by
     intro j v hv
     rw [adX,aax] at hv
     split at hv
     ·have:=hm _ v hv
      rwa [← acO] at this
     ·cases hv)
    rwa [hlen] at this
 cases mx with
 | none=>
   cases vmx with
   | some v=>exact h3.elim
   | none=>
     refine ⟨_,_,_,0,_,?_,rep 0 c (by omega) (rC _),h,fun h=>absurd rfl h⟩
     have hb:(Instr.sliceBounds true xs.length c vlo vhi none).run P w=.ok (ll,hh,c) w:=by
      rcases Lj with ⟨_,rfl,rfl⟩ | ⟨kd,i,rfl,we,rfl⟩ <;> rcases vL with ⟨_,rfl,rfl⟩ | ⟨kd',i',rfl,vO,rfl⟩
      ·rfl
      ·have pn:=run_sliceBound (P:=P) w kd' i' xs.length .sliceB vO hle
       simp [Instr.sliceBounds,pn]
      ·have pn:=run_sliceBound (P:=P) w kd i c .sliceAcap we (by omega)
       simp [Instr.sliceBounds,pn]
      ·have pn:=run_sliceBound (P:=P) w kd i c .sliceAcap we (by omega)
       have qm:=run_sliceBound (P:=P) w kd' i' i.toNat .sliceB vO hle
       simp [Instr.sliceBounds,pn,qm]
     simp only [Instr.sliceAt,Instr.slice,Sem.run_bind,run_underlying ht,Result.andThen_ok,hb,di,Sem.run_pure]
 | some m=>
   cases vmx with
   | none=>exact h3.elim
   | some vm=>
     obtain ⟨hsome,h⟩:=h
     obtain ⟨mm,⟨rfl,_,hφ⟩,WM⟩:=dY (v:=some vm) h3 h
     rcases WM with ⟨hh',_⟩ | ⟨kdm,im,hvm,acr,Lf⟩
     ·cases hh'
     cases hvm
     refine ⟨_,_,_,esz,_,?_,rep esz mm (rC _) (by omega),hφ,fun _=>⟨rfl,fun y hy=>HU y (acg (adB hy))⟩⟩
     have hb:(Instr.sliceBounds true xs.length c vlo vhi (some (.int kdm im))).run P w=.ok (ll,mm,mm) w:=by
      have OS:=run_sliceBound (P:=P) w kdm im c .slice3Acap acr (by omega)
      rw [Lf] at OS
      rcases Lj with ⟨hn,rfl,hd⟩ | ⟨kd,i,rfl,we,hi1⟩
      ·rw [hn] at hsome;cases hsome
      ·have pn:=run_sliceBound (P:=P) w kd i mm .slice3B we (by omega)
       rw [hi1] at pn
       rcases vL with ⟨_,rfl,rfl⟩ | ⟨kd',i',rfl,vO,rfl⟩
       ·simp [Instr.sliceBounds,OS,pn]
       ·have qm:=run_sliceBound (P:=P) w kd' i' mm .slice3C vO hle
        simp [Instr.sliceBounds,OS,pn,qm]
     simp only [Instr.sliceAt,Instr.slice,Sem.run_bind,run_underlying ht,Result.andThen_ok,hb,di,Sem.run_pure]
def cA (x:AV) (lo hi:Option AV) (φ:AV→Prop):Prop:=
 match x with
 | .str s=>eo hi s.size fun h=>eo lo 0 fun l=>l≤h∧h≤s.size∧φ (.str (s.extract l h))
 | _=>False
theorem zg {t:TypeId} (ht:P.underlying t=some .string) {u:Value} {x:AV} {lo hi:Option AV} {vlo vhi:Option Value} {φ:AV→Prop}
 (h:cA x lo hi φ) (hu:aW M L u x) (h1:jR M L lo vlo) (h2:jR M L hi vhi) :
 ∃ r z,(Instr.sliceAt t u vlo vhi none).run P w=.ok r w∧aW M L r z∧φ z∧∀ own xs,z=.al own xs→own=0:=by
 unfold cA at h
 split at h <;> try exact h.elim
 rename_i s
 cases hu
 obtain ⟨hh,h,Lj⟩:=dY h2 h
 obtain ⟨ll,h,vL⟩:=dY h1 h
 obtain ⟨hle,hhl,hφ⟩:=h
 refine ⟨_,_,?_,.str _,hφ,by intro _ _ e;cases e⟩
 have hb:(Instr.sliceBounds false s.size s.size vlo vhi none).run P w=.ok (ll,hh,s.size) w:=by
  rcases Lj with ⟨_,rfl,rfl⟩ | ⟨kd,i,rfl,we,rfl⟩ <;> rcases vL with ⟨_,rfl,rfl⟩ | ⟨kd',i',rfl,vO,rfl⟩
  ·rfl
  ·have pn:=run_sliceBound (P:=P) w kd' i' s.size .sliceB vO hle
   simp [Instr.sliceBounds,pn]
  ·have pn:=run_sliceBound (P:=P) w kd i s.size .sliceAlen we (by omega)
   simp [Instr.sliceBounds,pn]
  ·have pn:=run_sliceBound (P:=P) w kd i s.size .sliceAlen we (by omega)
   have qm:=run_sliceBound (P:=P) w kd' i' i.toNat .sliceB vO hle
   simp [Instr.sliceBounds,pn,qm]
 simp only [Instr.sliceAt,Instr.slice,Sem.run_bind,run_underlying ht,Result.andThen_ok,Option.isSome_none,abO,if_false,Sem.run_pure,hb]
def bp (l:List UInt8):List AV:=l.map fun b=>.int .u8 b.toNat
def gv (x:AV) (φ:AV→Prop):Prop:=match x with | .str s=>φ (.str s) | _=>False
theorem Bt {src dst:TypeId} {d:TypeDesc} (hs:P.underlying src=some d) (hd:P.underlying dst=some .string) {u:Value} {x:AV} {φ:AV→Prop} (h:gv x φ) (hu:aW M L u x) :
 ∃ r z,(convert src dst u).run P w=.ok r w∧aW M L r z∧φ z∧∀ own xs,z=.al own xs→own=0:=by
 unfold gv at h
 split at h <;> try exact h.elim
 cases hu
 refine ⟨_,_,?_,.str _,h,by intro _ _ e;cases e⟩
 simp [convert,run_underlying hs,run_underlying hd]
def kD (x:AV) (φ:AV→Prop):Prop:=
 match dB x with
 | some ys=>∃ l,ys=bp l∧φ (.str ⟨l.toArray⟩)
 | none=>False
theorem wU (l:List UInt8):flat (bp l)=bp l:=by
 induction l with
 | nil=>rfl
 | cons b l ih=>simp only [bp,List.map_cons,flat,List.flatMap_cons,AV.cells] at ih ⊢;rw [ih];rfl
theorem aP.bytes:∀ {cs:List Value} {l:List UInt8},aP M L cs (bp l)→cs=l.map fun b=>.int .u8 b.toNat
 | [],[],_=>rfl
 | [],b::l,h=>by have:=h.length;simp [bp] at this
 | c::cs,[],h=>by have:=h.length;simp [bp] at this
 | c::cs,b::l,h=>by
   simp only [bp,List.map_cons] at h
   cases h with
   | cons _ _ _ _ h t=>cases h;simp [aP.bytes (l:=l) t]
theorem FT (hs:St A M L w H ev ea O) {src dst e:TypeId} (h1:P.underlying src=some (.slice e)) (h2:P.underlying e=some (.int .u8)) (hd:P.underlying dst=some .string) {u:Value} {x:AV} {φ:AV→Prop} (h:kD x φ) (hu:aW M L u x) :
 ∃ r z,(convert src dst u).run P w=.ok r w∧aW M L r z∧φ z∧∀ own xs,z=.al own xs→own=0:=by
 unfold kD at h
 split at h <;> try exact h.elim
 rename_i ys rG
 obtain ⟨l,rfl,hφ⟩:=h
 have Br:∃ own,aW M L u (.al own (bp l)):=by
  unfold dB at rG
  split at rG
  ·cases l with
   | nil=>cases hu;exact ⟨0,.iw _ _ _ (by decide)⟩
   | cons b l=>simp [bp] at rG
  ·cases rG;exact ⟨_,hu⟩
  ·cases rG
 obtain ⟨own,Br⟩:=Br
 refine ⟨_,_,?_,.str _,hφ,by intro _ _ e;cases e⟩
 cases l with
 | nil=>
   have:∃ a c,u=.slice a 0 c:=by
    cases Br with
    | iw a c _ hc=>exact ⟨a,c,rfl⟩
    | al b off c _ e cs _ he hx hn=>simp [bp] at hn
   obtain ⟨a,c,rfl⟩:=this
   cases a with
   | none=>rw [run_convert_bytes_nil w src e h1 h2 0 c dst hd];rfl
   | some a=>
     simp [convert,run_underlying h1,run_underlying hd,run_underlying h2,Conv.bytesToString,loadCells,loadCellsFrom]
     rfl
 | cons b0 l=>
   have:∃ b off c cs,u=.slice (some ⟨b,off,none⟩) (bp (b0::l)).length c∧aP M L cs (bp (b0::l))∧M.row b off cs:=by
    generalize hl:bp (b0::l)=q at Br
    cases Br with
    | iw=>simp [bp] at hl
    | al b off c _ e cs _ he hx hn hle hc hr hm=>
      subst hl
      rw [wU] at hr
      exact ⟨b,off,c,cs,rfl,hr,hm⟩
   obtain ⟨b,off,c,cs,rfl,hr,hm⟩:=this
   have zW:=hr.bytes
   have bO:=run_convert_bytes_arg (P:=P) w src e h1 h2 b off (bp (b0::l)).length c ((b0::l).map fun b=>(b.toNat:Int)) (by simp [bp]) (fun i hi=>by
    have k9:i < (b0::l).length:=by simpa [bp] using hi
    have:=hs.mem _ _ _ (hm i (.int .u8 ((b0::l)[i]).toNat) (by rw [zW,abW,Oq k9];rfl))
    rw [this,rB,abW,Oq k9]
    rfl) dst hd
   rw [bO]
   congr 2
   simp only [strOfNums,acs]
   congr 1
   congr 1
   conv=>rhs;rw [← List.map_id (b0::l)]
   apply ab4
   intro b _
   simp
def fF (own:Nat) (x:AV) (φ:AV→Prop):Prop:=
 match x with
 | .str s=>s.size < 9223372036854775808∧φ (.al own (bp s.data.toList))
 | _=>False
end
end Go.aK
end
section
namespace Go.aK
open Go
section
variable {P:Program} {w:World} {M:Mem} {L:List Nat} {H:List aa} {A:Perm} {ev:Nat→Value} {ea:Nat→AV} {O:Pos→Option Nat}
theorem Dj (w:World) (cs:Array Value) (e:TypeId) :
 ({ w with heap:=w.heap.push (.cells cs e) }:World).freeze { block:=w.heap.size,off:=cs.size } 1={ w with heap:=w.heap.push (.cells cs e (cs.size,cs.size + 1)) }:=by
 simp only [World.freeze,Nat.one_ne_zero,if_false]
 congr 1
 apply Array.ext
 ·simp
 ·intro i h1 h2
  rw [afO]
  by_cases hi:w.heap.size=i
  ·subst hi;simp
  ·simp only [hi,if_false]
   have:i < w.heap.size:=by simp at h2;omega
   rw [ad4 this,ad4 this]
theorem Dk (l:List UInt8):aP M L (l.map fun b=>Value.int .u8 b.toNat) (bp l):=by
 induction l with
 | nil=>exact .nil
 | cons b l ih=>exact .cons _ _ _ _ (.int _ _) ih
theorem Bu (hs:St A M L w H ev ea O) {src dst e:TypeId} (h1:P.underlying src=some .string) (hd:P.underlying dst=some (.slice e)) (h2:P.underlying e=some (.int .u8)) {u:Value} {x:AV} {φ:AV→Prop} (h:fF 1 x φ) (hu:aW M L u x) :
 ∃ r z w' M' ob,(convert src dst u).run P w=.ok r w'∧aW M' L r z∧φ z∧bj M' w' r z ob∧St A M' L w' H ev ea O∧Ext A M w M' w'∧
  (∀ q b,ob=some b→O q≠some b)∧(∀ b,ob=some b→b∉L∧b < w'.heap.size∧A b):=by
 unfold fF at h
 split at h <;> try exact h.elim
 rename_i s
 obtain ⟨di,hφ⟩:=h
 cases hu
 let cap:=(Question.appendCap s.size 0 e).cut (w.tape w.drawn (.appendCap s.size 0 e))
 have Ou:s.size≤cap:=by simp [cap,Question.cut]
 have mW:cap < 9223372036854775808:=by
  have:=Nat.mod_lt (w.tape w.drawn (.appendCap s.size 0 e)) (show 0 < 2 ^ 63 - s.size by omega)
  simp only [cap,Question.cut];omega
 let elems:Array Value:=s.data.map fun b=>.int .u8 b.toNat
 let cs:Array Value:=elems++Array.replicate (cap - s.size) (.int .u8 0)
 have zW:cs.size=cap:=by
  simp only [cs,elems,Array.size_append,Array.size_map,Array.size_replicate]
  have:s.data.size=s.size:=rfl
  omega
 have R5:elems.toList=s.data.toList.map fun b=>Value.int .u8 b.toNat:=by simp [elems]
 let W:World:={ { w with drawn:=w.drawn + 1 } with heap:=w.heap.push (.cells cs e (cs.size,cs.size + 1)) }
 have bO:(convert src dst (.string s)).run P w=.ok (.slice (some ⟨w.heap.size,0,none⟩) s.size cap) W:=by
  have zV:=Dj { w with drawn:=w.drawn + 1 } cs e
  have Tr:({ { w with drawn:=w.drawn + 1 } with heap:=w.heap.push (.cells cs e) }:World).shape? w.heap.size=some (e,cs.size):=by
   simp [World.shape?]
  simp only [convert,Sem.run_bind,run_underlying h1,run_underlying hd,run_underlying h2,Result.andThen_ok,Conv.stringToBytes,run_choose,Question.forced,abO,if_false]
  have Bs:∀ W:World,(newRow e cs).run P W=.ok ⟨W.heap.size,0,none⟩ { W with heap:=W.heap.push (.cells cs e) }:=fun _=>rfl
  refine Eq.trans (congrArg (fun r=>Result.andThen r _) (Bs _)) ?_
  simp only [Result.andThen_ok,Sem.run_pure,markStringish,run_shape,Sem.run_bind]
  rw [Tr]
  simp only [run_freeze,Result.andThen_ok]
  rw [zV]
 obtain ⟨g1,g2,g3⟩:=hs.drew.rK cs e (cs.size,cs.size + 1) elems.toList (fun j v hv=>by
  have:cs.toList[j]?=some v:=by
   simp only [cs,afS]
   rw [yO (aR hv)];exact hv
  simpa using this)
 have gk:aP (M.add w.heap.size elems.toList) L elems.toList (bp s.data.toList):=by rw [R5];exact Dk _
 have hlen:(bp s.data.toList).length=s.size:=by simp [bp]
 have hx:∀ y∈bp s.data.toList,y.cells.length=1:=by
  intro y hy
  simp only [bp,aal] at hy
  obtain ⟨b,_,rfl⟩:=hy
  rfl
 refine ⟨_,_,W,_,some w.heap.size,bO,?_,hφ,?_,g1,Ext.drew.trans g2,?_,?_⟩
 ·by_cases h0:s.size=0
  ·have:bp s.data.toList=[]:=acP (by omega)
   rw [this,h0]
   exact .iw _ _ _ mW
  ·have:=aW.al (M:=M.add w.heap.size elems.toList) (L:=L) w.heap.size 0 cap 1 1 elems.toList (bp s.data.toList) (by omega) hx (by omega) (by omega) mW (by rw [wU];exact gk) g3
   rwa [hlen] at this
 ·unfold bj
  simp only [Nat.one_ne_zero,if_false]
  refine ⟨hx,.inr ⟨_,0,s.size,cap,cs,e,(cs.size,cs.size + 1),rfl,rfl,dW _ _,?_,by omega,?_⟩⟩
  ·intro j hj h;simp at h;omega
  ·intro k hk _
   simp only [Mem.add,if_true,abM]
   refine abL ?_
   have:elems.toList.length=s.size:=by rw [R5];simp
   omega
 ·intro q b hb hq
  cases hb
  exact absurd (hs.fP q _ hq) (acB _)
 ·intro b hb
  cases hb
  exact ⟨fun hm=>absurd (hs.lt _ hm) (acB _),by simp [W],hs.fresh _ (rC _)⟩
def dk (kd:Nat) (x y:AV):Option Bool:=
 match kd,x,y with
 | 0,.int k a,.int k' b=>if k=k' then some (decide (a=b)) else none
 | 1,.str a,.str b=>some (decide (a=b))
 | 2,.agg [.int k a,.int l b],.agg [.int k' a',.int l' b']=>if k=k'∧l=l' then some (decide (a=a'∧b=b')) else none
 | _,_,_=>none
def lM (kd:Nat) (d:TypeDesc):Prop:=match kd,d with | 0,.int _=>True | 1,.string=>True | _,_=>False
def FU (P:Program) (kd:Nat) (d:TypeDesc):Prop:=kd=2∧∃ e q,d=.array 2 e∧P.underlying e=some (.int q)∧(P.info? e).map (·.size)=some 1
theorem Bv (a b:ByteArray):(a == b)=decide (a=b):=by
 rcases a with ⟨a⟩
 rcases b with ⟨b⟩
 show (a == b)=_
 by_cases h:a=b <;> simp [h]
def po (P:Program) (t:TypeId):Option Nat:=
 match P.underlying t with
 | some (.int _)=>some 0
 | some .string=>some 1
 | some (.array 2 e)=>match P.underlying e,(P.info? e).map (·.size) with
   | some (.int _),some 1=>some 2
   | _,_=>none
 | _=>none
def eG (kd:Nat) (k:AV):List (AV×AV)→Nat→Option (Option (Nat×AV))
 | [],_=>some none
 | (a,v)::r,i=>match dk kd k a with
   | some true=>some (some (i,v))
   | some false=>eG kd k r (i + 1)
   | none=>none
def cF (kd:Nat) (zero m k:AV) (ok:Bool) (H:List aa) (φ:AV→Prop):Prop:=
 match m with
 | .jN=>dk kd k k=some true∧φ (if ok then .tuple [a7 zero,.bool false] else a7 zero)
 | .map id=>match H[id]? with
   | some (.map es)=>match eG kd k es 0 with
     | some (some (_,v))=>φ (if ok then .tuple [v.drop,.bool true] else v.drop)
     | some none=>dk kd k k=some true∧φ (if ok then .tuple [a7 zero,.bool false] else a7 zero)
     | none=>False
   | _=>False
 | _=>False
def fU (kd:Nat) (m k x:AV) (H:List aa) (K:List aa→Prop):Prop:=
 match m with
 | .map id=>match H[id]? with
   | some (.map es)=>k.bc (id + 1)=true∧x.bc (id + 1)=true∧x.val=true∧match eG kd k es 0 with
     | some (some (i,_))=>K (H.set id (.map (es.set i (k,a7 x))))
     | some none=>dk kd k k=some true∧K (H.set id (.map (es++[(k,a7 x)])))
     | none=>False
   | _=>False
 | _=>False
theorem wV {kd:Nat} {d:TypeDesc} (hd:lM kd d) {k y:AV} {b:Bool} (h:dk kd k y=some b) {u v:Value} (hu:aW M L u k) (hv:aW M L v y) :
 Instr.sameNow d u v=some b∧(b=true→v=u):=by
 unfold dk at h
 split at h
 ·rename_i k a k' b'
  cases hu;cases hv
  split at h
  ·rename_i e;subst e
   cases h
   cases d <;> simp only [lM] at hd
   refine ⟨by simp [Instr.sameNow,rM],?_⟩
   intro h;simp at h;rw [h]
  ·cases h
 ·rename_i a b'
  cases hu;cases hv
  cases h
  cases d <;> simp only [lM] at hd
  refine ⟨by simp only [Instr.sameNow,Bv],?_⟩
  intro h;simp at h;rw [h]
 ·cases d <;> simp only [lM] at hd
 ·cases h
theorem zZ {kd:Nat} {d:TypeDesc} (hd:lM kd d) {k:AV} {u:Value} (hu:aW M L u k) :
 ∀ (es:List (AV×AV)) (ents:List MapEntry) (i:Nat) (r:Option (Nat×AV)),aP M L (ents.map (·.key)) (es.map (·.1))→aP M L (ents.map (·.val)) (es.map (·.2))→eG kd k es i=some r→
  match r with
  | none=>Instr.findNow d u ents i=some none
  | some (j,x)=>i≤j∧∃ v,Instr.findNow d u ents i=some (some (j,v))∧aW M L v x∧∃ en,ents[j - i]?=some en∧en.key=u∧en.val=v∧j - i < es.length
 | [],ents,i,r,h1,h2,h=>by
   cases ents with
   | nil=>simp [eG] at h;subst h;rfl
   | cons a b=>have:=h1.length;simp at this
 | (a,x)::es,[],i,r,h1,h2,h=>by have:=h1.length;simp at this
 | (a,x)::es,en::ents,i,r,h1,h2,h=>by
   simp only [List.map_cons] at h1 h2
   cases h1 with
   | cons _ _ _ _ hk FV=>
   cases h2 with
   | cons _ _ _ _ hv zc=>
   unfold eG at h
   split at h
   ·rename_i he
    cases h
    obtain ⟨e1,e2⟩:=wV hd he hu hk
    exact ⟨rC _,en.val,by simp [Instr.findNow,e1],hv,en,by simp,e2 rfl,rfl,by simp⟩
   ·rename_i he
    obtain ⟨e1,_⟩:=wV hd he hu hk
    have ih:=zZ hd hu es ents (i + 1) r FV zc h
    cases r with
    | none=>simp only at ih ⊢;simp [Instr.findNow,e1,ih]
    | some jx=>
      obtain ⟨j,y⟩:=jx
      simp only at ih ⊢
      obtain ⟨hij,v,f1,f2,en',f3,f4,f5,f6⟩:=ih
      refine ⟨by omega,v,by simp [Instr.findNow,e1,f1],f2,en',?_,f4,f5,by simp;omega⟩
      rw [show j - i=(j - (i + 1)) + 1 by omega]
      simpa using f3
   ·cases h
theorem rO {t:TypeId} {kd:Nat} (h:po P t=some kd):∃ d,P.underlying t=some d∧(lM kd d∨FU P kd d):=by
 unfold po at h
 split at h
 ·rename_i k hu;cases h;exact ⟨_,hu,.inl trivial⟩
 ·rename_i hu;cases h;exact ⟨_,hu,.inl trivial⟩
 ·rename_i e hu
  split at h <;> cases h
  rename_i q h1 h2
  exact ⟨_,hu,.inr ⟨rfl,e,q,rfl,h1,h2⟩⟩
 ·cases h
theorem rP {e:TypeId} {q:IntKind} (h2:P.underlying e=some (.int q)) {cs:Array Value} {off:Nat} {v:Value} (hv:cs[off]?=some v) (w:World):(part e cs off).run P w=.ok v w:=by
 simp [part,isAgg,run_underlying h2,hv]
theorem Jl {e:TypeId} {q:IntKind} (h2:P.underlying e=some (.int q)) (d:Nat) (k:IntKind) (a a':Int) (w:World):(Op.equalIn (d + 1) e (.int k a) (.int k a')).run P w=.ok (decide (a=a')) w:=by
 rw [Op.equalIn]
 simp [run_underlying h2,rM]
theorem z3 {kt e:TypeId} {q:IntKind} (h1:P.underlying kt=some (.array 2 e)) (h2:P.underlying e=some (.int q)) (h3:(P.info? e).map (·.size)=some 1) (d:Nat) (k l:IntKind) (a b a' b':Int) (w:World) :
 (Op.equalIn (d + 1 + 1) kt (.agg #[.int k a,.int l b]) (.agg #[.int k a',.int l b'])).run P w=.ok (decide (a=a'∧b=b')) w:=by
 obtain ⟨i,hi,hs⟩:=yR.1 h3
 have hz:(sizeOf e).run P w=.ok 1 w:=by simp [sizeOf,typeInfo,hi,hs]
 have p0:∀ x y:Value,(part e #[x,y] 0).run P w=.ok x w:=fun x y=>rP h2 (by simp) w
 have p1:∀ x y:Value,(part e #[x,y] 1).run P w=.ok y w:=fun x y=>rP h2 (by simp) w
 rw [Op.equalIn]
 simp only [Sem.run_bind,run_underlying h1,Result.andThen_ok,hz]
 by_cases ha:a=a' <;> by_cases hb:b=b' <;>
 simp [Std.Legacy.Range.forIn_eq_forIn_range',List.range',p0,p1,Jl h2,ha,hb]
theorem aP.two {vs:List Value} {x y:AV} (h:aP M L vs [x,y]):∃ u v,vs=[u,v]∧aW M L u x∧aW M L v y:=by
 cases h with
 | cons u x vs xs h1 h2=>obtain ⟨v,rfl,h3⟩:=h2.HO;exact ⟨u,v,rfl,h1,h3⟩
theorem aW.pair {u:Value} {k l:IntKind} {a b:Int} (h:aW M L u (.agg [.int k a,.int l b])):u=.agg #[.int k a,.int l b]:=by
 cases h with
 | agg cs xs hr=>
   obtain ⟨x,y,rfl,h1,h2⟩:=hr.two
   cases h1;cases h2
   rfl
theorem qK {k y:AV} {b:Bool} (h:dk 2 k y=some b):∃ p q i j i' j',k=.agg [.int p i,.int q j]∧y=.agg [.int p i',.int q j']∧b=decide (i=i'∧j=j'):=by
 unfold dk at h
 split at h
 ·have:(2:Nat)=0:=by assumption
  omega
 ·have:(2:Nat)=1:=by assumption
  omega
 ·split at h <;> cases h
  rename_i e
  obtain ⟨rfl,rfl⟩:=e
  exact ⟨_,_,_,_,_,_,rfl,rfl,rfl⟩
 ·cases h
def found (P:Program) (kt:TypeId) (u:Value) (ents:List MapEntry) (M:Mem) (L:List Nat) (n:Nat) (r:Option (Nat×AV)):Prop:=
 match r with
 | none=>∀ w,(Instr.findKey kt u ents).run P w=.ok none w
 | some (j,x)=>∃ v,(∀ w,(Instr.findKey kt u ents).run P w=.ok (some (j,v)) w)∧aW M L v x∧∃ en,ents[j]?=some en∧en.key=u∧en.val=v∧j < n
theorem wW {kt e:TypeId} {q:IntKind} (h1:P.underlying kt=some (.array 2 e)) (h2:P.underlying e=some (.int q)) (h3:(P.info? e).map (·.size)=some 1) {k:AV} {u:Value} (hu:aW M L u k) :
 ∀ (es:List (AV×AV)) (ents:List MapEntry) (i:Nat) (r:Option (Nat×AV)),aP M L (ents.map (·.key)) (es.map (·.1))→aP M L (ents.map (·.val)) (es.map (·.2))→eG 2 k es i=some r→
  match r with
  | none=>∀ w,(Instr.findAsking kt u ents i).run P w=.ok none w
  | some (j,x)=>i≤j∧∃ v,(∀ w,(Instr.findAsking kt u ents i).run P w=.ok (some (j,v)) w)∧aW M L v x∧∃ en,ents[j - i]?=some en∧en.key=u∧en.val=v∧j - i < es.length
 | [],ents,i,r,k1,k2,h=>by
   cases ents with
   | nil=>simp [eG] at h;subst h;exact fun w=>rfl
   | cons a b=>have:=k1.length;simp at this
 | (a,x)::es,[],i,r,k1,k2,h=>by have:=k1.length;simp at this
 | (a,x)::es,en::ents,i,r,k1,k2,h=>by
   simp only [List.map_cons] at k1 k2
   cases k1 with
   | cons _ _ _ _ hk FV=>
   cases k2 with
   | cons _ _ _ _ hv zc=>
   unfold eG at h
   split at h
   ·rename_i he
    cases h
    obtain ⟨p,q',m,n,m',n',rfl,rfl,hb⟩:=qK he
    have hd:=of_decide_eq_true hb.symm
    have e1:=hu.pair
    have e2:=hk.pair
    refine ⟨rC _,en.val,fun w=>?_,hv,en,by simp,?_,rfl,by simp⟩
    ·have:=z3 (P:=P) h1 h2 h3 9998 p q' m n m' n' w
     simp only [Instr.findAsking,e1,e2,Sem.run_bind,Op.equal,Op.maxDepth]
     rw [this]
     simp [hd]
    ·rw [e1,e2,hd.1,hd.2]
   ·rename_i he
    obtain ⟨p,q',m,n,m',n',rfl,rfl,hb⟩:=qK he
    have hd:=of_decide_eq_false hb.symm
    have e1:=hu.pair
    have e2:=hk.pair
    have jy:∀ w,(Instr.findAsking kt u (en::ents) i).run P w=(Instr.findAsking kt u ents (i + 1)).run P w:=fun w=>by
     have:=z3 (P:=P) h1 h2 h3 9998 p q' m n m' n' w
     rw [Instr.findAsking,Sem.run_bind,e1,e2,Op.equal,Op.maxDepth,this]
     simp only [Result.andThen_ok,hd,decide_false]
     rfl
    have ih:=wW h1 h2 h3 hu es ents (i + 1) r FV zc h
    cases r with
    | none=>exact fun w=>(jy w).trans (ih w)
    | some jx=>
      obtain ⟨j,y⟩:=jx
      simp only at ih ⊢
      obtain ⟨hij,v,f1,f2,en',f3,f4,f5,f6⟩:=ih
      refine ⟨by omega,v,fun w=>(jy w).trans (f1 w),f2,en',?_,f4,f5,by simp;omega⟩
      rw [show j - i=(j - (i + 1)) + 1 by omega]
      simpa using f3
   ·cases h
theorem ln {kt:TypeId} {kd:Nat} {d:TypeDesc} (K9:P.underlying kt=some d) (hd:lM kd d∨FU P kd d) {k:AV} {u:Value} (hu:aW M L u k) {es:List (AV×AV)} {ents:List MapEntry} {r:Option (Nat×AV)}
 (h1:aP M L (ents.map (·.key)) (es.map (·.1))) (h2:aP M L (ents.map (·.val)) (es.map (·.2))) (h:eG kd k es 0=some r):found P kt u ents M L es.length r:=by
 rcases hd with hd | ⟨rfl,e,q,rfl,k1,k2⟩
 ·have:=zZ hd hu es ents 0 r h1 h2 h
  cases r with
  | none=>intro w;simp only at this;simp [Instr.findKey,run_underlying K9,this]
  | some jx=>
    obtain ⟨j,x⟩:=jx
    simp only [afP] at this
    obtain ⟨_,v,f1,f2,f3⟩:=this
    exact ⟨v,fun w=>by simp [Instr.findKey,run_underlying K9,f1],f2,f3⟩
 ·have:=wW K9 k1 k2 hu es ents 0 r h1 h2 h
  have Xk:∀ en (l:List MapEntry),Instr.findNow (.array 2 e) u (en::l) 0=none:=fun en l=>rfl
  cases ents with
  | nil=>
    have Bw:es=[]:=by have:=h1.length;simpa using this.symm
    subst Bw
    simp [eG] at h;subst h
    intro w
    simp [Instr.findKey,run_underlying K9,Instr.findNow]
  | cons en l=>
    cases r with
    | none=>intro w;simp only at this;simp [Instr.findKey,run_underlying K9,Xk,this]
    | some jx=>
      obtain ⟨j,x⟩:=jx
      simp only [afP] at this
      obtain ⟨_,v,f1,f2,f3⟩:=this
      exact ⟨v,fun w=>by simp [Instr.findKey,run_underlying K9,Xk,f1],f2,f3⟩
theorem run_checkKey_plain {t:TypeId} {d:TypeDesc} {kd:Nat} (ht:P.underlying t=some d) (hd:lM kd d) (w:World) (om:Bool) (n:Nat) (v:Value) :
 (Instr.checkKey om (n + 1) t v).run P w=.ok () w:=by
 have:d=.string∨∃ k,d=.int k:=by
  unfold lM at hd
  split at hd
  ·exact .inr ⟨_,rfl⟩
  ·exact .inl rfl
  ·exact hd.elim
 rcases this with rfl | ⟨k,rfl⟩ <;> simp [Instr.checkKey,run_underlying ht]
theorem run_checkKey {t:TypeId} {d:TypeDesc} {kd:Nat} (ht:P.underlying t=some d) (hd:lM kd d∨FU P kd d) (w:World) (om:Bool) (n:Nat) {v:Value} {k y:AV} {b:Bool} (hv:aW M L v k) (hk:dk kd k y=some b) :
 (Instr.checkKey om (n + 1 + 1) t v).run P w=.ok () w:=by
 rcases hd with hd | ⟨rfl,e,q,rfl,k1,k2⟩
 ·exact run_checkKey_plain ht hd w om _ v
 ·obtain ⟨p,q',m,n',m',n2,rfl,_⟩:=qK hk
  have e1:=hv.pair
  obtain ⟨i,hi,hs⟩:=yR.1 k2
  have hz:(sizeOf e).run P w=.ok 1 w:=by simp [sizeOf,typeInfo,hi,hs]
  have p0:∀ x y:Value,(part e #[x,y] 0).run P w=.ok x w:=fun x y=>rP k1 (by simp) w
  have p1:∀ x y:Value,(part e #[x,y] 1).run P w=.ok y w:=fun x y=>rP k1 (by simp) w
  have c:∀ v,(Instr.checkKey om (n + 1) e v).run P w=.ok () w:=fun v=>run_checkKey_plain (kd:=0) k1 trivial w om n v
  rw [Instr.checkKey,e1]
  simp only [Sem.run_bind,run_underlying ht,Result.andThen_ok]
  simp [Std.Legacy.Range.forIn_eq_forIn_range',List.range',p0,p1,c,hz]
theorem Bx {kd:Nat} {k:AV} (hk:∃ b,dk kd k k=some b) {u:Value} (hu:aW M L u k) (n:Nat):Instr.sameBits (n + 1) u u=true:=by
 obtain ⟨b,hk⟩:=hk
 unfold dk at hk
 split at hk
 ·cases hu;simp [Instr.sameBits]
 ·cases hu;simp [Instr.sameBits,Bv]
 ·rw [hu.pair];simp [Instr.sameBits]
 ·cases hk
theorem qn {kd:Nat} {k y:AV} {b:Bool} (h:dk kd k y=some b):∃ b,dk kd k k=some b:=by
 unfold dk at h
 split at h
 ·exact ⟨true,by simp [dk]⟩
 ·exact ⟨true,by simp [dk]⟩
 ·exact ⟨true,by simp [dk]⟩
 ·cases h
theorem tx {kd:Nat} {k:AV}:∀ (es:List (AV×AV)) (i j:Nat) (x:AV),eG kd k es i=some (some (j,x))→∃ b,dk kd k k=some b
 | [],i,j,x,h=>by simp [eG] at h
 | (a,v)::es,i,j,x,h=>by
   unfold eG at h
   split at h
   ·rename_i he;exact qn he
   ·rename_i he;exact qn he
   ·cases h
theorem Dl (hs:St A M L w H ev ea O) {t kt et:TypeId} {kd:Nat} (ht:P.underlying t=some (.map kt et)) (hk:po P kt=some kd) {zero:AV} (hz:fX P et=some zero) {u v:Value} {m k:AV} {ok:Bool} {φ:AV→Prop}
 (h:cF kd zero m k ok H φ) (hu:aW M L u m) (hv:aW M L v k) :
 ∃ r z,(Instr.lookup t u v ok).run P w=.ok r w∧aW M L r z∧φ z∧∀ own xs,z=.al own xs→own=0:=by
 obtain ⟨d,Lg,Jk⟩:=rO hk
 have hzero:∃ zv,(zeroValue et).run P w=.ok zv w∧aW M L zv (a7 zero):=by
  unfold fX at hz
  split at hz
  ·rename_i i hi
   split at hz
   ·rename_i zv qk
    exact ⟨zv,by simp [zeroValue,typeInfo,hi,qk],(cV hz).a7⟩
   ·cases hz
  ·cases hz
 obtain ⟨zv,Dc,hzrep⟩:=hzero
 have Jm:(∃ b,dk kd k k=some b)→∀ om,(Instr.checkKey om 10000 kt v).run P w=.ok () w:=fun ⟨b,hb⟩ om=>run_checkKey (n:=9998) Lg Jk w om hv hb
 have free:∀ z own xs,(if ok then AV.tuple [a7 z,.bool false] else a7 z)=.al own xs→own=0:=by
  intro z own xs e
  cases ok
  ·simp at e;exact FK z own xs e
  ·simp at e
 unfold cF at h
 split at h
 ·obtain ⟨Jf,hφ⟩:=h
  have O0:=Jm ⟨_,Jf⟩
  cases hu
  refine ⟨if ok then .tuple #[zv,.bool false] else zv,_,?_,?_,hφ,free zero⟩
  ·have:(Instr.findKey kt v (#[]:Array MapEntry).toList).run P w=.ok none w:=by simp [Instr.findKey,run_underlying Lg,Instr.findNow]
   simp only [Instr.lookup,Sem.run_bind,run_underlying ht,Result.andThen_ok,Sem.run_pure,O0,this,Dc]
  ·cases ok
   ·simpa using hzrep
   ·simpa using aW.tuple [zv,.bool false] _ (.cons _ _ _ _ hzrep (.cons _ _ _ _ (.bool _) .nil))
 ·rename_i id
  cases hu with
  | map b _ hl=>
  split at h <;> try exact h.elim
  rename_i es bn
  obtain ⟨ents,ck,h1,h2,h3⟩:=hs.obj id _ b bn hl
  have jv:(getObj b).run P w=.ok (.map ents ck) w:=by simp [getObj,Sem.run,h1]
  split at h
  ·rename_i j x hf
   obtain ⟨y,f1,f2,_⟩:=ln Lg Jk hv (ents:=ents.toList) (by simpa using h2) (by simpa using h3) hf
   have O0:=Jm (tx _ _ _ _ hf)
   refine ⟨if ok then .tuple #[y,.bool true] else y,_,?_,?_,h,?_⟩
   ·simp only [Instr.lookup,Sem.run_bind,run_underlying ht,Result.andThen_ok,Sem.run_pure,jv,O0,f1 w]
   ·cases ok
    ·simpa using f2.drop
    ·simpa using aW.tuple [y,.bool true] _ (.cons _ _ _ _ f2.drop (.cons _ _ _ _ (.bool _) .nil))
   ·intro own xs e
    cases ok
    ·simp at e;exact AV.kq x own xs e
    ·simp at e
  ·rename_i hf
   obtain ⟨Jf,hφ⟩:=h
   have O0:=Jm ⟨_,Jf⟩
   have f1:∀ w,(Instr.findKey kt v ents.toList).run P w=.ok none w:=ln Lg Jk hv (ents:=ents.toList) (by simpa using h2) (by simpa using h3) hf
   refine ⟨if ok then .tuple #[zv,.bool false] else zv,_,?_,?_,hφ,free zero⟩
   ·simp only [Instr.lookup,Sem.run_bind,run_underlying ht,Result.andThen_ok,Sem.run_pure,jv,O0,f1 w,Dc]
   ·cases ok
    ·simpa using hzrep
    ·simpa using aW.tuple [zv,.bool false] _ (.cons _ _ _ _ hzrep (.cons _ _ _ _ (.bool _) .nil))
  ·exact h.elim
 ·exact h.elim
theorem FW (hs:St A M L w H ev ea O) (t:TypeId) :
 ∃ r L' w',(Instr.makeMap t none).run P w=.ok r w'∧aW M L' r (.map H.length)∧St A M L' w' (H++[.map []]) ev ea O∧Ext A M w M w'∧L <+: L':=by
 obtain ⟨h1,h2⟩:=hs.th (.map #[] 0) (.map []) (fun w' hw hM=>⟨#[],0,hw,.nil,.nil⟩) rfl (fun j=>rfl)
 refine ⟨_,_,_,rfl,.map _ _ ?_,h1,h2,⟨_,rfl⟩⟩
 rw [abt (by rw [hs.len];exact rC _),hs.len];simp
theorem Dm (hs:St A M L w H ev ea O) {t kt et:TypeId} {kd:Nat} (ht:P.underlying t=some (.map kt et)) (hk:po P kt=some kd) {u v y:Value} {m k x:AV} {K:List aa→Prop}
 (h:fU kd m k x H K) (hu:aW M L u m) (hv:aW M L v k) (hy:aW M L y x) :
 ∃ w' H',(Instr.mapUpdate t u v y).run P w=.ok () w'∧K H'∧St A M L w' H' ev ea O∧Ext A M w M w':=by
 obtain ⟨d,Lg,Jk⟩:=rO hk
 have Jm:(∃ b,dk kd k k=some b)→(Instr.checkKey false 10000 kt v).run P w=.ok () w:=fun ⟨b,hb⟩=>run_checkKey (n:=9998) Lg Jk w false hv hb
 unfold fU at h
 split at h <;> try exact h.elim
 rename_i id
 cases hu with
 | map b _ hl=>
 split at h <;> try exact h.elim
 rename_i es bn
 obtain ⟨pn,qm,kC,h⟩:=h
 obtain ⟨ents,ck,h1,h2,h3⟩:=hs.obj id _ b bn hl
 have hlen:ents.size=es.length:=by have:=h2.length;simpa using this
 have bX:=hs.bI id _ bn
 replace pn:=AV.cM (A.lI (aR bn)) _ pn
 replace qm:=AV.cM (A.lI (aR bn)) _ qm
 simp only [aa.bc,Ot] at bX
 have jv:(getObj b).run P w=.ok (.map ents ck) w:=by simp [getObj,Sem.run,h1]
 have gr:∀ o,(setObj b o).run P w=.ok () { w with heap:=w.heap.setIfInBounds b o }:=by intro o;simp [setObj,Sem.run,h1]
 have hcb:(a7 x).bc (A.iS H.length id)=true:=by
  have hdrop:∀ z:AV,z.bc (A.iS H.length id)=true→z.drop.bc (A.iS H.length id)=true:=by
   intro z hz;cases z <;> simp_all [AV.drop,AV.bc,aj]
  cases x <;> simp only [bw.a7] <;> first | exact hdrop _ qm | skip
  rename_i xs
  simp only [AV.bc,a9,aal] at qm ⊢
  rintro z ⟨q,hq,rfl⟩
  exact hdrop q (qm q hq)
 split at h
 ·rename_i j z hf
  obtain ⟨v0,f1,f2,en,f3,f4,f5,f6⟩:=ln Lg Jk hv (ents:=ents.toList) (by simpa using h2) (by simpa using h3) hf
  have O0:=Jm (tx _ _ _ _ hf)
  have hj:j < ents.size:=by omega
  have hen:ents[j]?=some en:=by simpa using f3
  have acu:((ents[j]?).map (·.key)).getD v=v:=by simp [hen,f4]
  have hstay:(Instr.keyThatStays v v).run P w=.ok v w:=by simp [Instr.keyThatStays,Bx (tx es 0 j z hf) hv 9999]
  have bO:(Instr.mapUpdate t (.map (some b)) v y).run P w=.ok () { w with heap:=w.heap.setIfInBounds b (.map (ents.modify j fun e=>{ e with key:=v,val:=y }) ck) }:=by
   simp only [Instr.mapUpdate,Sem.run_bind,run_underlying ht,Result.andThen_ok,jv,O0]
   simp only [f1 w,Result.andThen_ok,Sem.run_bind,acu,hstay,gr]
  have Xl:(ents.modify j fun e=>{ e with key:=v,val:=y }).toList.map (·.key)=(ents.toList.map (·.key)).set j v∧(ents.modify j fun e=>{ e with key:=v,val:=y }).toList.map (·.val)=(ents.toList.map (·.val)).set j y:=by
   constructor
   ·apply abU
    intro q
    simp only [abW,ado,ad0,ab6]
    by_cases hq:j=q
    ·subst hq;simp [hen,hj]
    ·simp [hq]
   ·apply abU
    intro q
    simp only [abW,ado,ad0,ab6]
    by_cases hq:j=q
    ·subst hq;simp [hen,hj]
    ·simp [hq]
  obtain ⟨g1,g2⟩:=hs.C5 (es':=es.set j (k,a7 x)) (o':=.map (ents.modify j fun e=>{ e with key:=v,val:=y }) ck) bn hl (by intro _ _ _ e;cases e) (fun w' hw=>⟨_,_,hw,by
   rw [Xl.1]
   have:=aP.set (by simpa using h2) hv j
   rwa [show (es.set j (k,a7 x)).map (·.1)=(es.map (·.1)).set j k by rw [adJ]],by
   rw [Xl.2]
   have:=aP.set (by simpa using h3) hy.a7 j
   rwa [show (es.set j (k,a7 x)).map (·.2)=(es.map (·.2)).set j (a7 x) by rw [adJ]]⟩) (by
   simp only [aa.bc,Ot,adJ]
   rw [a9,a9] at *
   refine ⟨fun q hq=>?_,fun q hq=>?_⟩
   ·rcases ab7 hq with h' | rfl
    ·exact bX.1 q h'
    ·exact pn
   ·rcases ab7 hq with h' | rfl
    ·exact bX.2 q h'
    ·exact hcb)
  exact ⟨_,_,bO,h,g1,g2⟩
 ·rename_i hf
  obtain ⟨Jf,hK⟩:=h
  have O0:=Jm ⟨_,Jf⟩
  have f1:∀ w,(Instr.findKey kt v ents.toList).run P w=.ok none w:=ln Lg Jk hv (ents:=ents.toList) (by simpa using h2) (by simpa using h3) hf
  have bO:(Instr.mapUpdate t (.map (some b)) v y).run P w=.ok () { w with heap:=w.heap.setIfInBounds b (.map (ents.push { key:=v,val:=y,born:=ck }) (ck + 1)) }:=by
   simp only [Instr.mapUpdate,Sem.run_bind,run_underlying ht,Result.andThen_ok,jv,O0]
   simp only [f1 w,Result.andThen_ok,gr]
  obtain ⟨g1,g2⟩:=hs.C5 (es':=es++[(k,a7 x)]) (o':=.map (ents.push { key:=v,val:=y,born:=ck }) (ck + 1)) bn hl (by intro _ _ _ e;cases e) (fun w' hw=>⟨_,_,hw,by
   simpa using h2.append (.one hv),by
   simpa using h3.append (.one hy.a7)⟩) (by
   simp only [aa.bc,Ot,ab3,List.map_cons,List.map_nil]
   exact ⟨bK.2 ⟨bX.1,by simp [aj,pn]⟩,bK.2 ⟨bX.2,by simp [aj,hcb]⟩⟩)
  exact ⟨_,_,bO,hK,g1,g2⟩
 ·exact h.elim
end
end Go.aK
end
section
namespace Go.aK
open Go
def wX (esz:Nat) (s:AV) (H:List aa):Option (Nat×List AV):=
 match s with
 | .ag=>some (0,[])
 | .al _ xs=>if xs.all (fun y=>y.cells.length == esz)=true then some (xs.length,flat xs) else none
 | .aZ id off len _=>match H[id]? with
   | some (.cells es)=>if off + len * esz≤es.length then some (len,es.drop off) else none
   | _=>none
 | _=>none
def kF (esz:Nat) (d s:AV) (H:List aa) (K:AV→List aa→Prop):Prop:=
 match d,wX esz s H with
 | .aZ id off len _,some (n,ys)=>match H[id]? with
   | some (.cells es)=>(ys.take (min n len * esz)).all AV.one=true∧off + min n len * esz≤es.length∧aj (id + 1) ((ys.take (min n len * esz)).map AV.ab)=true∧
      K (.int .i64 (min n len:Nat)) (H.set id (.cells (ah es off ((ys.take (min n len * esz)).map AV.ab))))
   | _=>False
 | _,_=>False
def iE (esz:Nat) (x:AV) (lo hi:Option AV) (φ:AV→Prop):Prop:=
 match x with
 | .aZ id off len cap=>eo hi len fun h=>eo lo 0 fun l=>l≤h∧h≤cap∧φ (.aZ id (if cap=l then off else off + l * esz) (h - l) (cap - l))
 | _=>False
def pq (esz:Nat) (x:AV) (lo hi:Option AV) (m:AV) (φ:AV→Prop):Prop:=
 match x with
 | .aZ id off len cap=>hi.isSome=true∧eo (some m) 0 fun m=>eo hi len fun h=>eo lo 0 fun l=>l≤h∧h≤m∧m≤cap∧φ (.aZ id (if m=l then off else off + l * esz) (h - l) (m - l))
 | _=>False
def bA (esz:Nat) (x:AV) (lo hi mx:Option AV) (φ:AV→Prop):Prop:=
 match x with
 | .aZ a b c d=>match mx with
   | none=>iE esz (.aZ a b c d) lo hi φ
   | some m=>pq esz (.aZ a b c d) lo hi m φ
 | _=>(∀ own xs,x=.al own xs→∀ z∈xs,z.cells.length=esz)∧fD esz x lo hi mx φ
section
variable {P:Program} {w:World} {M:Mem} {L:List Nat} {H:List aa} {A:Perm} {ev:Nat→Value} {ea:Nat→AV} {O:Pos→Option Nat}
theorem St.By (hs:St A M L w H ev ea O) {id off b:Nat} {es:List AV} (bn:H[id]?=some (.cells es)) (hl:L[id]?=some b) {cs:Array Value} {e:TypeId} (h1:w.heap[b]?=some (.cells cs e (0,0)))
 (h2:aP M L cs.toList es) {vs:List Value} {xs:List AV} (hv:aP M L vs xs) (hle:off + xs.length≤es.length) (me:aj (A.iS H.length id) (xs.map AV.ab)=true) :
 ∃ O',St A M L (w.setRow b (ah cs.toList off vs).toArray) (H.set id (.cells (ah es off (xs.map AV.ab)))) ev ea O'∧Ext A M w M (w.setRow b (ah cs.toList off vs).toArray):=by
 have rN:=hv.length
 have jL:=h2.length
 let O':Pos→Option Nat:=fun q=>match q with
  | .t t=>O (.t t)
  | .c id' j=>if id'=id∧off≤j∧j < off + xs.length then none else O (.c id' j)
 have hO:∀ q b,O' q=some b→O q=some b:=by
  intro q b hq
  cases q with
  | t t=>exact hq
  | c id' j=>
    simp only [O'] at hq
    split at hq
    ·cases hq
    ·exact hq
 have HP:off + (xs.map AV.ab).length≤es.length:=by simp;omega
 have hsv:off + vs.length≤cs.toList.length:=by omega
 exact ⟨O',hs.write (cs':=(ah cs.toList off vs).toArray) (es':=ah es off (xs.map AV.ab)) (O':=O') bn hl h1
  (by simpa using hv.dn.Bk off h2)
  (by
    have bX:=hs.bI id _ bn
    simp only [aa.bc] at bX
    unfold ah
    exact bK.2 ⟨uL bX,bK.2 ⟨me,uM bX⟩⟩)
  (wN.sub hs.cz hO) hs.env hs.iX (by
  intro j
  have e1:((ah cs.toList off vs).toArray)[j]?=(ah cs.toList off vs)[j]?:=by simp
  rw [e1,fB _ _ _ hsv,rB,fB _ _ _ HP]
  simp only [ace]
  rw [rN]
  by_cases hj:off≤j∧j < off + xs.length
  ·simp only [hj,and_self,if_true]
   have:O' (.c id j)=none:=by simp [O',hj]
   rw [this]
   refine bj.free ?_
   intro own ys hh
   rw [abW] at hh
   cases hx:xs[j - off]? with
   | none=>simp [hx] at hh
   | some y=>simp [hx] at hh;exact AV.bR y own ys hh
  ·simp only [hj,if_false]
   have:O' (.c id j)=O (.c id j):=by simp only [O'];rw [if_neg (by intro h';exact hj h'.2)]
   rw [this]
   have h0:=hs.iT id j
   have e3:bT L w id j=(cs.toList[j]?).getD undef:=by
    unfold bT;simp [hl,World.cell?,h1]
   have e4:bD H id j=(es[j]?).getD .any:=by
    unfold bD;simp [bn,rB]
   rw [e3,e4] at h0
   exact h0)
  (by intro id' j dJ;simp [O',dJ])⟩
theorem St.Lk (hs:St A M L w H ev ea O) {id off b:Nat} {es:List AV} (bn:H[id]?=some (.cells es)) (hl:L[id]?=some b) {cs:Array Value} {e:TypeId} (h1:w.heap[b]?=some (.cells cs e (0,0)))
 (h2:aP M L cs.toList es) {vs:List Value} {xs:List AV} (hv:aP M L vs xs) (hle:off + xs.length≤es.length) (me:aj (id + 1) (xs.map AV.ab)=true) :
 ∃ O',St A M L (w.setRow b (ah cs.toList off vs).toArray) (H.set id (.cells (ah es off (xs.map AV.ab)))) ev ea O'∧Ext A M w M (w.setRow b (ah cs.toList off vs).toArray):=
 hs.By bn hl h1 h2 hv hle (bE (A.lI (aR bn)) _ me)
theorem Ll (hs:St A M L w H ev ea O) {esz n m:Nat} {s:AV} {ys:List AV} {v:Value} (h:wX esz s H=some (n,ys)) (hv:aW M L v s) (hm:m≤n) :
 (Builtin.lenOf v).run P w=.ok n w∧∃ vs,(Builtin.firstCells esz m v).run P w=.ok vs.toArray w∧aP M L vs (ys.take (m * esz)):=by
 unfold wX at h
 split at h
 ·cases h
  cases hv
  have:m=0:=by omega
  subst this
  refine ⟨rfl,[],?_,by simpa using aP.nil⟩
  simp [Builtin.firstCells]
 ·rename_i own xs
  split at h <;> cases h
  rename_i iU
  have Xm:∀ y∈xs,y.cells.length=esz:=by
   intro y hy
   have:=abF.1 iU y hy
   simpa using this
  cases hv with
  | iw a c _ hc=>
    have:m=0:=by simpa using hm
    subst this
    refine ⟨rfl,[],?_,by simpa [flat] using aP.nil⟩
    cases a with
    | none=>simp [Builtin.firstCells]
    | some a=>simpa [Builtin.firstCells] using run_loadCells_list (P:=P) w a [] (by simp)
  | al b off c _ e cs _ he hx hn hle hc hr Lm=>
    have Xn:=je Lm hs.mem
    have jL:=hr.length
    have O4:(flat xs).length=xs.length * esz:=cW xs esz Xm
    have K8:=run_loadCells_list (P:=P) w ⟨b,off,none⟩ (cs.take (m * esz)) (fun j v hv=>Xn j v (by
     rw [aax] at hv
     split at hv
     ·exact hv
     ·cases hv))
    have hlen:(cs.take (m * esz)).length=m * esz:=by
     have:m * esz≤xs.length * esz:=ach _ hm
     simp;omega
    rw [hlen] at K8
    exact ⟨rfl,cs.take (m * esz),by simpa [Builtin.firstCells] using K8,hr.take _⟩
 ·rename_i id off len cap
  split at h <;> try cases h
  rename_i es bn
  split at h <;> cases h
  rename_i vM
  cases hv with
  | aZ b _ _ _ _ hl hc=>
  obtain ⟨cs,e,h1,h2,h3⟩:=fS hs bn hl
  have jL:=h2.length
  have hlen:((cs.toList.drop off).take (m * esz)).length=m * esz:=by
   have:m * esz≤n * esz:=ach _ hm
   simp at jL ⊢;omega
  have K8:=run_loadCells_list (P:=P) w ⟨b,off,none⟩ ((cs.toList.drop off).take (m * esz)) (fun j v hv=>by rw [Addr.add_lit];exact h3 _ _ (dF _ _ _ _ _ hv))
  rw [hlen] at K8
  exact ⟨rfl,(cs.toList.drop off).take (m * esz),by simpa [Builtin.firstCells] using K8,(h2.drop off).take _⟩
 ·cases h
theorem Jn (hs:St A M L w H ev ea O) {t e:TypeId} {esz:Nat} (ht:P.underlying t=some (.slice e)) (he:dX P e=some esz) {u v:Value} {d s:AV} {K:AV→List aa→Prop} (h:kF esz d s H K) (hu:aW M L u d) (hv:aW M L v s) (t' ty:TypeId) :
 ∃ r z w' H' O',(Builtin.copy_ #[t,t'] ty #[u,v]).run P w=.ok r w'∧aW M L r z∧K z H'∧St A M L w' H' ev ea O'∧Ext A M w M w'∧∀ own xs,z=.al own xs→own=0:=by
 unfold kF at h
 split at h <;> try exact h.elim
 rename_i id off len cap n ys wY
 split at h <;> try exact h.elim
 rename_i es bn
 obtain ⟨lK,hle,me,hK⟩:=h
 cases hu with
 | aZ b _ _ _ _ hl hc=>
 obtain ⟨hlen,vs,hfc,hr⟩:=Ll (P:=P) hs wY hv (aeF n len)
 obtain ⟨cs,e',h1,h2,h3⟩:=hs.obj id _ b bn hl
 have jL:=h2.length
 have rN:=hr.length
 have hyl:(ys.take (min n len * esz)).length≤min n len * esz:=by simp;omega
 have bX:=run_storeCells_at P b off e' vs 0 cs w h1 (by simp at jL ⊢;omega) (hr.iz lK)
 obtain ⟨O',g1,g2⟩:=hs.Lk (off:=off) bn hl h1 h2 hr (by omega) me
 obtain ⟨i,hi,Lf⟩:=yR.1 he
 refine ⟨.int .i64 (min n len:Nat),.int .i64 (min n len:Nat),_,_,O',?_,.int _ _,hK,g1,g2,by intro _ _ e;cases e⟩
 have TA:Nat.min n len=min n len:=rfl
 have mX:(storeCells ⟨b,off,none⟩ vs).run P w=.ok () (w.setRow b (ah cs.toList off vs).toArray):=by simpa [ah] using bX
 simp [Builtin.copy_,run_underlying ht,hlen,sizeOf,typeInfo,hi,Lf,TA,hfc,mX,goInt]
theorem Dn {t e:TypeId} {esz:Nat} (ht:P.underlying t=some (.slice e)) (he:dX P e=some esz) {u:Value} {x:AV} {lo hi:Option AV} {vlo vhi:Option Value} {φ:AV→Prop} (h:iE esz x lo hi φ) (hu:aW M L u x) (h1:jR M L lo vlo) (h2:jR M L hi vhi) :
 ∃ r z,(Instr.sliceAt t u vlo vhi none).run P w=.ok r w∧aW M L r z∧φ z∧∀ own xs,z=.al own xs→own=0:=by
 unfold iE at h
 split at h <;> try exact h.elim
 rename_i id off len cap
 cases hu with
 | aZ b _ _ _ _ hl hc=>
 obtain ⟨hh,h,Lj⟩:=dY h2 h
 obtain ⟨ll,h,vL⟩:=dY h1 h
 obtain ⟨hle,hhl,hφ⟩:=h
 obtain ⟨i,iC,Lf⟩:=yR.1 he
 have di:(sizeOf e).run P w=.ok esz w:=by simp [sizeOf,typeInfo,iC,Lf]
 refine ⟨_,_,?_,.aZ b (if cap=ll then off else off + ll * esz) (hh - ll) (cap - ll) id hl (by omega),hφ,by intro _ _ e;cases e⟩
 have hb:(Instr.sliceBounds true len cap vlo vhi none).run P w=.ok (ll,hh,cap) w:=by
  rcases Lj with ⟨_,rfl,rfl⟩ | ⟨kd,i,rfl,we,rfl⟩ <;> rcases vL with ⟨_,rfl,rfl⟩ | ⟨kd',i',rfl,vO,rfl⟩
  ·rfl
  ·have pn:=run_sliceBound (P:=P) w kd' i' hh .sliceB vO hle
   simp [Instr.sliceBounds,pn]
  ·have pn:=run_sliceBound (P:=P) w kd i cap .sliceAcap we (by omega)
   simp [Instr.sliceBounds,pn]
  ·have pn:=run_sliceBound (P:=P) w kd i cap .sliceAcap we (by omega)
   have qm:=run_sliceBound (P:=P) w kd' i' i.toNat .sliceB vO hle
   simp [Instr.sliceBounds,pn,qm]
 simp only [Instr.sliceAt,Instr.slice,Sem.run_bind,run_underlying ht,Result.andThen_ok,hb,di,Sem.run_pure]
 by_cases jL:cap=ll
 ·simp [jL]
 ·simp [jL,Addr.add_lit]
theorem Dp {t e:TypeId} {esz:Nat} (ht:P.underlying t=some (.slice e)) (he:dX P e=some esz) {u:Value} {x m:AV} {lo hi:Option AV} {vlo vhi vm:Option Value} {φ:AV→Prop} (h:pq esz x lo hi m φ) (hu:aW M L u x) (h1:jR M L lo vlo) (h2:jR M L hi vhi) (h3:jR M L (some m) vm) :
 ∃ r z,(Instr.sliceAt t u vlo vhi vm).run P w=.ok r w∧aW M L r z∧φ z∧∀ own xs,z=.al own xs→own=0:=by
 unfold pq at h
 split at h <;> try exact h.elim
 rename_i id off len cap
 cases hu with
 | aZ b _ _ _ _ hl hc=>
 obtain ⟨hsome,h⟩:=h
 obtain ⟨mm,h,WN⟩:=dY h3 h
 obtain ⟨hh,h,Lj⟩:=dY h2 h
 obtain ⟨ll,h,vL⟩:=dY h1 h
 obtain ⟨hle,hhl,hmc,hφ⟩:=h
 obtain ⟨i,iC,Lf⟩:=yR.1 he
 have di:(sizeOf e).run P w=.ok esz w:=by simp [sizeOf,typeInfo,iC,Lf]
 refine ⟨_,_,?_,.aZ b (if mm=ll then off else off + ll * esz) (hh - ll) (mm - ll) id hl (by omega),hφ,by intro _ _ e;cases e⟩
 have hb:(Instr.sliceBounds true len cap vlo vhi vm).run P w=.ok (ll,hh,mm) w:=by
  rcases WN with ⟨e0,_⟩ | ⟨kd3,i3,rfl,hi3,rfl⟩
  ·cases e0
  have Xo:=run_sliceBound (P:=P) w kd3 i3 cap .slice3Acap hi3 hmc
  rcases Lj with ⟨rfl,_,_⟩ | ⟨kd,i,rfl,we,rfl⟩
  ·cases hsome
  have pn:=run_sliceBound (P:=P) w kd i i3.toNat .slice3B we hhl
  rcases vL with ⟨_,rfl,rfl⟩ | ⟨kd',i',rfl,vO,rfl⟩
  ·simp [Instr.sliceBounds,pn,Xo]
  ·have qm:=run_sliceBound (P:=P) w kd' i' i.toNat .slice3C vO hle
   simp [Instr.sliceBounds,pn,qm,Xo]
 simp only [Instr.sliceAt,Instr.slice,Sem.run_bind,run_underlying ht,Result.andThen_ok,hb,di,Sem.run_pure]
 by_cases jL:mm=ll
 ·simp [jL]
 ·simp [jL,Addr.add_lit]
end
end Go.aK
end
section
namespace Go.aK
open Go
def chunks (esz:Nat):Nat→List AV→List AV
 | 0,_=>[]
 | n + 1,es=>(if esz=1 then (es.getD 0 .any).ab else .agg ((es.take esz).map AV.ab))::chunks esz n (es.drop esz)
def dZ (esz:Nat) (x:AV) (H:List aa) (K:AV→List aa→Prop):Prop:=
 match x with
 | .aZ id off len cap=>match H[id]? with
   | some (.cells es)=>0 < esz∧len≤cap∧off + len * esz≤es.length∧(es.drop off).all AV.one=true∧K (.al 0 (chunks esz len (es.drop off))) (H.set id .dead)
   | _=>False
 | .any=>False
 | .om=>K (.al 0 []) H
 | x=>K x.ab H
def kH (esz:Nat):List AV→List aa→(List AV→List aa→Prop)→Prop
 | [],H,K=>K [] H
 | x::r,H,K=>dZ esz x H fun y H'=>kH esz r H' fun ys H''=>K (y::ys) H''
def Bz (e id c:Nat) (H:List aa) (K:List aa→Prop):Prop:=
 match H[id]? with
 | some (.cells es)=>match es[c]? with
   | some (.aZ a1 a2 a3 a4)=>dZ e (.aZ a1 a2 a3 a4) H fun y H'=>H'[id]?=some (.cells es)∧y.bc (id + 1)=true∧K (H'.set id (.cells (es.set c y)))
   | some .ag=>K H
   | _=>False
 | _=>False
def fY (esz:Nat) (x:AV) (H:List aa) (K:AV→List aa→Prop):Prop:=
 match x with
 | .agg xs=>kH esz xs H fun ys H'=>K (.agg ys) H'
 | .ptr id off=>if 1000≤esz then Bz (esz % 1000) id (off + esz / 1000 - 1) H (K (.ptr id off)) else dZ esz (.ptr id off) H K
 | x=>dZ esz x H K
theorem z4 {x:AV} (h:x.one=true):x.cells=[x]:=by cases x <;> first | rfl | simp [AV.one] at h
theorem Jo {x:AV} (h:x.one=true):x.ab.one=true:=by cases x <;> first | rfl | exact h
theorem uO (esz:Nat) (h0:0 < esz):∀ (n:Nat) (es:List AV),n * esz≤es.length→es.all AV.one=true→
 flat (chunks esz n es)=(es.take (n * esz)).map AV.ab∧(chunks esz n es).length=n∧∀ x∈chunks esz n es,x.cells.length=esz
 | 0,es,_,_=>by simp [chunks,flat]
 | n + 1,es,hle,h1=>by
   have Xd:n * esz + esz≤es.length:=by rw [abP] at hle;omega
   obtain ⟨i1,i2,i3⟩:=uO esz h0 n (es.drop esz) (by simp;omega) (by
    rw [abF] at h1 ⊢
    exact fun x hx=>h1 x (adB hx))
   have hhead:(if esz=1 then (es.getD 0 .any).ab else AV.agg ((es.take esz).map AV.ab)).cells=(es.take esz).map AV.ab:=by
    split
    ·rename_i e
     subst e
     cases es with
     | nil=>simp at Xd
     | cons x r=>
       have hx:x.one=true:=abF.1 h1 x (by simp)
       simp [z4 (Jo hx)]
    ·rfl
   refine ⟨?_,by simp [chunks,i2],?_⟩
   ·simp only [flat] at i1
    simp only [chunks,flat,List.flatMap_cons,hhead,i1]
    rw [← ab3]
    congr 1
    rw [abP,Nat.one_mul,aeW (n * esz) esz,List.take_add]
   ·intro x hx
    simp only [chunks,aai] at hx
    rcases hx with rfl | hx
    ·rw [hhead];simp;omega
    ·exact i3 x hx
section
variable {P:Program} {w:World} {M:Mem} {L:List Nat} {H:List aa} {A:Perm} {ev:Nat→Value} {ea:Nat→AV} {O:Pos→Option Nat}
theorem St.freeze (h:St A M L w H ev ea O) {id b:Nat} {es:List AV} (bn:H[id]?=some (.cells es)) (hl:L[id]?=some b) :
 ∃ (cs:Array Value) (O':Pos→Option Nat),aP M L cs.toList es∧M.sub (M.add b cs.toList)∧(M.add b cs.toList).row b 0 cs.toList∧St A (M.add b cs.toList) L w (H.set id .dead) ev ea O'∧Ext A M w (M.add b cs.toList) w∧(∀ t,O' (.t t)=O (.t t)):=by
 obtain ⟨cs,e,h1,h2,h3⟩:=h.obj id _ b bn hl
 have zR:b∈L:=abE hl
 have gM:M.sub (M.add b cs.toList):=by
  intro b' o v hv
  have dJ:b'≠b:=by
   rintro rfl
   rw [h3] at hv;cases hv
  simp [Mem.add,dJ,hv]
 have hM:∀ b',b'≠b→∀ o,(M.add b cs.toList) b' o=M b' o:=fun b' hb o=>by simp [Mem.add,hb]
 let O':Pos→Option Nat:=fun p=>match p with | .t t=>O (.t t) | .c id' j=>if id'=id then none else O (.c id' j)
 have hO:∀ q b,O' q=some b→O q=some b:=by
  intro q b hq
  cases q with
  | t t=>exact hq
  | c id' j=>
    simp only [O'] at hq
    split at hq
    ·cases hq
    ·exact hq
 have hOb:∀ q b',O q=some b'→b'≠b:=fun q b' hq e=>h.cG q b' hq (e ▸ zR)
 refine ⟨cs,O',h2,gM,?_,?_,?_,fun t=>rfl⟩
 ·intro j v hv
  simpa [Mem.add] using hv
 ·exact { len:=by simp [h.len],nodup:=h.nodup,env:=fun t=>(h.env t).mono gM (aav _)
          mem:=by
           intro b' o v hv
           by_cases e0:b'=b
           ·subst e0
            simp only [Mem.add,if_true] at hv
            simpa [World.cell?,h1] using hv
           ·rw [hM b' e0] at hv
            exact h.mem b' o v hv
          obj:=by
           intro id' o b' ho ey
           rw [ab6] at ho
           split at ho
           ·split at ho <;> cases ho
            trivial
           ·rename_i dJ
            refine (h.obj id' o b' ho ey).mono gM (aav _) rfl (hM b' ?_)
            rintro rfl
            exact dJ ((acM (aR hl) h.nodup).1 (hl.trans ey.symm))
          bI:=by
           intro id' o ho
           rw [acd]
           rw [ab6] at ho
           split at ho
           ·split at ho <;> cases ho
            rfl
           ·exact h.bI id' o ho
          lt:=h.lt
          iX:=fun t=>(h.iX t).mono fun b' ey=>⟨rfl,hM b' (hOb _ b' ey)⟩
          iT:=by
           intro id' j
           by_cases e0:id'=id
           ·subst e0
            have:bD (H.set id' .dead) id' j=.any:=by
             unfold bD
             rw [ab6]
             simp
            rw [this]
            simp [O',bj]
           ·have e1:bD (H.set id .dead) id' j=bD H id' j:=by
             unfold bD
             rw [ab6,if_neg (Ne.symm e0)]
            rw [e1]
            have:O' (.c id' j)=O (.c id' j):=by simp [O',e0]
            rw [this]
            exact (h.iT id' j).mono fun b' ey=>⟨rfl,hM b' (hOb _ b' ey)⟩
          cz:=fun p q b hp hq=>h.cz p q b (hO p b hp) (hO q b hq)
          cG:=fun p b hp=>h.cG p b (hO p b hp)
          fP:=fun p b hp=>h.fP p b (hO p b hp)
          La:=h.La
          Oa:=fun p b hp=>h.Oa p b (hO p b hp)
          fresh:=h.fresh }
 ·exact ⟨gM,rC _,rfl,rfl,rfl,fun b' _ hA=>⟨rfl,hM b' (fun e=>hA (e ▸ h.La b zR))⟩,fun k r hk=>⟨r,hk,rfl⟩⟩
theorem mY (hs:St A M L w H ev ea O) {esz:Nat} {u:Value} {x:AV} {K:AV→List aa→Prop} (h:dZ esz x H K) (hu:aW M L u x) :
 ∃ z M' H' O',aW M' L u z∧K z H'∧St A M' L w H' ev ea O'∧Ext A M w M' w∧∀ own xs,z=.al own xs→own=0:=by
 unfold dZ at h
 split at h
 ·rename_i id off len cap
  split at h <;> try exact h.elim
  rename_i es bn
  obtain ⟨h0,cp,hle,h1,hK⟩:=h
  cases hu with
  | aZ b _ _ _ _ hl hc=>
  obtain ⟨cs,O',k1,k2,k3,k4,k5,_⟩:=hs.freeze bn hl
  obtain ⟨c1,c2,c3⟩:=uO esz h0 len (es.drop off) (by simp;omega) h1
  refine ⟨_,_,_,O',?_,hK,k4,k5,by intro own xs e;cases e;rfl⟩
  have jL:=k1.length
  by_cases hz:len=0
  ·subst hz
   simp only [chunks]
   exact .iw _ _ _ hc
  ·have hr:aP (M.add b cs.toList) L ((cs.toList.drop off).take (len * esz)) (flat (chunks esz len (es.drop off))):=by
    rw [c1]
    exact (((k1.drop off).take _).dn).mono k2 (aav _)
   have Lm:(M.add b cs.toList).row b off ((cs.toList.drop off).take (len * esz)):=by
    intro j v hv
    have:=k3 (off + j) v (dF _ _ _ _ _ hv)
    simpa using this
   have:=aW.al (M:=M.add b cs.toList) (L:=L) b off cap 0 esz _ (chunks esz len (es.drop off)) h0 c3 (by omega) (by omega) hc hr Lm
   rw [c2] at this
   exact this
 ·exact h.elim
 ·cases hu
  exact ⟨_,M,H,O,.iw _ 0 0 (by decide),h,hs,Ext.refl A M w,by intro _ _ e;cases e;rfl⟩
 ·rename_i ahO TB
  refine ⟨_,M,H,O,hu.ab,h,hs,Ext.refl A M w,AV.bR x⟩
theorem wZ {esz:Nat}:∀ {xs:List AV} {us:List Value} {M:Mem} {H:List aa} {O:Pos→Option Nat} {K:List AV→List aa→Prop},St A M L w H ev ea O→kH esz xs H K→aP M L us xs→
 ∃ zs M' H' O',aP M' L us zs∧K zs H'∧St A M' L w H' ev ea O'∧Ext A M w M' w
 | [],us,M,H,O,K,hs,h,hu=>⟨[],M,H,O,hu,h,hs,Ext.refl A M w⟩
 | x::r,us,M,H,O,K,hs,h,hu=>by
   cases hu with
   | cons u _ us _ h1 h2=>
   obtain ⟨z,M1,H1,O1,k1,k2,k3,k4,_⟩:=mY hs h h1
   obtain ⟨zs,M2,H2,O2,g1,g2,g3,g4⟩:=wZ k3 k2 (h2.mono k4.mc (aav L))
   exact ⟨z::zs,M2,H2,O2,.cons _ _ _ _ (k1.mono g4.mc (aav L)) g1,g2,g3,k4.trans g4⟩
theorem setRow_self {b:Nat} {cs:Array Value} {e:TypeId} {f:Nat×Nat} (h:w.heap[b]?=some (.cells cs e f)):w.setRow b cs=w:=by
 have:(w.setRow b cs).heap=w.heap:=by
  apply Array.ext
  ·simp [World.setRow]
  ·intro i h1 h2
   simp only [World.setRow,afO]
   split
   ·rename_i e0
    subst e0
    obtain ⟨_,h'⟩:=abS.1 h
    rw [h']
   ·rfl
 show ({ w with heap:=(w.setRow b cs).heap }:World)=w
 rw [this]
theorem Ln (hs:St A M L w H ev ea O) {e id c:Nat} {K:List aa→Prop} (h:Bz e id c H K) :
 ∃ M' H' O',K H'∧St A M' L w H' ev ea O'∧Ext A M w M' w:=by
 unfold Bz at h
 split at h <;> try exact h.elim
 rename_i es bn
 split at h <;> try exact h.elim
 rotate_left
 ·exact ⟨M,H,O,h,hs,.refl A M w⟩
 rename_i a1 a2 a3 a4 hc
 have hb:∃ b,L[id]?=some b:=by
  have:=aR bn
  rw [← hs.len] at this
  exact ⟨L[id],by simp [this]⟩
 obtain ⟨b,hl⟩:=hb
 obtain ⟨cs,ty,k1,k2,k3⟩:=hs.obj id _ b bn hl
 obtain ⟨u,hu,hru⟩:=k2.get c _ hc
 obtain ⟨y,M',H1,O1,g1,⟨g2,g3,g4⟩,g5,g6,g7⟩:=mY hs h hru
 obtain ⟨cs',ty',m1,m2,m3⟩:=g5.obj id _ b g2 hl
 rw [k1] at m1;cases m1
 have bX:=g5.bI id _ g2
 have jL:c < es.length:=aR hc
 have gr:cs.toList.set c u=cs.toList:=by
  apply abU
  intro j
  rw [ab6]
  split
  ·rename_i e0;subst e0
   have:c < cs.toList.length:=aR hu
   rw [if_pos this,hu]
  ·rfl
 have oq:=m2.set g1 c
 rw [gr] at oq
 have hcv:∀ j,bT L w id j=(cs[j]?).getD undef:=by
  intro j
  unfold bT
  rw [hl]
  simp [World.cell?,k1]
 have hO:O1 (.c id c)=none:=by
  have:=g5.iT id c
  have e1:bD H1 id c=.aZ a1 a2 a3 a4:=by
   unfold bD
   rw [g2]
   simp [rB,hc]
  rw [e1] at this
  exact this
 obtain ⟨q1,q2⟩:=g5.write (es':=es.set c y) (cs':=cs) (ea':=ea) (O':=O1) g2 hl k1 oq (by
  simp only [aa.bc] at bX
  rw [a9] at bX ⊢
  intro z hz
  rcases ab7 hz with h' | rfl
  ·exact bX z h'
  ·exact AV.cM (A.lI (aR g2)) _ g3) ⟨fun p q b hp hq=>g5.cz p q b hp hq,fun p b hp=>⟨p,hp⟩⟩ g5.env g5.iX (fun j=>by
  by_cases e0:j=c
  ·subst e0
   rw [hO]
   have:(es.set j y).getD j .any=y:=by rw [rB,yS jL];rfl
   rw [this]
   exact bj.free g7
  ·have:=g5.iT id j
   rw [hcv j] at this
   have e1:bD H1 id j=es.getD j .any:=by unfold bD;rw [g2]
   rw [e1] at this
   rwa [rB,yQ (fun e=>e0 e.symm),← rB]) (fun _ _ _=>rfl)
 rw [setRow_self k1] at q1 q2
 exact ⟨M',_,O1,g4,q1,g6.trans q2⟩
theorem tA (hs:St A M L w H ev ea O) {esz:Nat} {u:Value} {x:AV} {K:AV→List aa→Prop} (h:fY esz x H K) (hu:aW M L u x) :
 ∃ z M' H' O',aW M' L u z∧K z H'∧St A M' L w H' ev ea O'∧Ext A M w M' w∧∀ own xs,z=.al own xs→own=0:=by
 unfold fY at h
 split at h
 ·cases hu with
  | agg cs xs hr=>
  obtain ⟨zs,M',H',O',g1,g2,g3,g4⟩:=wZ hs h hr
  exact ⟨.agg zs,M',H',O',.agg _ _ g1,g2,g3,g4,by intro own xs e;cases e⟩
 ·rename_i id off
  split at h
  ·obtain ⟨M',H',O',g1,g2,g3⟩:=Ln hs h
   exact ⟨.ptr id off,M',H',O',hu.mono g3.mc (aav L),g1,g2,g3,by intro own xs e;cases e⟩
  ·exact mY hs h hu
 ·exact mY hs h hu
end
end Go.aK
end
