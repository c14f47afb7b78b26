/- Part 1 of 17 of the proof. -/
import Derived.WalkKit
import Derived.Laws.AppendOwn
import Derived.Laws.Cells
import Derived.Deep.Quiet
import Derived.RowKit
import Derived.RangeFuncLeaves
import Derived.RangeFuncRecord
import Derived.OrdersIn
import Derived.Laws.Strings
import Derived.Laws.Entries
import Derived.Laws.CopyRow
import Derived.Great.BuildSlice
import Derived.Laws.BytesArg
set_option linter.unusedVariables false
set_option linter.unusedSimpArgs false
set_option linter.defProp false
set_option linter.unusedSectionVars false
namespace Go
theorem agK {α:Sort _} {a:α}:a=a:=_root_.id rfl
def hV:=@And.intro
def sT:=@List.getD_eq_getElem?_getD
def sU:=@Nat.le_refl
def zA:=@List.getElem?_append_left
def zB:=@Bool.and_eq_true
def zC:=@List.getElem?_set_ne
def zD:=@List.getElem?_set_self
def zF:=@Option.map_eq_some_iff
def OU:=@List.mem_cons
def Ue:=@List.take_of_length_le
def aad:=@Int.toNat_natCast
def aaf:=@List.getElem?_eq_getElem
def aaz:=@List.length_append
def aaH:=@List.getElem?_eq_some_iff
def aaL:=@List.prefix_refl
def aaR:=@List.mem_map
def aa4:=@List.mem_singleton
def aa6:=@List.mem_cons_of_mem
def aa7:=@List.getElem?_take
def aa9:=@List.drop_of_length_le
def aba:=@List.drop_eq_getElem_cons
def abb:=@List.append_assoc
def abc:=@List.take_append_of_le_length
def abn:=@List.mem_cons_self
def abo:=@List.all_eq_true
def abp:=@Bool.not_eq_true'
def abu:=@List.getElem?_append_right
def aby:=@List.take_length
def abJ:=@List.mem_of_getElem?
def abO:=@List.not_mem_nil
def ab7:=@List.mem_append
def acu:=@List.take_set_of_le
def acv:=@Bool.false_eq_true
def acw:=@Array.getD_eq_getD_getElem?
def acx:=@Bool.or_eq_false_iff
def acy:=@List.length_eq_zero_iff
def acz:=@List.mem_range
def acA:=@List.append_nil
def acB:=@List.getElem?_eq_none
def acC:=@Nat.zero_add
def acD:=@List.count_pos_iff
def acE:=@Nat.add_mul
def acF:=@Array.getElem?_eq_some_iff
def acG:=@List.ext_getElem?
def acH:=@List.mem_or_eq_of_mem_set
def acI:=@List.length_set
def acJ:=@List.length_take
def acK:=@List.eq_of_mem_replicate
def acL:=@List.map_append
def acM:=@List.getElem?_set
def acN:=@Nat.le_trans
def acO:=@List.mem_filter
def acP:=@List.take_succ_eq_append_getElem
def acQ:=@List.getElem?_map
def acR:=@List.length_replicate
def acS:=@Bool.and_eq_false_iff
def acT:=@List.map_congr_left
def acU:=@Nat.le_mul_of_pos_right
def acV:=@ByteArray.toList_eq
def acW:=@Int.eq_ofNat_of_zero_le
def acX:=@Bool.and_true
def acY:=@Bool.or_eq_true
def acZ:=@List.getElem_of_mem
def ac0:=@Bool.and_self
def ac1:=@List.length_map
def ac2:=@List.mem_of_mem_take
def ac3:=@Nat.mul_le_mul_right
def ac4:=@Nat.zero_le
def ac5:=@Bool.eq_false_iff
def ac6:=@Bool.eq_iff_iff
def ac7:=@List.any_eq_false
def ac8:=@List.drop_append
def ac9:=@List.set_append_right
def ada:=@List.map_map
def adb:=@List.getElem?_inj
def ade:=@List.take_add_one
def adf:=@Nat.add_assoc
def adl:=@List.eq_nil_of_length_eq_zero
def adm:=@List.drop_append_of_le_length
def adn:=@Array.getElem?_setIfInBounds
def adr:=@List.getElem_mem
def ads:=@List.map_toArray
def ady:=@Nat.lt_of_lt_of_le
def adz:=@Array.getElem?_toList
def adE:=@List.take_append_drop
def adF:=@Nat.lt_irrefl
def adG:=@Nat.mul_one
def adI:=@List.take_left
def adJ:=@List.mem_flatMap
def adK:=@List.map_set
def adL:=@List.set_set
def adN:=@List.flatMap_append
def adO:=@List.map_eq_nil_iff
def adS:=@List.length_pos_iff
def ad7:=@List.eraseIdx_eq_take_drop_succ
def ad9:=@Bool.true_and
def aef:=@List.take_set
def aeg:=@List.getElem?_drop
def aen:=@List.range_succ
def aep:=@List.count_append
def aeq:=@List.all_eq_false
def aet:=@Array.getElem?_modify
def aey:=@Nat.add_zero
def aez:=@Array.getElem_push_lt
def aeF:=@Nat.le_of_ble_eq_true
def aeG:=@List.drop_left
def aeH:=@List.take_take
def aeS:=@List.mem_iff_getElem?
def aeT:=@List.getElem?_append
def aeU:=@List.take_append
def aeW:=@List.mem_of_mem_drop
def aeX:=@List.set_append_left
def aeZ:=@List.ext_getElem
def ae0:=@List.countP_cons
def afb:=@Array.length_toList
def afk:=@List.replicate_succ
def afq:=@Array.getElem?_eq_getElem
def afu:=@Nat.min_le_left
def afv:=@Nat.lt_or_ge
def afw:=@Nat.sub_self
def afG:=@Bool.not_not
def afL:=@Nat.zero_mul
def afM:=@Nat.add_comm
def afZ:=@Array.getElem?_replicate
def af0:=@List.set_cons_zero
def af5:=@Nat.lt_trichotomy
def af9:=@List.drop_eq_nil_of_le
def aga:=@List.set_eq_take_append_cons_drop
def agj:=@List.any_cons
def agl:=@List.length_drop
def ago:=@List.flatMap_nil
def agq:=@List.any_eq_true
def agr:=@List.countP_le_length
def ags:=@List.replicate_append_replicate
def agt:=@Array.toArray_toList
def agu:=@Array.getElem_modify
def agv:=@Nat.sub_zero
def agw:=@List.mem_append_left
def agx:=@List.all_append
def agy:=@Array.toList_append
def agz:=@List.mem_map_of_mem
def agA:=@Bool.false_and
def agB:=@List.drop_drop
def agC:=@Array.foldl_toList
def agD:=@List.set_cons_succ
def agE:=@Option.isSome_none
def agG:=@Option.isSome_some
def agH:=@Int.emod_eq_of_lt
def agI:=@List.reverse_cons
def agJ:=@Nat.mod_lt
end Go
section
namespace Go.aK
open Go
inductive AV where
 | any
 | bool (b:Bool)
 | int (k:IntKind) (n:Int)
 | str (s:ByteArray)
 | ag
 | ak (own:Nat) (xs:List AV)
 | ba (id off len cap:Nat)
 | agg (xs:List AV)
 | tuple (xs:List AV)
 | ptr (id off:Nat)
 | ah (x:AV)
 | s5
 | map (id:Nat)
 | jE
 | fn (f:Fn) (first captured:List AV)
 | gn
 | iface (t:TypeId) (x:AV)
 | yK
 | oC (id:Nat)
 | pW
 deriving Inhabited
def AV.cells:AV→List AV
 | .agg xs=>xs
 | x=>[x]
def flat (xs:List AV):List AV:=xs.flatMap AV.cells
abbrev Mem:=Nat→Nat→Option Value
def Mem.sub (M M':Mem):Prop:=∀ b o v,M b o=some v→M' b o=some v
theorem Mem.bX (M:Mem):M.sub M:=fun _ _ _ h=>h
theorem Mem.Jh {M1 M2 M3:Mem} (h:M1.sub M2) (k:M2.sub M3):M1.sub M3:=fun b o v hv=>k b o v (h b o v hv)
def Mem.row (M:Mem) (b o:Nat) (cs:List Value):Prop:=∀ j v,cs[j]?=some v→M b (o + j)=some v
mutual
inductive aX (M:Mem) (L:List Nat):Value→AV→Prop
 | any (v:Value):aX M L v .any
 | bool (b:Bool):aX M L (.bool b) (.bool b)
 | int (k:IntKind) (n:Int):aX M L (.int k n) (.int k n)
 | str (s:ByteArray):aX M L (.string s) (.str s)
 | ag:aX M L (.slice none 0 0) .ag
 | ig (a:Option Addr) (c own:Nat) (hc:c < 9223372036854775808):aX M L (.slice a 0 c) (.ak own [])
 | ak (b off c own e:Nat) (cs:List Value) (xs:List AV) (he:0 < e) (hx:∀ x∈xs,x.cells.length=e) (hn:0 < xs.length) (hle:xs.length≤c) (hc:c < 9223372036854775808)
    (hr:aM M L cs (flat xs)) (hm:M.row b off cs):aX M L (.slice (some ⟨b,off,none⟩) xs.length c) (.ak own xs)
 | ba (b off len cap id:Nat) (hl:L[id]?=some b) (hc:cap < 9223372036854775808):aX M L (.slice (some ⟨b,off,none⟩) len cap) (.ba id off len cap)
 | agg (cs:List Value) (xs:List AV) (hr:aM M L cs xs):aX M L (.agg cs.toArray) (.agg xs)
 | tuple (cs:List Value) (xs:List AV) (hr:aM M L cs xs):aX M L (.tuple cs.toArray) (.tuple xs)
 | ptr (b off id:Nat) (hl:L[id]?=some b):aX M L (.pointer (some ⟨b,off,none⟩)) (.ptr id off)
 | ah (b off:Nat) (cs:List Value) (x:AV) (hr:aM M L cs x.cells) (hm:M.row b off cs):aX M L (.pointer (some ⟨b,off,none⟩)) (.ah x)
 | s5:aX M L (.pointer none) .s5
 | map (b id:Nat) (hl:L[id]?=some b):aX M L (.map (some b)) (.map id)
 | jE:aX M L (.map none) .jE
 | fn (f:Fn) (fs cs:List Value) (xs ys:List AV) (h1:aM M L fs xs) (h2:aM M L cs ys):aX M L (.func f fs.toArray cs.toArray) (.fn f xs ys)
 | gn:aX M L .nilFunc .gn
 | iface (t:TypeId) (v:Value) (x:AV) (h:aX M L v x):aX M L (.iface t v) (.iface t x)
 | yK:aX M L .nilIface .yK
 | oC (b id:Nat) (hl:L[id]?=some b):aX M L (.func (.yield b) #[] #[]) (.oC id)
 | pW (a:Option Addr):aX M L (.slice a 0 0) .pW
inductive aM (M:Mem) (L:List Nat):List Value→List AV→Prop
 | nil:aM M L [] []
 | cons (v:Value) (x:AV) (vs:List Value) (xs:List AV) (h:aX M L v x) (t:aM M L vs xs):aM M L (v::vs) (x::xs)
end
theorem gM {L L':List Nat} (h:L <+: L') {id b:Nat} (hb:L[id]?=some b):L'[id]?=some b:=by
 obtain ⟨r,rfl⟩:=h
 rw [zA]
 ·exact hb
 ·exact (aaH.1 hb).1
theorem Mem.row.mono {M M':Mem} (hs:M.sub M') {b o:Nat} {cs:List Value} (h:M.row b o cs):M'.row b o cs:=fun j v hv=>hs _ _ _ (h j v hv)
mutual
theorem aX.mono {M M':Mem} {L L':List Nat} (hs:M.sub M') (hL:L <+: L'):∀ {v:Value} {x:AV},aX M L v x→aX M' L' v x
 | _,_,.any v=>.any v
 | _,_,.bool b=>.bool b
 | _,_,.int k n=>.int k n
 | _,_,.str s=>.str s
 | _,_,.ag=>.ag
 | _,_,.ig a c o h=>.ig a c o h
 | _,_,.ak b off c own e cs xs he hx hn hle hc hr hm=>.ak b off c own e cs xs he hx hn hle hc (hr.mono hs hL) (hm.mono hs)
 | _,_,.ba b off len cap id hl hc=>.ba b off len cap id (gM hL hl) hc
 | _,_,.agg cs xs hr=>.agg cs xs (hr.mono hs hL)
 | _,_,.tuple cs xs hr=>.tuple cs xs (hr.mono hs hL)
 | _,_,.ptr b off id hl=>.ptr b off id (gM hL hl)
 | _,_,.ah b off cs x hr hm=>.ah b off cs x (hr.mono hs hL) (hm.mono hs)
 | _,_,.s5=>.s5
 | _,_,.map b id hl=>.map b id (gM hL hl)
 | _,_,.jE=>.jE
 | _,_,.fn f fs cs xs ys h1 h2=>.fn f fs cs xs ys (h1.mono hs hL) (h2.mono hs hL)
 | _,_,.gn=>.gn
 | _,_,.iface t v x h=>.iface t v x (h.mono hs hL)
 | _,_,.yK=>.yK
 | _,_,.oC b id hl=>.oC b id (gM hL hl)
 | _,_,.pW a=>.pW a
theorem aM.mono {M M':Mem} {L L':List Nat} (hs:M.sub M') (hL:L <+: L'):∀ {vs:List Value} {xs:List AV},aM M L vs xs→aM M' L' vs xs
 | _,_,.nil=>.nil
 | _,_,.cons v x vs xs h t=>.cons v x vs xs (h.mono hs hL) (t.mono hs hL)
end
section
variable {M:Mem} {L:List Nat}
theorem aM.length:∀ {vs:List Value} {xs:List AV},aM M L vs xs→vs.length=xs.length
 | _,_,.nil=>rfl
 | _,_,.cons _ _ _ _ _ t=>by simp [t.length]
theorem aM.get:∀ {vs:List Value} {xs:List AV},aM M L vs xs→∀ (j:Nat) (x:AV),xs[j]?=some x→∃ v,vs[j]?=some v∧aX M L v x
 | _,_,.nil,j,x,h=>by simp at h
 | _,_,.cons v y vs xs h t,0,x,hx=>by simp at hx;subst hx;exact ⟨v,by simp,h⟩
 | _,_,.cons v y vs xs h t,j + 1,x,hx=>by
   obtain ⟨u,hu,hr⟩:=t.get j x (by simpa using hx)
   exact ⟨u,by simpa using hu,hr⟩
theorem aM.append:∀ {vs:List Value} {xs:List AV},aM M L vs xs→∀ {us:List Value} {ys:List AV},aM M L us ys→aM M L (vs++us) (xs++ys)
 | _,_,.nil,_,_,h2=>h2
 | _,_,.cons v x vs xs h t,_,_,h2=>.cons v x _ _ h (t.append h2)
theorem aM.take:∀ {vs:List Value} {xs:List AV},aM M L vs xs→∀ n,aM M L (vs.take n) (xs.take n)
 | _,_,.nil,n=>by simp;exact .nil
 | _,_,.cons v x vs xs h t,0=>.nil
 | _,_,.cons v x vs xs h t,n + 1=>.cons v x _ _ h (t.take n)
theorem aM.drop:∀ {vs:List Value} {xs:List AV},aM M L vs xs→∀ n,aM M L (vs.drop n) (xs.drop n)
 | _,_,.nil,n=>by simp;exact .nil
 | _,_,.cons v x vs xs h t,0=>.cons v x _ _ h t
 | _,_,.cons v x vs xs h t,n + 1=>t.drop n
theorem aM.set:∀ {vs:List Value} {xs:List AV},aM M L vs xs→∀ {u:Value} {y:AV},aX M L u y→∀ n,aM M L (vs.set n u) (xs.set n y)
 | _,_,.nil,_,_,_,n=>by simp;exact .nil
 | _,_,.cons v x vs xs h t,u,y,hu,0=>.cons u y _ _ hu t
 | _,_,.cons v x vs xs h t,u,y,hu,n + 1=>.cons v x _ _ h (t.set hu n)
theorem aM.Bc:∀ {vs:List Value} {xs:List AV},vs.length=xs.length→(∀ (j:Nat) (x:AV),xs[j]?=some x→∃ v,vs[j]?=some v∧aX M L v x)→aM M L vs xs
 | [],[],_,_=>.nil
 | [],_::_,h,_=>by simp at h
 | _::_,[],h,_=>by simp at h
 | v::vs,x::xs,h,H=>by
   obtain ⟨u,hu,hr⟩:=H 0 x rfl
   simp at hu;subst hu
   exact .cons v x vs xs hr (.Bc (by simpa using h) (fun j y hy=>by obtain ⟨u,hu,hr⟩:=H (j + 1) y (by simpa using hy);exact ⟨u,by simpa using hu,hr⟩))
theorem aM.one {v:Value} {x:AV} (h:aX M L v x):aM M L [v] [x]:=.cons _ _ _ _ h .nil
theorem aM.HU {vs:List Value} {x:AV} (h:aM M L vs [x]):∃ v,vs=[v]∧aX M L v x:=by
 cases h with
 | cons v x vs xs h t=>cases t with | nil=>exact ⟨v,rfl,h⟩
theorem aM.getD {vs:List Value} {xs:List AV} (h:aM M L vs xs) (j:Nat):aX M L (vs.getD j undef) (xs.getD j .any):=by
 rcases afv j xs.length with hj | hj
 ·obtain ⟨v,hv,hr⟩:=h.get j xs[j] (by simp [hj])
  rw [sT,sT,hv]
  simpa [hj] using hr
 ·rw [sT,sT,acB hj]
  exact .any _
end
def AV.ab:AV→AV
 | .ak _ xs=>.ak 0 xs
 | x=>x
def AV.drop:AV→AV
 | .ak _ xs=>.ak 0 xs
 | .ag=>.ak 0 []
 | x=>x
theorem aX.FT {M:Mem} {L:List Nat} {v:Value} {o o':Nat} {xs:List AV} (h:aX M L v (.ak o xs)):aX M L v (.ak o' xs):=by
 cases h with
 | ig a c _ hc=>exact .ig a c o' hc
 | ak b off c _ e cs _ he hx hn hle hc hr hm=>exact .ak b off c o' e cs xs he hx hn hle hc hr hm
theorem aX.ab {M:Mem} {L:List Nat} {v:Value} {x:AV} (h:aX M L v x):aX M L v x.ab:=by
 cases x <;> first | exact h | exact h.FT
theorem aX.drop {M:Mem} {L:List Nat} {v:Value} {x:AV} (h:aX M L v x):aX M L v x.drop:=by
 cases x <;> first | exact h | exact h.FT | (cases h;exact .ig _ _ _ (by decide))
theorem aM.map_drop {M:Mem} {L:List Nat}:∀ {vs:List Value} {xs:List AV},aM M L vs xs→aM M L vs (xs.map AV.drop)
 | _,_,.nil=>.nil
 | _,_,.cons v x vs xs h t=>.cons v _ _ _ h.drop t.map_drop
def AV.one:AV→Bool
 | .any=>false
 | .agg _=>false
 | .tuple _=>false
 | _=>true
theorem aX.ij {M:Mem} {L:List Nat} {v:Value} {x:AV} (h:aX M L v x) (h1:x.one=true):v.oneCell'=true:=by
 cases h <;> first | rfl | simp [AV.one] at h1
theorem aM.ij {M:Mem} {L:List Nat}:∀ {vs:List Value} {xs:List AV},aM M L vs xs→xs.all AV.one=true→∀ v∈vs,v.oneCell'=true
 | _,_,.nil,_,v,hv=>by simp at hv
 | _,_,.cons u x vs xs h t,h1,v,hv=>by
   simp only [List.all_cons,zB] at h1
   rcases OU.1 hv with rfl | hv
   ·exact h.ij h1.1
   ·exact t.ij h1.2 v hv
mutual
def AV.aW (n:Nat):AV→Bool
 | .ba id _ _ _=>id < n
 | .ptr id _=>id < n
 | .map id=>id < n
 | .oC id=>id < n
 | .ak _ xs=>aj n xs
 | .agg xs=>aj n xs
 | .tuple xs=>aj n xs
 | .ah x=>x.aW n
 | .fn _ xs ys=>aj n xs && aj n ys
 | .iface _ x=>x.aW n
 | _=>true
def aj (n:Nat):List AV→Bool
 | []=>true
 | x::xs=>x.aW n && aj n xs
end
theorem bc (n:Nat):∀ xs:List AV,aj n xs=true↔∀ x∈xs,x.aW n=true
 | []=>by simp [aj]
 | x::xs=>by simp [aj,bc n xs]
theorem kZ {L:List Nat} {id n b:Nat} (h:L[id]?=some b) (hn:id < n):(L.take n)[id]?=some b:=by
 rw [aa7];simp [hn,h]
theorem cH {n:Nat} {x:AV} (h:x.aW n=true):aj n x.cells=true:=by
 cases x <;> simp_all [AV.cells,AV.aW,aj]
theorem uv {n:Nat}:∀ {xs:List AV},aj n xs=true→aj n (flat xs)=true
 | [],_=>rfl
 | x::xs,h=>by
   simp only [aj,zB] at h
   have h1:=cH h.1
   have h2:=uv h.2
   rw [bc] at *
   intro y hy
   simp only [flat,List.flatMap_cons,ab7] at hy
   rcases hy with hy | hy
   ·exact h1 y hy
   ·exact h2 y hy
mutual
theorem aX.gW {M:Mem} {L:List Nat} {n:Nat}:∀ {v:Value} {x:AV},aX M L v x→x.aW n=true→aX M (L.take n) v x
 | _,_,.any v,_=>.any v
 | _,_,.bool b,_=>.bool b
 | _,_,.int k n,_=>.int k n
 | _,_,.str s,_=>.str s
 | _,_,.ag,_=>.ag
 | _,_,.ig a c o h,_=>.ig a c o h
 | _,_,.ak b off c own e cs xs he hx hn hle hc hr hm,h=>.ak b off c own e cs xs he hx hn hle hc (hr.gW (uv (by simpa [AV.aW] using h))) hm
 | _,_,.ba b off len cap id hl hc,h=>.ba b off len cap id (kZ hl (by simpa [AV.aW] using h)) hc
 | _,_,.agg cs xs hr,h=>.agg cs xs (hr.gW (by simpa [AV.aW] using h))
 | _,_,.tuple cs xs hr,h=>.tuple cs xs (hr.gW (by simpa [AV.aW] using h))
 | _,_,.ptr b off id hl,h=>.ptr b off id (kZ hl (by simpa [AV.aW] using h))
 | _,_,.ah b off cs x hr hm,h=>.ah b off cs x (hr.gW (cH (by simpa [AV.aW] using h))) hm
 | _,_,.s5,_=>.s5
 | _,_,.map b id hl,h=>.map b id (kZ hl (by simpa [AV.aW] using h))
 | _,_,.jE,_=>.jE
 | _,_,.fn f fs cs xs ys h1 h2,h=>by
   simp only [AV.aW,zB] at h
   exact .fn f fs cs xs ys (h1.gW h.1) (h2.gW h.2)
 | _,_,.gn,_=>.gn
 | _,_,.iface t v x h,hb=>.iface t v x (h.gW (by simpa [AV.aW] using hb))
 | _,_,.yK,_=>.yK
 | _,_,.oC b id hl,h=>.oC b id (kZ hl (by simpa [AV.aW] using h))
 | _,_,.pW a,_=>.pW a
theorem aM.gW {M:Mem} {L:List Nat} {n:Nat}:∀ {vs:List Value} {xs:List AV},aM M L vs xs→aj n xs=true→aM M (L.take n) vs xs
 | _,_,.nil,_=>.nil
 | _,_,.cons v x vs xs h t,hb=>by
   simp only [aj,zB] at hb
   exact .cons v x vs xs (h.gW hb.1) (t.gW hb.2)
end
theorem aO {α:Type} {L:List α} {id:Nat} {b:α} (h:L[id]?=some b):id < L.length:=(aaH.1 h).1
mutual
theorem AV.cI {m k:Nat} (h:m≤k):∀ (x:AV),x.aW m=true→x.aW k=true
 | .any,_=>rfl
 | .bool _,_=>rfl
 | .int _ _,_=>rfl
 | .str _,_=>rfl
 | .ag,_=>rfl
 | .ak _ xs,hb=>by simp only [AV.aW] at hb ⊢;exact bK h xs hb
 | .ba _ _ _ _,hb=>by simp only [AV.aW,decide_eq_true_eq] at hb ⊢;omega
 | .agg xs,hb=>by simp only [AV.aW] at hb ⊢;exact bK h xs hb
 | .tuple xs,hb=>by simp only [AV.aW] at hb ⊢;exact bK h xs hb
 | .ptr _ _,hb=>by simp only [AV.aW,decide_eq_true_eq] at hb ⊢;omega
 | .ah x,hb=>by simp only [AV.aW] at hb ⊢;exact AV.cI h x hb
 | .s5,_=>rfl
 | .map _,hb=>by simp only [AV.aW,decide_eq_true_eq] at hb ⊢;omega
 | .jE,_=>rfl
 | .fn _ xs ys,hb=>by
   simp only [AV.aW,zB] at hb ⊢
   exact ⟨bK h xs hb.1,bK h ys hb.2⟩
 | .gn,_=>rfl
 | .iface _ x,hb=>by simp only [AV.aW] at hb ⊢;exact AV.cI h x hb
 | .yK,_=>rfl
 | .oC _,hb=>by simp only [AV.aW,decide_eq_true_eq] at hb ⊢;omega
 | .pW,_=>rfl
theorem bK {m k:Nat} (h:m≤k):∀ (xs:List AV),aj m xs=true→aj k xs=true
 | [],_=>rfl
 | x::xs,hb=>by
   simp only [aj,zB] at hb ⊢
   exact ⟨AV.cI h x hb.1,bK h xs hb.2⟩
end
abbrev C9:=List (Nat×Nat×Nat)
abbrev nW:=List (Nat×List Nat)
inductive yL where
 | done
 | take (i:Nat) (st:Bool) (r:yL)
 | br (i:Nat) (t rest:yL)
 | nil
 deriving Inhabited
abbrev nX:=List (Nat×yL)
structure jm where
 n:Nat
 ps:List Nat
 as:Code
 bd:Code
 an:C9
 lv:nW
 pl:nX
inductive XB where
 | ready
 | busy
 | jump (c:Code)
 | fe
def XB.ok (st:XB) (r:Loop):Prop:=
 match st with
 | .ready=>r.state=.ready∧r.pending=none
 | .busy=>r.state=.busy
 | .jump c=>r.state=.done∧r.pending=some c
 | .fe=>True
inductive aa where
 | dead
 | cells (es:List AV)
 | map (es:List (AV×AV))
 | Lj (s:ByteArray) (pos:Nat)
 | loop (st:XB) (lc:jm) (es:List AV)
 deriving Inhabited
def aa.aW (n:Nat):aa→Bool
 | .cells es=>aj n es
 | .map es=>aj n (es.map (·.1)) && aj n (es.map (·.2))
 | .loop _ _ es=>aj n es
 | _=>true
theorem aa.cI {m k:Nat} (h:m≤k) (o:aa) (ho:o.aW m=true):o.aW k=true:=by
 cases o <;> simp only [aa.aW,zB] at ho ⊢
 ·exact bK h _ ho
 ·exact ⟨bK h _ ho.1,bK h _ ho.2⟩
 ·exact bK h _ ho
def Bd (M:Mem) (L:List Nat) (w:World) (b:Nat):aa→Prop
 | .dead=>True
 | .cells es=>∃ cs e,w.heap[b]?=some (.cells cs e (0,0))∧aM M L cs.toList es∧∀ o,M b o=none
 | .map es=>∃ ents ck,w.heap[b]?=some (.map ents ck)∧aM M L (ents.toList.map (·.key)) (es.map (·.1))∧aM M L (ents.toList.map (·.val)) (es.map (·.2))
 | .Lj s pos=>w.heap[b]?=some (.stringIter s pos)
 | .loop st lc es=>∃ r,w.heap[b]?=some (.loop r)∧r.params=lc.ps.toArray∧r.assign=lc.as∧r.body=lc.bd∧aM M L r.tmps.toList es∧st.ok r
theorem Bd.mono {M M':Mem} {L L':List Nat} {w w':World} {b:Nat} {o:aa} (h:Bd M L w b o) (hs:M.sub M') (hL:L <+: L')
 (hw:w'.heap[b]?=w.heap[b]?) (hM:∀ o,M' b o=M b o):Bd M' L' w' b o:=by
 cases o with
 | dead=>trivial
 | cells es=>
   obtain ⟨cs,e,h1,h2,h3⟩:=h
   exact ⟨cs,e,hw.trans h1,h2.mono hs hL,fun o=>(hM o).trans (h3 o)⟩
 | map es=>
   obtain ⟨ents,ck,h1,h2,h3⟩:=h
   exact ⟨ents,ck,hw.trans h1,h2.mono hs hL,h3.mono hs hL⟩
 | Lj s pos=>exact hw.trans h
 | loop st lc es=>
   obtain ⟨r,h1,h2,h3,h4,h5,h6⟩:=h
   exact ⟨r,hw.trans h1,h2,h3,h4,h5.mono hs hL,h6⟩
theorem Bd.gW {M:Mem} {L:List Nat} {w:World} {b n:Nat} {o:aa} (h:Bd M L w b o) (hb:o.aW n=true):Bd M (L.take n) w b o:=by
 cases o with
 | dead=>trivial
 | cells es=>
   obtain ⟨cs,e,h1,h2,h3⟩:=h
   exact ⟨cs,e,h1,h2.gW (by simpa [aa.aW] using hb),h3⟩
 | map es=>
   obtain ⟨ents,ck,h1,h2,h3⟩:=h
   simp only [aa.aW,zB] at hb
   exact ⟨ents,ck,h1,h2.gW hb.1,h3.gW hb.2⟩
 | Lj s pos=>exact h
 | loop st lc es=>
   obtain ⟨r,h1,h2,h3,h4,h5,h6⟩:=h
   exact ⟨r,h1,h2,h3,h4,h5.gW (by simpa [aa.aW] using hb),h6⟩
inductive Pos where
 | t (i:Nat)
 | c (id j:Nat)
 deriving DecidableEq
def Pm (fr:Nat×Nat) (n:Nat):Prop:=∀ j,j < n→¬ (fr.1≤j∧j < fr.2)
theorem pq (n:Nat):Pm (0,0) n:=fun j _ h=>by simp at h
def bi (M:Mem) (w:World) (v:Value) (x:AV) (ob:Option Nat):Prop:=
 match x with
 | .ak own xs=>if own=0 then ob=none else
    (∀ y∈xs,y.cells.length=own)∧((ob=none∧∃ a n,v=.slice a n n)∨
    ∃ b off n c cs e fr,ob=some b∧v=.slice (some ⟨b,off,none⟩) n c∧w.heap[b]?=some (.cells cs e fr)∧Pm fr cs.size∧off + c * own≤cs.size∧∀ k,n * own≤k→k < c * own→M b (off + k)=none)
 | _=>ob=none
theorem bi.mono {M M':Mem} {w w':World} {v:Value} {x:AV} {ob:Option Nat} (h:bi M w v x ob)
 (hw:∀ b,ob=some b→w'.heap[b]?=w.heap[b]?∧∀ o,M' b o=M b o):bi M' w' v x ob:=by
 cases x <;> first | exact h | skip
 rename_i own xs
 unfold bi at *
 simp only at *
 split
 ·rename_i h0;simp only [h0,if_true] at h;exact h
 ·rename_i h0
  simp only [h0,if_false] at h
  refine ⟨h.1,?_⟩
  rcases h.2 with h | ⟨b,off,n,c,cs,e,fr,h1,h2,h3,h4,h5,h6⟩
  ·exact .inl h
  ·obtain ⟨hb,hm⟩:=hw b h1
   exact .inr ⟨b,off,n,c,cs,e,fr,h1,h2,hb.trans h3,h4,h5,fun k hk Uf=>(hm _).trans (h6 k hk Uf)⟩
def bR (L:List Nat) (w:World) (id j:Nat):Value:=
 match L[id]? with
 | some b=>(w.cell? ⟨b,j,none⟩).getD undef
 | none=>undef
def bB (H:List aa) (id j:Nat):AV:=
 match H[id]? with
 | some (.cells es)=>es.getD j .any
 | _=>.any
structure Perm where
 wr:Nat→Prop
 top:Nat→Option Nat
 ok:∀ id n,top id=some n→id < n
 base:Nat:=0
instance:CoeFun Perm fun _=>Nat→Prop:=⟨Perm.wr⟩
def Perm.kh (A:Perm) (len id:Nat):Nat:=match A.top id with | some n=>min n len | none=>len
theorem Perm.wI (A:Perm) (len id:Nat):A.kh len id≤len:=by unfold Perm.kh;split <;> omega
theorem Perm.mP (A:Perm) {len id:Nat} (h:id < len):id + 1≤A.kh len id:=by
 unfold Perm.kh
 split
 ·rename_i n hn;have:=A.ok _ _ hn;omega
 ·omega
theorem Perm.Da (A:Perm) {len len':Nat} (h:len≤len') (id:Nat):A.kh len id≤A.kh len' id:=by unfold Perm.kh;split <;> omega
theorem Perm.Pn (A:Perm) (len:Nat):A.kh (len + 1) len=len + 1:=by
 have h1:=A.mP (len:=len + 1) (id:=len) (by omega)
 have h2:=A.wI (len + 1) len
 omega
structure St (A:Perm) (M:Mem) (L:List Nat) (w:World) (H:List aa) (ev:Nat→Value) (ea:Nat→AV) (O:Pos→Option Nat):Prop where
 len:L.length=H.length
 nodup:L.Nodup
 env:∀ t,aX M L (ev t) (ea t)
 mem:∀ b o v,M b o=some v→w.cell? ⟨b,o,none⟩=some v
 obj:∀ (id:Nat) (o:aa) (b:Nat),H[id]?=some o→L[id]?=some b→Bd M L w b o
 bG:∀ (id:Nat) (o:aa),H[id]?=some o→o.aW (A.kh H.length id)=true
 lt:∀ b∈L,b < w.heap.size
 iQ:∀ t,bi M w (ev t) (ea t) (O (.t t))
 iL:∀ id j,bi M w (bR L w id j) (bB H id j) (O (.c id j))
 ct:∀ p q b,O p=some b→O q=some b→p=q
 cD:∀ p b,O p=some b→b∉L
 fQ:∀ p b,O p=some b→b < w.heap.size
 La:∀ b∈L,A b
 Oa:∀ p b,O p=some b→A b
 fresh:∀ b,w.heap.size≤b→A b
structure Ext (A:Perm) (M:Mem) (w:World) (M':Mem) (w':World):Prop where
 lZ:M.sub M'
 size:w.heap.size≤w'.heap.size
 os:w'.os=w.os
 tape:w'.tape=w.tape
 output:w'.output=w.output
 lF:∀ b,b < w.heap.size→¬ A b→w'.heap[b]?=w.heap[b]?∧∀ o,M' b o=M b o
 loops:∀ (b:Nat) (r:Loop),w.heap[b]?=some (.loop r)→∃ r',w'.heap[b]?=some (.loop r')∧r'.defers=r.defers
theorem Ext.refl (A:Perm) (M:Mem) (w:World):Ext A M w M w:=⟨Mem.bX M,sU _,rfl,rfl,rfl,fun _ _ _=>⟨rfl,fun _=>rfl⟩,fun b r h=>⟨r,h,rfl⟩⟩
theorem Ext.trans {A:Perm} {M M1 M2:Mem} {w w1 w2:World} (h:Ext A M w M1 w1) (k:Ext A M1 w1 M2 w2):Ext A M w M2 w2:=
 ⟨Mem.Jh h.lZ k.lZ,acN h.size k.size,k.os.trans h.os,k.tape.trans h.tape,k.output.trans h.output,fun b hb hA=>by
   obtain ⟨h1,h2⟩:=h.lF b hb hA
   obtain ⟨k1,k2⟩:=k.lF b (ady hb h.size) hA
   exact ⟨k1.trans h1,fun o=>(k2 o).trans (h2 o)⟩,fun b r hr=>by
   obtain ⟨r1,h1,e1⟩:=h.loops b r hr
   obtain ⟨r2,h2,e2⟩:=k.loops b r1 h1
   exact ⟨r2,h2,e2.trans e1⟩⟩
end Go.aK
end
section
namespace Go.aK
open Go
def fZ {α:Type} (f:Nat→α) (d:Nat) (v:α):Nat→α:=fun t=>if t=d then v else f t
def eM (O:Pos→Option Nat) (p:Pos) (ob:Option Nat):Pos→Option Nat:=fun q=>if q=p then ob else O q
theorem Lk {α:Type} (f:Nat→α) (d:Nat) (v:α):fZ f d v d=v:=by simp [fZ]
section
variable {A:Perm} {M:Mem} {L:List Nat} {w:World} {H:List aa} {ev:Nat→Value} {ea:Nat→AV} {O:Pos→Option Nat}
theorem St.put (h:St A M L w H ev ea O) (d:Nat) {v:Value} {x:AV} (hr:aX M L v x) (ob:Option Nat) (hs:bi M w v x ob)
 (h1:∀ p b,ob=some b→O p=some b→p=.t d) (h2:∀ b,ob=some b→b∉L∧b < w.heap.size∧A b) :
 St A M L w H (fZ ev d v) (fZ ea d x) (eM O (.t d) ob) where
 len:=h.len
 nodup:=h.nodup
 env t:=by
  by_cases e:t=d
  ·subst e;simpa [fZ] using hr
  ·simpa [fZ,e] using h.env t
 mem:=h.mem
 obj:=h.obj
 bG:=h.bG
 lt:=h.lt
 iQ t:=by
  by_cases e:t=d
  ·subst e;simpa [fZ,eM] using hs
  ·simpa [fZ,eM,e] using h.iQ t
 iL id j:=by simpa [eM] using h.iL id j
 ct p q b hp hq:=by
  simp only [eM] at hp hq
  split at hp <;> split at hq
  ·simp_all
  ·rename_i e1 e2;exact absurd (h1 q b hp hq) e2
  ·rename_i e1 e2;exact absurd (h1 p b hq hp) e1
  ·exact h.ct p q b hp hq
 cD p b hp:=by
  simp only [eM] at hp
  split at hp
  ·exact (h2 b hp).1
  ·exact h.cD p b hp
 fQ p b hp:=by
  simp only [eM] at hp
  split at hp
  ·exact (h2 b hp).2.1
  ·exact h.fQ p b hp
 La:=h.La
 Oa p b hp:=by
  simp only [eM] at hp
  split at hp
  ·exact (h2 b hp).2.2
  ·exact h.Oa p b hp
 fresh:=h.fresh
theorem bi.free {v:Value} {x:AV} (hx:∀ own xs,x=.ak own xs→own=0):bi M w v x none:=by
 cases x <;> first | rfl | skip
 rename_i own xs
 have:=hx own xs rfl
 simp [bi,this]
theorem AV.bQ (x:AV):∀ own xs,x.ab=.ak own xs→own=0:=by
 intro own xs h
 cases x <;> simp_all [AV.ab]
theorem AV.kj (x:AV):∀ own xs,x.drop=.ak own xs→own=0:=by
 intro own xs h
 cases x <;> simp_all [AV.drop]
theorem St.pX (h:St A M L w H ev ea O) (d:Nat) {v:Value} {x:AV} (hr:aX M L v x) (hx:∀ own xs,x=.ak own xs→own=0) :
 St A M L w H (fZ ev d v) (fZ ea d x) (eM O (.t d) none):=
 h.put d hr none (bi.free hx) (fun p b e=>by cases e) (fun b e=>by cases e)
theorem St.congr (h:St A M L w H ev ea O) {ev':Nat→Value} {ea':Nat→AV} (h1:∀ t,ev' t=ev t) (h2:∀ t,ea' t=ea t):St A M L w H ev' ea' O:=by
 rw [show ev'=ev from funext h1,show ea'=ea from funext h2];exact h
theorem St.grow (h:St A M L w H ev ea O) {M':Mem} {w':World} (hs:M.sub M') (jF:∀ b o v,M' b o=some v→w'.cell? ⟨b,o,none⟩=some v)
 (dm:w.heap.size≤w'.heap.size) (hw:∀ b,b < w.heap.size→w'.heap[b]?=w.heap[b]?) (hM:∀ b,b < w.heap.size→∀ o,M' b o=M b o):St A M' L w' H ev ea O where
 len:=h.len
 nodup:=h.nodup
 env t:=(h.env t).mono hs (aaL _)
 mem:=jF
 obj id o b ho hb:=by
  have aG:=h.lt b (abJ hb)
  exact (h.obj id o b ho hb).mono hs (aaL _) (hw b aG) (hM b aG)
 bG:=h.bG
 lt b hb:=ady (h.lt b hb) dm
 iQ t:=(h.iQ t).mono fun b hb=>⟨hw b (h.fQ _ b hb),hM b (h.fQ _ b hb)⟩
 iL id j:=by
  have e:bR L w' id j=bR L w id j:=by
   unfold bR
   split
   ·rename_i b hb
    have aG:=h.lt b (abJ hb)
    simp [World.cell?,hw b aG]
   ·rfl
  rw [e]
  exact (h.iL id j).mono fun b hb=>⟨hw b (h.fQ _ b hb),hM b (h.fQ _ b hb)⟩
 ct:=h.ct
 cD:=h.cD
 fQ p b hp:=ady (h.fQ p b hp) dm
 La:=h.La
 Oa:=h.Oa
 fresh b hb:=h.fresh b (acN dm hb)
theorem Ext.grow {M':Mem} {w':World} (hs:M.sub M') (dm:w.heap.size≤w'.heap.size) (hos:w'.os=w.os) (htape:w'.tape=w.tape) (Ll:w'.output=w.output)
 (hw:∀ b,b < w.heap.size→w'.heap[b]?=w.heap[b]?) (hM:∀ b,b < w.heap.size→∀ o,M' b o=M b o):Ext A M w M' w':=
 ⟨hs,dm,hos,htape,Ll,fun b hb _=>⟨hw b hb,hM b hb⟩,fun b r h=>⟨r,(hw b (acF.1 h).1).trans h,rfl⟩⟩
theorem St.drew (h:St A M L w H ev ea O):St A M L { w with drawn:=w.drawn + 1 } H ev ea O:=
 h.grow (Mem.bX M) (fun b o v hv=>h.mem b o v hv) (sU _) (fun _ _=>rfl) (fun _ _ _=>rfl)
theorem Ext.drew:Ext A M w M { w with drawn:=w.drawn + 1 }:=Ext.grow (Mem.bX M) (sU _) rfl rfl rfl (fun _ _=>rfl) (fun _ _ _=>rfl)
theorem pr (h:St A M L w H ev ea O) {b:Nat} (hb:w.heap.size≤b) (o:Nat):M b o=none:=by
 cases hm:M b o with
 | none=>rfl
 | some v=>
   have:=h.mem b o v hm
   simp [World.cell?,Array.getElem?_eq_none hb] at this
def Mem.add (M:Mem) (b:Nat) (cs:List Value):Mem:=fun b' o=>if b'=b then cs[o]? else M b' o
theorem eN (w:World) (o:Obj) {b:Nat} (hb:b < w.heap.size):(w.heap.push o)[b]?=w.heap[b]?:=by
 rw [Array.getElem?_push,if_neg (by omega)]
theorem dT (w:World) (o:Obj):(w.heap.push o)[w.heap.size]?=some o:=by simp
theorem St.ry (h:St A M L w H ev ea O) (cs:Array Value) (e:TypeId) (fr:Nat×Nat) (rw:List Value) (hrw:∀ (j:Nat) (v:Value),rw[j]?=some v→cs[j]?=some v) :
 St A (M.add w.heap.size rw) L { w with heap:=w.heap.push (.cells cs e fr) } H ev ea O∧Ext A M w (M.add w.heap.size rw) { w with heap:=w.heap.push (.cells cs e fr) }∧
 (M.add w.heap.size rw).row w.heap.size 0 rw:=by
 have gh:M.sub (M.add w.heap.size rw):=by
  intro b o v hv
  have eS:b≠w.heap.size:=by
   rintro rfl
   rw [pr h (sU _)] at hv;cases hv
  simp [Mem.add,eS,hv]
 have hM:∀ b,b < w.heap.size→∀ o,(M.add w.heap.size rw) b o=M b o:=fun b hb o=>by simp [Mem.add,show b≠w.heap.size by omega]
 refine ⟨h.grow gh ?_ (by simp) (fun b hb=>eN w _ hb) hM,Ext.grow gh (by simp) rfl rfl rfl (fun b hb=>eN w _ hb) hM,?_⟩
 ·intro b o v hv
  by_cases e0:b=w.heap.size
  ·subst e0
   simp only [Mem.add,if_true] at hv
   simp only [World.cell?,dT]
   simpa using hrw o v hv
  ·simp only [Mem.add,e0,if_false] at hv
   have:=h.mem b o v hv
   have aG:b < w.heap.size:=by
    rcases afv b w.heap.size with h' | h'
    ·exact h'
    ·rw [pr h h'] at hv;cases hv
   simp only [World.cell?] at this ⊢
   rw [eN w _ aG];exact this
 ·intro j v hv
  simpa [Mem.add] using hv
theorem St.FU (h:St A M L w H ev ea O) (cs:Array Value) (e:TypeId) :
 St A (M.add w.heap.size cs.toList) L { w with heap:=w.heap.push (.cells cs e) } H ev ea O∧Ext A M w (M.add w.heap.size cs.toList) { w with heap:=w.heap.push (.cells cs e) }∧
 (M.add w.heap.size cs.toList).row w.heap.size 0 cs.toList:=
 h.ry cs e (0,0) cs.toList (fun j v hv=>by simpa using hv)
def Be (ob:Obj) (j:Nat):Value:=match ob with | .cells cs _ _=>(cs[j]?).getD undef | _=>undef
def oD (ao:aa) (j:Nat):AV:=match ao with | .cells es=>es.getD j .any | _=>.any
theorem St.s6 (h:St A M L w H ev ea O) (ob:Obj) (ao:aa) (Ug:∀ w',w'.heap[w.heap.size]?=some ob→(∀ o,M w.heap.size o=none)→Bd M (L++[w.heap.size]) w' w.heap.size ao)
 (hb:ao.aW (H.length + 1)=true) (OV:∀ j,bi M w (Be ob j) (oD ao j) none) :
 St A M (L++[w.heap.size]) { w with heap:=w.heap.push ob } (H++[ao]) ev ea O∧Ext A M w M { w with heap:=w.heap.push ob }:=by
 have mQ:L <+: L++[w.heap.size]:=⟨_,rfl⟩
 have hO:∀ j,O (.c H.length j)=none:=by
  intro j
  have:=h.iL H.length j
  simp only [bB,acB (sU _)] at this
  exact this
 have hkeep:∀ b,b < w.heap.size→(w.heap.push ob)[b]?=w.heap[b]?:=fun b hb=>eN w _ hb
 refine ⟨?_,Ext.grow (Mem.bX M) (by simp) rfl rfl rfl hkeep (fun _ _ _=>rfl)⟩
 refine { len:=by simp [h.len],nodup:=?_,env:=fun t=>(h.env t).mono (Mem.bX M) mQ,mem:=?_,obj:=?_,bG:=?_,lt:=?_,iQ:=?_,iL:=?_,ct:=h.ct,cD:=?_,fQ:=?_,La:=?_,Oa:=h.Oa,fresh:=?_ }
 ·rw [List.nodup_append]
  refine ⟨h.nodup,by simp,?_⟩
  intro a ha b dZ
  simp at dZ
  subst dZ
  exact Nat.ne_of_lt (h.lt a ha)
 ·intro b o v hv
  have:=h.mem b o v hv
  have aG:b < w.heap.size:=by
   rcases afv b w.heap.size with h' | h'
   ·exact h'
   ·rw [pr h h'] at hv;cases hv
  simp only [World.cell?] at this ⊢
  rw [hkeep b aG];exact this
 ·intro id o b ho dZ
  by_cases e:id < H.length
  ·rw [zA e] at ho
   rw [zA (by rw [h.len];exact e)] at dZ
   exact (h.obj id o b ho dZ).mono (Mem.bX M) mQ (hkeep b (h.lt b (abJ dZ))) (fun _=>rfl)
  ·rw [abu (by omega)] at ho
   rw [abu (by rw [h.len];omega)] at dZ
   have e0:id - H.length=0:=by
    have:=(aaH.1 ho).1
    simp at this;omega
   rw [e0] at ho
   rw [h.len,e0] at dZ
   simp at ho dZ
   subst ho;subst dZ
   exact Ug _ (dT w ob) (fun o=>pr h (sU _) o)
 ·intro id o ho
  rw [aaz,List.length_singleton]
  by_cases e:id < H.length
  ·rw [zA e] at ho
   exact aa.cI (A.Da (Nat.le_succ _) id) o (h.bG id o ho)
  ·rw [abu (by omega)] at ho
   have e0:id - H.length=0:=by
    have:=(aaH.1 ho).1
    simp at this;omega
   rw [e0] at ho
   simp at ho
   subst ho
   rw [show id=H.length by omega,A.Pn];exact hb
 ·intro b dZ
  simp at dZ ⊢
  rcases dZ with dZ | rfl
  ·have:=h.lt b dZ;omega
  ·omega
 ·intro t
  exact (h.iQ t).mono fun b dZ=>⟨hkeep b (h.fQ _ b dZ),fun _=>rfl⟩
 ·intro id j
  by_cases e:id < H.length
  ·have e1:bR (L++[w.heap.size]) { w with heap:=w.heap.push ob } id j=bR L w id j:=by
    unfold bR
    rw [zA (by rw [h.len];exact e)]
    split
    ·rename_i b dZ
     simp only [World.cell?]
     rw [hkeep b (h.lt b (abJ dZ))]
    ·rfl
   have e2:bB (H++[ao]) id j=bB H id j:=by
    unfold bB
    rw [zA e]
   rw [e1,e2]
   exact (h.iL id j).mono fun b dZ=>⟨hkeep b (h.fQ _ b dZ),fun _=>rfl⟩
  ·by_cases e0:id=H.length
   ·subst e0
    rw [hO j]
    have e1:bR (L++[w.heap.size]) { w with heap:=w.heap.push ob } H.length j=Be ob j:=by
     unfold bR
     rw [abu (by rw [h.len];omega),h.len]
     simp only [afw,List.getElem?_cons_zero,World.cell?,dT]
     cases ob <;> simp [Be]
    have e2:bB (H++[ao]) H.length j=oD ao j:=by
     unfold bB
     rw [abu (sU _)]
     simp only [afw,List.getElem?_cons_zero]
     cases ao <;> rfl
    rw [e1,e2]
    exact (OV j).mono fun b dZ=>by cases dZ
   ·have hn:O (.c id j)=none:=by
     have:=h.iL id j
     simp only [bB,acB (show H.length≤id by omega)] at this
     exact this
    rw [hn]
    have e2:bB (H++[ao]) id j=.any:=by
     unfold bB
     rw [acB (by simp;omega)]
    rw [e2];rfl
 ·intro p b hp jF
  simp at jF
  rcases jF with jF | rfl
  ·exact h.cD p b hp jF
  ·exact absurd (h.fQ p _ hp) (adF _)
 ·intro p b hp
  have:=h.fQ p b hp
  simp;omega
 ·intro b dZ
  simp at dZ
  rcases dZ with dZ | rfl
  ·exact h.La b dZ
  ·exact h.fresh _ (sU _)
 ·intro b dZ
  simp at dZ
  exact h.fresh b (by omega)
structure wJ (O O':Pos→Option Nat):Prop where
 inj:∀ p q b,O' p=some b→O' q=some b→p=q
 SU:∀ p b,O' p=some b→∃ q,O q=some b
theorem St.write (h:St A M L w H ev ea O) {id b:Nat} {es es':List AV} {cs cs':Array Value} {e:TypeId} {ea':Nat→AV} {O':Pos→Option Nat} (bu:H[id]?=some (.cells es)) (hL:L[id]?=some b)
 (hc:w.heap[b]?=some (.cells cs e (0,0))) (hr:aM M L cs'.toList es') (pv:aj (A.kh H.length id) es'=true) (hm:wJ O O') (FV:∀ t,aX M L (ev t) (ea' t))
 (iQ:∀ t,bi M w (ev t) (ea' t) (O' (.t t))) (iL:∀ j,bi M w ((cs'[j]?).getD undef) (es'.getD j .any) (O' (.c id j))) (spo:∀ id' j,id'≠id→O' (.c id' j)=O (.c id' j)) :
 St A M L (w.setRow b cs') (H.set id (.cells es')) ev ea' O'∧Ext A M w M (w.setRow b cs'):=by
 have zG:b∈L:=abJ hL
 have dm:(w.setRow b cs').heap.size=w.heap.size:=by simp [World.setRow]
 have gN:∀ k,k≠b→(w.setRow b cs').heap[k]?=w.heap[k]?:=by
  intro k hk
  simp only [World.setRow,aet]
  rw [if_neg (fun e=>hk e.symm)]
 have og:(w.setRow b cs').heap[b]?=some (.cells cs' e (0,0)):=by
  simp only [World.setRow,aet,if_true,hc,Option.map_some]
 obtain ⟨_,_,_,_,XC⟩:=h.obj id _ b bu hL
 have rA:id < H.length:=aO bu
 have howns:∀ p k,O' p=some k→(w.setRow b cs').heap[k]?=w.heap[k]?:=by
  intro p k hp
  obtain ⟨q,hq⟩:=hm.SU p k hp
  exact gN k (fun e0=>h.cD q k hq (e0 ▸ zG))
 refine ⟨{ len:=by simp [h.len],nodup:=h.nodup,env:=FV,mem:=?_,obj:=?_,bG:=?_,lt:=?_,iQ:=?_,iL:=?_,ct:=hm.inj,cD:=?_,fQ:=?_,La:=h.La,Oa:=?_,fresh:=?_ },?_⟩
 ·intro k o v hv
  have hk:k≠b:=by rintro rfl;rw [XC o] at hv;cases hv
  have:=h.mem k o v hv
  simp only [World.cell?] at this ⊢
  rw [gN k hk];exact this
 ·intro id' o k ho hk
  by_cases e0:id'=id
  ·subst e0
   rw [hL] at hk;cases hk
   rw [zD rA] at ho
   cases ho
   exact ⟨cs',e,og,hr,XC⟩
  ·rw [zC (fun h'=>e0 h'.symm)] at ho
   have FG:k≠b:=by
    rintro rfl
    exact e0 ((adb (aO hk) h.nodup).1 (hk.trans hL.symm))
   exact (h.obj id' o k ho hk).mono (Mem.bX M) (aaL _) (gN k FG) (fun _=>rfl)
 ·intro id' o ho
  rw [acI]
  by_cases e0:id'=id
  ·subst e0
   rw [zD rA] at ho
   cases ho
   simpa [aa.aW] using pv
  ·rw [zC (fun h'=>e0 h'.symm)] at ho
   exact h.bG id' o ho
 ·intro k hk;rw [dm];exact h.lt k hk
 ·intro t
  exact (iQ t).mono fun k hk=>⟨howns _ k hk,fun _=>rfl⟩
 ·intro id' j
  by_cases e0:id'=id
  ·subst e0
   have e1:bR L (w.setRow b cs') id' j=(cs'[j]?).getD undef:=by
    unfold bR
    simp only [hL,World.cell?,og]
    simp
   have e2:bB (H.set id' (.cells es')) id' j=es'.getD j .any:=by
    unfold bB
    rw [zD rA]
   rw [e1,e2]
   exact (iL j).mono fun k hk=>⟨howns _ k hk,fun _=>rfl⟩
  ·have e1:bR L (w.setRow b cs') id' j=bR L w id' j:=by
    unfold bR
    split
    ·rename_i k hk
     have FG:k≠b:=by
      rintro rfl
      exact e0 ((adb (aO hk) h.nodup).1 (hk.trans hL.symm))
     simp only [World.cell?]
     rw [gN k FG]
    ·rfl
   have e2:bB (H.set id (.cells es')) id' j=bB H id' j:=by
    unfold bB
    rw [zC (fun h'=>e0 h'.symm)]
   rw [e1,e2,spo id' j e0]
   exact (h.iL id' j).mono fun k hk=>⟨gN k (fun e3=>h.cD _ k hk (e3 ▸ zG)),fun _=>rfl⟩
 ·intro p k hp
  obtain ⟨q,hq⟩:=hm.SU p k hp
  exact h.cD q k hq
 ·intro p k hp
  obtain ⟨q,hq⟩:=hm.SU p k hp
  rw [dm];exact h.fQ q k hq
 ·intro p k hp
  obtain ⟨q,hq⟩:=hm.SU p k hp
  exact h.Oa q k hq
 ·intro k hk;rw [dm] at hk;exact h.fresh k hk
 ·exact ⟨Mem.bX M,by rw [dm];exact sU _,rfl,rfl,rfl,fun k hk hA=>⟨gN k (fun e0=>hA (e0 ▸ h.La b zG)),fun _=>rfl⟩,fun k r hk=>⟨r,(gN k (fun e0=>by rw [e0,hc] at hk;cases hk)).trans hk,rfl⟩⟩
theorem St.Db (h:St A M L w H ev ea O) {id b:Nat} {es es':List (AV×AV)} {o':Obj} (bu:H[id]?=some (.map es)) (hL:L[id]?=some b)
 (SV:∀ cs e f,o'≠.cells cs e f) (hr:∀ w',w'.heap[b]?=some o'→Bd M L w' b (.map es')) (pv:(aa.map es').aW (A.kh H.length id)=true) :
 St A M L { w with heap:=w.heap.setIfInBounds b o' } (H.set id (.map es')) ev ea O∧Ext A M w M { w with heap:=w.heap.setIfInBounds b o' }:=by
 have zG:b∈L:=abJ hL
 have Uh:=h.lt b zG
 obtain ⟨ents,ck,hc,_,_⟩:=h.obj id _ b bu hL
 have gN:∀ k,k≠b→(w.heap.setIfInBounds b o')[k]?=w.heap[k]?:=fun k hk=>by rw [Array.getElem?_setIfInBounds_ne (fun e=>hk e.symm)]
 have og:(w.heap.setIfInBounds b o')[b]?=some o':=by simp [Uh]
 have XC:∀ o,M b o=none:=by
  intro o
  cases hm:M b o with
  | none=>rfl
  | some v=>
    have:=h.mem b o v hm
    simp [World.cell?,hc] at this
 have rA:id < H.length:=aO bu
 refine ⟨{ len:=by simp [h.len],nodup:=h.nodup,env:=h.env,mem:=?_,obj:=?_,bG:=?_,lt:=?_,iQ:=?_,iL:=?_,ct:=h.ct,cD:=h.cD,fQ:=?_,La:=h.La,Oa:=h.Oa,fresh:=?_ },?_⟩
 ·intro k o v hv
  have hk:k≠b:=by rintro rfl;rw [XC o] at hv;cases hv
  have:=h.mem k o v hv
  simp only [World.cell?] at this ⊢
  rw [gN k hk];exact this
 ·intro id' o k ho hk
  by_cases e0:id'=id
  ·subst e0
   rw [hL] at hk;cases hk
   rw [zD rA] at ho
   cases ho
   exact hr _ og
  ·rw [zC (fun h'=>e0 h'.symm)] at ho
   have FG:k≠b:=by
    rintro rfl
    exact e0 ((adb (aO hk) h.nodup).1 (hk.trans hL.symm))
   exact (h.obj id' o k ho hk).mono (Mem.bX M) (aaL _) (gN k FG) (fun _=>rfl)
 ·intro id' o ho
  rw [acI]
  by_cases e0:id'=id
  ·subst e0
   rw [zD rA] at ho
   cases ho
   exact pv
  ·rw [zC (fun h'=>e0 h'.symm)] at ho
   exact h.bG id' o ho
 ·intro k hk;simpa using h.lt k hk
 ·intro t
  exact (h.iQ t).mono fun k hk=>⟨gN k (fun e3=>h.cD _ k hk (e3 ▸ zG)),fun _=>rfl⟩
 ·intro id' j
  by_cases e0:id'=id
  ·subst e0
   have hn:O (.c id' j)=none:=by
    have:=h.iL id' j
    simp only [bB,bu] at this
    exact this
   have e2:bB (H.set id' (.map es')) id' j=.any:=by
    unfold bB
    rw [zD rA]
   rw [e2,hn];rfl
  ·have e1:bR L { w with heap:=w.heap.setIfInBounds b o' } id' j=bR L w id' j:=by
    unfold bR
    split
    ·rename_i k hk
     have FG:k≠b:=by
      rintro rfl
      exact e0 ((adb (aO hk) h.nodup).1 (hk.trans hL.symm))
     simp only [World.cell?]
     rw [gN k FG]
    ·rfl
   have e2:bB (H.set id (.map es')) id' j=bB H id' j:=by
    unfold bB
    rw [zC (fun h'=>e0 h'.symm)]
   rw [e1,e2]
   exact (h.iL id' j).mono fun k hk=>⟨gN k (fun e3=>h.cD _ k hk (e3 ▸ zG)),fun _=>rfl⟩
 ·intro p k hp;simpa using h.fQ p k hp
 ·intro k hk;simp at hk;exact h.fresh k hk
 ·exact ⟨Mem.bX M,by simp,rfl,rfl,rfl,fun k hk hA=>⟨gN k (fun e0=>hA (e0 ▸ h.La b zG)),fun _=>rfl⟩,fun k r hk=>⟨r,(gN k (fun e0=>by rw [e0,hc] at hk;cases hk)).trans hk,rfl⟩⟩
def AV.le (x y:AV):Prop:=y=x∨y=.any∨(∃ o xs,x=.ak o xs∧y=.ak 0 xs)∨(x=.ag∧∃ o,y=.ak o [])∨(∃ xs,x=.agg xs∧y=.agg (xs.map AV.drop))
theorem aX.le {v:Value} {x y:AV} (h:aX M L v x) (hl:x.le y):aX M L v y:=by
 rcases hl with rfl | rfl | ⟨o,xs,rfl,rfl⟩ | ⟨rfl,o,rfl⟩ | ⟨xs,rfl,rfl⟩
 ·exact h
 ·exact .any _
 ·exact h.FT
 ·cases h;exact .ig _ _ _ (by decide)
 ·cases h with
  | agg cs _ hr=>exact .agg cs _ hr.map_drop
theorem bi.le {v:Value} {x y:AV} {ob:Option Nat} (h:aX M L v x) (hs:bi M w v x ob) (hl:x.le y):∃ ob',bi M w v y ob'∧(ob'=none∨ob'=ob):=by
 rcases hl with rfl | rfl | ⟨o,xs,rfl,rfl⟩ | ⟨rfl,o,rfl⟩ | ⟨xs,rfl,rfl⟩
 ·exact ⟨ob,hs,.inr rfl⟩
 ·exact ⟨none,rfl,.inl rfl⟩
 ·exact ⟨none,by simp [bi],.inl rfl⟩
 ·cases h
  refine ⟨none,?_,.inl rfl⟩
  by_cases e:o=0
  ·simp [bi,e]
  ·simp only [bi,e,if_false];exact ⟨by simp,.inl ⟨trivial,none,0,rfl⟩⟩
 ·exact ⟨none,rfl,.inl rfl⟩
theorem St.HV (h:St A M L w H ev ea O) {ea':Nat→AV} (hl:∀ t,(ea t).le (ea' t)):∃ O',St A M L w H ev ea' O'∧∀ p b,O' p=some b→O p=some b:=by
 have hx:∀ t,∃ ob',bi M w (ev t) (ea' t) ob'∧(ob'=none∨ob'=O (.t t)):=fun t=>(h.iQ t).le (h.env t) (hl t)
 let f:Nat→Option Nat:=fun t=>Classical.choose (hx t)
 have hf:∀ t,bi M w (ev t) (ea' t) (f t)∧(f t=none∨f t=O (.t t)):=fun t=>Classical.choose_spec (hx t)
 let O':Pos→Option Nat:=fun p=>match p with | .t t=>f t | .c id j=>O (.c id j)
 have hO:∀ p b,O' p=some b→O p=some b:=by
  intro p b hp
  cases p with
  | t t=>
    rcases (hf t).2 with h0 | h0
    ·simp only [O',h0] at hp;cases hp
    ·simpa only [O',h0] using hp
  | c id j=>exact hp
 exact ⟨O',{ len:=h.len,nodup:=h.nodup,env:=fun t=>(h.env t).le (hl t),mem:=h.mem,obj:=h.obj,bG:=h.bG,lt:=h.lt,iQ:=fun t=>(hf t).1,iL:=h.iL,ct:=fun p q b hp hq=>h.ct p q b (hO p b hp) (hO q b hq),cD:=fun p b hp=>h.cD p b (hO p b hp),fQ:=fun p b hp=>h.fQ p b (hO p b hp),La:=h.La,Oa:=fun p b hp=>h.Oa p b (hO p b hp),fresh:=h.fresh },hO⟩
theorem St.weaken (h:St A M L w H ev ea O) {ea':Nat→AV} (hl:∀ t,(ea t).le (ea' t)):∃ O',St A M L w H ev ea' O':=
 let ⟨O',h1,_⟩:=h.HV hl
 ⟨O',h1⟩
theorem St.cut (h:St A M L w H ev ea O) (n:Nat) (hc:∀ id o,id < n→H[id]?=some o→o.aW n=true) (hb:∀ t,(ea t).aW n=true):∃ O',St A M (L.take n) w (H.take n) ev ea O':=by
 let O':Pos→Option Nat:=fun p=>match p with | .t t=>O (.t t) | .c id j=>if id < n then O (.c id j) else none
 have hO:∀ p b,O' p=some b→O p=some b:=by
  intro p b hp
  cases p with
  | t t=>exact hp
  | c id j=>
    simp only [O'] at hp
    split at hp
    ·exact hp
    ·cases hp
 have kw:∀ {α:Type} {l:List α} {i:Nat} {a:α},(l.take n)[i]?=some a→i < n∧l[i]?=some a:=by
  intro α l i a hi
  rw [aa7] at hi
  split at hi
  ·exact ⟨by assumption,hi⟩
  ·cases hi
 have jF:∀ b,b∈L.take n→b∈L:=fun b hb=>ac2 hb
 have Po:∀ {m k:Nat} {o:aa},m≤k→o.aW m=true→o.aW k=true:=fun hmk ho=>aa.cI hmk _ ho
 refine ⟨O',{ len:=by simp [h.len],nodup:=(List.take_sublist n L).nodup h.nodup,env:=fun t=>(h.env t).gW (hb t),mem:=h.mem,obj:=?_,bG:=?_,lt:=fun b hb=>h.lt b (jF b hb),iQ:=h.iQ,iL:=?_,ct:=fun p q b hp hq=>h.ct p q b (hO p b hp) (hO q b hq),cD:=fun p b hp hm=>h.cD p b (hO p b hp) (jF b hm),fQ:=fun p b hp=>h.fQ p b (hO p b hp),La:=fun b hb=>h.La b (jF b hb),Oa:=fun p b hp=>h.Oa p b (hO p b hp),fresh:=h.fresh }⟩
 ·intro id o b ho dZ
  obtain ⟨hn,ho⟩:=kw ho
  obtain ⟨_,dZ⟩:=kw dZ
  exact (h.obj id o b ho dZ).gW (hc id o hn ho)
 ·intro id o ho
  obtain ⟨hn,ho⟩:=kw ho
  have h1:=h.bG id o ho
  have h2:=hc id o hn ho
  have hl:=aO ho
  rw [acJ]
  have e:A.kh (min n H.length) id=min n (A.kh H.length id):=by unfold Perm.kh;split <;> omega
  rw [e]
  rcases Nat.le_total n (A.kh H.length id) with h' | h'
  ·rw [Nat.min_eq_left h'];exact h2
  ·rw [Nat.min_eq_right h'];exact h1
 ·intro id j
  by_cases e:id < n
  ·have e1:bR (L.take n) w id j=bR L w id j:=by
    unfold bR
    rw [aa7,if_pos e]
   have e2:bB (H.take n) id j=bB H id j:=by
    unfold bB
    rw [aa7,if_pos e]
   rw [e1,e2]
   simpa [O',e] using h.iL id j
  ·have e2:bB (H.take n) id j=.any:=by
    unfold bB
    rw [aa7,if_neg e]
   rw [e2]
   simp [O',e,bi]
end
end Go.aK
end
section
namespace Go.aK
open Go
abbrev Env:=List (Nat×AV)
def get:Env→Nat→AV
 | [],_=>.any
 | (k,v)::r,t=>if t=k then v else get r t
inductive IX where
 | t (n:Nat)
 | c (v:AV)
 deriving Inhabited
def ap (env:Env):IX→AV
 | .t n=>get env n
 | .c v=>v
inductive cq where
 | set (x:IX) (take:Bool)
 | pick (c a b:IX)
 | bin (op:BinOp) (x y:IX)
 | shift (op:BinOp) (x y:IX)
 | iX (neq:Bool) (x y:IX)
 | jW (kd:Nat) (neq:Bool) (x:IX)
 | un (op:UnOp) (x:IX)
 | box (x:IX)
 | mR (x:IX)
 | s7 (m:Nat) (x:IX)
 | alloc (zero:AV)
 | build (zero:AV) (parts:List (Nat×Nat×IX))
 | buildSlice (own esz:Nat) (zero:AV) (len:Nat) (parts:List (Nat×IX))
 | load (sz:Option Nat) (a:IX)
 | uw (sz:Option Nat) (esz:Nat) (a:IX)
 | eU (a:IX)
 | store (n:Nat) (a x:IX)
 | oE (n:Nat) (a x:IX)
 | fS (a:IX) (s:Nat)
 | nilCheck (x:IX)
 | fieldAddr (off:Nat) (sz:Option Nat) (x:IX)
 | field (off:Nat) (sz:Option Nat) (x:IX)
 | indexAddr (esz:Nat) (x i:IX)
 | dn (x i:IX)
 | eh (n:Nat) (x i:IX)
 | qB (esz:Nat) (x:IX) (lo hi mx:Option IX)
 | slice (esz:Nat) (x:IX) (lo hi max:Option IX)
 | ej (x:IX) (lo hi:Option IX)
 | len (kd:Nat) (x:IX)
 | append (esz bytes:Nat) (s x:IX)
 | ux (esz bytes:Nat) (zero:AV) (n:IX)
 | oF (esz bytes:Nat) (n:IX)
 | oG
 | lookup (kd:Nat) (zero:AV) (m k:IX) (ok:Bool)
 | lG (kd:Nat) (m k x:IX)
 | fn (f:Fn) (first captured:List IX)
 | extract (x:IX) (i:Nat)
 | call (f:IX) (args:List IX) (pass:Option Nat)
 | fq (k:IntKind) (x:IX)
 | iq (x:IX)
 | bytesOf (x:IX)
 | strOf (x:IX)
 | mx (big:Bool) (a b:IX)
 | copy (esz:Nat) (d s:IX)
 | Bf (esz:Nat) (x:IX)
 | Dc (esz:Nat) (zero:AV) (len:Nat) (parts:List (Nat×IX))
 | jZ (esz bytes:Nat) (zero:AV) (s x:IX)
 | oH (esz:Nat) (zero:AV) (x:IX)
 | never
 deriving Inhabited
def X5:Value→Option AV
 | .bool b=>some (.bool b)
 | .int k n=>some (.int k n)
 | .string s=>some (.str s)
 | .pointer none=>some .s5
 | .map none=>some .jE
 | .nilFunc=>some .gn
 | .nilIface=>some .yK
 | .slice none 0 0=>some .ag
 | _=>none
def Lm:List Value→Option (List AV)
 | []=>some []
 | v::vs=>match X5 v,Lm vs with
   | some x,some xs=>some (x::xs)
   | _,_=>none
def ofValue:Value→Option AV
 | .agg cs=>(Lm cs.toList).map .agg
 | v=>X5 v
section
variable {M:Mem} {L:List Nat}
theorem HW {v:Value} {x:AV} (h:X5 v=some x):aX M L v x:=by
 unfold X5 at h
 split at h <;> first | (cases h;constructor) | cases h
theorem Dd:∀ {vs:List Value} {xs:List AV},Lm vs=some xs→aM M L vs xs
 | [],xs,h=>by simp [Lm] at h;subst h;exact .nil
 | v::vs,xs,h=>by
   unfold Lm at h
   split at h
   ·rename_i x ys h1 h2
    cases h
    exact .cons _ _ _ _ (HW h1) (Dd h2)
   ·cases h
theorem cT {v:Value} {x:AV} (h:ofValue v=some x):aX M L v x:=by
 unfold ofValue at h
 split at h
 ·rename_i cs
  obtain ⟨xs,h1,rfl⟩:=zF.1 h
  have:=aX.agg cs.toList xs (Dd (M:=M) (L:=L) h1)
  simpa using this
 ·exact HW h
end
def aV:Operand→Option IX
 | .tmp t=>some (.t t)
 | .const v=>(ofValue v).map .c
 | .func f=>some (.c (.fn (.func f) [] []))
 | .global _=>none
def gk:List Operand→Option (List IX)
 | []=>some []
 | x::xs=>match aV x,gk xs with
   | some i,some is=>some (i::is)
   | _,_=>none
def K6 (P:Program) (t:TypeId):Option (Option Nat):=
 match P.info? t,P.underlying t with
 | some i,some (.struct _)=>some (some i.size)
 | some i,some (.array _ _)=>some (some i.size)
 | some i,some _=>if i.size=1 then some none else none
 | _,_=>none
def gr (P:Program) (t:TypeId):Option AV:=
 match P.info? t with
 | some i=>match i.zero with
   | some v=>ofValue v
   | none=>none
 | none=>none
def dU (P:Program) (t:TypeId):Option Nat:=(P.info? t).map (·.size)
def SW (A:Perm) (w:World) (ds:List Deferred):Prop:=A.base≤w.heap.size∧ds.Nodup∧∀ d∈ds,∃ D,d={ target:=.collected D,args:=#[] }∧w.heap[D]?=some (.deferred (some []))∧¬ A D∧A.base≤D
theorem SW.ext {A:Perm} {M M':Mem} {w w':World} {ds:List Deferred} (h:SW A w ds) (hx:Ext A M w M' w'):SW A w' ds:=
 ⟨acN h.1 hx.size,h.2.1,fun d hd=>by
   obtain ⟨D,h1,h2,h3⟩:=h.2.2 d hd
   exact ⟨D,h1,(hx.lF D (acF.1 h2).1 h3.1).1.trans h2,h3⟩⟩
def wf (ro:Option Nat):Fence:={ Fence.wide with round:=ro }
theorem Ln {o:Oper} {ρ:Operand→Value} {P:Program} {w w':World} {x:Next} (ro:Option Nat) (h:(execOp ρ o).run P w=.ok x w') (hx:∀ d,x≠.defer d):(o.semAt (wf ro).round ρ).run P w=.ok x w':=by
 rw [Oper.semAt_eq]
 ·exact h
 ·intro c hc
  simp only [execOp,hc,Sem.run_bind] at h
  cases hr:(resolve ρ c o.type).run P w with
  | ok d w1=>rw [hr] at h;simp only [Result.andThen_ok,Sem.run_pure] at h;cases h;exact hx _ rfl
  | halt e w1=>rw [hr] at h;cases h
theorem l7 {o:Oper} {P:Program} {a:Act} {w w':World} {x:Next} {ro:Option Nat} {N:Act→World→Prop} {Q:Exit→Act→World→Prop} (h:(execOp a.eval o).run P w=.ok x w') (hx:∀ d,x≠.defer d)
 (hu:o.uponIn (wf ro) 0 P a N Q (.ok x w')):o.wpIn (wf ro) 0 P a w N Q:=by
 refine ⟨fun _ _=>trivial,?_⟩
 rw [Ln ro h hx]
 exact hu
structure Fr (A:Perm) (n:Nat) (M:Mem) (L:List Nat) (w:World) (H:List aa) (env:Env) (O:Pos→Option Nat) (a:Act):Prop where
 st:St A M L w H (fun t=>a.tmps.getD t undef) (get env) O
 size:a.tmps.size=n
 defers:SW A w a.defers
def oA (A:Perm) (n:Nat) (M:Mem) (L:List Nat) (w:World) (K:Env→List aa→Prop) (a':Act) (w':World):Prop:=
 ∃ M' L' H' aI O',K aI H'∧Fr A n M' L' w' H' aI O' a'∧Ext A M w M' w'∧L <+: L'
def put (dst:Option Nat) (x:AV) (env:Env):Env:=match dst with | some d=>(d,x)::env | none=>env
section
variable {ro:Option Nat} {A:Perm} {n:Nat} {M:Mem} {L:List Nat} {w:World} {H:List aa} {env:Env} {O:Pos→Option Nat} {a:Act}
theorem Lo (d:Nat) (x:AV) (env:Env):get ((d,x)::env)=fZ (get env) d x:=rfl
theorem Fr.eval (h:Fr A n M L w H env O a) {x:Operand} {i:IX} (hc:aV x=some i):aX M L (a.eval x) (ap env i):=by
 cases x with
 | tmp t=>simp [aV] at hc;subst hc;exact h.st.env t
 | const v=>
   simp only [aV] at hc
   obtain ⟨y,h1,rfl⟩:=zF.1 hc
   exact cT h1
 | func f=>simp [aV] at hc;subst hc;exact .fn _ [] [] [] [] .nil .nil
 | global g=>simp [aV] at hc
theorem Fr.SX (h:Fr A n M L w H env O a):∀ {xs:List Operand} {is:List IX},gk xs=some is→aM M L (xs.map a.eval) (is.map (ap env))
 | [],is,hc=>by simp [gk] at hc;subst hc;exact .nil
 | x::xs,is,hc=>by
   unfold gk at hc
   split at hc
   ·rename_i i is' h1 h2
    cases hc
    exact .cons _ _ _ _ (h.eval h1) (h.SX h2)
   ·cases hc
theorem wK (a:Act) (d:Nat) (v:Value) (hd:d < a.tmps.size) (t:Nat):(a.put (some d) v).tmps.getD t undef=fZ (fun t=>a.tmps.getD t undef) d v t:=by
 simp only [Act.put,fZ,acw,adn]
 by_cases e:t=d
 ·subst e;simp [hd]
 ·simp [e,show ¬ d=t from fun h=>e h.symm]
theorem Fr.FW (h:Fr A n M L w H env O a) {d:Nat} (hd:d < n) {v:Value} {x:AV} (hr:aX M L v x) (ob:Option Nat) (hs:bi M w v x ob)
 (h1:∀ p b,ob=some b→O p=some b→p=.t d) (h2:∀ b,ob=some b→b∉L∧b < w.heap.size∧A b) :
 Fr A n M L w H ((d,x)::env) (eM O (.t d) ob) (a.put (some d) v):=by
 refine ⟨(h.st.put d hr ob hs h1 h2).congr (fun t=>wK a d v (by rw [h.size];exact hd) t) (fun t=>rfl),?_,h.defers⟩
 simp [Act.put,h.size]
theorem Fr.pX (h:Fr A n M L w H env O a) {dst:Option Nat} (hd:∀ d,dst=some d→d < n) {v:Value} {x:AV} (hr:aX M L v x) (hx:∀ own xs,x=.ak own xs→own=0) :
 ∃ O',Fr A n M L w H (put dst x env) O' (a.put dst v):=by
 cases dst with
 | none=>exact ⟨O,h⟩
 | some d=>exact ⟨_,h.FW (hd d rfl) hr none (bi.free hx) (fun p b e=>by cases e) (fun b e=>by cases e)⟩
theorem Fr.HX (h:Fr A n M L w H env O a) {dst:Option Nat} (hd:∀ d,dst=some d→d < n) {ad:Option Addr} {m:Nat} {own:Nat} {xs:List AV} (hr:aX M L (.slice ad m m) (.ak own xs)) (hx:own≠0→∀ y∈xs,y.cells.length=own) :
 ∃ O',Fr A n M L w H (put dst (.ak own xs) env) O' (a.put dst (.slice ad m m)):=by
 cases dst with
 | none=>exact ⟨O,h⟩
 | some d=>
   refine ⟨_,h.FW (hd d rfl) hr none ?_ (fun p b e=>by cases e) (fun b e=>by cases e)⟩
   by_cases e:own=0
   ·simp [bi,e]
   ·simp only [bi,e,if_false];exact ⟨hx e,.inl ⟨trivial,ad,m,rfl⟩⟩
theorem Fr.mono (h:Fr A n M L w H env O a) {M':Mem} {w':World} {L':List Nat} {H':List aa} {O':Pos→Option Nat} (b7:St A M' L' w' H' (fun t=>a.tmps.getD t undef) (get env) O') (hx:Ext A M w M' w'):Fr A n M' L' w' H' env O' a:=
 ⟨b7,h.size,h.defers.ext hx⟩
theorem dq {P:Program} {o:Oper} {Q:Exit→Act→World→Prop} {K:Env→List aa→Prop} {v:Value} {w':World} (bL:(execOp a.eval o).run P w=.ok (.value v) w')
 (h:oA A n M L w K (a.put o.dst v) w'):o.wpIn (wf ro) 0 P a w (oA A n M L w K) Q:=by
 exact l7 bL (by intro d e;cases e) h
theorem mS {P:Program} {o:Oper} {Q:Exit→Act→World→Prop} {K:Env→List aa→Prop} {w':World} (bL:(execOp a.eval o).run P w=.ok .skip w')
 (h:oA A n M L w K (a.put o.dst undef) w'):o.wpIn (wf ro) 0 P a w (oA A n M L w K) Q:=by
 exact l7 bL (by intro d e;cases e) h
theorem wp_pure {P:Program} {o:Oper} {Q:Exit→Act→World→Prop} {K:Env→List aa→Prop} {v:Value} {x:AV} (h:Fr A n M L w H env O a) (hd:∀ d,o.dst=some d→d < n)
 (bL:(execOp a.eval o).run P w=.ok (.value v) w) (hr:aX M L v x) (hx:∀ own xs,x=.ak own xs→own=0) (hK:K (put o.dst x env) H):o.wpIn (wf ro) 0 P a w (oA A n M L w K) Q:=by
 obtain ⟨O',hf⟩:=h.pX hd hr hx
 exact dq bL ⟨M,L,H,_,O',hK,hf,Ext.refl A M w,aaL L⟩
end
def vx (env:Env) (d:Nat) (x:IX) (take:Bool):Env:=
 match x,take with
 | .t s,true=>(d,get env s)::(s,(get env s).ab)::env
 | x,_=>(d,(ap env x).ab)::env
def fC (x:AV) (φ:Bool→Prop):Prop:=match x with | .bool b=>φ b | _=>False
end Go.aK
end
section
namespace Go.aK
open Go
def AV.val:AV→Bool
 | .any=>false
 | .tuple _=>false
 | _=>true
def ai {α:Type} (zs:List α) (off:Nat) (xs:List α):List α:=zs.take off++(xs++zs.drop (off + xs.length))
section
variable {M:Mem} {L:List Nat}
theorem aX.gO {v:Value} {x:AV} (h:aX M L v x) (hv:x.val=true):aM M L v.cells.toList x.cells:=by
 cases h with
 | agg cs xs hr=>simpa [Value.cells,AV.cells] using hr
 | any v=>simp [AV.val] at hv
 | tuple=>simp [AV.val] at hv
 | ak b off c own e cs xs he hx hn hle hc hr hm=>exact .one (.ak b off c own e cs xs he hx hn hle hc hr hm)
 | _=>(simp only [Value.cells,AV.cells];exact .one (by constructor <;> assumption))
theorem aM.Bg {cs:List Value} {xs:List AV} (h:aM M L cs xs) {zs:List Value} {ys:List AV} (off:Nat) (hz:aM M L zs ys):aM M L (ai zs off cs) (ai ys off xs):=by
 unfold ai
 rw [h.length]
 exact (hz.take off).append (h.append (hz.drop _))
theorem aM.di:∀ {vs:List Value} {xs:List AV},aM M L vs xs→aM M L vs (xs.map AV.ab)
 | _,_,.nil=>.nil
 | _,_,.cons v x vs xs h t=>.cons v _ _ _ h.ab t.di
end
theorem oI {α:Type} (zs:List α) (off:Nat) (xs:List α) (h:off + xs.length≤zs.length):(ai zs off xs).length=zs.length:=by
 unfold ai;simp;omega
def dk (op:BinOp) (x y:AV) (φ:AV→Prop):Prop:=
 match x,y with
 | .int k a,.int k' b=>k=k'∧
   match op with
   | .add=>φ (.int k (k.wrap (a + b)))
   | .sub=>φ (.int k (k.wrap (a - b)))
   | .mul=>φ (.int k (k.wrap (a * b)))
   | .quo=>b≠0∧φ (.int k (k.wrap (a.tdiv b)))
   | .rem=>b≠0∧φ (.int k (a.tmod b))
   | .and=>φ (.int k (k.wrap (BitVec.ofInt k.bits a &&& BitVec.ofInt k.bits b).toNat))
   | .or=>φ (.int k (k.wrap (BitVec.ofInt k.bits a ||| BitVec.ofInt k.bits b).toNat))
   | .xor=>φ (.int k (k.wrap (BitVec.ofInt k.bits a ^^^ BitVec.ofInt k.bits b).toNat))
   | .andNot=>φ (.int k (k.wrap (BitVec.ofInt k.bits a &&& ~~~ BitVec.ofInt k.bits b).toNat))
   | .eql=>φ (.bool (decide (a=b)))
   | .neq=>φ (.bool (decide (a≠b)))
   | .lss=>φ (.bool (decide (a < b)))
   | .leq=>φ (.bool (decide (a≤b)))
   | .gtr=>φ (.bool (decide (b < a)))
   | .geq=>φ (.bool (decide (b≤a)))
   | _=>False
 | .str a,.str b=>
   match op with
   | .add=>a.size + b.size < 9223372036854775808∧φ (.str (a++b))
   | .eql=>φ (.bool (decide (a=b)))
   | .neq=>φ (.bool (decide (a≠b)))
   | .lss=>φ (.bool (Op.bytesLess a.data.toList b.data.toList))
   | .geq=>φ (.bool (!Op.bytesLess a.data.toList b.data.toList))
   | .leq=>φ (.bool (!Op.bytesLess b.data.toList a.data.toList))
   | .gtr=>φ (.bool (Op.bytesLess b.data.toList a.data.toList))
   | _=>False
 | _,_=>False
def ey (op:BinOp) (x y:AV) (φ:AV→Prop):Prop:=
 match x,y with
 | .int k a,.int _ b=>0≤b∧
   match op with
   | .shl=>φ (.int k (k.wrap (a * 2 ^ (min b.toNat k.bits))))
   | .shr=>φ (.int k (a.fdiv (2 ^ (min b.toNat k.bits))))
   | _=>False
 | _,_=>False
def dd (neq:Bool) (x y:AV) (φ:AV→Prop):Prop:=
 match x,y with
 | .bool a,.bool b=>φ (.bool (if neq then decide (a≠b) else decide (a=b)))
 | _,_=>False
def isNil (kd:Nat) (x:AV):Option Bool:=
 match kd,x with
 | 0,.ag=>some true
 | 0,.ak _ (_::_)=>some false
 | 0,.ba _ _ _ _=>some false
 | 1,.s5=>some true
 | 1,.ptr _ _=>some false
 | 1,.ah _=>some false
 | 2,.jE=>some true
 | 2,.map _=>some false
 | 3,.gn=>some true
 | 3,.fn _ _ _=>some false
 | _,_=>none
def dw (kd:Nat) (neq:Bool) (x:AV) (φ:AV→Prop):Prop:=
 match isNil kd x with
 | some b=>φ (.bool (if neq then !b else b))
 | none=>match kd,x with
   | 0,.ak _ []=>φ (.bool true)∧φ (.bool false)
   | _,_=>False
def Bh (op:UnOp) (x:AV) (φ:AV→Prop):Prop:=
 match op,x with
 | .not,.bool b=>φ (.bool (!b))
 | .neg,.int k n=>φ (.int k (k.wrap (0 - n)))
 | _,_=>False
def iu (zs:List AV):List (Nat×Nat×AV)→(List AV→Prop)→Prop
 | [],φ=>φ zs
 | (off,sz,x)::r,φ=>x.val=true∧x.cells.length=sz∧off + sz≤zs.length∧iu (ai zs off (x.cells.map AV.ab)) r φ
def aU (sz:Option Nat) (x:AV) (H:List aa) (φ:AV→Prop):Prop:=
 match x with
 | .ptr id off=>match H[id]? with
   | some (.cells es)=>match sz with
     | some m=>off + m≤es.length∧φ (.agg (((es.drop off).take m).map AV.drop))
     | none=>off < es.length∧φ (es.getD off .any).ab
   | _=>False
 | .ah y=>match sz with
   | some m=>y.cells.length=m∧φ (.agg y.cells)
   | none=>y.one=true∧φ y.ab
 | _=>False
def apart (off:Nat) (sz:Option Nat) (xs:List AV) (φ:AV→Prop):Prop:=
 match sz with
 | some m=>off + m≤xs.length∧φ (.agg ((xs.drop off).take m))
 | none=>off < xs.length∧(xs.getD off .any).one=true∧φ (xs.getD off .any)
def al (off:Nat) (sz:Option Nat) (x:AV) (φ:AV→Prop):Prop:=
 match x with
 | .ptr id o=>φ (.ptr id (o + off))
 | .ah y=>apart off sz y.cells fun z=>φ (.ah z)
 | _=>False
def fD (off:Nat) (sz:Option Nat) (x:AV) (φ:AV→Prop):Prop:=
 match x with
 | .agg xs=>apart off sz xs fun z=>φ z.drop
 | _=>False
def aA (esz:Nat) (x i:AV) (φ:AV→Prop):Prop:=
 match x,i with
 | .ak _ xs,.int _ i=>0≤i∧i.toNat < xs.length∧φ (.ah (xs.getD i.toNat .any))
 | .ba id off len _,.int _ i=>0≤i∧i.toNat < len∧φ (.ptr id (off + i.toNat * esz))
 | _,_=>False
def b8 (n:Nat) (x i:AV) (φ:AV→Prop):Prop:=
 match x,i with
 | .agg xs,.int _ i=>xs.length=n∧0≤i∧i.toNat < n∧φ (xs.getD i.toNat .any).drop
 | _,_=>False
def bO (x i:AV) (φ:AV→Prop):Prop:=
 match x,i with
 | .str s,.int _ i=>0≤i∧i.toNat < s.size∧φ (.int .u8 (s.data.toList.getD i.toNat 0).toNat)
 | _,_=>False
def fT (x:AV) (H:List aa) (φ:AV→Prop):Prop:=
 match x with
 | .str s=>φ (.int .i64 s.size)
 | .ag=>φ (.int .i64 0)
 | .ak _ xs=>xs.length < 9223372036854775808→φ (.int .i64 xs.length)
 | .ba _ _ len _=>φ (.int .i64 len)
 | .pW=>φ (.int .i64 0)
 | .jE=>φ (.int .i64 0)
 | .map id=>match H[id]? with
   | some (.map es)=>φ (.int .i64 es.length)
   | _=>False
 | _=>False
def bH (x:AV) (i:Nat) (φ:AV→Prop):Prop:=
 match x with
 | .tuple xs=>i < xs.length∧φ (xs.getD i .any).ab
 | _=>False
def b9 (x:AV) (φ:AV→Prop):Prop:=
 match x with
 | .ptr .. | .ah _=>φ x
 | .fn (.func _) _ _=>φ x
 | _=>False
def cJ (k:IntKind) (x:AV) (φ:AV→Prop):Prop:=
 match x with
 | .int _ n=>φ (.int k (k.wrap n))
 | _=>False
def yM (big:Bool) (x y:AV) (φ:AV→Prop):Prop:=
 match x,y with
 | .int k a,.int _ b=>φ (.int k (if big then (if b > a then b else a) else (if b < a then b else a)))
 | _,_=>False
section
variable {P:Program} {w:World} {M:Mem} {L:List Nat} {H:List aa}
theorem mT:∀ x y:List UInt8,(Op.bytesLess x y || x == y)=!Op.bytesLess y x
 | [],[]=>rfl
 | [],b::y=>by simp [Op.bytesLess]
 | a::x,[]=>by simp [Op.bytesLess]
 | a::x,b::y=>by
   have ih:=mT x y
   simp only [Op.bytesLess,List.cons_beq_cons]
   rcases af5 a.toNat b.toNat with h | h | h
   ·have h1:a < b:=UInt8.lt_iff_toNat_lt.2 h
    have h2:¬ b < a:=fun h'=>by have:=UInt8.lt_iff_toNat_lt.1 h';omega
    have h3:(b == a)=false:=by
     rw [beq_eq_false_iff_ne];rintro rfl;omega
    simp [h1,h2,h3]
   ·have h0:a=b:=UInt8.toNat_inj.1 h
    subst h0
    simp [ih]
   ·have h1:b < a:=UInt8.lt_iff_toNat_lt.2 h
    have h2:¬ a < b:=fun h'=>by have:=UInt8.lt_iff_toNat_lt.1 h';omega
    have h3:(a == b)=false:=by
     rw [beq_eq_false_iff_ne];rintro rfl;omega
    simp [h1,h2,h3]
theorem De (a b:ByteArray):(a.toList == b.toList)=decide (a=b):=by
 rw [acV,acV]
 by_cases e:a=b
 ·subst e;simp
 ·have h0:¬ a.data.toList=b.data.toList:=fun h=>e (by cases a;cases b;simp_all [Array.toList_inj])
  rw [show (a.data.toList == b.data.toList)=false from beq_eq_false_iff_ne.2 h0]
  simp [e]
theorem rB {α:Type} [DecidableEq α] (a b:α):(a == b)=decide (a=b):=by
 by_cases h:a=b <;> simp [h]
theorem Lp {op:BinOp} {t:TypeId} {u v:Value} {x y:AV} {φ:AV→Prop} (h:dk op x y φ) (hu:aX M L u x) (hv:aX M L v y) (X Y:Operand) :
 ∃ r z,(do eqGuard op t X Y u v;binOp op t u v:Sem Value).run P w=.ok r w∧aX M L r z∧φ z∧∀ own xs,z=.ak own xs→own=0:=by
 have guard_int:∀ (k k':IntKind) (a b:Int),(eqGuard op t X Y (.int k a) (.int k' b)).run P w=.ok () w:=by
  intro k k' a b;unfold eqGuard;cases op <;> rfl
 have guard_str:∀ (a b:ByteArray),(eqGuard op t X Y (.string a) (.string b)).run P w=.ok () w:=by
  intro a b;unfold eqGuard;cases op <;> rfl
 unfold dk at h
 split at h
 ·rename_i k a k' b
  cases hu;cases hv
  obtain ⟨rfl,h⟩:=h
  simp only [Sem.run_bind,guard_int,Result.andThen_ok]
  cases op <;> simp only at h <;> first
   | exact h.elim
   | exact ⟨_,_,rfl,.int _ _,h,by intro _ _ e;cases e⟩
   | (obtain ⟨h0,h⟩:=h
      refine ⟨_,_,?_,.int _ _,h,by intro _ _ e;cases e⟩
      simp [binOp,Op.intDiv,h0];done)
   | skip
  all_goals first
   | (refine ⟨_,_,?_,.int _ _,h,by intro _ _ e;cases e⟩
      simp [binOp,Op.intArith,Op.intBits];done)
   | (refine ⟨_,_,?_,.bool _,h,by intro _ _ e;cases e⟩
      simp [binOp,Op.intCmp];done)
   | skip
  all_goals
   refine ⟨_,_,?_,.bool _,h,by intro _ _ e;cases e⟩
   simp [binOp,Op.intCmp,bne,rB]
 ·rename_i a b
  cases hu;cases hv
  simp only [Sem.run_bind,guard_str,Result.andThen_ok]
  cases op <;> simp only at h <;> first
   | exact h.elim
   | skip
  ·obtain ⟨h0,h⟩:=h
   refine ⟨_,_,?_,.str _,h,by intro _ _ e;cases e⟩
   have:¬ ((a.size + b.size:Nat):Int) > IntKind.i64.max:=by
    have:IntKind.i64.max=9223372036854775807:=rfl
    rw [this];omega
   simp only [binOp,Op.stringOp,this,if_false,Sem.run_pure]
  ·exact ⟨_,_,rfl,.bool _,by rw [De];exact h,by intro _ _ e;cases e⟩
  ·exact ⟨_,_,rfl,.bool _,by rw [De];simpa using h,by intro _ _ e;cases e⟩
  ·exact ⟨_,_,rfl,.bool _,by rw [acV,acV];exact h,by intro _ _ e;cases e⟩
  ·exact ⟨_,_,rfl,.bool _,by rw [acV,acV,mT];exact h,by intro _ _ e;cases e⟩
  ·exact ⟨_,_,rfl,.bool _,by rw [acV,acV,mT,afG];exact h,by intro _ _ e;cases e⟩
  ·exact ⟨_,_,rfl,.bool _,by rw [acV,acV];exact h,by intro _ _ e;cases e⟩
 ·exact h.elim
theorem wL {op:BinOp} {t:TypeId} {u v:Value} {x y:AV} {φ:AV→Prop} (h:ey op x y φ) (hu:aX M L u x) (hv:aX M L v y) (X Y:Operand) :
 ∃ r z,(do eqGuard op t X Y u v;binOp op t u v:Sem Value).run P w=.ok r w∧aX M L r z∧φ z∧∀ own xs,z=.ak own xs→own=0:=by
 unfold ey at h
 split at h
 ·rename_i k a k' b
  cases hu;cases hv
  obtain ⟨h0,h⟩:=h
  have guard_int:(eqGuard op t X Y (.int k a) (.int k' b)).run P w=.ok () w:=by
   unfold eqGuard;cases op <;> rfl
  simp only [Sem.run_bind,guard_int,Result.andThen_ok]
  have hn:¬ b < 0:=by omega
  cases op <;> simp only at h <;> first
   | exact h.elim
   | (refine ⟨_,_,?_,.int _ _,h,by intro _ _ e;cases e⟩
      simp [binOp,Op.shift,hn];done)
 ·exact h.elim
theorem run_equalIn_bool (d:Nat) {t:TypeId} (ht:P.underlying t=some .bool) (a b:Bool):(Op.equalIn (d + 1) t (.bool a) (.bool b)).run P w=.ok (a == b) w:=by
 simp only [Op.equalIn,Sem.run_bind,run_underlying ht,Result.andThen_ok,Sem.run_pure]
theorem run_equal_bool {t:TypeId} (ht:P.underlying t=some .bool) (a b:Bool):(Op.equal t (.bool a) (.bool b)).run P w=.ok (a == b) w:=run_equalIn_bool 9999 ht a b
theorem uy {neq:Bool} {t:TypeId} (ht:P.underlying t=some .bool) {u v:Value} {x y:AV} {φ:AV→Prop} (h:dd neq x y φ) (hu:aX M L u x) (hv:aX M L v y) (X Y:Operand) :
 ∃ r z,(do eqGuard (if neq then .neq else .eql) t X Y u v;binOp (if neq then .neq else .eql) t u v:Sem Value).run P w=.ok r w∧aX M L r z∧φ z∧∀ own xs,z=.ak own xs→own=0:=by
 unfold dd at h
 split at h
 ·rename_i a b
  cases hu;cases hv
  cases neq
  ·refine ⟨_,.bool (a == b),?_,.bool (a == b),?_,by intro _ _ e;cases e⟩
   ·simp only [acv,if_false,Sem.run_bind,eqGuard,Sem.run_pure,Result.andThen_ok,binOp,run_equal_bool ht];rfl
   ·rw [rB];exact h
  ·refine ⟨_,.bool (!(a == b)),?_,.bool (!(a == b)),?_,by intro _ _ e;cases e⟩
   ·simp only [if_true,Sem.run_bind,eqGuard,Sem.run_pure,Result.andThen_ok,binOp,run_equal_bool ht];rfl
   ·rw [rB];simpa using h
 ·exact h.elim
theorem Pp {op:UnOp} {u:Value} {x:AV} {φ:AV→Prop} (h:Bh op x φ) (hu:aX M L u x) :
 ∃ r z,(Op.unary op u).run P w=.ok r w∧aX M L r z∧φ z∧∀ own xs,z=.ak own xs→own=0:=by
 unfold Bh at h
 split at h
 ·cases hu;exact ⟨_,_,rfl,.bool _,h,by intro _ _ e;cases e⟩
 ·cases hu;exact ⟨_,_,rfl,.int _ _,h,by intro _ _ e;cases e⟩
 ·exact h.elim
theorem iY {cs:List Value} {b off:Nat} (hm:M.row b off cs) (jF:∀ b o v,M b o=some v→w.cell? ⟨b,o,none⟩=some v) :
 ∀ j v,cs[j]?=some v→w.cell? ((⟨b,off,none⟩:Addr).add j)=some v:=by
 intro j v hv
 rw [Addr.add_lit]
 exact jF _ _ _ (hm j v hv)
theorem eV {t:TypeId} {m:Nat} (h:K6 P t=some none):(isAgg t).run P w=.ok false w∧(P.info? t).map (·.size)=some 1:=by
 unfold K6 at h
 split at h <;> try cases h
 rename_i i d h1 h2 hi hd
 split at h
 ·rename_i h3
  refine ⟨?_,by simp [hi,h3]⟩
  simp only [isAgg,Sem.run_bind,run_underlying hd,Result.andThen_ok]
  cases d <;> first | rfl | (exact absurd rfl (h1 _)) | (exact absurd rfl (h2 _ _))
 ·cases h
theorem kx {t:TypeId} {m:Nat} (h:K6 P t=some (some m)):(isAgg t).run P w=.ok true w∧(sizeOf t).run P w=.ok m w:=by
 unfold K6 at h
 split at h <;> try cases h
 ·rename_i i f hi hd
  refine ⟨?_,?_⟩
  ·simp only [isAgg,Sem.run_bind,run_underlying hd,Result.andThen_ok];rfl
  ·simp [sizeOf,typeInfo,hi]
 ·rename_i i l e hi hd
  refine ⟨?_,?_⟩
  ·simp only [isAgg,Sem.run_bind,run_underlying hd,Result.andThen_ok];rfl
  ·simp [sizeOf,typeInfo,hi]
 ·split at h <;> cases h
end
end Go.aK
end
section
namespace Go.aK
open Go
section
variable {P:Program} {w:World} {M:Mem} {L:List Nat} {H:List aa} {A:Perm} {ev:Nat→Value} {ea:Nat→AV} {O:Pos→Option Nat}
theorem fU (hs:St A M L w H ev ea O) {id b:Nat} {es:List AV} (bu:H[id]?=some (.cells es)) (hL:L[id]?=some b) :
 ∃ cs e,w.heap[b]?=some (.cells cs e (0,0))∧aM M L cs.toList es∧∀ j v,cs.toList[j]?=some v→w.cell? ⟨b,j,none⟩=some v:=by
 obtain ⟨cs,e,h1,h2,_⟩:=hs.obj id _ b bu hL
 exact ⟨cs,e,h1,h2,fun j v hv=>by simpa [World.cell?,h1] using hv⟩
theorem dE {α:Type} (l:List α) (off m j:Nat) (v:α) (h:((l.drop off).take m)[j]?=some v):l[off + j]?=some v:=by
 rw [aa7] at h
 split at h
 ·rwa [aeg] at h
 ·cases h
theorem s8 {sz:Option Nat} {t:TypeId} (ht:K6 P t=some sz) {u:Value} {x:AV} {φ:AV→Prop} (hs:St A M L w H ev ea O) (h:aU sz x H φ) (hu:aX M L u x) :
 ∃ r z,(Instr.loadAt t u).run P w=.ok r w∧aX M L r z∧φ z∧∀ own xs,z=.ak own xs→own=0:=by
 unfold aU at h
 split at h
 ·rename_i id off
  cases hu with
  | ptr b _ _ hl=>
  split at h
  ·rename_i es bu
   obtain ⟨cs,e,h1,h2,h3⟩:=fU hs bu hl
   have hlen:=h2.length
   cases sz with
   | some m=>
     obtain ⟨hm,hφ⟩:=h
     obtain ⟨r1,r2⟩:=kx (w:=w) ht
     have jD:((cs.toList.drop off).take m).length=m:=by simp at hlen ⊢;omega
     have Lq:=run_loadCells_list (P:=P) w ⟨b,off,none⟩ ((cs.toList.drop off).take m) (fun j v hv=>by rw [Addr.add_lit];exact h3 _ _ (dE _ _ _ _ _ hv))
     rw [jD] at Lq
     refine ⟨.agg ((cs.toList.drop off).take m).toArray,.agg (((es.drop off).take m).map AV.drop),?_,?_,hφ,by intro _ _ e;cases e⟩
     ·simp only [Instr.loadAt,Instr.sureAddr,loadVar,Sem.run_bind,Sem.run_pure,Result.andThen_ok,r1,if_true,r2,Lq]
     ·have:=aX.agg _ _ (((h2.drop off).take m).map_drop)
      simpa using this
   | none=>
     obtain ⟨hm,hφ⟩:=h
     obtain ⟨r1,r2⟩:=eV (w:=w) (m:=0) ht
     have pY:off < cs.toList.length:=by omega
     have hcell:=h3 off cs.toList[off] (by simp)
     have gl:=h2.getD off
     refine ⟨cs.toList[off],_,?_,?_,hφ,AV.bQ _⟩
     ·simp only [Instr.loadAt,Instr.sureAddr,loadVar,Sem.run_bind,Sem.run_pure,Result.andThen_ok,r1,acv,if_false,run_load,hcell]
     ·have e0:cs.toList.getD off undef=cs.toList[off]:=by rw [sT,aaf pY];rfl
      rw [e0] at gl
      exact gl.ab
  ·exact h.elim
 ·rename_i y
  cases hu with
  | ah b off cs _ hr hm=>
  have hcells:=iY hm hs.mem
  cases sz with
  | some m=>
    obtain ⟨Pq,hφ⟩:=h
    obtain ⟨r1,r2⟩:=kx (w:=w) ht
    have jD:cs.length=m:=hr.length.trans Pq
    have Lq:=run_loadCells_list (P:=P) w ⟨b,off,none⟩ cs hcells
    rw [jD] at Lq
    refine ⟨.agg cs.toArray,.agg y.cells,?_,.agg cs y.cells hr,hφ,by intro _ _ e;cases e⟩
    simp only [Instr.loadAt,Instr.sureAddr,loadVar,Sem.run_bind,Sem.run_pure,Result.andThen_ok,r1,if_true,r2,Lq]
  | none=>
    obtain ⟨Pq,hφ⟩:=h
    obtain ⟨r1,r2⟩:=eV (w:=w) (m:=0) ht
    have hy:y.cells=[y]:=by cases y <;> first | rfl | simp [AV.one] at Pq
    rw [hy] at hr
    obtain ⟨v,rfl,hv⟩:=hr.HU
    have hcell:=hcells 0 v (by simp)
    rw [Addr.add_lit,aey] at hcell
    refine ⟨v,_,?_,hv.ab,hφ,AV.bQ _⟩
    simp only [Instr.loadAt,Instr.sureAddr,loadVar,Sem.run_bind,Sem.run_pure,Result.andThen_ok,r1,acv,if_false,run_load,hcell]
 ·exact h.elim
def s9 (P:Program) (s:TypeId) (f:Nat):Option (Nat×Option Nat):=
 match P.underlying s with
 | some (.struct fields)=>match fields[f]? with
   | some fd=>match K6 P fd.type,dU P fd.type with
     | some sz,some k=>if k=0 then none else some (fd.offset,sz)
     | _,_=>none
   | none=>none
 | _=>none
theorem uz {s:TypeId} {f off:Nat} {sz:Option Nat} (h:s9 P s f=some (off,sz)) :
 ∃ fields fd k,P.underlying s=some (.struct fields)∧fields[f]?=some fd∧fd.offset=off∧K6 P fd.type=some sz∧(P.info? fd.type).map (·.size)=some k∧k≠0:=by
 unfold s9 at h
 split at h <;> try cases h
 rename_i fields hu
 split at h <;> try cases h
 rename_i fd hf
 split at h <;> try cases h
 rename_i sz' k hs hk
 split at h <;> cases h
 rename_i FH
 exact ⟨fields,fd,k,hu,hf,rfl,hs,hk,FH⟩
theorem wM {s:TypeId} {f off:Nat} {sz:Option Nat} (ht:s9 P s f=some (off,sz)) {u:Value} {x:AV} {φ:AV→Prop} (h:al off sz x φ) (hu:aX M L u x) :
 ∃ r z,(Instr.fieldAt s u f).run P w=.ok r w∧aX M L r z∧φ z∧∀ own xs,z=.ak own xs→own=0:=by
 obtain ⟨fields,fd,k,Lr,hf,rfl,hs,hk,FH⟩:=uz ht
 have bL:∀ b o,(Instr.fieldAt s (.pointer (some ⟨b,o,none⟩)) f).run P w=.ok (.pointer (some ⟨b,o + fd.offset,none⟩)) w:=by
  intro b o
  obtain ⟨i,hi,Ps⟩:=zF.1 hk
  have dm:(sizeOf fd.type).run P w=.ok k w:=by simp [sizeOf,typeInfo,hi,Ps]
  simp only [Instr.fieldAt,Instr.sureAddr,Sem.run_bind,run_underlying Lr,Result.andThen_ok,hf,Sem.run_pure,fieldPlace,dm,FH,if_false,Addr.add_lit]
 unfold al at h
 split at h
 ·rename_i id o
  cases hu with
  | ptr b _ _ hl=>exact ⟨_,_,bL b o,.ptr b (o + fd.offset) id hl,h,by intro _ _ e;cases e⟩
 ·rename_i y
  cases hu with
  | ah b o cs _ hr hm=>
  refine ⟨.pointer (some ⟨b,o + fd.offset,none⟩),?_⟩
  unfold apart at h
  cases sz with
  | some m=>
    obtain ⟨hle,hφ⟩:=h
    refine ⟨_,bL b o,.ah b (o + fd.offset) ((cs.drop fd.offset).take m) _ (by simpa [AV.cells] using (hr.drop fd.offset).take m) ?_,hφ,by intro _ _ e;cases e⟩
    intro j v hv
    have:=hm _ _ (dE _ _ _ _ _ hv)
    rwa [← adf] at this
  | none=>
    obtain ⟨hle,h1,hφ⟩:=h
    have hl:=hr.length
    have pY:fd.offset < cs.length:=by omega
    have hx:∃ z,y.cells[fd.offset]?=some z:=⟨_,aaf hle⟩
    obtain ⟨z,hz⟩:=hx
    obtain ⟨v,hv,gl⟩:=hr.get _ z hz
    have e0:y.cells.getD fd.offset .any=z:=by rw [sT,hz];rfl
    rw [e0] at hφ h1
    have hag:z.cells=[z]:=by cases z <;> first | rfl | simp [AV.one] at h1
    refine ⟨_,bL b o,.ah b (o + fd.offset) [v] z (by rw [hag];exact .one gl) ?_,hφ,by intro _ _ e;cases e⟩
    intro j u' Ji
    cases j with
    | zero=>simp at Ji;subst Ji;simpa using hm _ _ hv
    | succ j=>simp at Ji
 ·exact h.elim
theorem FX {s:TypeId} {f off:Nat} {sz:Option Nat} (ht:s9 P s f=some (off,sz)) {u:Value} {x:AV} {φ:AV→Prop} (h:fD off sz x φ) (hu:aX M L u x) :
 ∃ r z,(Instr.field s u f).run P w=.ok r w∧aX M L r z∧φ z∧∀ own xs,z=.ak own xs→own=0:=by
 obtain ⟨fields,fd,k,Lr,hf,rfl,hs,hk,FH⟩:=uz ht
 unfold fD at h
 split at h
 ·rename_i xs
  cases hu with
  | agg cs _ hr=>
  unfold apart at h
  cases sz with
  | some m=>
    obtain ⟨hle,hφ⟩:=h
    obtain ⟨r1,r2⟩:=kx (w:=w) hs
    refine ⟨.agg ((cs.drop fd.offset).take m).toArray,_,?_,(aX.agg _ _ ((hr.drop fd.offset).take m)).drop,hφ,AV.kj _⟩
    simp only [Instr.field,Sem.run_bind,run_underlying Lr,Result.andThen_ok,hf,part,r1,if_true,asAgg,Sem.run_pure,r2]
    congr 2
    apply Array.ext'
    simp []
  | none=>
    obtain ⟨hle,h1,hφ⟩:=h
    obtain ⟨r1,r2⟩:=eV (w:=w) (m:=0) hs
    have pY:fd.offset < cs.length:=by have:=hr.length;omega
    have gl:=hr.getD fd.offset
    have e0:cs.getD fd.offset undef=cs[fd.offset]:=by rw [sT,aaf pY];rfl
    rw [e0] at gl
    refine ⟨cs[fd.offset],_,?_,gl.drop,hφ,AV.kj _⟩
    simp [Instr.field,run_underlying Lr,hf,part,r1,asAgg,pY]
 ·exact h.elim
theorem flat_get:∀ (xs:List AV) (e:Nat),(∀ x∈xs,x.cells.length=e)→∀ i j x,xs[i]?=some x→j < e→(flat xs)[i * e + j]?=x.cells[j]?
 | [],e,_,i,j,x,h,_=>by simp at h
 | y::ys,e,hx,0,j,x,h,hj=>by
   simp at h;subst h
   have:=hx y (by simp)
   simp only [flat,List.flatMap_cons,afL,acC]
   rw [zA (by omega)]
 | y::ys,e,hx,i + 1,j,x,h,hj=>by
   have hy:=hx y (by simp)
   have ih:=flat_get ys e (fun x h=>hx x (by simp [h])) i j x (by simpa using h) hj
   simp only [flat,List.flatMap_cons]
   rw [abu (by rw [hy,acE];omega),hy,show (i + 1) * e + j - e=i * e + j by rw [acE];omega]
   exact ih
theorem Ls {b off e:Nat} {cs:List Value} {xs:List AV} (hx:∀ x∈xs,x.cells.length=e) (hr:aM M L cs (flat xs)) (hm:M.row b off cs) {i:Nat} {x:AV} (hi:xs[i]?=some x) :
 aX M L (.pointer (some ⟨b,off + i * e,none⟩)) (.ah x):=by
 have hlen:=hx x (abJ hi)
 refine .ah b (off + i * e) ((cs.drop (i * e)).take e) x ?_ ?_
 ·have h2:=(hr.drop (i * e)).take e
  have:((flat xs).drop (i * e)).take e=x.cells:=by
   apply acG
   intro j
   rw [aa7]
   split
   ·rename_i hj
    rw [aeg,flat_get xs e hx i j x hi hj]
   ·rename_i hj
    rw [acB (by omega)]
  rwa [this] at h2
 ·intro j v hv
  have:=hm _ _ (dE _ _ _ _ _ hv)
  rwa [← adf] at this
theorem wN {t e esz:Nat} (ht:P.underlying t=some (.slice e)) (hz:dU P e=some esz) {u v:Value} {x y:AV} {φ:AV→Prop} (h:aA esz x y φ)
 (Ui:∀ own xs,x=.ak own xs→∀ z∈xs,z.cells.length=esz) (hu:aX M L u x) (hv:aX M L v y) :
 ∃ r z,(Instr.indexAt t u v).run P w=.ok r w∧aX M L r z∧φ z∧∀ own xs,z=.ak own xs→own=0:=by
 have dm:(sizeOf e).run P w=.ok esz w:=by
  obtain ⟨i,hi,Ps⟩:=zF.1 hz
  simp [sizeOf,typeInfo,hi,Ps]
 have bL:∀ (b o len cap:Nat) (k:IntKind) (i:Int),0≤i→i.toNat < len→(Instr.indexAt t (.slice (some ⟨b,o,none⟩) len cap) (.int k i)).run P w=.ok (.pointer (some ⟨b,o + i.toNat * esz,none⟩)) w:=by
  intro b o len cap k i h0 h1
  have hc:0≤i∧i < (len:Int):=⟨h0,by omega⟩
  simp only [Instr.indexAt,asIntOf,Sem.run_bind,Sem.run_pure,Result.andThen_ok,run_underlying ht,hc,and_self,if_true,dm,Addr.add_lit]
 unfold aA at h
 split at h
 ·rename_i own xs k i
  obtain ⟨h0,h1,hφ⟩:=h
  cases hv
  have hi:xs[i.toNat]?=some (xs.getD i.toNat .any):=by rw [sT,aaf h1];rfl
  cases hu with
  | ig=>simp at h1
  | ak b off c _ e' cs _ he hx hn hle hc hr hm=>
    have e0:e'=esz:=by
     have h2:=hx _ (abJ hi)
     have h3:=Ui own xs rfl _ (abJ hi)
     omega
    subst e0
    exact ⟨_,_,bL b off _ c _ i h0 h1,Ls hx hr hm hi,hφ,by intro _ _ e;cases e⟩
 ·rename_i id off len cap k i
  obtain ⟨h0,h1,hφ⟩:=h
  cases hv
  cases hu with
  | ba b _ _ _ _ hl hc=>exact ⟨_,_,bL b off len cap _ i h0 h1,.ptr b _ id hl,hφ,by intro _ _ e;cases e⟩
 ·exact h.elim
theorem yN {t e:TypeId} {n:Nat} (ht:P.underlying t=some (.array n e)) (he:K6 P e=some none) {u v:Value} {x y:AV} {φ:AV→Prop} (h:b8 n x y φ) (hu:aX M L u x) (hv:aX M L v y) :
 ∃ r z,(Instr.index t u v).run P w=.ok r w∧aX M L r z∧φ z∧∀ own xs,z=.ak own xs→own=0:=by
 unfold b8 at h
 split at h
 ·rename_i xs k i
  obtain ⟨hn,h0,h1,hφ⟩:=h
  cases hv
  cases hu with
  | agg cs _ hr=>
  obtain ⟨r1,r2⟩:=eV (w:=w) (m:=1) he
  have C3:i.toNat < cs.length:=by have:=hr.length;omega
  have gl:=hr.getD i.toNat
  have e0:cs.getD i.toNat undef=cs[i.toNat]:=by rw [sT,aaf C3];rfl
  rw [e0] at gl
  refine ⟨cs[i.toNat],_,?_,gl.drop,hφ,AV.kj _⟩
  have aG:i < (n:Int):=by omega
  obtain ⟨inf,jG,dm⟩:=zF.1 r2
  have rz:(sizeOf e).run P w=.ok 1 w:=by simp [sizeOf,typeInfo,jG,dm]
  simp [Instr.index,asIntOf,run_underlying ht,h0,aG,part,r1,rz,C3]
 ·exact h.elim
theorem yO {t:TypeId} (ht:P.underlying t=some .string) {u v:Value} {x y:AV} {φ:AV→Prop} (h:bO x y φ) (hu:aX M L u x) (hv:aX M L v y) :
 ∃ r z,(Instr.index t u v).run P w=.ok r w∧aX M L r z∧φ z∧∀ own xs,z=.ak own xs→own=0:=by
 unfold bO at h
 split at h
 ·rename_i s k i
  obtain ⟨h0,h1,hφ⟩:=h
  cases hu;cases hv
  have e1:s[i.toNat]?=some s[i.toNat]:=by simp [h1]
  have e2:s.data.toList.getD i.toNat 0=s[i.toNat]:=by
   have:i.toNat < s.data.size:=h1
   rw [sT,adz,afq this];rfl
  rw [e2] at hφ
  refine ⟨_,_,?_,.int _ _,hφ,by intro _ _ e;cases e⟩
  simp only [Instr.index,asIntOf,Sem.run_bind,Sem.run_pure,Result.andThen_ok,run_underlying ht,h0,if_true,e1]
 ·exact h.elim
def jH (d:TypeDesc) (x:AV):Bool:=
 match d,x with
 | .string,.str _=>true
 | .slice _,.ag=>true
 | .slice _,.ak _ _=>true
 | .slice _,.ba _ _ _ _=>true
 | .slice _,.pW=>true
 | .map _ _,.jE=>true
 | .map _ _,.map _=>true
 | _,_=>false
theorem Lt {t:TypeId} {d:TypeDesc} (ht:P.underlying t=some d) {u:Value} {x:AV} {φ:AV→Prop} (hs:St A M L w H ev ea O)
 (hk:jH d x=true)
 (h:fT x H φ) (hu:aX M L u x) (ty:TypeId) :
 ∃ r z,(Builtin.len_ #[t] ty #[u]).run P w=.ok r w∧aX M L r z∧φ z∧∀ own xs,z=.ak own xs→own=0:=by
 unfold fT at h
 split at h
 ·cases hu
  cases d <;> simp [jH] at hk
  exact ⟨_,_,by simp [Builtin.len_,run_underlying ht,goInt],.int _ _,h,by intro _ _ e;cases e⟩
 ·cases hu
  cases d <;> simp [jH] at hk
  exact ⟨_,_,by simp [Builtin.len_,run_underlying ht,goInt],.int _ _,h,by intro _ _ e;cases e⟩
 ·rename_i own xs
  cases d <;> simp [jH] at hk
  cases hu with
  | ig a c _ hc=>exact ⟨_,_,by simp [Builtin.len_,run_underlying ht,goInt],.int _ _,h (by decide),by intro _ _ e;cases e⟩
  | ak b off c _ e' cs _ he hx hn hle hc hr hm=>exact ⟨_,_,by simp [Builtin.len_,run_underlying ht,goInt],.int _ _,h (by omega),by intro _ _ e;cases e⟩
 ·cases d <;> simp [jH] at hk
  cases hu with
  | ba b off len cap id hl hc=>exact ⟨_,_,by simp [Builtin.len_,run_underlying ht,goInt],.int _ _,h,by intro _ _ e;cases e⟩
 ·cases d <;> simp [jH] at hk
  cases hu with
  | pW a=>exact ⟨_,_,by simp [Builtin.len_,run_underlying ht,goInt],.int _ _,h,by intro _ _ e;cases e⟩
 ·cases d <;> simp [jH] at hk
  cases hu
  exact ⟨_,_,by simp [Builtin.len_,run_underlying ht,goInt],.int _ _,h,by intro _ _ e;cases e⟩
 ·rename_i id
  cases d <;> simp [jH] at hk
  cases hu with
  | map b _ hl=>
  split at h
  ·rename_i es bu
   obtain ⟨ents,ck,h1,h2,h3⟩:=hs.obj id _ b bu hl
   have hlen:ents.size=es.length:=by have:=h2.length;simpa using this
   refine ⟨_,_,?_,.int _ _,h,by intro _ _ e;cases e⟩
   simp [Builtin.len_,run_underlying ht,goInt,getObj,Sem.run,h1,hlen]
  ·exact h.elim
 ·exact h.elim
theorem Bi {i:Nat} {u:Value} {x:AV} {φ:AV→Prop} (h:bH x i φ) (hu:aX M L u x) :
 ∃ r z,(Instr.extract u i).run P w=.ok r w∧aX M L r z∧φ z∧∀ own xs,z=.ak own xs→own=0:=by
 unfold bH at h
 split at h
 ·rename_i xs
  obtain ⟨hi,hφ⟩:=h
  cases hu with
  | tuple cs _ hr=>
  have hl:=hr.length
  have gl:=hr.getD i
  have e0:cs.getD i undef=cs[i]:=by rw [sT,aaf (by omega)];rfl
  rw [e0] at gl
  exact ⟨_,_,by simp [Instr.extract,show i < cs.length by omega],gl.ab,hφ,AV.bQ _⟩
 ·exact h.elim
theorem yP {o:Oper} {X:Operand} {ρ:Operand→Value} (ho:o.op=.nilCheck X) {x:AV} {φ:AV→Prop} (h:b9 x φ) (hu:aX M L (ρ X) x) :
 ∃ r z,(execOp ρ o).run P w=.ok (.value r) w∧aX M L r z∧φ z∧∀ own xs,z=.ak own xs→own=0:=by
 unfold b9 at h
 simp only [execOp,ho]
 generalize hρ:ρ X=u at hu
 split at h
 ·cases hu;exact ⟨_,_,rfl,.ptr _ _ _ (by assumption),h,by intro _ _ e;cases e⟩
 ·cases hu;exact ⟨_,_,rfl,.ah _ _ _ _ (by assumption) (by assumption),h,by intro _ _ e;cases e⟩
 ·cases hu;exact ⟨_,_,rfl,.fn _ _ _ _ _ (by assumption) (by assumption),h,by intro _ _ e;cases e⟩
 ·exact h.elim
theorem Bj {src dst:TypeId} {d:TypeDesc} {k:IntKind} (hs:P.underlying src=some d) (hd:P.underlying dst=some (.int k)) {u:Value} {x:AV} {φ:AV→Prop} (h:cJ k x φ) (hu:aX M L u x) :
 ∃ r z,(convert src dst u).run P w=.ok r w∧aX M L r z∧φ z∧∀ own xs,z=.ak own xs→own=0:=by
 unfold cJ at h
 split at h
 ·rename_i k' n'
  cases hu
  refine ⟨_,_,?_,.int _ _,h,by intro _ _ e;cases e⟩
  simp [convert,run_underlying hs,run_underlying hd,Conv.intToInt]
 ·exact h.elim
theorem HY {big:Bool} {u v:Value} {x y:AV} {φ:AV→Prop} (h:yM big x y φ) (hu:aX M L u x) (hv:aX M L v y) (ts:Array TypeId) (ty:TypeId) :
 ∃ r z,(if big then Builtin.max_ ts ty #[u,v] else Builtin.min_ ts ty #[u,v]).run P w=.ok r w∧aX M L r z∧φ z∧∀ own xs,z=.ak own xs→own=0:=by
 unfold yM at h
 split at h
 ·cases hu;cases hv
  cases big
  ·exact ⟨_,_,rfl,.int _ _,h,by intro _ _ e;cases e⟩
  ·exact ⟨_,_,rfl,.int _ _,h,by intro _ _ e;cases e⟩
 ·exact h.elim
end
end Go.aK
end
section
namespace Go.aK
open Go
def cE (zero:List AV) (parts:List (Nat×Nat×AV)) (φ:AV→Prop):Prop:=iu zero parts fun xs=>φ (.agg xs)
def bm (xs:List AV) (esz:Nat):List (Nat×AV)→(List AV→Prop)→Prop
 | [],φ=>φ xs
 | (i,x)::r,φ=>x.val=true∧x.cells.length=esz∧i < xs.length∧bm (xs.set i (aR x)) esz r φ
where aR:AV→AV
 | .agg ys=>.agg (ys.map AV.drop)
 | x=>x.drop
abbrev aR:=bm.aR
section
variable {M:Mem} {L:List Nat}
theorem aX.aR {v:Value} {x:AV} (h:aX M L v x):aX M L v (aR x):=by
 cases x <;> first | exact h.drop | skip
 cases h with
 | agg cs _ hr=>exact .agg cs _ hr.map_drop
theorem fE (x:AV):(aR x).cells.length=x.cells.length:=by
 cases x <;> simp [bm.aR,AV.cells,AV.drop]
theorem td {x:AV} (h:x.val=true):(aR x).val=true:=by
 cases x <;> simp_all [bm.aR,AV.val,AV.drop]
theorem FY (x:AV):∀ own xs,aR x=.ak own xs→own=0:=by
 intro own xs h
 cases x <;> simp_all [bm.aR,AV.drop]
end
section
variable {P:Program} {w:World} {M:Mem} {L:List Nat} {H:List aa} {A:Perm} {ev:Nat→Value} {ea:Nat→AV} {O:Pos→Option Nat}
theorem Jj (hs:St A M L w H ev ea O) (e:TypeId) {u:Value} {x:AV} (hu:aX M L u x) (hv:x.val=true) :
 ∃ r M' w',(Instr.box e u).run P w=.ok r w'∧aX M' L r (.ah x)∧St A M' L w' H ev ea O∧Ext A M w M' w':=by
 obtain ⟨h1,h2,h3⟩:=hs.FU u.cells e
 exact ⟨_,_,_,rfl,.ah _ _ _ _ ((hu.gO hv).mono h2.lZ (aaL _)) h3,h1,h2⟩
theorem Df (hs:St A M L w H ev ea O) (e:TypeId) {u:Value} {x:AV} (hu:aX M L u x) (hv:x.val=true) (hb:aj (H.length + 1) (x.cells.map AV.ab)=true) :
 ∃ r L' w',(Instr.box e u).run P w=.ok r w'∧aX M L' r (.ptr H.length 0)∧St A M L' w' (H++[.cells (x.cells.map AV.ab)]) ev ea O∧Ext A M w M w'∧L <+: L':=by
 obtain ⟨h1,h2⟩:=hs.s6 (.cells u.cells e) (.cells (x.cells.map AV.ab)) (fun w' hw hM=>⟨u.cells,e,hw,((hu.gO hv).di).mono (Mem.bX M) ⟨_,rfl⟩,hM⟩) hb (fun j=>by
  simp only [oD]
  refine bi.free ?_
  intro own xs h
  rw [sT,acQ] at h
  cases hx:x.cells[j]? with
  | none=>simp [hx] at h
  | some y=>simp [hx] at h;exact AV.bQ y own xs h)
 refine ⟨_,_,_,rfl,.ptr _ _ _ ?_,h1,h2,⟨_,rfl⟩⟩
 rw [abu (by rw [hs.len];exact sU _),hs.len];simp
theorem FZ (hs:St A M L w H ev ea O) {e:TypeId} {z:AV} (hz:gr P e=some z) (hv:z.val=true) (hb:aj (H.length + 1) (z.cells.map AV.ab)=true) :
 ∃ r L' w',(Instr.alloc e true (.tuple #[])).run P w=.ok r w'∧aX M L' r (.ptr H.length 0)∧St A M L' w' (H++[.cells (z.cells.map AV.ab)]) ev ea O∧Ext A M w M w'∧L <+: L':=by
 unfold gr at hz
 split at hz
 ·rename_i i hi
  split at hz
  ·rename_i v uA
   obtain ⟨r,L',w',h1,h2⟩:=Df (P:=P) hs e (cT hz) hv hb
   refine ⟨r,L',w',?_,h2⟩
   rw [← h1]
   simp only [Instr.alloc,Instr.box,zeroValue,typeInfo,Sem.run_bind,run_program,Result.andThen_ok,hi,Sem.run_pure,uA]
  ·cases hz
 ·cases hz
theorem wO (vs:List Value):∀ (off k:Nat) (cs:Array Value),off + k + vs.length≤cs.size→
 ((vs.zipIdx k).foldl (fun cs (x:Value×Nat)=>cs.setIfInBounds (off + x.2) x.1) cs).toList=ai cs.toList (off + k) vs:=by
 induction vs with
 | nil=>intro off k cs h;simp [ai]
 | cons v vs ih=>
   intro off k cs h
   simp only [List.zipIdx_cons,List.foldl_cons]
   rw [ih off (k + 1) _ (by simp at h ⊢;omega)]
   simp only [Array.toList_setIfInBounds,ai]
   simp only [List.length_cons] at h
   apply acG
   intro j
   simp only [aeT,aa7,acJ,acI,afb,aeg,List.length_cons]
   by_cases h1:j < off + k
   ·have:j < min (off + k) cs.size:=by omega
    have:j < min (off + (k + 1)) cs.size:=by omega
    simp only [*,if_true]
    rw [if_pos (by omega),zC (by omega)]
   ·by_cases h2:j=off + k
    ·subst h2
     have:off + k < min (off + (k + 1)) cs.size:=by omega
     simp only [this,if_true]
     rw [if_pos (by omega),zD (by simp;omega),if_neg (by omega)]
     rw [show off + k - min (off + k) cs.size=0 by omega]
     simp
    ·have n1:¬ j < min (off + (k + 1)) cs.size:=by omega
     have n2:¬ j < min (off + k) cs.size:=by omega
     simp only [n1,n2,if_false]
     rw [show j - min (off + k) cs.size=(j - min (off + (k + 1)) cs.size) + 1 by omega]
     simp only [Nat.add_lt_add_iff_right,List.getElem?_cons_succ]
     split
     ·rfl
     ·rw [zC (by omega)]
      congr 1
      omega
theorem zH {place:Nat→Option (Nat×Nat)}:∀ (parts:List (Nat×Nat×AV)) (vs:List (Nat×Value)) {cs:Array Value} {zs:List AV} {φ:List AV→Prop},
 (∀ (j:Nat) (p:Nat×Nat×AV),parts[j]?=some p→∃ i v,vs[j]?=some (i,v)∧place i=some (p.1,p.2.1)∧aX M L v p.2.2)→vs.length=parts.length→aM M L cs.toList zs→iu zs parts φ→
 ∃ cs' zs',Instr.fill place cs vs=some cs'∧aM M L cs'.toList zs'∧φ zs'
 | [],[],cs,zs,φ,_,_,hr,h=>⟨cs,zs,rfl,hr,h⟩
 | [],_::_,_,_,_,_,hl,_,_=>by simp at hl
 | _::_,[],_,_,_,_,hl,_,_=>by simp at hl
 | (off,sz,x)::r,(i,v)::vs,cs,zs,φ,H,hl,hr,h=>by
   obtain ⟨hv,dm,hle,h⟩:=h
   obtain ⟨i',v',e1,e2,e3⟩:=H 0 _ rfl
   simp at e1
   obtain ⟨rfl,rfl⟩:=e1
   have hlen:=hr.length
   have hc:=e3.gO hv
   have jD:v.cells.size=sz:=by have:=hc.length;simp at this;rw [this];exact dm
   have og:aM M L (v.cells.zipIdx.foldl (fun cs (x:Value×Nat)=>cs.setIfInBounds (off + x.2) x.1) cs).toList (ai zs off (x.cells.map AV.ab)):=by
    have h0:=wO v.cells.toList off 0 cs (by simp at hlen ⊢;omega)
    have h1:v.cells.zipIdx.foldl (fun cs (x:Value×Nat)=>cs.setIfInBounds (off + x.2) x.1) cs=(v.cells.toList.zipIdx 0).foldl (fun cs (x:Value×Nat)=>cs.setIfInBounds (off + x.2) x.1) cs:=by
     rw [← agC,Array.toList_zipIdx]
    rw [h1,h0]
    exact hc.di.Bg off hr
   obtain ⟨cs',zs',f1,f2,f3⟩:=zH r vs (fun j p hp=>by
    obtain ⟨i,v,a1,a2⟩:=H (j + 1) p (by simpa using hp)
    exact ⟨i,v,by simpa using a1,a2⟩) (by simpa using hl) og h
   refine ⟨cs',zs',?_,f2,f3⟩
   unfold Instr.fill
   simp only [e2]
   have X6:off + v.cells.size≤cs.size:=by simp at hlen;omega
   simp only [jD,ne_eq,not_true_eq_false,decide_false,Bool.false_or]
   rw [if_neg (by simp;omega)]
   exact f1
def F0 (P:Program) (t:TypeId):Option (AV×List (Nat×Nat)):=
 match P.info? t,P.underlying t,gr P t with
 | some _,some (.struct fields),some z=>match fields.toList.mapM (fun f=>(P.info? f.type).map fun i=>(f.offset,i.size)) with
   | some places=>some (z,places)
   | none=>none
 | some _,some (.array n e),some z=>match P.info? e with
   | some ie=>some (z,(List.range n).map fun i=>(i * ie.size,ie.size))
   | none=>none
 | _,_,_=>none
def fV (places:List (Nat×Nat)):List (Nat×Operand)→Option (List (Nat×Nat×IX))
 | []=>some []
 | (i,x)::r=>match places[i]?,aV x,fV places r with
   | some (off,sz),some ix,some rest=>some ((off,sz,ix)::rest)
   | _,_,_=>none
theorem oJ {n:Nat} {env:Env} {a:Act} (hf:Fr A n M L w H env O a) {places:List (Nat×Nat)} {place:Nat→Option (Nat×Nat)} (hp:∀ i q,places[i]?=some q→place i=some q) :
 ∀ (parts:List (Nat×Operand)) (ps:List (Nat×Nat×IX)),fV places parts=some ps→
  ∀ (j:Nat) (p:Nat×Nat×AV),(ps.map fun q=>(q.1,q.2.1,ap env q.2.2))[j]?=some p→∃ i v,(parts.map fun q=>(q.1,a.eval q.2))[j]?=some (i,v)∧place i=some (p.1,p.2.1)∧aX M L v p.2.2
 | [],ps,h,j,p,hj=>by simp [fV] at h;subst h;simp at hj
 | (i,x)::r,ps,h,j,p,hj=>by
   unfold fV at h
   split at h
   ·rename_i off sz ix rest h1 h2 h3
    cases h
    cases j with
    | zero=>
      simp at hj;subst hj
      exact ⟨i,a.eval x,by simp,hp _ _ h1,hf.eval h2⟩
    | succ j=>
      obtain ⟨i',v',a1,a2⟩:=oJ hf hp r rest h3 j p (by simpa using hj)
      exact ⟨i',v',by simpa using a1,a2⟩
   ·cases h
theorem l8 {places:List (Nat×Nat)}:∀ (parts:List (Nat×Operand)) (ps:List (Nat×Nat×IX)),fV places parts=some ps→ps.length=parts.length
 | [],ps,h=>by simp [fV] at h;subst h;rfl
 | (i,x)::r,ps,h=>by
   unfold fV at h
   split at h
   ·rename_i off sz ix rest h1 h2 h3
    cases h
    simp [l8 r rest h3]
   ·cases h
theorem F3 {n:Nat} {env:Env} {a:Act} (hf:Fr A n M L w H env O a) {t:TypeId} {z:AV} {places:List (Nat×Nat)} (ht:F0 P t=some (z,places)) {parts:Array (Nat×Operand)} {ps:List (Nat×Nat×IX)}
 (hc:fV places parts.toList=some ps) {φ:AV→Prop} (h:cE z.cells (ps.map fun q=>(q.1,q.2.1,ap env q.2.2)) φ) (uA:z.val=true) :
 ∃ r x,(Instr.build t (parts.map fun (i,x)=>(i,a.eval x))).run P w=.ok r w∧aX M L r x∧φ x∧∀ own xs,x=.ak own xs→own=0:=by
 have hparts:(parts.map fun (i,x)=>(i,a.eval x)).toList=parts.toList.map fun q=>(q.1,a.eval q.2):=by simp
 have key:∀ (place:Nat→Option (Nat×Nat)) (v:Value),(∀ i q,places[i]?=some q→place i=some q)→ofValue v=some z→
  ∃ cs' x,Instr.fill place v.cells (parts.toList.map fun q=>(q.1,a.eval q.2))=some cs'∧aX M L (.agg cs') x∧φ x∧∀ own xs,x=.ak own xs→own=0:=by
  intro place v hp hv
  obtain ⟨cs',zs',f1,f2,f3⟩:=zH (M:=M) (L:=L) (place:=place) _ (parts.toList.map fun q=>(q.1,a.eval q.2)) (oJ hf hp _ _ hc) (by simp [l8 _ _ hc]) ((cT hv).gO uA) h
  exact ⟨cs',_,f1,by simpa using aX.agg cs'.toList zs' f2,f3,by intro _ _ e;cases e⟩
 unfold F0 at ht
 split at ht
 ·rename_i it fields z' hi hu hz
  split at ht
  ·rename_i pl vM
   cases ht
   unfold gr at hz
   simp only [hi] at hz
   split at hz
   ·rename_i v hv
    obtain ⟨cs',x,f1,f2,f3,f4⟩:=key (places.toArray[·]?) v (fun i q h=>by simpa using h) hz
    refine ⟨_,x,run_build w t _ cs' ?_,f2,f3,f4⟩
    rw [hparts]
    unfold Program.built
    simp only [hi,hu,hv,vM]
    exact f1
   ·cases hz
  ·cases ht
 ·rename_i it m e z' hi hu hz
  split at ht
  ·rename_i ie Lu
   cases ht
   unfold gr at hz
   simp only [hi] at hz
   split at hz
   ·rename_i v hv
    obtain ⟨cs',x,f1,f2,f3,f4⟩:=key (fun i=>some (i * ie.size,ie.size)) v (fun i q h=>by
     rw [acQ] at h
     obtain ⟨k,hk,rfl⟩:=zF.1 h
     rw [List.getElem?_range (by rcases afv i m with h' | h';exact h';rw [acB (by simpa using h')] at hk;cases hk)] at hk
     cases hk;rfl) hz
    refine ⟨_,x,run_build w t _ cs' ?_,f2,f3,f4⟩
    rw [hparts]
    unfold Program.built
    simp only [hi,hu,hv,Lu]
    exact f1
   ·cases hz
  ·cases ht
 ·cases ht
theorem Dg:∀ (xs:List AV) (e i:Nat) (x:AV),(∀ y∈xs,y.cells.length=e)→x.cells.length=e→i < xs.length→flat (xs.set i x)=ai (flat xs) (i * e) x.cells
 | [],_,_,_,_,_,h=>by simp at h
 | y::ys,e,0,x,hx,hc,_=>by
   have:=hx y (by simp)
   simp [flat,ai,hc,this]
 | y::ys,e,i + 1,x,hx,hc,h=>by
   have hy:=hx y (by simp)
   have ih:=Dg ys e i x (fun z hz=>hx z (by simp [hz])) hc (by simpa using h)
   simp only [flat] at ih
   simp only [agD,flat,List.flatMap_cons,ih,ai]
   rw [aeU,Ue (l:=y.cells) (by rw [hy,acE];omega),ac8,af9 (as:=y.cells) (by rw [hy,acE];omega),hy]
   simp only [List.nil_append,abb]
   rw [show (i + 1) * e - e=i * e by rw [acE];omega,show (i + 1) * e + x.cells.length - e=i * e + x.cells.length by rw [acE];omega]
theorem cU:∀ (xs:List AV) (e:Nat),(∀ y∈xs,y.cells.length=e)→(flat xs).length=xs.length * e
 | [],e,_=>by simp [flat]
 | y::ys,e,hx=>by
   have hy:=hx y (by simp)
   have ih:=cU ys e (fun z hz=>hx z (by simp [hz]))
   simp only [flat] at ih
   simp only [flat,List.flatMap_cons,aaz,hy,ih,List.length_cons,acE,Nat.one_mul]
   omega
theorem Dh {place:Nat→Option (Nat×Nat)} {i off:Nat} {v:Value} {vs:List (Nat×Value)} {cs:Array Value} (hp:place i=some (off,v.cells.size)) (hle:off + v.cells.size≤cs.size) :
 Instr.fill place cs ((i,v)::vs)=Instr.fill place (ai cs.toList off v.cells.toList).toArray vs:=by
 have h0:=wO v.cells.toList off 0 cs (by simpa using hle)
 have h1:v.cells.zipIdx.foldl (fun cs (x:Value×Nat)=>cs.setIfInBounds (off + x.2) x.1) cs=(v.cells.toList.zipIdx 0).foldl (fun cs (x:Value×Nat)=>cs.setIfInBounds (off + x.2) x.1) cs:=by
  rw [← agC,Array.toList_zipIdx]
 rw [← h1] at h0
 conv=>lhs;unfold Instr.fill
 simp only [hp,ne_eq,not_true_eq_false,decide_false,Bool.false_or]
 rw [if_neg (by simp;omega)]
 congr 1
 apply Array.ext'
 simpa using h0
theorem oK (e:Nat):∀ (parts:List (Nat×AV)) (vs:List (Nat×Value)) {cs:Array Value} {xs:List AV} {φ:List AV→Prop},
 (∀ (j:Nat) (p:Nat×AV),parts[j]?=some p→∃ v,vs[j]?=some (p.1,v)∧aX M L v p.2)→vs.length=parts.length→aM M L cs.toList (flat xs)→(∀ y∈xs,y.cells.length=e)→bm xs e parts φ→
 ∃ cs' xs',Instr.fill (fun i=>some (i * e,e)) cs vs=some cs'∧aM M L cs'.toList (flat xs')∧(∀ y∈xs',y.cells.length=e)∧xs'.length=xs.length∧φ xs'
 | [],[],cs,xs,φ,_,_,hr,hx,h=>⟨cs,xs,rfl,hr,hx,rfl,h⟩
 | [],_::_,_,_,_,_,hl,_,_,_=>by simp at hl
 | _::_,[],_,_,_,_,hl,_,_,_=>by simp at hl
 | (i,x)::r,(i',v)::vs,cs,xs,φ,H,hl,hr,hx,h=>by
   obtain ⟨hv,dm,hi,h⟩:=h
   obtain ⟨v',e1,e3⟩:=H 0 _ rfl
   simp at e1
   obtain ⟨rfl,rfl⟩:=e1
   have hc:=(e3.aR).gO (td hv)
   have jD:v.cells.size=e:=by have:=hc.length;simp at this;rw [this,fE];exact dm
   have hlen:=hr.length
   rw [cU xs e hx] at hlen
   simp only [afb] at hlen
   have hle:i' * e + v.cells.size≤cs.size:=by
    rw [jD,hlen]
    calc i' * e + e=(i' + 1) * e:=by rw [acE];omega
     _≤xs.length * e:=ac3 _ hi
   rw [Dh (place:=fun i=>some (i * e,e)) (by rw [jD]) hle]
   have yH:∀ y∈xs.set i' (aR x),y.cells.length=e:=by
    intro y hy
    rcases acH hy with h' | rfl
    ·exact hx y h'
    ·rw [fE];exact dm
   have og:aM M L (ai cs.toList (i' * e) v.cells.toList).toArray.toList (flat (xs.set i' (aR x))):=by
    rw [Dg xs e i' _ hx (by rw [fE];exact dm) hi]
    exact hc.Bg _ hr
   obtain ⟨cs',xs',f1,f2,f3,f4,f5⟩:=oK e r vs (fun j p hp=>by
    obtain ⟨v,a1,a2⟩:=H (j + 1) p (by simpa using hp)
    exact ⟨v,by simpa using a1,a2⟩) (by simpa using hl) og yH h
   exact ⟨cs',xs',f1,f2,f3,by simpa using f4,f5⟩
def ky:List (Nat×Operand)→Option (List (Nat×IX))
 | []=>some []
 | (i,x)::r=>match aV x,ky r with
   | some ix,some rest=>some ((i,ix)::rest)
   | _,_=>none
theorem nY {n:Nat} {env:Env} {a:Act} (hf:Fr A n M L w H env O a) :
 ∀ (parts:List (Nat×Operand)) (ps:List (Nat×IX)),ky parts=some ps→
  (∀ (j:Nat) (p:Nat×AV),(ps.map fun q=>(q.1,ap env q.2))[j]?=some p→∃ v,(parts.map fun q=>(q.1,a.eval q.2))[j]?=some (p.1,v)∧aX M L v p.2)∧ps.length=parts.length
 | [],ps,h=>by simp [ky] at h;subst h;simp
 | (i,x)::r,ps,h=>by
   unfold ky at h
   split at h
   ·rename_i ix rest h2 h3
    cases h
    obtain ⟨i1,i2⟩:=nY hf r rest h3
    refine ⟨fun j p hj=>?_,by simp [i2]⟩
    cases j with
    | zero=>
      simp at hj;subst hj
      exact ⟨a.eval x,by simp,hf.eval h2⟩
    | succ j=>
      obtain ⟨v',a1,a2⟩:=i1 j p (by simpa using hj)
      exact ⟨v',by simpa using a1,a2⟩
   ·cases h
theorem kz (z:Array Value) (e len:Nat) (hz:z.size=e) (he:0 < e) (x:AV) (hr:aM M L z.toList x.cells) :
 aM M L (((Array.range (len * e)).map (z[· % z.size]!)).toList) (flat (List.replicate len x)):=by
 have Jk:x.cells.length=e:=by rw [← hr.length];simpa using hz
 have jn:∀ y∈List.replicate len x,y.cells.length=e:=fun y hy=>by rw [acK hy];exact Jk
 apply aM.Bc
 ·rw [cU _ e jn];simp
 ·intro j y hj
  have rp:j < len * e:=by have:=aO hj;rw [cU _ e jn] at this;simpa using this
  have hq:j / e < len:=Nat.div_lt_of_lt_mul (by rw [Nat.mul_comm];exact rp)
  have hm:j % e < e:=agJ _ he
  have h1:=flat_get (List.replicate len x) e jn (j / e) (j % e) x (by simp [hq]) hm
  rw [show j / e * e + j % e=j from Nat.div_add_mod' j e] at h1
  rw [h1] at hj
  obtain ⟨v,hv,gl⟩:=hr.get _ _ hj
  refine ⟨v,?_,gl⟩
  have jI:j % e < z.size:=by omega
  simp only [Array.toList_map,Array.toList_range,acQ,List.getElem?_range rp,Option.map_some,hz]
  simp only [adz] at hv
  simp [getElem!_pos,jI] at hv ⊢
  exact hv
theorem vz (hs:St A M L w H ev ea O) {t e:TypeId} (ht:P.underlying t=some (.slice e)) {esz:Nat} (he:dU P e=some esz) (h0:0 < esz) {z:AV} (hz:gr P e=some z) (jI:z.cells.length=esz) (uA:z.val=true) (own:Nat)
 {len:Nat} (hlen:len * esz≤16777216) {parts:List (Nat×AV)} {vs:Array (Nat×Value)} (hp:∀ (j:Nat) (p:Nat×AV),parts[j]?=some p→∃ v,vs.toList[j]?=some (p.1,v)∧aX M L v p.2) (hl:vs.toList.length=parts.length)
 {φ:List AV→Prop} (h:bm (List.replicate len (aR z)) esz parts φ) :
 ∃ m xs M' w' ad,(Instr.buildSlice t len vs).run P w=.ok (.slice ad m m) w'∧aX M' L (.slice ad m m) (.ak own xs)∧(∀ y∈xs,y.cells.length=esz)∧φ xs∧St A M' L w' H ev ea O∧Ext A M w M' w':=by
 unfold gr at hz
 obtain ⟨ie,Lu,dm⟩:=zF.1 he
 simp only [Lu] at hz
 split at hz
 ·rename_i zv wP
  have Di:=(cT (M:=M) (L:=L) hz).aR.gO (td uA)
  have vN:zv.cells.size=esz:=by have:=Di.length;rw [fE,jI] at this;simpa using this
  obtain ⟨cs',xs',f1,f2,f3,f4,f5⟩:=oK (M:=M) (L:=L) esz parts vs.toList hp hl (kz zv.cells esz len vN h0 (aR z) Di) (fun y hy=>by rw [acK hy,fE];exact jI) h
  simp only [acR] at f4
  obtain ⟨g1,g2,g3⟩:=hs.FU cs' e
  have bL:(Instr.buildSlice t len vs).run P w=.ok (.slice (some ⟨w.heap.size,0,none⟩) len len) { w with heap:=w.heap.push (.cells cs' e) }:=by
   by_cases oh:len * ie.size=0
   ·have yQ:len=0:=by
     rcases Nat.mul_eq_zero.1 oh with h' | h'
     ·exact h'
     ·omega
    subst yQ
    have Pt:cs'=#[]:=by
     have:=f2.length
     rw [cU _ esz f3,f4] at this
     simp at this
     exact this
    have XD:vs.toList=[]:=by
     cases yR:vs.toList with
     | nil=>rfl
     | cons q r=>
       rw [yR] at hl
       cases parts with
       | nil=>simp at hl
       | cons p ps=>obtain ⟨_,_,h3,_⟩:=h;simp at h3
    subst Pt
    have hf:Instr.fill (fun i=>some (i * ie.size,ie.size)) #[] vs.toList=some #[]:=by rw [XD];rfl
    simp [Instr.buildSlice,run_underlying ht,sizeOf,typeInfo,Lu,newRow,XD,Instr.fill]
    congr 2
    apply Array.ext'
    simp
   ·rw [run_buildSlice w t e len vs cs' ie zv ht Lu wP (by rw [dm];omega) oh (by rw [dm];exact f1)]
    rfl
  refine ⟨len,xs',_,_,_,bL,?_,f3,f5,g1,g2⟩
  by_cases yQ:len=0
  ·subst yQ
   have:xs'=[]:=adl f4
   subst this
   exact .ig _ _ _ (by decide)
  ·have:=aX.ak (M:=M.add w.heap.size cs'.toList) (L:=L) w.heap.size 0 len own esz cs'.toList xs' h0 f3 (by omega) (by omega) (by
    have:len≤len * esz:=acU _ h0
    omega) (f2.mono g2.lZ (aaL _)) g3
   rw [f4] at this
   exact this
 ·cases hz
end
end Go.aK
end
section
namespace Go.aK
open Go
def iZ (m:Nat) (p x:AV) (H:List aa) (K:List aa→Prop):Prop:=
 match p with
 | .ptr id off=>match H[id]? with
   | some (.cells es)=>x.val=true∧x.cells.length=m∧off + m≤es.length∧x.cells.all AV.one=true∧aj (id + 1) (x.cells.map AV.ab)=true∧
      K (H.set id (.cells (ai es off (x.cells.map AV.ab))))
   | _=>False
 | _=>False
theorem a8 {n:Nat} {xs ys:List AV}:aj n (xs++ys)=true↔aj n xs=true∧aj n ys=true:=by
 simp only [bc,ab7]
 constructor
 ·intro h;exact ⟨fun x hx=>h x (.inl hx),fun x hx=>h x (.inr hx)⟩
 ·rintro ⟨h1,h2⟩ x (hx | hx)
  ·exact h1 x hx
  ·exact h2 x hx
theorem uB {n m:Nat} {xs:List AV} (h:aj n xs=true):aj n (xs.take m)=true:=by
 rw [bc] at *;exact fun x hx=>h x (ac2 hx)
theorem uC {n m:Nat} {xs:List AV} (h:aj n xs=true):aj n (xs.drop m)=true:=by
 rw [bc] at *;exact fun x hx=>h x (aeW hx)
theorem fF {α:Type} (zs:List α) (off:Nat) (xs:List α) (h:off + xs.length≤zs.length) (j:Nat) :
 (ai zs off xs)[j]?=if off≤j∧j < off + xs.length then xs[j - off]? else zs[j]?:=by
 unfold ai
 simp only [aeT,acJ,aa7,aeg]
 by_cases h1:j < off
 ·rw [if_pos (by omega),if_pos h1,if_neg (by omega)]
 ·rw [if_neg (by omega),show j - min off zs.length=j - off by omega]
  by_cases h2:j < off + xs.length
  ·rw [if_pos (by omega),if_pos ⟨by omega,h2⟩]
  ·rw [if_neg (by omega),if_neg (by omega)]
   congr 1;omega
section
variable {P:Program} {w:World} {M:Mem} {L:List Nat} {H:List aa} {A:Perm} {ev:Nat→Value} {ea:Nat→AV} {O:Pos→Option Nat}
theorem wJ.sub {O O':Pos→Option Nat} (Uj:∀ p q b,O p=some b→O q=some b→p=q) (h:∀ p b,O' p=some b→O p=some b):wJ O O':=
 ⟨fun p q b hp hq=>Uj p q b (h p b hp) (h q b hq),fun p b hp=>⟨p,h p b hp⟩⟩
theorem zJ (hs:St A M L w H ev ea O) {t:TypeId} {m:Nat} (ht:dU P t=some m) {v:Value} {x:AV} {id off b:Nat} {es:List AV} (hl:L[id]?=some b) (bu:H[id]?=some (.cells es)) (hv:aX M L v x)
 (kX:x.val=true) (hlen:x.cells.length=m) (hle:off + m≤es.length) (lH:x.cells.all AV.one=true) (pv:aj (A.kh H.length id) (x.cells.map AV.ab)=true) :
 ∃ w' O',(Instr.storeAt t (.pointer (some ⟨b,off,none⟩)) v).run P w=.ok () w'∧St A M L w' (H.set id (.cells (ai es off (x.cells.map AV.ab)))) ev ea O'∧Ext A M w M w':=by
 obtain ⟨cs,e,h1,h2,h3⟩:=hs.obj id _ b bu hl
 have Pu:=hv.gO kX
 have rq:=Pu.length
 have jD:=h2.length
 obtain ⟨i,hi,Lv⟩:=zF.1 ht
 have dm:(sizeOf t).run P w=.ok m w:=by simp [sizeOf,typeInfo,hi,Lv]
 have b7:=run_storeCells_at P b off e v.cells.toList 0 cs w h1 (by simp at jD ⊢;simp at rq;omega) (Pu.ij lH)
 have bL:(Instr.storeAt t (.pointer (some ⟨b,off,none⟩)) v).run P w=.ok () (w.setRow b (ai cs.toList off v.cells.toList).toArray):=by
  simp only [Instr.storeAt,Instr.sureAddr,storeVar,Sem.run_bind,Sem.run_pure,Result.andThen_ok,dm,ne_eq]
  rw [if_neg (by simp at rq;omega)]
  simpa [ai] using b7
 let O':Pos→Option Nat:=fun q=>match q with
  | .t t=>O (.t t)
  | .c id' j=>if id'=id∧off≤j∧j < off + m then none else O (.c id' j)
 have hO:∀ q b,O' q=some b→O q=some b:=by
  intro q b hq
  cases q with
  | t t=>exact hq
  | c id' j=>
    simp only [O'] at hq
    split at hq
    ·cases hq
    ·exact hq
 have OV:off + (x.cells.map AV.ab).length≤es.length:=by simp;omega
 have hsv:off + v.cells.toList.length≤cs.toList.length:=by omega
 obtain ⟨g1,g2⟩:=hs.write (cs':=(ai cs.toList off v.cells.toList).toArray) (es':=ai es off (x.cells.map AV.ab)) (O':=O') bu hl h1
  (by simpa using Pu.di.Bg off h2)
  (by
    have b7:=hs.bG id _ bu
    simp only [aa.aW] at b7
    unfold ai
    exact a8.2 ⟨uB b7,a8.2 ⟨pv,uC b7⟩⟩)
  (wJ.sub hs.ct hO) hs.env hs.iQ (by
  intro j
  have e1:((ai cs.toList off v.cells.toList).toArray)[j]?=(ai cs.toList off v.cells.toList)[j]?:=by simp
  rw [e1,fF _ _ _ hsv,sT,fF _ _ _ OV]
  simp only [ac1]
  have e2:v.cells.toList.length=x.cells.length:=rq
  rw [e2,hlen]
  by_cases hj:off≤j∧j < off + m
  ·simp only [hj,and_self,if_true]
   have:O' (.c id j)=none:=by simp [O',hj]
   rw [this]
   refine bi.free ?_
   intro own xs hh
   rw [acQ] at hh
   cases hx:x.cells[j - off]? with
   | none=>simp [hx] at hh
   | some y=>simp [hx] at hh;exact AV.bQ y own xs hh
  ·simp only [hj,if_false]
   have:O' (.c id j)=O (.c id j):=by simp only [O'];rw [if_neg (by intro h';exact hj h'.2)]
   rw [this]
   have h0:=hs.iL id j
   have e3:bR L w id j=(cs.toList[j]?).getD undef:=by
    unfold bR;simp [hl,World.cell?,h1]
   have e4:bB H id j=(es[j]?).getD .any:=by
    unfold bB;simp [bu,sT]
   rw [e3,e4] at h0
   exact h0)
  (by intro id' j eS;simp [O',eS])
 exact ⟨_,_,bL,g1,g2⟩
theorem F4 (hs:St A M L w H ev ea O) {t:TypeId} {m:Nat} (ht:dU P t=some m) {u v:Value} {p x:AV} {K:List aa→Prop} (h:iZ m p x H K) (hu:aX M L u p) (hv:aX M L v x) :
 ∃ w' H' O',(Instr.storeAt t u v).run P w=.ok () w'∧K H'∧St A M L w' H' ev ea O'∧Ext A M w M w':=by
 unfold iZ at h
 split at h <;> try exact h.elim
 rename_i id off
 cases hu with
 | ptr b _ _ hl=>
 split at h <;> try exact h.elim
 rename_i es bu
 obtain ⟨kX,hlen,hle,lH,pv,hK⟩:=h
 obtain ⟨w',O',h1,h2,h3⟩:=zJ hs ht hl bu hv kX hlen hle lH (bK (A.mP (aO bu)) _ pv)
 exact ⟨w',_,O',h1,hK,h2,h3⟩
def iv (lo m:Nat) (p x:AV) (H:List aa) (K:List aa→Prop):Prop:=
 match p with
 | .ptr id off=>match H[id]? with
   | some (.cells es)=>lo≤id∧x.val=true∧x.cells.length=m∧off + m≤es.length∧x.cells.all AV.one=true∧aj H.length (x.cells.map AV.ab)=true∧
      K (H.set id (.cells (ai es off (x.cells.map AV.ab))))
   | _=>False
 | _=>False
theorem Dj (hs:St A M L w H ev ea O) {t:TypeId} {m lo:Nat} (wQ:∀ id,lo≤id→A.top id=none) (ht:dU P t=some m) {u v:Value} {p x:AV} {K:List aa→Prop} (h:iv lo m p x H K) (hu:aX M L u p) (hv:aX M L v x) :
 ∃ w' H' O',(Instr.storeAt t u v).run P w=.ok () w'∧K H'∧St A M L w' H' ev ea O'∧Ext A M w M w':=by
 unfold iv at h
 split at h <;> try exact h.elim
 rename_i id off
 cases hu with
 | ptr b _ _ hl=>
 split at h <;> try exact h.elim
 rename_i es bu
 obtain ⟨hi,kX,hlen,hle,lH,pv,hK⟩:=h
 have e:A.kh H.length id=H.length:=by unfold Perm.kh;rw [wQ id hi]
 obtain ⟨w',O',h1,h2,h3⟩:=zJ hs ht hl bu hv kX hlen hle lH (by rw [e];exact pv)
 exact ⟨w',_,O',h1,hK,h2,h3⟩
theorem St.Jl (hs:St A M L w H ev ea O) {id b off:Nat} {es:List AV} (bu:H[id]?=some (.cells es)) (hl:L[id]?=some b) (pY:off < es.length) :
 St A M L w (H.set id (.cells (es.set off (es.getD off .any).ab))) ev ea (eM O (.c id off) none):=by
 obtain ⟨cs,e,h1,h2,h3⟩:=hs.obj id _ b bu hl
 have jD:=h2.length
 have hO:∀ q b,eM O (.c id off) none q=some b→O q=some b:=by
  intro q b hq
  simp only [eM] at hq
  split at hq
  ·cases hq
  ·exact hq
 have hgetD:es.getD off .any=es[off]:=by rw [sT,aaf pY];rfl
 have gl:aM M L cs.toList (es.set off (es.getD off .any).ab):=by
  have hg:=(h2.getD off).ab
  have:=h2.set hg off
  have Bk:off < cs.toList.length:=by omega
  have e0:cs.toList.set off (cs.toList.getD off undef)=cs.toList:=by
   rw [sT,aaf Bk]
   exact List.set_getElem_self Bk
  rwa [e0] at this
 obtain ⟨g1,g2⟩:=hs.write (cs':=cs) (es':=es.set off (es.getD off .any).ab) (O':=eM O (.c id off) none) bu hl h1 gl (by
  have b7:=hs.bG id _ bu
  simp only [aa.aW] at b7
  rw [bc] at b7 ⊢
  intro y hy
  rcases acH hy with h' | rfl
  ·exact b7 y h'
  ·have hb:=b7 es[off] (adr pY)
   rw [hgetD]
   revert hb
   cases es[off] <;> simp [AV.ab,AV.aW]) (wJ.sub hs.ct hO) hs.env (fun t=>by simpa [eM] using hs.iQ t) (fun j=>by
  by_cases hj:j=off
  ·subst hj
   have e1:(es.set j (es.getD j .any).ab).getD j .any=(es.getD j .any).ab:=by
    rw [sT,zD pY];rfl
   rw [e1]
   simp only [eM,if_true]
   exact bi.free (AV.bQ _)
  ·have e1:(es.set off (es.getD off .any).ab).getD j .any=es.getD j .any:=by
    rw [sT,zC (fun e=>hj e.symm),sT]
   rw [e1]
   have h0:=hs.iL id j
   have e3:bR L w id j=(cs[j]?).getD undef:=by unfold bR;simp [hl,World.cell?,h1]
   have e4:bB H id j=es.getD j .any:=by unfold bB;simp [bu]
   rw [e3,e4] at h0
   simpa [eM,hj] using h0) (fun id' j eS=>by simp [eM,eS])
 rwa [setRow_self w b cs e (0,0) h1] at g1
def eB (p x:AV) (H:List aa) (K:List aa→Prop):Prop:=
 match p with
 | .ptr id off=>match H[id]? with
   | some (.cells es)=>off < es.length∧x.one=true∧x.aW (id + 1)=true∧K (H.set id (.cells (es.set off x)))
   | _=>False
 | _=>False
theorem Bl (hs:St A M L w H ev ea O) {t:TypeId} (ht:dU P t=some 1) {u v:Value} {p x:AV} {K:List aa→Prop} (h:eB p x H K) (hu:aX M L u p) (s:Nat) (X7:ev s=v) (hea:ea s=x) :
 ∃ w' H' O',(Instr.storeAt t u v).run P w=.ok () w'∧K H'∧St A M L w' H' ev (fZ ea s x.ab) O'∧Ext A M w M w':=by
 unfold eB at h
 split at h <;> try exact h.elim
 rename_i id off
 cases hu with
 | ptr b _ _ hl=>
 split at h <;> try exact h.elim
 rename_i es bu
 obtain ⟨pY,lH,pv,hK⟩:=h
 obtain ⟨cs,e,h1,h2,h3⟩:=hs.obj id _ b bu hl
 have hv:aX M L v x:=by have:=hs.env s;rwa [X7,hea] at this
 have jD:=h2.length
 have hv1:v.oneCell'=true:=hv.ij lH
 have Pu:v.cells=#[v]:=by cases v <;> first | rfl | simp [Value.oneCell'] at hv1
 obtain ⟨i,hi,Lv⟩:=zF.1 ht
 have dm:(sizeOf t).run P w=.ok 1 w:=by simp [sizeOf,typeInfo,hi,Lv]
 have Bk:off < cs.toList.length:=by omega
 have b7:=run_storeCells_at P b off e [v] 0 cs w h1 (by simp at Bk ⊢;omega) (by simpa using hv1)
 have g9:cs.toList.take off++[v]++cs.toList.drop (off + 1)=cs.toList.set off v:=by
  rw [aga,if_pos Bk];simp
 have bL:(Instr.storeAt t (.pointer (some ⟨b,off,none⟩)) v).run P w=.ok () (w.setRow b (cs.toList.set off v).toArray):=by
  simp only [Instr.storeAt,Instr.sureAddr,storeVar,Sem.run_bind,Sem.run_pure,Result.andThen_ok,dm,ne_eq,Pu]
  rw [if_neg (by simp)]
  rw [← g9]
  simpa using b7
 -- the slot forgets, the cell takes over
 have oL:=hs.pX s (v:=v) (x:=x.ab) hv.ab (AV.bQ x)
 have Uk:fZ ev s v=ev:=by funext t';simp only [fZ];split;rename_i e0;rw [e0,X7];rfl
 rw [Uk] at oL
 let O':Pos→Option Nat:=fun q=>if q=.c id off then O (.t s) else eM O (.t s) none q
 have Uj:wJ O O':=by
  refine ⟨fun q r b hq hr=>?_,fun q b hq=>?_⟩
  ·simp only [O',eM] at hq hr
   split at hq <;> split at hr
   ·simp_all
   ·split at hr
    ·cases hr
    ·rename_i n1 n2;exact absurd (hs.ct _ _ b hr hq) n2
   ·split at hq
    ·cases hq
    ·rename_i n1 n2;exact absurd (hs.ct _ _ b hq hr) (by assumption)
   ·split at hq
    ·cases hq
    ·split at hr
     ·cases hr
     ·exact hs.ct _ _ b hq hr
  ·simp only [O',eM] at hq
   split at hq
   ·exact ⟨_,hq⟩
   ·split at hq
    ·cases hq
    ·exact ⟨_,hq⟩
 obtain ⟨g1,g2⟩:=St.write (h:=hs) (cs':=(cs.toList.set off v).toArray) (es':=es.set off x) (ea':=fZ ea s x.ab) (O':=O') bu hl h1 (by simpa using h2.set hv off) (by
  have b7:=hs.bG id _ bu
  simp only [aa.aW] at b7
  rw [bc] at b7 ⊢
  intro y hy
  rcases acH hy with h' | rfl
  ·exact b7 y h'
  ·exact AV.cI (A.mP (aO bu)) _ pv) Uj oL.env (fun t'=>by simpa [O',eM] using oL.iQ t') (fun j=>by
  by_cases hj:j=off
  ·subst hj
   have e1:((cs.toList.set j v).toArray)[j]?=some v:=by rw [List.getElem?_toArray,zD Bk]
   have e2:(es.set j x).getD j .any=x:=by rw [sT,zD pY];rfl
   rw [e1,e2]
   have:=hs.iQ s
   rw [X7,hea] at this
   simpa [O'] using this
  ·have e1:((cs.toList.set off v).toArray)[j]?=cs[j]?:=by
    simp [zC (fun e=>hj e.symm)]
   have e2:(es.set off x).getD j .any=es.getD j .any:=by rw [sT,zC (fun e=>hj e.symm),sT]
   rw [e1,e2]
   have h0:=hs.iL id j
   have e3:bR L w id j=(cs[j]?).getD undef:=by unfold bR;simp [hl,World.cell?,h1]
   have e4:bB H id j=es.getD j .any:=by unfold bB;simp [bu]
   rw [e3,e4] at h0
   simpa [O',eM,hj] using h0) (fun id' j eS=>by simp [O',eM,eS])
 exact ⟨_,_,_,bL,hK,g1,g2⟩
theorem k7 (P:Program) (g o:Nat) (t:TypeId) (fr:Nat×Nat):∀ (vs:List Value) (i:Nat) (cur:Array Value) (w:World),w.heap[g]?=some (.cells cur t fr)→Pm fr cur.size→o + i + vs.length≤cur.size→(∀ v∈vs,v.oneCell'=true)→
 (storeCells ⟨g,o,none⟩ vs i).run P w=.ok () (w.setRow g (ai cur.toList (o + i) vs).toArray)
 | [],i,cur,w,hg,_,_,_=>by
   simp only [storeCells,ai,List.length_nil,aey,List.nil_append,adE,agt]
   rw [setRow_self w g cur t fr hg]
   rfl
 | v::rest,i,cur,w,hg,hf,hl,h1=>by
   have hi:o + i < cur.size:=by simp at hl;omega
   have adg:(⟨g,o,none⟩:Addr).add i=⟨g,o + i,none⟩:=Addr.add_lit _ _ _
   have hcell:w.cell? ⟨g,o + i,none⟩=some cur[o + i]:=by simp [World.cell?,hg,hi]
   have adh:w.frozen? ⟨g,o + i,none⟩=false:=by
    have:=hf (o + i) hi
    simp only [World.frozen?,hg]
    cases h:(decide (fr.1≤o + i) && decide (o + i < fr.2)) with
    | false=>rfl
    | true=>simp at h;exact absurd h this
   have b7:(store ((⟨g,o,none⟩:Addr).add i) v).run P w=.ok () (w.setRow g (cur.setIfInBounds (o + i) v)):=by
    rw [adg,run_store P w _ v _ (h1 v (by simp)),hcell]
    simp [adh,setCell_eq_setRow w g (o + i) cur t fr v hg]
   have ih:=k7 P g o t fr rest (i + 1) (cur.setIfInBounds (o + i) v) (w.setRow g (cur.setIfInBounds (o + i) v)) (setRow_heap w g cur _ t _ hg) (by simpa using hf) (by simp at hl ⊢;omega) (fun x hx=>h1 x (by simp [hx]))
   simp only [storeCells,Sem.run_bind,b7,Result.andThen_ok,ih,setRow_setRow]
   congr 3
   apply acG
   intro j
   rw [fF _ _ _ (by simp at hl ⊢;omega),fF _ _ _ (by simpa using hl)]
   simp only [Array.toList_setIfInBounds,List.length_cons]
   by_cases h2:j=o + i
   ·subst h2
    rw [if_neg (by omega),if_pos (by omega),zD (by simpa using hi)]
    simp
   ·by_cases h3:o + i < j∧j < o + i + (rest.length + 1)
    ·rw [if_pos (by omega),if_pos (by omega),show j - (o + i)=(j - (o + (i + 1))) + 1 by omega]
     simp
    ·rw [if_neg (by omega),if_neg (by omega),zC (by omega)]
theorem gP {t ty e e':TypeId} {i:TypeInfo} (ht:P.underlying t=some (.slice e)) (hi:P.info? e=some i) (w:World)
 (g o sLen sCap:Nat) (cur:Array Value) (fr:Nat×Nat) (hg:w.heap[g]?=some (.cells cur e' fr)) (FI:Pm fr cur.size)
 (a:Addr) (m c:Nat) (news:List Value) (hl:news.length=m * i.size) (hnews:∀ j u,news[j]?=some u→w.cell? (a.add j)=some u) (h1:∀ u∈news,u.oneCell'=true)
 (hroom:sLen + m≤sCap) (vA:o + sLen * i.size + news.length≤cur.size) :
 (Builtin.append_ #[t,t] ty #[.slice (some ⟨g,o,none⟩) sLen sCap,.slice (some a) m c]).run P w =
   .ok (.slice (some ⟨g,o,none⟩) (sLen + m) sCap) (w.setRow g (ai cur.toList (o + sLen * i.size) news).toArray):=by
 have hf:=run_firstCells_some (P:=P) w i.size m a m c news hl hnews
 have b7:=k7 P g (o + sLen * i.size) e' fr news 0 cur w hg FI (by simpa using vA) h1
 simp only [aey] at b7
 simp [Builtin.append_,run_underlying ht,sizeOf,typeInfo,hi,Builtin.lenOf,hroom,hf,Addr.add_lit,b7]
theorem dF {t ty e:TypeId} {i:TypeInfo} (ht:P.underlying t=some (.slice e)) (hi:P.info? e=some i) (w:World) (b:Option Addr) (n c:Nat) (SV:n≤c) (b':Option Addr) (c':Nat) :
 (Builtin.append_ #[t,t] ty #[.slice b n c,.slice b' 0 c']).run P w=.ok (.slice b n c) w:=by
 have hf:(Builtin.firstCells i.size 0 (.slice b' 0 c')).run P w=.ok #[] w:=by
  cases b' with
  | none=>exact run_firstCells_none w _ _ _ _
  | some a=>exact run_firstCells_some w i.size 0 a 0 c' [] (by simp) (by simp)
 cases b with
 | none=>simp [Builtin.append_,run_underlying ht,sizeOf,typeInfo,hi,Builtin.lenOf,SV,hf]
 | some a=>simp [Builtin.append_,run_underlying ht,sizeOf,typeInfo,hi,Builtin.lenOf,SV,hf,storeCells]
def nZ (esz:Nat):AV→Option (List AV)
 | .ag=>some []
 | .ak own xs=>if own=esz then some xs else none
 | _=>none
def dG:AV→Option (List AV)
 | .ag=>some []
 | .ak _ xs=>some xs
 | _=>none
def sV (esz:Nat) (ys:List AV):Prop:=∀ y∈ys,y.cells.length=esz∧y.cells.all AV.one=true
def Mem.l9 (M:Mem) (b off:Nat) (cs:List Value):Mem:=fun b' o=>if b'=b∧off≤o∧o < off + cs.length then cs[o - off]? else M b' o
theorem St.inPlace (hs:St A M L w H ev ea O) {p:Pos} {b:Nat} (hp:O p=some b) {cur:Array Value} {e:TypeId} {fr:Nat×Nat} (hg:w.heap[b]?=some (.cells cur e fr)) {off:Nat} {news:List Value}
 (vA:off + news.length≤cur.size) (hnone:∀ k,k < news.length→M b (off + k)=none)
 {ea':Nat→AV} (FV:∀ t,aX M L (ev t) (ea' t)) (adi:∀ t,bi M w (ev t) (ea' t) (eM O p none (.t t))) (adj:∀ id j,bi M w (bR L w id j) (bB H id j) (eM O p none (.c id j))) :
 St A (M.l9 b off news) L (w.setRow b (ai cur.toList off news).toArray) H ev ea' (eM O p none)∧Ext A M w (M.l9 b off news) (w.setRow b (ai cur.toList off news).toArray)∧(M.l9 b off news).row b off news:=by
 have zG:b∉L:=hs.cD p b hp
 have dm:(w.setRow b (ai cur.toList off news).toArray).heap.size=w.heap.size:=by simp [World.setRow]
 have gN:∀ k,k≠b→(w.setRow b (ai cur.toList off news).toArray).heap[k]?=w.heap[k]?:=fun k hk=>setRow_other w b k _ hk
 have og:=setRow_heap w b cur (ai cur.toList off news).toArray e fr hg
 have gh:M.sub (M.l9 b off news):=by
  intro b' o v hv
  unfold Mem.l9
  split
  ·rename_i h
   obtain ⟨rfl,h1,h2⟩:=h
   have:=hnone (o - off) (by omega)
   rw [show off + (o - off)=o by omega,hv] at this
   cases this
  ·exact hv
 have X8:∀ k,k≠b→∀ o,(M.l9 b off news) k o=M k o:=by
  intro k hk o
  unfold Mem.l9
  rw [if_neg (fun h=>hk h.1)]
 have vB:∀ q k,eM O p none q=some k→k≠b:=by
  intro q k hq hk
  subst hk
  simp only [eM] at hq
  split at hq
  ·cases hq
  ·rename_i n;exact n (hs.ct _ _ _ hq hp)
 have hO:∀ q k,eM O p none q=some k→O q=some k:=by
  intro q k hq
  simp only [eM] at hq
  split at hq
  ·cases hq
  ·exact hq
 have F5:off + news.length≤cur.toList.length:=by simpa using vA
 refine ⟨{ len:=hs.len,nodup:=hs.nodup,env:=fun t=>(FV t).mono gh (aaL _),mem:=?_,obj:=?_,bG:=hs.bG,lt:=?_,iQ:=?_,iL:=?_,ct:=fun q r k hq hr=>hs.ct q r k (hO q k hq) (hO r k hr),cD:=fun q k hq=>hs.cD q k (hO q k hq),fQ:=?_,La:=hs.La,Oa:=fun q k hq=>hs.Oa q k (hO q k hq),fresh:=?_ },?_,?_⟩
 ·intro b' o v hv
  by_cases hb:b'=b
  ·subst hb
   simp only [World.cell?,og]
   have e1:((ai cur.toList off news).toArray)[o]?=(ai cur.toList off news)[o]?:=by simp
   simp only [agE,acv,if_false]
   rw [e1,fF _ _ _ F5]
   unfold Mem.l9 at hv
   split at hv
   ·rename_i h;rw [if_pos h.2];exact hv
   ·rename_i h
    rw [if_neg (fun h'=>h ⟨rfl,h'⟩)]
    have:=hs.mem _ o v hv
    simpa [World.cell?,hg] using this
  ·rw [X8 b' hb o] at hv
   have:=hs.mem b' o v hv
   simp only [World.cell?] at this ⊢
   rw [gN b' hb];exact this
 ·intro id o k ho hk
  have FG:k≠b:=by rintro rfl;exact zG (abJ hk)
  exact (hs.obj id o k ho hk).mono gh (aaL _) (gN k FG) (X8 k FG)
 ·intro k hk;rw [dm];exact hs.lt k hk
 ·intro t
  exact (adi t).mono fun k hk=>⟨gN k (vB _ k hk),X8 k (vB _ k hk)⟩
 ·intro id j
  have e1:bR L (w.setRow b (ai cur.toList off news).toArray) id j=bR L w id j:=by
   unfold bR
   split
   ·rename_i k hk
    have FG:k≠b:=by rintro rfl;exact zG (abJ hk)
    simp only [World.cell?]
    rw [gN k FG]
   ·rfl
  rw [e1]
  exact (adj id j).mono fun k hk=>⟨gN k (vB _ k hk),X8 k (vB _ k hk)⟩
 ·intro q k hq;rw [dm];exact hs.fQ q k (hO q k hq)
 ·intro k hk;rw [dm] at hk;exact hs.fresh k hk
 ·exact ⟨gh,by rw [dm];exact sU _,rfl,rfl,rfl,fun k hk hA=>⟨gN k (fun e0=>hA (e0 ▸ hs.Oa p b hp)),X8 k (fun e0=>hA (e0 ▸ hs.Oa p b hp))⟩,fun k r hk=>⟨r,(gN k (fun e0=>by rw [e0,hg] at hk;cases hk)).trans hk,rfl⟩⟩
 ·intro j v hv
  have hj:=aO hv
  show Mem.l9 M b off news b (off + j)=some v
  unfold Mem.l9
  rw [if_pos ⟨rfl,by omega,by omega⟩,show off + j - off=j by omega]
  exact hv
theorem St.newRow (hs:St A M L w H ev ea O) (e:TypeId) {esz need cap:Nat} (h0:0 < esz) {rw rest:List Value} {zs:List AV} (hl:rw.length=need * esz) (hc:rw.length + rest.length=cap * esz) (cc:cap < 9223372036854775808) (SV:need≤cap) (hn:0 < need)
 (hz:zs.length=need) (hx:∀ y∈zs,y.cells.length=esz) (hr:aM M L rw (flat zs)) (cs:Array Value) (zK:cs.toList=rw++rest) :
 ∃ M',aX M' L (.slice (some ⟨w.heap.size,0,none⟩) need cap) (.ak esz zs)∧bi M' { w with heap:=w.heap.push (.cells cs e) } (.slice (some ⟨w.heap.size,0,none⟩) need cap) (.ak esz zs) (some w.heap.size)∧
  St A M' L { w with heap:=w.heap.push (.cells cs e) } H ev ea O∧Ext A M w M' { w with heap:=w.heap.push (.cells cs e) }:=by
 obtain ⟨g1,g2,g3⟩:=hs.ry cs e (0,0) rw (fun j v hv=>by
  have:cs.toList[j]?=some v:=by rw [zK,zA (aO hv)];exact hv
  simpa using this)
 refine ⟨_,?_,?_,g1,g2⟩
 ·subst hz
  exact .ak _ _ _ _ esz rw zs h0 hx hn SV cc (hr.mono g2.lZ (aaL _)) g3
 ·unfold bi
  simp only [Nat.ne_of_gt h0,if_false]
  refine ⟨hx,.inr ⟨_,0,need,cap,cs,e,(0,0),rfl,rfl,dT w _,pq _,?_,?_⟩⟩
  ·have:cs.size=cap * esz:=by rw [← afb,zK,aaz];exact hc
   omega
  ·intro k hk _
   simp only [Mem.add,if_true,acC]
   exact acB (by omega)
theorem vO {bs:Option Addr} {n c own:Nat} {xs:List AV} (h:aX M L (.slice bs n c) (.ak own xs)) :
 n=xs.length∧((xs=[]∧n=0)∨∃ b off cs,bs=some ⟨b,off,none⟩∧aM M L cs (flat xs)∧M.row b off cs):=by
 generalize hv:Value.slice bs n c=v at h
 cases h with
 | ig a c _ hc=>cases hv;exact ⟨rfl,.inl ⟨rfl,rfl⟩⟩
 | ak b off c _ e cs _ he hx hn hle hc hr hm=>cases hv;exact ⟨rfl,.inr ⟨b,off,cs,rfl,hr,hm⟩⟩
def bp (esz bytes:Nat) (s x:AV) (φ:List AV→Prop):Prop:=
 match nZ esz s,dG x with
 | some xs,some ys=>(xs.length + ys.length) * bytes≤140737488355328∧sV esz ys∧φ (xs++ys)
 | _,_=>False
def IX.slot:IX→Option Nat
 | .t n=>some n
 | .c _=>none
def lI (ea:Nat→AV) (s:Option Nat):Nat→AV:=match s with | some d=>fZ ea d (ea d).ab | none=>ea
theorem Jm {esz:Nat} {s:AV} {xs:List AV} (hs:nZ esz s=some xs) {u:Value} (hu:aX M L u s):aX M L u (.ak esz xs)∧(s=.ag∧u=.slice none 0 0∨s=.ak esz xs):=by
 unfold nZ at hs
 split at hs
 ·cases hs;cases hu;exact ⟨.ig _ _ _ (by decide),.inl ⟨rfl,rfl⟩⟩
 ·rename_i own ys
  split at hs
  ·rename_i e;cases hs;subst e;exact ⟨hu,.inr rfl⟩
  ·cases hs
 ·cases hs
theorem mU {esz:Nat} {x:AV} {ys:List AV} (hx:dG x=some ys) (jo:sV esz ys) {u:Value} (hu:aX M L u x) :
 (ys=[]∧∃ b c,u=.slice b 0 c)∨(0 < ys.length∧∃ b off c news,u=.slice (some ⟨b,off,none⟩) ys.length c∧aM M L news (flat ys)∧M.row b off news∧news.length=ys.length * esz):=by
 have key:∀ own,aX M L u (.ak own ys)→(ys=[]∧∃ b c,u=.slice b 0 c)∨(0 < ys.length∧∃ b off c news,u=.slice (some ⟨b,off,none⟩) ys.length c∧aM M L news (flat ys)∧M.row b off news∧news.length=ys.length * esz):=by
  intro own h
  cases h with
  | ig a c _ hc=>exact .inl ⟨rfl,_,_,rfl⟩
  | ak b off c _ e cs _ he hx hn hle hc hr hm=>
    refine .inr ⟨hn,b,off,c,cs,rfl,hr,hm,?_⟩
    rw [hr.length,cU ys esz (fun y hy=>(jo y hy).1)]
 unfold dG at hx
 split at hx
 ·cases hx;cases hu;exact .inl ⟨rfl,_,_,rfl⟩
 ·rename_i own zs;cases hx;exact key own hu
 ·cases hx
theorem uD (xs ys:List AV):flat (xs++ys)=flat xs++flat ys:=by simp [flat]
theorem Dk {ys:List AV} {esz:Nat} (h:sV esz ys):(flat ys).all AV.one=true:=by
 rw [abo]
 intro x hx
 simp only [flat,adJ] at hx
 obtain ⟨y,hy,hxy⟩:=hx
 exact abo.1 (h y hy).2 x hxy
theorem Dl (hs:St A M L w H ev ea O) {t ty e:TypeId} {i:TypeInfo} {z:Value} {esz bytes:Nat} (ht:P.underlying t=some (.slice e)) (hi:P.info? e=some i) (hz:i.zero=some z) (dm:i.size=esz) (zL:i.bytes=bytes) (vN:z.cells.size=esz) (h0:0 < esz) (wR:0 < bytes)
 {u v:Value} {s x:AV} {φ:List AV→Prop} (h:bp esz bytes s x φ) (slot:Option Nat) (hu:aX M L u s) (Pv:match slot with | some d=>ev d=u∧ea d=s | none=>s=.ag) (hv:aX M L v x) :
 ∃ r w' M' O' ob zs,(Builtin.append_ #[t,t] ty #[u,v]).run P w=.ok r w'∧φ zs∧aX M' L r (.ak esz zs)∧bi M' w' r (.ak esz zs) ob∧St A M' L w' H ev (lI ea slot) O'∧Ext A M w M' w'∧
  (∀ q b,ob=some b→O' q≠some b)∧(∀ b,ob=some b→b∉L∧b < w'.heap.size∧A b):=by
 unfold bp at h
 split at h <;> try exact h.elim
 rename_i xs ys eK ru
 obtain ⟨hbound,jo,hφ⟩:=h
 obtain ⟨Bm,hcase⟩:=Jm eK hu
 have hesz0:esz≠0:=by omega
 -- the slot forgets what it owned
 have hforget:∃ O1 ob1,St A M L w H ev (lI ea slot) O1∧bi M w u (.ak esz xs) ob1∧(∀ q b,ob1=some b→O1 q≠some b)∧(∀ b,ob1=some b→b∉L∧b < w.heap.size∧A b∧∃ d,slot=some d∧O (.t d)=some b∧O1=eM O (.t d) none):=by
  have vC:u=.slice none 0 0→s=.ag→bi M w u (.ak esz xs) none:=by
   rintro rfl rfl
   simp [nZ] at eK;subst eK
   simp only [bi,hesz0,if_false]
   exact ⟨by simp,.inl ⟨trivial,none,0,rfl⟩⟩
  cases slot with
  | none=>
    simp only at Pv
    subst Pv
    cases hu
    exact ⟨O,none,hs,vC rfl rfl,(by intro q b e;cases e),(by intro b e;cases e)⟩
  | some d=>
    simp only at Pv
    have oL:=hs.pX d (v:=u) (x:=(ea d).ab) (by rw [Pv.2];exact hu.ab) (AV.bQ _)
    have Uk:fZ ev d u=ev:=by funext t';simp only [fZ];split;rename_i e0;rw [e0,Pv.1];rfl
    rw [Uk] at oL
    rcases hcase with ⟨h1,h2⟩ | h1
    ·exact ⟨_,none,oL,vC h2 h1,(by intro q b e;cases e),(by intro b e;cases e)⟩
    ·refine ⟨_,O (.t d),oL,?_,?_,?_⟩
     ·have:=hs.iQ d
      rwa [Pv.1,Pv.2,h1] at this
     ·intro q b hb hq
      simp only [eM] at hq
      split at hq
      ·cases hq
      ·rename_i n;exact n (hs.ct _ _ b hq hb)
     ·intro b hb
      exact ⟨hs.cD _ b hb,hs.fQ _ b hb,hs.Oa _ b hb,d,rfl,hb,rfl⟩
 obtain ⟨O1,ob1,SY,Pw,Lw,Jn⟩:=hforget
 have Jk:∀ y∈xs,y.cells.length=esz:=by
  have:=Pw
  simp only [bi,hesz0,if_false] at this
  exact this.1
 have hform:∃ bs n c,u=.slice bs n c∧n=xs.length∧n≤c∧c < 9223372036854775808:=by
  cases Bm with
  | ig a c _ hc=>exact ⟨a,0,c,rfl,rfl,ac4 _,hc⟩
  | ak b off c _ e cs _ he hx hn hle hc hr hm=>exact ⟨_,_,c,rfl,rfl,hle,hc⟩
 rcases mU ru jo hv with ⟨rfl,b',c',rfl⟩ | ⟨Dm,b2,o2,c2,news,rfl,Bn,Ul,zM⟩
 ·-- nothing is appended
  obtain ⟨bs,n,c,rfl,hn,SV,hc⟩:=hform
  refine ⟨_,w,M,O1,ob1,xs++[],dF ht hi w bs n c SV b' c',hφ,by simpa using Bm,by simpa using Pw,SY,Ext.refl A M w,Lw,fun b hb=>⟨(Jn b hb).1,(Jn b hb).2.1,(Jn b hb).2.2.1⟩⟩
 ·have hnews:∀ j u,news[j]?=some u→w.cell? ((⟨b2,o2,none⟩:Addr).add j)=some u:=iY Ul hs.mem
  have lH:=Bn.ij (Dk jo)
  have hlen:(xs.length + ys.length)≤140737488355328:=acN (acU _ wR) hbound
  have jI:∀ y∈xs++ys,y.cells.length=esz:=by
   intro y hy
   rcases ab7.1 hy with h' | h'
   ·exact Jk y h'
   ·exact (jo y h').1
  -- a new row
  have grow:∀ (olds:List Value) (oldCap:Nat) (w':World),aM M L olds (flat xs)→olds.length=xs.length * esz→w'=w.drew.alloc (.cells (olds.toArray++news.toArray++Builtin.zeroCells z.cells (grownCap w (xs.length + ys.length) oldCap e - (xs.length + ys.length))) e)→
   (Builtin.append_ #[t,t] ty #[u,.slice (some ⟨b2,o2,none⟩) ys.length c2]).run P w=.ok (.slice (some ⟨w.heap.size,0,none⟩) (xs.length + ys.length) (grownCap w (xs.length + ys.length) oldCap e)) w'→
   ∃ r w' M' O' ob zs,(Builtin.append_ #[t,t] ty #[u,.slice (some ⟨b2,o2,none⟩) ys.length c2]).run P w=.ok r w'∧φ zs∧aX M' L r (.ak esz zs)∧bi M' w' r (.ak esz zs) ob∧St A M' L w' H ev (lI ea slot) O'∧Ext A M w M' w'∧
    (∀ q b,ob=some b→O' q≠some b)∧(∀ b,ob=some b→b∉L∧b < w'.heap.size∧A b):=by
   intro olds oldCap w' X9 hol Ly bL
   have eW:=grownCap_ge w (xs.length + ys.length) oldCap e
   have hle:=grownCap_le_maxLen w (xs.length + ys.length) oldCap e (by simp only [maxLen];omega)
   simp only [maxLen] at hle
   have hd:=SY.drew
   obtain ⟨M',k1,k2,k3,k4⟩:=hd.newRow e (need:=xs.length + ys.length) (cap:=grownCap w (xs.length + ys.length) oldCap e) h0 (rw:=olds++news) (rest:=(Builtin.zeroCells z.cells (grownCap w (xs.length + ys.length) oldCap e - (xs.length + ys.length))).toList) (zs:=xs++ys)
    (by rw [aaz,hol,zM,acE]) (by
      have hzc:(Builtin.zeroCells z.cells (grownCap w (xs.length + ys.length) oldCap e - (xs.length + ys.length))).toList.length=(grownCap w (xs.length + ys.length) oldCap e - (xs.length + ys.length)) * esz:=by
       rw [afb,size_zeroCells,vN]
      rw [aaz,hol,zM,hzc,← acE,← acE]
      congr 1;omega) (by omega) eW (by omega) (by simp) jI (by rw [uD];exact X9.append Bn)
    (olds.toArray++news.toArray++Builtin.zeroCells z.cells (grownCap w (xs.length + ys.length) oldCap e - (xs.length + ys.length))) (by simp)
   have cK:Ext A M w M' { { w with drawn:=w.drawn + 1 } with heap:=w.heap.push (.cells (olds.toArray++news.toArray++Builtin.zeroCells z.cells (grownCap w (xs.length + ys.length) oldCap e - (xs.length + ys.length))) e) }:=Ext.drew.trans k4
   have hww:w'={ { w with drawn:=w.drawn + 1 } with heap:=w.heap.push (.cells (olds.toArray++news.toArray++Builtin.zeroCells z.cells (grownCap w (xs.length + ys.length) oldCap e - (xs.length + ys.length))) e) }:=Ly
   refine ⟨_,_,M',O1,some w.heap.size,xs++ys,bL,hφ,k1,by rw [hww];exact k2,by rw [hww];exact k3,by rw [hww];exact cK,?_,?_⟩
   ·intro q b hb hq
    cases hb
    exact absurd (SY.fQ q _ hq) (adF _)
   ·intro b hb
    cases hb
    refine ⟨fun hm=>absurd (hs.lt _ hm) (adF _),by rw [hww];simp,hs.fresh _ (sU _)⟩
  obtain ⟨bs,n,c,rfl,hn,SV,hc⟩:=hform
  subst hn
  by_cases hroom:xs.length + ys.length≤c
  ·-- in place
   have F5:=Pw
   simp only [bi,hesz0,if_false] at F5
   rcases F5.2 with ⟨_,a,n,hn⟩ | ⟨b,off,n,c',cs,e',fr,e1,e2,e3,e4,e5,e6⟩
   ·cases hn;omega
   ·cases e2
    obtain ⟨f1,f2,f3,d,rfl,f5,rfl⟩:=Jn b e1
    have adk:news.length=ys.length * i.size:=by rw [dm];exact zM
    have yS:(xs.length + ys.length) * esz≤c * esz:=ac3 _ hroom
    rw [acE] at yS
    have vA:off + xs.length * esz + news.length≤cs.size:=by rw [zM];omega
    have bL:=gP (P:=P) (ty:=ty) ht hi w b off xs.length c cs fr e3 e4 ⟨b2,o2,none⟩ ys.length c2 news adk hnews lH hroom (by rw [dm];exact vA)
    rw [dm] at bL
    have hnone:∀ k,k < news.length→M b (off + xs.length * esz + k)=none:=by
     intro k hk
     rw [adf]
     exact e6 _ (by omega) (by rw [zM] at hk;omega)
    have Um:∀ t',aX M L (ev t') (lI ea (some d) t'):=SY.env
    obtain ⟨g1,g2,g3⟩:=hs.inPlace (p:=.t d) f5 e3 vA hnone (ea':=lI ea (some d)) Um SY.iQ (fun id j=>by simpa [eM] using hs.iL id j)
    refine ⟨_,_,_,_,some b,xs++ys,bL,hφ,?_,?_,g1,g2,?_,?_⟩
    ·-- what it reads as
     have og:aM (M.l9 b (off + xs.length * esz) news) L news (flat ys):=Bn.mono g2.lZ (aaL _)
     have hold:∃ olds,aM M L olds (flat xs)∧M.row b off olds∧olds.length=xs.length * esz:=by
      rcases (vO Bm).2 with ⟨h',_⟩ | ⟨b1,off1,cs1,Ya,hr,hm⟩
      ·subst h';exact ⟨[],.nil,by intro j v hv;simp at hv,by simp⟩
      ·cases Ya;exact ⟨cs1,hr,hm,by rw [hr.length,cU xs esz Jk]⟩
     obtain ⟨olds,o1,o2',o3⟩:=hold
     have:=aX.ak (M:=M.l9 b (off + xs.length * esz) news) (L:=L) b off c esz esz (olds++news) (xs++ys) h0 jI (by simp;omega) (by simpa using hroom) hc (by rw [uD];exact (o1.mono g2.lZ (aaL _)).append og) (by
      intro j v hv
      rw [aeT] at hv
      split at hv
      ·exact g2.lZ _ _ _ (o2' j v hv)
      ·rename_i hj
       have:=g3 _ v hv
       rwa [show off + xs.length * esz + (j - olds.length)=off + j by omega] at this)
     simpa using this
    ·simp only [bi,hesz0,if_false]
     refine ⟨jI,.inr ⟨b,off,xs.length + ys.length,c,(ai cs.toList (off + xs.length * esz) news).toArray,e',fr,rfl,by simp,setRow_heap w b cs _ e' fr e3,?_,?_,?_⟩⟩
     ·have:(ai cs.toList (off + xs.length * esz) news).toArray.size=cs.size:=by
       rw [List.size_toArray,oI _ _ _ (by simpa using vA)];simp
      rw [this];exact e4
     ·rw [List.size_toArray,oI _ _ _ (by simpa using vA)];simpa using e5
     ·intro k hk Uf
      unfold Mem.l9
      rw [acE] at hk
      rw [if_neg (by rw [zM];omega)]
      exact e6 k (by omega) Uf
    ·intro q b' hb hq
     cases hb
     exact Lw q b e1 hq
    ·intro b' hb
     cases hb
     refine ⟨f1,?_,f3⟩
     simpa [World.setRow] using f2
  ·-- a new one
   have hbound':(xs.length + ys.length) * i.bytes≤140737488355328:=by rw [zL];exact hbound
   cases bs with
   | none=>
     have Lz:xs.length=0:=by
      rcases (vO Bm).2 with ⟨_,h'⟩ | ⟨b1,off1,cs1,Ya,_⟩
      ·exact h'
      ·cases Ya
     have Pt:c=0:=by
      have F5:=Pw
      simp only [bi,hesz0,if_false] at F5
      rcases F5.2 with ⟨_,a,n,hn⟩ | ⟨b,off,n,c',cs,e',fr,e1,e2,_⟩
      ·cases hn;exact Lz
      ·cases e2
     have hxnil:xs=[]:=adl Lz
     subst hxnil
     subst Pt
     have hr:=run_append_nil (P:=P) w t ty e i z ht hi hz ⟨b2,o2,none⟩ ys.length c2 news (by rw [dm];exact zM) hnews Dm (by omega) (by simp at hbound';omega)
     refine grow [] 0 _ (by exact .nil) (by simp) rfl ?_
     simpa using hr
   | some a=>
     have hold:∃ olds,aM M L olds (flat xs)∧(∀ j v,olds[j]?=some v→w.cell? (a.add j)=some v)∧olds.length=xs.length * esz:=by
      rcases (vO Bm).2 with ⟨h',_⟩ | ⟨b1,off1,cs1,Ya,hr,hm⟩
      ·subst h';exact ⟨[],.nil,by intro j v hv;simp at hv,by simp⟩
      ·cases Ya;exact ⟨cs1,hr,iY hm hs.mem,by rw [hr.length,cU xs esz Jk]⟩
     obtain ⟨olds,o1,o2',o3⟩:=hold
     have hr:=run_append_grow (P:=P) w t ty e i z ht hi hz a xs.length c olds (by rw [dm];exact o3) o2' ⟨b2,o2,none⟩ ys.length c2 news (by rw [dm];exact zM) hnews (by omega) (by omega) (growslice_fits (by omega) hbound')
     exact grow olds c _ o1 o3 rfl hr
end
end Go.aK
end
section
namespace Go.aK
open Go
def bV:AV→AV
 | .agg ys=>.agg (ys.map AV.drop)
 | z=>z
section
variable {P:Program} {w:World} {M:Mem} {L:List Nat} {H:List aa} {A:Perm} {ev:Nat→Value} {ea:Nat→AV} {O:Pos→Option Nat}
theorem j3 (z:AV):(bV z).cells.length=z.cells.length:=by cases z <;> simp [bV,AV.cells]
theorem aX.bV {v:Value} {z:AV} (h:aX M L v z):aX M L v (bV z):=by
 cases z <;> first | exact h | skip
 cases h with
 | agg cs _ hr=>exact .agg cs _ hr.map_drop
theorem qC {x:AV} (h:x.val=true):(Go.aK.bV x).val=true:=by
 cases x <;> simp_all [Go.aK.bV,AV.val]
def fG (esz bytes:Nat) (z n:AV) (H:List aa) (K:AV→List aa→Prop):Prop:=
 match n with
 | .int .i64 n=>0≤n∧n.toNat * bytes≤140737488355328∧aj (H.length + 1) (flat (List.replicate n.toNat (bV z)))=true∧
    K (.ba H.length 0 n.toNat n.toNat) (H++[.cells (flat (List.replicate n.toNat (bV z)))])
 | _=>False
theorem run_mk {t e:TypeId} {i:TypeInfo} {z:Value} {esz bytes:Nat} (ht:P.underlying t=some (.slice e)) (hi:P.info? e=some i) (hz:i.zero=some z) (dm:i.size=esz) (zL:i.bytes=bytes) (vN:z.cells.size=esz) (h0:0 < esz) (wR:0 < bytes)
 (l c:Int) (yQ:0≤l) (Bk:l≤c) (hc:c.toNat * bytes≤140737488355328) (w:World) :
 ∃ cs:Array Value,(Instr.makeSlice t (.int .i64 l) (.int .i64 c)).run P w=.ok (.slice (some ⟨w.heap.size,0,none⟩) l.toNat c.toNat) { w with heap:=w.heap.push (.cells cs e) }∧cs=(Array.range (c.toNat * esz)).map (z.cells[· % z.cells.size]!):=by
 have jD:c.toNat≤140737488355328:=acN (acU _ wR) hc
 have Pt:0≤c:=by omega
 have w1:IntKind.i64.wrap l=l:=by
  have:IntKind.i64.bits=64:=rfl
  have:IntKind.i64.signed=true:=rfl
  simp only [IntKind.wrap, *]
  have:l % 2 ^ 64=l:=agH yQ (by omega)
  rw [this]
  rw [if_neg (by simp;omega)]
 have w2:IntKind.i64.wrap c=c:=by
  have:IntKind.i64.bits=64:=rfl
  have:IntKind.i64.signed=true:=rfl
  simp only [IntKind.wrap, *]
  have:c % 2 ^ 64=c:=agH Pt (by omega)
  rw [this]
  rw [if_neg (by simp;omega)]
 have hcn:(c.toNat:Int)=c:=Int.toNat_of_nonneg Pt
 have Py:¬ ((bytes:Int) * c > 2 ^ 48):=by
  have:(bytes:Int) * c=((c.toNat * bytes:Nat):Int):=by rw [Int.natCast_mul,hcn,Int.mul_comm]
  rw [this];omega
 have yT:¬ c < 0:=by omega
 have hneg2:¬ l < 0:=by omega
 have hgt:¬ l > c:=by omega
 refine ⟨_,?_,rfl⟩
 simp only [Instr.makeSlice,Sem.run_bind,run_underlying ht,Result.andThen_ok,asInt,asIntOf,Sem.run_pure,typeInfo,run_program,hi,zL,w1,w2,yT,hneg2,hgt,Py,decide_false,Bool.or_self,acv,if_false,run_askRoom,sizeOf,dm]
 by_cases hn:c.toNat * esz=0
 ·simp [hn,newRow]
  congr 2
  apply Array.ext'
  simp
 ·simp [hn,zeroValue,typeInfo,hi,hz,newRow]
theorem F6 (hs:St A M L w H ev ea O) {t e:TypeId} {i:TypeInfo} {zv:Value} {esz bytes:Nat} (ht:P.underlying t=some (.slice e)) (hi:P.info? e=some i) (hz:i.zero=some zv) (dm:i.size=esz) (zL:i.bytes=bytes) (h0:0 < esz) (wR:0 < bytes)
 {z:AV} (OW:ofValue zv=some z) (uA:z.val=true) (jI:z.cells.length=esz) (LA:∀ y∈z.cells,∀ own xs,y=.ak own xs→own=0) {u:Value} {n:AV} {K:AV→List aa→Prop} (h:fG esz bytes z n H K) (hu:aX M L u n) :
 ∃ r x L' w' H',(Instr.makeSlice t u u).run P w=.ok r w'∧aX M L' r x∧(∀ own xs,x=.ak own xs→own=0)∧K x H'∧St A M L' w' H' ev ea O∧Ext A M w M w'∧L <+: L':=by
 unfold fG at h
 split at h <;> try exact h.elim
 rename_i n
 obtain ⟨LB,Yb,pv,hK⟩:=h
 cases hu
 have Di:=(cT (M:=M) (L:=L) OW).bV.gO (qC uA)
 have vN:zv.cells.size=esz:=by have:=Di.length;rw [j3,jI] at this;simpa using this
 obtain ⟨cs,bL,rfl⟩:=run_mk ht hi hz dm zL vN h0 wR n n LB (Int.le_refl _) Yb w
 have hcells:=kz (M:=M) (L:=L) zv.cells esz n.toNat vN h0 (bV z) Di
 have hcn:n.toNat≤140737488355328:=acN (acU _ wR) Yb
 obtain ⟨g1,g2⟩:=hs.s6 (.cells ((Array.range (n.toNat * esz)).map (zv.cells[· % zv.cells.size]!)) e) (.cells (flat (List.replicate n.toNat (bV z)))) (fun w' hw hM=>⟨_,e,hw,hcells.mono (Mem.bX M) ⟨_,rfl⟩,hM⟩) (by simpa [aa.aW] using pv) (fun j=>by
  simp only [oD]
  refine bi.free ?_
  intro own xs hh
  rw [sT] at hh
  cases hx:(flat (List.replicate n.toNat (bV z)))[j]? with
  | none=>simp [hx] at hh
  | some y=>
    simp [hx] at hh
    have hy:=abJ hx
    simp only [flat,adJ] at hy
    obtain ⟨q,hq,Pz⟩:=hy
    rw [acK hq] at Pz
    subst hh
    cases z <;> simp only [bV,AV.cells] at Pz LA
    case agg ys=>
     obtain ⟨y',_,hy'⟩:=aaR.1 Pz
     exact AV.kj y' own xs hy'
    all_goals exact LA _ Pz own xs rfl)
 refine ⟨_,.ba H.length 0 n.toNat n.toNat,_,_,_,bL,.ba w.heap.size 0 _ _ H.length ?_ (by omega),(by intro _ _ e;cases e),hK,g1,g2,⟨_,rfl⟩⟩
 rw [abu (by rw [hs.len];exact sU _),hs.len];simp
def jJ (esz bytes:Nat) (n:AV) (φ:AV→Prop):Prop:=
 match n with
 | .int .i64 n=>0≤n∧n.toNat * bytes≤140737488355328∧φ (.ak esz [])
 | _=>False
theorem F7 (hs:St A M L w H ev ea O) {t e:TypeId} {i:TypeInfo} {zv:Value} {esz bytes:Nat} (ht:P.underlying t=some (.slice e)) (hi:P.info? e=some i) (hz:i.zero=some zv) (dm:i.size=esz) (zL:i.bytes=bytes) (h0:0 < esz) (wR:0 < bytes)
 (vN:zv.cells.size=esz) {u:Value} {n:AV} {φ:AV→Prop} (h:jJ esz bytes n φ) (hu:aX M L u n) :
 ∃ r w' M' b,(Instr.makeSlice t (.int .i64 0) u).run P w=.ok r w'∧aX M' L r (.ak esz [])∧φ (.ak esz [])∧bi M' w' r (.ak esz []) (some b)∧St A M' L w' H ev ea O∧Ext A M w M' w'∧
  (∀ q,O q≠some b)∧b∉L∧b < w'.heap.size∧A b:=by
 unfold jJ at h
 split at h <;> try exact h.elim
 rename_i n
 obtain ⟨LB,Yb,hφ⟩:=h
 cases hu
 obtain ⟨cs,bL,zK⟩:=run_mk ht hi hz dm zL vN h0 wR 0 n (Int.le_refl _) LB Yb w
 have hcn:n.toNat≤140737488355328:=acN (acU _ wR) Yb
 obtain ⟨g1,g2,g3⟩:=hs.ry cs e (0,0) [] (fun j v hv=>by simp at hv)
 refine ⟨_,_,_,w.heap.size,bL,.ig _ _ _ (by omega),hφ,?_,g1,g2,fun q hq=>absurd (hs.fQ q _ hq) (adF _),fun hm=>absurd (hs.lt _ hm) (adF _),by simp,hs.fresh _ (sU _)⟩
 unfold bi
 simp only [Nat.ne_of_gt h0,if_false]
 refine ⟨by simp,.inr ⟨_,0,0,n.toNat,cs,e,(0,0),rfl,by simp,dT w _,pq _,?_,?_⟩⟩
 ·rw [zK];simp
 ·intro k _ _
  simp [Mem.add]
def dV (x:Option AV) (d:Nat) (φ:Nat→Prop):Prop:=
 match x with
 | none=>φ d
 | some (.int _ i)=>0≤i∧φ i.toNat
 | _=>False
def ff (esz:Nat) (x:AV) (lo hi mx:Option AV) (φ:AV→Prop):Prop:=
 match dG x with
 | some xs=>dV hi xs.length fun h=>dV lo 0 fun l=>l≤h∧h≤xs.length∧
    match mx with
    | none=>φ (.ak 0 ((xs.take h).drop l))
    | some m=>hi.isSome=true∧dV (some m) 0 fun m=>m=h∧(∀ y∈xs,y.cells.length=esz)∧φ (.ak esz ((xs.take h).drop l))
 | none=>False
theorem zO:∀ (xs:List AV) (e n:Nat),(∀ y∈xs,y.cells.length=e)→flat (xs.take n)=(flat xs).take (n * e)
 | [],e,n,_=>by simp [flat]
 | y::ys,e,0,_=>by simp [flat]
 | y::ys,e,n + 1,hx=>by
   have hy:=hx y (by simp)
   have ih:=zO ys e n (fun z hz=>hx z (by simp [hz]))
   simp only [flat] at ih
   simp only [List.take_succ_cons,flat,List.flatMap_cons,ih]
   rw [aeU,Ue (l:=y.cells) (by rw [hy,acE];omega),hy,show (n + 1) * e - e=n * e by rw [acE];omega]
theorem zP:∀ (xs:List AV) (e n:Nat),(∀ y∈xs,y.cells.length=e)→flat (xs.drop n)=(flat xs).drop (n * e)
 | [],e,n,_=>by simp [flat]
 | y::ys,e,0,_=>by simp [flat]
 | y::ys,e,n + 1,hx=>by
   have hy:=hx y (by simp)
   have ih:=zP ys e n (fun z hz=>hx z (by simp [hz]))
   simp only [flat] at ih
   simp only [List.drop_succ_cons,flat,List.flatMap_cons]
   rw [ih,ac8,af9 (as:=y.cells) (by rw [hy,acE];omega),hy,show (n + 1) * e - e=n * e by rw [acE];omega]
   rfl
def jK (M:Mem) (L:List Nat) (x:Option AV) (v:Option Value):Prop:=match x,v with | none,none=>True | some x,some v=>aX M L v x | _,_=>False
theorem dW {x:Option AV} {v:Option Value} (hx:jK M L x v) {d:Nat} {φ:Nat→Prop} (h:dV x d φ) :
 ∃ k,φ k∧((x=none∧v=none∧k=d)∨∃ kd i,v=some (.int kd i)∧0≤i∧i.toNat=k):=by
 unfold dV at h
 split at h
 ·cases v with
  | none=>exact ⟨d,h,.inl ⟨rfl,rfl,rfl⟩⟩
  | some v=>exact hx.elim
 ·rename_i kd i
  cases v with
  | none=>exact hx.elim
  | some v=>
    have yH:aX M L v (.int kd i):=hx
    cases yH
    exact ⟨_,h.2,.inr ⟨_,_,rfl,h.1,rfl⟩⟩
 ·exact h.elim
theorem run_sliceBound (w:World) (kd:IntKind) (i:Int) (y:Nat) (code:BoundsCode) (h0:0≤i) (h1:i.toNat≤y):(Instr.sliceBound (.int kd i) y code).run P w=.ok i.toNat w:=by
 have:0≤i∧i≤(y:Int):=⟨h0,by omega⟩
 simp [Instr.sliceBound,asIntOf,this]
theorem wS (hs:St A M L w H ev ea O) {t e:TypeId} {esz:Nat} (ht:P.underlying t=some (.slice e)) (he:dU P e=some esz) (h0:0 < esz) {u:Value} {x:AV} {lo hi mx:Option AV} {vlo vhi vmx:Option Value} {φ:AV→Prop}
 (h:ff esz x lo hi mx φ) (hu:aX M L u x) (Ui:∀ own xs,x=.ak own xs→∀ z∈xs,z.cells.length=esz)
 (h1:jK M L lo vlo) (h2:jK M L hi vhi) (h3:jK M L mx vmx) :
 ∃ a n c own ys,(Instr.sliceAt t u vlo vhi vmx).run P w=.ok (.slice a n c) w∧aX M L (.slice a n c) (.ak own ys)∧φ (.ak own ys)∧(own≠0→n=c∧∀ y∈ys,y.cells.length=own):=by
 unfold ff at h
 split at h <;> try exact h.elim
 rename_i xs eK
 have dm:(sizeOf e).run P w=.ok esz w:=by
  obtain ⟨i,hi,Ps⟩:=zF.1 he
  simp [sizeOf,typeInfo,hi,Ps]
 obtain ⟨hh,h,LC⟩:=dW h2 h
 obtain ⟨ll,h,wQ⟩:=dW h1 h
 obtain ⟨hle,hhl,h⟩:=h
 have Bm:∃ own,aX M L u (.ak own xs):=by
  unfold dG at eK
  split at eK
  ·cases eK;cases hu;exact ⟨0,.ig _ _ _ (by decide)⟩
  ·cases eK;exact ⟨_,hu⟩
  ·cases eK
 obtain ⟨own0,Bm⟩:=Bm
 have Jk:∀ z∈xs,z.cells.length=esz:=by
  unfold dG at eK
  split at eK
  ·cases eK;simp
  ·cases eK;exact Ui _ _ rfl
  ·cases eK
 have hform:∃ bs c,u=.slice bs xs.length c∧xs.length≤c∧c < 9223372036854775808:=by
  cases Bm with
  | ig a c _ hc=>exact ⟨a,c,rfl,ac4 _,hc⟩
  | ak b off c _ e cs _ he hx hn hle hc hr hm=>exact ⟨_,c,rfl,hle,hc⟩
 obtain ⟨bs,c,rfl,hxc,hc⟩:=hform
 have rep:∀ (own m:Nat),hh≤m→m≤c→aX M L (.slice (if m=ll then bs else bs.map (·.add (ll * esz))) (hh - ll) (m - ll)) (.ak own ((xs.take hh).drop ll)):=by
  intro own m hm1 hm2
  have hlen:((xs.take hh).drop ll).length=hh - ll:=by simp;omega
  by_cases hz:hh - ll=0
  ·have:(xs.take hh).drop ll=[]:=adl (by omega)
   rw [this,hz]
   exact .ig _ _ _ (by omega)
  ·rcases (vO Bm).2 with ⟨h',_⟩ | ⟨b,off,cs,rfl,hr,hm⟩
   ·subst h';simp at hlen;omega
   ·rw [if_neg (by omega)]
    simp only [Option.map_some,Addr.add_lit]
    have yH:∀ z∈(xs.take hh).drop ll,z.cells.length=esz:=fun z hz=>Jk z (ac2 (aeW hz))
    have:=aX.ak (M:=M) (L:=L) b (off + ll * esz) (m - ll) own esz ((cs.take (hh * esz)).drop (ll * esz)) ((xs.take hh).drop ll) h0 yH (by omega) (by omega) (by omega) (by
     rw [zP _ esz ll (fun z hz=>Jk z (ac2 hz)),zO _ esz hh Jk]
     exact (hr.take _).drop _) (by
     intro j v hv
     rw [aeg,aa7] at hv
     split at hv
     ·have:=hm _ v hv
      rwa [← adf] at this
     ·cases hv)
    rwa [hlen] at this
 cases mx with
 | none=>
   cases vmx with
   | some v=>exact h3.elim
   | none=>
     refine ⟨_,_,_,0,_,?_,rep 0 c (by omega) (sU _),h,fun h=>absurd rfl h⟩
     have hb:(Instr.sliceBounds true xs.length c vlo vhi none).run P w=.ok (ll,hh,c) w:=by
      rcases LC with ⟨_,rfl,rfl⟩ | ⟨kd,i,rfl,vP,rfl⟩ <;> rcases wQ with ⟨_,rfl,rfl⟩ | ⟨kd',i',rfl,vD,rfl⟩
      ·rfl
      ·have qD:=run_sliceBound (P:=P) w kd' i' xs.length .sliceB vD hle
       simp [Instr.sliceBounds,qD]
      ·have qD:=run_sliceBound (P:=P) w kd i c .sliceAcap vP (by omega)
       simp [Instr.sliceBounds,qD]
      ·have qD:=run_sliceBound (P:=P) w kd i c .sliceAcap vP (by omega)
       have rv:=run_sliceBound (P:=P) w kd' i' i.toNat .sliceB vD hle
       simp [Instr.sliceBounds,qD,rv]
     simp only [Instr.sliceAt,Instr.slice,Sem.run_bind,run_underlying ht,Result.andThen_ok,hb,dm,Sem.run_pure]
 | some m=>
   cases vmx with
   | none=>exact h3.elim
   | some vm=>
     obtain ⟨hsome,h⟩:=h
     obtain ⟨mm,⟨rfl,_,hφ⟩,XE⟩:=dW (v:=some vm) h3 h
     rcases XE with ⟨hh',_⟩ | ⟨kdm,im,hvm,ado,Lv⟩
     ·cases hh'
     cases hvm
     refine ⟨_,_,_,esz,_,?_,rep esz mm (sU _) (by omega),hφ,fun _=>⟨rfl,fun y hy=>Jk y (ac2 (aeW hy))⟩⟩
     have hb:(Instr.sliceBounds true xs.length c vlo vhi (some (.int kdm im))).run P w=.ok (ll,mm,mm) w:=by
      have Pq:=run_sliceBound (P:=P) w kdm im c .slice3Acap ado (by omega)
      rw [Lv] at Pq
      rcases LC with ⟨hn,rfl,hd⟩ | ⟨kd,i,rfl,vP,hi1⟩
      ·rw [hn] at hsome;cases hsome
      ·have qD:=run_sliceBound (P:=P) w kd i mm .slice3B vP (by omega)
       rw [hi1] at qD
       rcases wQ with ⟨_,rfl,rfl⟩ | ⟨kd',i',rfl,vD,rfl⟩
       ·simp [Instr.sliceBounds,Pq,qD]
       ·have rv:=run_sliceBound (P:=P) w kd' i' mm .slice3C vD hle
        simp [Instr.sliceBounds,Pq,qD,rv]
     simp only [Instr.sliceAt,Instr.slice,Sem.run_bind,run_underlying ht,Result.andThen_ok,hb,dm,Sem.run_pure]
def cu (x:AV) (lo hi:Option AV) (φ:AV→Prop):Prop:=
 match x with
 | .str s=>dV hi s.size fun h=>dV lo 0 fun l=>l≤h∧h≤s.size∧φ (.str (s.extract l h))
 | _=>False
theorem yU {t:TypeId} (ht:P.underlying t=some .string) {u:Value} {x:AV} {lo hi:Option AV} {vlo vhi:Option Value} {φ:AV→Prop}
 (h:cu x lo hi φ) (hu:aX M L u x) (h1:jK M L lo vlo) (h2:jK M L hi vhi) :
 ∃ r z,(Instr.sliceAt t u vlo vhi none).run P w=.ok r w∧aX M L r z∧φ z∧∀ own xs,z=.ak own xs→own=0:=by
 unfold cu at h
 split at h <;> try exact h.elim
 rename_i s
 cases hu
 obtain ⟨hh,h,LC⟩:=dW h2 h
 obtain ⟨ll,h,wQ⟩:=dW h1 h
 obtain ⟨hle,hhl,hφ⟩:=h
 refine ⟨_,_,?_,.str _,hφ,by intro _ _ e;cases e⟩
 have hb:(Instr.sliceBounds false s.size s.size vlo vhi none).run P w=.ok (ll,hh,s.size) w:=by
  rcases LC with ⟨_,rfl,rfl⟩ | ⟨kd,i,rfl,vP,rfl⟩ <;> rcases wQ with ⟨_,rfl,rfl⟩ | ⟨kd',i',rfl,vD,rfl⟩
  ·rfl
  ·have qD:=run_sliceBound (P:=P) w kd' i' s.size .sliceB vD hle
   simp [Instr.sliceBounds,qD]
  ·have qD:=run_sliceBound (P:=P) w kd i s.size .sliceAlen vP (by omega)
   simp [Instr.sliceBounds,qD]
  ·have qD:=run_sliceBound (P:=P) w kd i s.size .sliceAlen vP (by omega)
   have rv:=run_sliceBound (P:=P) w kd' i' i.toNat .sliceB vD hle
   simp [Instr.sliceBounds,qD,rv]
 simp only [Instr.sliceAt,Instr.slice,Sem.run_bind,run_underlying ht,Result.andThen_ok,agE,acv,if_false,Sem.run_pure,hb]
def bn (l:List UInt8):List AV:=l.map fun b=>.int .u8 b.toNat
def gv (x:AV) (φ:AV→Prop):Prop:=match x with | .str s=>φ (.str s) | _=>False
theorem Bo {src dst:TypeId} {d:TypeDesc} (hs:P.underlying src=some d) (hd:P.underlying dst=some .string) {u:Value} {x:AV} {φ:AV→Prop} (h:gv x φ) (hu:aX M L u x) :
 ∃ r z,(convert src dst u).run P w=.ok r w∧aX M L r z∧φ z∧∀ own xs,z=.ak own xs→own=0:=by
 unfold gv at h
 split at h <;> try exact h.elim
 cases hu
 refine ⟨_,_,?_,.str _,h,by intro _ _ e;cases e⟩
 simp [convert,run_underlying hs,run_underlying hd]
def kA (x:AV) (φ:AV→Prop):Prop:=
 match dG x with
 | some ys=>∃ l,ys=bn l∧φ (.str ⟨l.toArray⟩)
 | none=>False
theorem wT (l:List UInt8):flat (bn l)=bn l:=by
 induction l with
 | nil=>rfl
 | cons b l ih=>simp only [bn,List.map_cons,flat,List.flatMap_cons,AV.cells] at ih ⊢;rw [ih];rfl
theorem aM.bytes:∀ {cs:List Value} {l:List UInt8},aM M L cs (bn l)→cs=l.map fun b=>.int .u8 b.toNat
 | [],[],_=>rfl
 | [],b::l,h=>by have:=h.length;simp [bn] at this
 | c::cs,[],h=>by have:=h.length;simp [bn] at this
 | c::cs,b::l,h=>by
   simp only [bn,List.map_cons] at h
   cases h with
   | cons _ _ _ _ h t=>cases h;simp [aM.bytes (l:=l) t]
theorem F8 (hs:St A M L w H ev ea O) {src dst e:TypeId} (h1:P.underlying src=some (.slice e)) (h2:P.underlying e=some (.int .u8)) (hd:P.underlying dst=some .string) {u:Value} {x:AV} {φ:AV→Prop} (h:kA x φ) (hu:aX M L u x) :
 ∃ r z,(convert src dst u).run P w=.ok r w∧aX M L r z∧φ z∧∀ own xs,z=.ak own xs→own=0:=by
 unfold kA at h
 split at h <;> try exact h.elim
 rename_i ys ru
 obtain ⟨l,rfl,hφ⟩:=h
 have Bm:∃ own,aX M L u (.ak own (bn l)):=by
  unfold dG at ru
  split at ru
  ·cases l with
   | nil=>cases hu;exact ⟨0,.ig _ _ _ (by decide)⟩
   | cons b l=>simp [bn] at ru
  ·cases ru;exact ⟨_,hu⟩
  ·cases ru
 obtain ⟨own,Bm⟩:=Bm
 refine ⟨_,_,?_,.str _,hφ,by intro _ _ e;cases e⟩
 cases l with
 | nil=>
   have:∃ a c,u=.slice a 0 c:=by
    cases Bm with
    | ig a c _ hc=>exact ⟨a,c,rfl⟩
    | ak b off c _ e cs _ he hx hn=>simp [bn] at hn
   obtain ⟨a,c,rfl⟩:=this
   cases a with
   | none=>rw [run_convert_bytes_nil w src e h1 h2 0 c dst hd];rfl
   | some a=>
     simp [convert,run_underlying h1,run_underlying hd,run_underlying h2,Conv.bytesToString,loadCells,loadCellsFrom]
     rfl
 | cons b0 l=>
   have:∃ b off c cs,u=.slice (some ⟨b,off,none⟩) (bn (b0::l)).length c∧aM M L cs (bn (b0::l))∧M.row b off cs:=by
    generalize hl:bn (b0::l)=q at Bm
    cases Bm with
    | ig=>simp [bn] at hl
    | ak b off c _ e cs _ he hx hn hle hc hr hm=>
      subst hl
      rw [wT] at hr
      exact ⟨b,off,c,cs,rfl,hr,hm⟩
   obtain ⟨b,off,c,cs,rfl,hr,hm⟩:=this
   have zK:=hr.bytes
   have bL:=run_convert_bytes_arg (P:=P) w src e h1 h2 b off (bn (b0::l)).length c ((b0::l).map fun b=>(b.toNat:Int)) (by simp [bn]) (fun i hi=>by
    have mV:i < (b0::l).length:=by simpa [bn] using hi
    have:=hs.mem _ _ _ (hm i (.int .u8 ((b0::l)[i]).toNat) (by rw [zK,acQ,aaf mV];rfl))
    rw [this,sT,acQ,aaf mV]
    rfl) dst hd
   rw [bL]
   congr 2
   simp only [strOfNums,ada]
   congr 1
   congr 1
   conv=>rhs;rw [← List.map_id (b0::l)]
   apply acT
   intro b _
   simp
def fH (own:Nat) (x:AV) (φ:AV→Prop):Prop:=
 match x with
 | .str s=>s.size < 9223372036854775808∧φ (.ak own (bn s.data.toList))
 | _=>False
end
end Go.aK
end
section
namespace Go.aK
open Go
section
variable {P:Program} {w:World} {M:Mem} {L:List Nat} {H:List aa} {A:Perm} {ev:Nat→Value} {ea:Nat→AV} {O:Pos→Option Nat}
theorem Dn (w:World) (cs:Array Value) (e:TypeId) :
 ({ w with heap:=w.heap.push (.cells cs e) }:World).freeze { block:=w.heap.size,off:=cs.size } 1={ w with heap:=w.heap.push (.cells cs e (cs.size,cs.size + 1)) }:=by
 simp only [World.freeze,Nat.one_ne_zero,if_false]
 congr 1
 apply Array.ext
 ·simp
 ·intro i h1 h2
  rw [agu]
  by_cases hi:w.heap.size=i
  ·subst hi;simp
  ·simp only [hi,if_false]
   have:i < w.heap.size:=by simp at h2;omega
   rw [aez this,aez this]
theorem Dp (l:List UInt8):aM M L (l.map fun b=>Value.int .u8 b.toNat) (bn l):=by
 induction l with
 | nil=>exact .nil
 | cons b l ih=>exact .cons _ _ _ _ (.int _ _) ih
theorem Bp (hs:St A M L w H ev ea O) {src dst e:TypeId} (h1:P.underlying src=some .string) (hd:P.underlying dst=some (.slice e)) (h2:P.underlying e=some (.int .u8)) {u:Value} {x:AV} {φ:AV→Prop} (h:fH 1 x φ) (hu:aX M L u x) :
 ∃ r z w' M' ob,(convert src dst u).run P w=.ok r w'∧aX M' L r z∧φ z∧bi M' w' r z ob∧St A M' L w' H ev ea O∧Ext A M w M' w'∧
  (∀ q b,ob=some b→O q≠some b)∧(∀ b,ob=some b→b∉L∧b < w'.heap.size∧A b):=by
 unfold fH at h
 split at h <;> try exact h.elim
 rename_i s
 obtain ⟨dm,hφ⟩:=h
 cases hu
 let cap:=(Question.appendCap s.size 0 e).cut (w.tape w.drawn (.appendCap s.size 0 e))
 have SZ:s.size≤cap:=by simp [cap,Question.cut]
 have pZ:cap < 9223372036854775808:=by
  have:=agJ (w.tape w.drawn (.appendCap s.size 0 e)) (show 0 < 2 ^ 63 - s.size by omega)
  simp only [cap,Question.cut];omega
 let elems:Array Value:=s.data.map fun b=>.int .u8 b.toNat
 let cs:Array Value:=elems++Array.replicate (cap - s.size) (.int .u8 0)
 have zK:cs.size=cap:=by
  simp only [cs,elems,Array.size_append,Array.size_map,Array.size_replicate]
  have:s.data.size=s.size:=rfl
  omega
 have XF:elems.toList=s.data.toList.map fun b=>Value.int .u8 b.toNat:=by simp [elems]
 let W:World:={ { w with drawn:=w.drawn + 1 } with heap:=w.heap.push (.cells cs e (cs.size,cs.size + 1)) }
 have bL:(convert src dst (.string s)).run P w=.ok (.slice (some ⟨w.heap.size,0,none⟩) s.size cap) W:=by
  have FI:=Dn { w with drawn:=w.drawn + 1 } cs e
  have Ug:({ { w with drawn:=w.drawn + 1 } with heap:=w.heap.push (.cells cs e) }:World).shape? w.heap.size=some (e,cs.size):=by
   simp [World.shape?]
  simp only [convert,Sem.run_bind,run_underlying h1,run_underlying hd,run_underlying h2,Result.andThen_ok,Conv.stringToBytes,run_choose,Question.forced,acv,if_false]
  have Bn:∀ W:World,(newRow e cs).run P W=.ok ⟨W.heap.size,0,none⟩ { W with heap:=W.heap.push (.cells cs e) }:=fun _=>rfl
  refine Eq.trans (congrArg (fun r=>Result.andThen r _) (Bn _)) ?_
  simp only [Result.andThen_ok,Sem.run_pure,markStringish,run_shape,Sem.run_bind]
  rw [Ug]
  simp only [run_freeze,Result.andThen_ok]
  rw [FI]
 obtain ⟨g1,g2,g3⟩:=hs.drew.ry cs e (cs.size,cs.size + 1) elems.toList (fun j v hv=>by
  have:cs.toList[j]?=some v:=by
   simp only [cs,agy]
   rw [zA (aO hv)];exact hv
  simpa using this)
 have gl:aM (M.add w.heap.size elems.toList) L elems.toList (bn s.data.toList):=by rw [XF];exact Dp _
 have hlen:(bn s.data.toList).length=s.size:=by simp [bn]
 have hx:∀ y∈bn s.data.toList,y.cells.length=1:=by
  intro y hy
  simp only [bn,aaR] at hy
  obtain ⟨b,_,rfl⟩:=hy
  rfl
 refine ⟨_,_,W,_,some w.heap.size,bL,?_,hφ,?_,g1,Ext.drew.trans g2,?_,?_⟩
 ·by_cases h0:s.size=0
  ·have:bn s.data.toList=[]:=adl (by omega)
   rw [this,h0]
   exact .ig _ _ _ pZ
  ·have:=aX.ak (M:=M.add w.heap.size elems.toList) (L:=L) w.heap.size 0 cap 1 1 elems.toList (bn s.data.toList) (by omega) hx (by omega) (by omega) pZ (by rw [wT];exact gl) g3
   rwa [hlen] at this
 ·unfold bi
  simp only [Nat.one_ne_zero,if_false]
  refine ⟨hx,.inr ⟨_,0,s.size,cap,cs,e,(cs.size,cs.size + 1),rfl,rfl,dT _ _,?_,by omega,?_⟩⟩
  ·intro j hj h;simp at h;omega
  ·intro k hk _
   simp only [Mem.add,if_true,acC]
   refine acB ?_
   have:elems.toList.length=s.size:=by rw [XF];simp
   omega
 ·intro q b hb hq
  cases hb
  exact absurd (hs.fQ q _ hq) (adF _)
 ·intro b hb
  cases hb
  exact ⟨fun hm=>absurd (hs.lt _ hm) (adF _),by simp [W],hs.fresh _ (sU _)⟩
def cL (kd:Nat) (x y:AV):Option Bool:=
 match kd,x,y with
 | 0,.int k a,.int k' b=>if k=k' then some (decide (a=b)) else none
 | 1,.str a,.str b=>some (decide (a=b))
 | 2,.agg [.int k a,.int l b],.agg [.int k' a',.int l' b']=>if k=k'∧l=l' then some (decide (a=a'∧b=b')) else none
 | _,_,_=>none
def lJ (kd:Nat) (d:TypeDesc):Prop:=match kd,d with | 0,.int _=>True | 1,.string=>True | _,_=>False
def F9 (P:Program) (kd:Nat) (d:TypeDesc):Prop:=kd=2∧∃ e q,d=.array 2 e∧P.underlying e=some (.int q)∧(P.info? e).map (·.size)=some 1
theorem Bq (a b:ByteArray):(a == b)=decide (a=b):=by
 rcases a with ⟨a⟩
 rcases b with ⟨b⟩
 show (a == b)=_
 by_cases h:a=b <;> simp [h]
def pw (P:Program) (t:TypeId):Option Nat:=
 match P.underlying t with
 | some (.int _)=>some 0
 | some .string=>some 1
 | some (.array 2 e)=>match P.underlying e,(P.info? e).map (·.size) with
   | some (.int _),some 1=>some 2
   | _,_=>none
 | _=>none
def dt (kd:Nat) (k:AV):List (AV×AV)→Nat→Option (Option (Nat×AV))
 | [],_=>some none
 | (a,v)::r,i=>match cL kd k a with
   | some true=>some (some (i,v))
   | some false=>dt kd k r (i + 1)
   | none=>none
def cB (kd:Nat) (zero m k:AV) (ok:Bool) (H:List aa) (φ:AV→Prop):Prop:=
 match m with
 | .jE=>cL kd k k=some true∧φ (if ok then .tuple [aR zero,.bool false] else aR zero)
 | .map id=>match H[id]? with
   | some (.map es)=>match dt kd k es 0 with
     | some (some (_,v))=>φ (if ok then .tuple [v.drop,.bool true] else v.drop)
     | some none=>cL kd k k=some true∧φ (if ok then .tuple [aR zero,.bool false] else aR zero)
     | none=>False
   | _=>False
 | _=>False
def fW (kd:Nat) (m k x:AV) (H:List aa) (K:List aa→Prop):Prop:=
 match m with
 | .map id=>match H[id]? with
   | some (.map es)=>k.aW (id + 1)=true∧x.aW (id + 1)=true∧x.val=true∧match dt kd k es 0 with
     | some (some (i,_))=>K (H.set id (.map (es.set i (k,aR x))))
     | some none=>cL kd k k=some true∧K (H.set id (.map (es++[(k,aR x)])))
     | none=>False
   | _=>False
 | _=>False
theorem wU {kd:Nat} {d:TypeDesc} (hd:lJ kd d) {k y:AV} {b:Bool} (h:cL kd k y=some b) {u v:Value} (hu:aX M L u k) (hv:aX M L v y) :
 Instr.sameNow d u v=some b∧(b=true→v=u):=by
 unfold cL at h
 split at h
 ·rename_i k a k' b'
  cases hu;cases hv
  split at h
  ·rename_i e;subst e
   cases h
   cases d <;> simp only [lJ] at hd
   refine ⟨by simp [Instr.sameNow,rB],?_⟩
   intro h;simp at h;rw [h]
  ·cases h
 ·rename_i a b'
  cases hu;cases hv
  cases h
  cases d <;> simp only [lJ] at hd
  refine ⟨by simp only [Instr.sameNow,Bq],?_⟩
  intro h;simp at h;rw [h]
 ·cases d <;> simp only [lJ] at hd
 ·cases h
theorem zQ {kd:Nat} {d:TypeDesc} (hd:lJ kd d) {k:AV} {u:Value} (hu:aX M L u k) :
 ∀ (es:List (AV×AV)) (ents:List MapEntry) (i:Nat) (r:Option (Nat×AV)),aM M L (ents.map (·.key)) (es.map (·.1))→aM M L (ents.map (·.val)) (es.map (·.2))→dt kd k es i=some r→
  match r with
  | none=>Instr.findNow d u ents i=some none
  | some (j,x)=>i≤j∧∃ v,Instr.findNow d u ents i=some (some (j,v))∧aX M L v x∧∃ en,ents[j - i]?=some en∧en.key=u∧en.val=v∧j - i < es.length
 | [],ents,i,r,h1,h2,h=>by
   cases ents with
   | nil=>simp [dt] at h;subst h;rfl
   | cons a b=>have:=h1.length;simp at this
 | (a,x)::es,[],i,r,h1,h2,h=>by have:=h1.length;simp at this
 | (a,x)::es,en::ents,i,r,h1,h2,h=>by
   simp only [List.map_cons] at h1 h2
   cases h1 with
   | cons _ _ _ _ hk Ga=>
   cases h2 with
   | cons _ _ _ _ hv yR=>
   unfold dt at h
   split at h
   ·rename_i he
    cases h
    obtain ⟨e1,e2⟩:=wU hd he hu hk
    exact ⟨sU _,en.val,by simp [Instr.findNow,e1],hv,en,by simp,e2 rfl,rfl,by simp⟩
   ·rename_i he
    obtain ⟨e1,_⟩:=wU hd he hu hk
    have ih:=zQ hd hu es ents (i + 1) r Ga yR h
    cases r with
    | none=>simp only at ih ⊢;simp [Instr.findNow,e1,ih]
    | some jx=>
      obtain ⟨j,y⟩:=jx
      simp only at ih ⊢
      obtain ⟨hij,v,f1,f2,en',f3,f4,f5,f6⟩:=ih
      refine ⟨by omega,v,by simp [Instr.findNow,e1,f1],f2,en',?_,f4,f5,by simp;omega⟩
      rw [show j - i=(j - (i + 1)) + 1 by omega]
      simpa using f3
   ·cases h
theorem rC {t:TypeId} {kd:Nat} (h:pw P t=some kd):∃ d,P.underlying t=some d∧(lJ kd d∨F9 P kd d):=by
 unfold pw at h
 split at h
 ·rename_i k hu;cases h;exact ⟨_,hu,.inl trivial⟩
 ·rename_i hu;cases h;exact ⟨_,hu,.inl trivial⟩
 ·rename_i e hu
  split at h <;> cases h
  rename_i q h1 h2
  exact ⟨_,hu,.inr ⟨rfl,e,q,rfl,h1,h2⟩⟩
 ·cases h
theorem rD {e:TypeId} {q:IntKind} (h2:P.underlying e=some (.int q)) {cs:Array Value} {off:Nat} {v:Value} (hv:cs[off]?=some v) (w:World):(part e cs off).run P w=.ok v w:=by
 simp [part,isAgg,run_underlying h2,hv]
theorem Jo {e:TypeId} {q:IntKind} (h2:P.underlying e=some (.int q)) (d:Nat) (k:IntKind) (a a':Int) (w:World):(Op.equalIn (d + 1) e (.int k a) (.int k a')).run P w=.ok (decide (a=a')) w:=by
 rw [Op.equalIn]
 simp [run_underlying h2,rB]
theorem zR {kt e:TypeId} {q:IntKind} (h1:P.underlying kt=some (.array 2 e)) (h2:P.underlying e=some (.int q)) (h3:(P.info? e).map (·.size)=some 1) (d:Nat) (k l:IntKind) (a b a' b':Int) (w:World) :
 (Op.equalIn (d + 1 + 1) kt (.agg #[.int k a,.int l b]) (.agg #[.int k a',.int l b'])).run P w=.ok (decide (a=a'∧b=b')) w:=by
 obtain ⟨i,hi,hs⟩:=zF.1 h3
 have hz:(sizeOf e).run P w=.ok 1 w:=by simp [sizeOf,typeInfo,hi,hs]
 have p0:∀ x y:Value,(part e #[x,y] 0).run P w=.ok x w:=fun x y=>rD h2 (by simp) w
 have p1:∀ x y:Value,(part e #[x,y] 1).run P w=.ok y w:=fun x y=>rD h2 (by simp) w
 rw [Op.equalIn]
 simp only [Sem.run_bind,run_underlying h1,Result.andThen_ok,hz]
 by_cases ha:a=a' <;> by_cases hb:b=b' <;>
 simp [Std.Legacy.Range.forIn_eq_forIn_range',List.range',p0,p1,Jo h2,ha,hb]
theorem aM.two {vs:List Value} {x y:AV} (h:aM M L vs [x,y]):∃ u v,vs=[u,v]∧aX M L u x∧aX M L v y:=by
 cases h with
 | cons u x vs xs h1 h2=>obtain ⟨v,rfl,h3⟩:=h2.HU;exact ⟨u,v,rfl,h1,h3⟩
theorem aX.pair {u:Value} {k l:IntKind} {a b:Int} (h:aX M L u (.agg [.int k a,.int l b])):u=.agg #[.int k a,.int l b]:=by
 cases h with
 | agg cs xs hr=>
   obtain ⟨x,y,rfl,h1,h2⟩:=hr.two
   cases h1;cases h2
   rfl
theorem qE {k y:AV} {b:Bool} (h:cL 2 k y=some b):∃ p q i j i' j',k=.agg [.int p i,.int q j]∧y=.agg [.int p i',.int q j']∧b=decide (i=i'∧j=j'):=by
 unfold cL at h
 split at h
 ·have:(2:Nat)=0:=by assumption
  omega
 ·have:(2:Nat)=1:=by assumption
  omega
 ·split at h <;> cases h
  rename_i e
  obtain ⟨rfl,rfl⟩:=e
  exact ⟨_,_,_,_,_,_,rfl,rfl,rfl⟩
 ·cases h
def found (P:Program) (kt:TypeId) (u:Value) (ents:List MapEntry) (M:Mem) (L:List Nat) (n:Nat) (r:Option (Nat×AV)):Prop:=
 match r with
 | none=>∀ w,(Instr.findKey kt u ents).run P w=.ok none w
 | some (j,x)=>∃ v,(∀ w,(Instr.findKey kt u ents).run P w=.ok (some (j,v)) w)∧aX M L v x∧∃ en,ents[j]?=some en∧en.key=u∧en.val=v∧j < n
theorem wV {kt e:TypeId} {q:IntKind} (h1:P.underlying kt=some (.array 2 e)) (h2:P.underlying e=some (.int q)) (h3:(P.info? e).map (·.size)=some 1) {k:AV} {u:Value} (hu:aX M L u k) :
 ∀ (es:List (AV×AV)) (ents:List MapEntry) (i:Nat) (r:Option (Nat×AV)),aM M L (ents.map (·.key)) (es.map (·.1))→aM M L (ents.map (·.val)) (es.map (·.2))→dt 2 k es i=some r→
  match r with
  | none=>∀ w,(Instr.findAsking kt u ents i).run P w=.ok none w
  | some (j,x)=>i≤j∧∃ v,(∀ w,(Instr.findAsking kt u ents i).run P w=.ok (some (j,v)) w)∧aX M L v x∧∃ en,ents[j - i]?=some en∧en.key=u∧en.val=v∧j - i < es.length
 | [],ents,i,r,k1,k2,h=>by
   cases ents with
   | nil=>simp [dt] at h;subst h;exact fun w=>rfl
   | cons a b=>have:=k1.length;simp at this
 | (a,x)::es,[],i,r,k1,k2,h=>by have:=k1.length;simp at this
 | (a,x)::es,en::ents,i,r,k1,k2,h=>by
   simp only [List.map_cons] at k1 k2
   cases k1 with
   | cons _ _ _ _ hk Ga=>
   cases k2 with
   | cons _ _ _ _ hv yR=>
   unfold dt at h
   split at h
   ·rename_i he
    cases h
    obtain ⟨p,q',m,n,m',n',rfl,rfl,hb⟩:=qE he
    have hd:=of_decide_eq_true hb.symm
    have e1:=hu.pair
    have e2:=hk.pair
    refine ⟨sU _,en.val,fun w=>?_,hv,en,by simp,?_,rfl,by simp⟩
    ·have:=zR (P:=P) h1 h2 h3 9998 p q' m n m' n' w
     simp only [Instr.findAsking,e1,e2,Sem.run_bind,Op.equal,Op.maxDepth]
     rw [this]
     simp [hd]
    ·rw [e1,e2,hd.1,hd.2]
   ·rename_i he
    obtain ⟨p,q',m,n,m',n',rfl,rfl,hb⟩:=qE he
    have hd:=of_decide_eq_false hb.symm
    have e1:=hu.pair
    have e2:=hk.pair
    have kB:∀ w,(Instr.findAsking kt u (en::ents) i).run P w=(Instr.findAsking kt u ents (i + 1)).run P w:=fun w=>by
     have:=zR (P:=P) h1 h2 h3 9998 p q' m n m' n' w
     rw [Instr.findAsking,Sem.run_bind,e1,e2,Op.equal,Op.maxDepth,this]
     simp only [Result.andThen_ok,hd,decide_false]
     rfl
    have ih:=wV h1 h2 h3 hu es ents (i + 1) r Ga yR h
    cases r with
    | none=>exact fun w=>(kB w).trans (ih w)
    | some jx=>
      obtain ⟨j,y⟩:=jx
      simp only at ih ⊢
      obtain ⟨hij,v,f1,f2,en',f3,f4,f5,f6⟩:=ih
      refine ⟨by omega,v,fun w=>(kB w).trans (f1 w),f2,en',?_,f4,f5,by simp;omega⟩
      rw [show j - i=(j - (i + 1)) + 1 by omega]
      simpa using f3
   ·cases h
theorem k8 {kt:TypeId} {kd:Nat} {d:TypeDesc} (Lr:P.underlying kt=some d) (hd:lJ kd d∨F9 P kd d) {k:AV} {u:Value} (hu:aX M L u k) {es:List (AV×AV)} {ents:List MapEntry} {r:Option (Nat×AV)}
 (h1:aM M L (ents.map (·.key)) (es.map (·.1))) (h2:aM M L (ents.map (·.val)) (es.map (·.2))) (h:dt kd k es 0=some r):found P kt u ents M L es.length r:=by
 rcases hd with hd | ⟨rfl,e,q,rfl,k1,k2⟩
 ·have:=zQ hd hu es ents 0 r h1 h2 h
  cases r with
  | none=>intro w;simp only at this;simp [Instr.findKey,run_underlying Lr,this]
  | some jx=>
    obtain ⟨j,x⟩:=jx
    simp only [agv] at this
    obtain ⟨_,v,f1,f2,f3⟩:=this
    exact ⟨v,fun w=>by simp [Instr.findKey,run_underlying Lr,f1],f2,f3⟩
 ·have:=wV Lr k1 k2 hu es ents 0 r h1 h2 h
  have Yc:∀ en (l:List MapEntry),Instr.findNow (.array 2 e) u (en::l) 0=none:=fun en l=>rfl
  cases ents with
  | nil=>
    have Br:es=[]:=by have:=h1.length;simpa using this.symm
    subst Br
    simp [dt] at h;subst h
    intro w
    simp [Instr.findKey,run_underlying Lr,Instr.findNow]
  | cons en l=>
    cases r with
    | none=>intro w;simp only at this;simp [Instr.findKey,run_underlying Lr,Yc,this]
    | some jx=>
      obtain ⟨j,x⟩:=jx
      simp only [agv] at this
      obtain ⟨_,v,f1,f2,f3⟩:=this
      exact ⟨v,fun w=>by simp [Instr.findKey,run_underlying Lr,Yc,f1],f2,f3⟩
theorem run_checkKey_plain {t:TypeId} {d:TypeDesc} {kd:Nat} (ht:P.underlying t=some d) (hd:lJ kd d) (w:World) (pW:Bool) (n:Nat) (v:Value) :
 (Instr.checkKey pW (n + 1) t v).run P w=.ok () w:=by
 have:d=.string∨∃ k,d=.int k:=by
  unfold lJ at hd
  split at hd
  ·exact .inr ⟨_,rfl⟩
  ·exact .inl rfl
  ·exact hd.elim
 rcases this with rfl | ⟨k,rfl⟩ <;> simp [Instr.checkKey,run_underlying ht]
theorem run_checkKey {t:TypeId} {d:TypeDesc} {kd:Nat} (ht:P.underlying t=some d) (hd:lJ kd d∨F9 P kd d) (w:World) (pW:Bool) (n:Nat) {v:Value} {k y:AV} {b:Bool} (hv:aX M L v k) (hk:cL kd k y=some b) :
 (Instr.checkKey pW (n + 1 + 1) t v).run P w=.ok () w:=by
 rcases hd with hd | ⟨rfl,e,q,rfl,k1,k2⟩
 ·exact run_checkKey_plain ht hd w pW _ v
 ·obtain ⟨p,q',m,n',m',n2,rfl,_⟩:=qE hk
  have e1:=hv.pair
  obtain ⟨i,hi,hs⟩:=zF.1 k2
  have hz:(sizeOf e).run P w=.ok 1 w:=by simp [sizeOf,typeInfo,hi,hs]
  have p0:∀ x y:Value,(part e #[x,y] 0).run P w=.ok x w:=fun x y=>rD k1 (by simp) w
  have p1:∀ x y:Value,(part e #[x,y] 1).run P w=.ok y w:=fun x y=>rD k1 (by simp) w
  have c:∀ v,(Instr.checkKey pW (n + 1) e v).run P w=.ok () w:=fun v=>run_checkKey_plain (kd:=0) k1 trivial w pW n v
  rw [Instr.checkKey,e1]
  simp only [Sem.run_bind,run_underlying ht,Result.andThen_ok]
  simp [Std.Legacy.Range.forIn_eq_forIn_range',List.range',p0,p1,c,hz]
theorem Bs {kd:Nat} {k:AV} (hk:∃ b,cL kd k k=some b) {u:Value} (hu:aX M L u k) (n:Nat):Instr.sameBits (n + 1) u u=true:=by
 obtain ⟨b,hk⟩:=hk
 unfold cL at hk
 split at hk
 ·cases hu;simp [Instr.sameBits]
 ·cases hu;simp [Instr.sameBits,Bq]
 ·rw [hu.pair];simp [Instr.sameBits]
 ·cases hk
theorem qf {kd:Nat} {k y:AV} {b:Bool} (h:cL kd k y=some b):∃ b,cL kd k k=some b:=by
 unfold cL at h
 split at h
 ·exact ⟨true,by simp [cL]⟩
 ·exact ⟨true,by simp [cL]⟩
 ·exact ⟨true,by simp [cL]⟩
 ·cases h
theorem tf {kd:Nat} {k:AV}:∀ (es:List (AV×AV)) (i j:Nat) (x:AV),dt kd k es i=some (some (j,x))→∃ b,cL kd k k=some b
 | [],i,j,x,h=>by simp [dt] at h
 | (a,v)::es,i,j,x,h=>by
   unfold dt at h
   split at h
   ·rename_i he;exact qf he
   ·rename_i he;exact qf he
   ·cases h
theorem Dq (hs:St A M L w H ev ea O) {t kt et:TypeId} {kd:Nat} (ht:P.underlying t=some (.map kt et)) (hk:pw P kt=some kd) {zero:AV} (hz:gr P et=some zero) {u v:Value} {m k:AV} {ok:Bool} {φ:AV→Prop}
 (h:cB kd zero m k ok H φ) (hu:aX M L u m) (hv:aX M L v k) :
 ∃ r z,(Instr.lookup t u v ok).run P w=.ok r w∧aX M L r z∧φ z∧∀ own xs,z=.ak own xs→own=0:=by
 obtain ⟨d,Lw,Jn⟩:=rC hk
 have hzero:∃ zv,(zeroValue et).run P w=.ok zv w∧aX M L zv (aR zero):=by
  unfold gr at hz
  split at hz
  ·rename_i i hi
   split at hz
   ·rename_i zv uA
    exact ⟨zv,by simp [zeroValue,typeInfo,hi,uA],(cT hz).aR⟩
   ·cases hz
  ·cases hz
 obtain ⟨zv,Di,hzrep⟩:=hzero
 have Jp:(∃ b,cL kd k k=some b)→∀ pW,(Instr.checkKey pW 10000 kt v).run P w=.ok () w:=fun ⟨b,hb⟩ pW=>run_checkKey (n:=9998) Lw Jn w pW hv hb
 have free:∀ z own xs,(if ok then AV.tuple [aR z,.bool false] else aR z)=.ak own xs→own=0:=by
  intro z own xs e
  cases ok
  ·simp at e;exact FY z own xs e
  ·simp at e
 unfold cB at h
 split at h
 ·obtain ⟨FH,hφ⟩:=h
  have PD:=Jp ⟨_,FH⟩
  cases hu
  refine ⟨if ok then .tuple #[zv,.bool false] else zv,_,?_,?_,hφ,free zero⟩
  ·have:(Instr.findKey kt v (#[]:Array MapEntry).toList).run P w=.ok none w:=by simp [Instr.findKey,run_underlying Lw,Instr.findNow]
   simp only [Instr.lookup,Sem.run_bind,run_underlying ht,Result.andThen_ok,Sem.run_pure,PD,this,Di]
  ·cases ok
   ·simpa using hzrep
   ·simpa using aX.tuple [zv,.bool false] _ (.cons _ _ _ _ hzrep (.cons _ _ _ _ (.bool _) .nil))
 ·rename_i id
  cases hu with
  | map b _ hl=>
  split at h <;> try exact h.elim
  rename_i es bu
  obtain ⟨ents,ck,h1,h2,h3⟩:=hs.obj id _ b bu hl
  have kw:(getObj b).run P w=.ok (.map ents ck) w:=by simp [getObj,Sem.run,h1]
  split at h
  ·rename_i j x hf
   obtain ⟨y,f1,f2,_⟩:=k8 Lw Jn hv (ents:=ents.toList) (by simpa using h2) (by simpa using h3) hf
   have PD:=Jp (tf _ _ _ _ hf)
   refine ⟨if ok then .tuple #[y,.bool true] else y,_,?_,?_,h,?_⟩
   ·simp only [Instr.lookup,Sem.run_bind,run_underlying ht,Result.andThen_ok,Sem.run_pure,kw,PD,f1 w]
   ·cases ok
    ·simpa using f2.drop
    ·simpa using aX.tuple [y,.bool true] _ (.cons _ _ _ _ f2.drop (.cons _ _ _ _ (.bool _) .nil))
   ·intro own xs e
    cases ok
    ·simp at e;exact AV.kj x own xs e
    ·simp at e
  ·rename_i hf
   obtain ⟨FH,hφ⟩:=h
   have PD:=Jp ⟨_,FH⟩
   have f1:∀ w,(Instr.findKey kt v ents.toList).run P w=.ok none w:=k8 Lw Jn hv (ents:=ents.toList) (by simpa using h2) (by simpa using h3) hf
   refine ⟨if ok then .tuple #[zv,.bool false] else zv,_,?_,?_,hφ,free zero⟩
   ·simp only [Instr.lookup,Sem.run_bind,run_underlying ht,Result.andThen_ok,Sem.run_pure,kw,PD,f1 w,Di]
   ·cases ok
    ·simpa using hzrep
    ·simpa using aX.tuple [zv,.bool false] _ (.cons _ _ _ _ hzrep (.cons _ _ _ _ (.bool _) .nil))
  ·exact h.elim
 ·exact h.elim
theorem Gb (hs:St A M L w H ev ea O) (t:TypeId) :
 ∃ r L' w',(Instr.makeMap t none).run P w=.ok r w'∧aX M L' r (.map H.length)∧St A M L' w' (H++[.map []]) ev ea O∧Ext A M w M w'∧L <+: L':=by
 obtain ⟨h1,h2⟩:=hs.s6 (.map #[] 0) (.map []) (fun w' hw hM=>⟨#[],0,hw,.nil,.nil⟩) rfl (fun j=>rfl)
 refine ⟨_,_,_,rfl,.map _ _ ?_,h1,h2,⟨_,rfl⟩⟩
 rw [abu (by rw [hs.len];exact sU _),hs.len];simp
theorem Dr (hs:St A M L w H ev ea O) {t kt et:TypeId} {kd:Nat} (ht:P.underlying t=some (.map kt et)) (hk:pw P kt=some kd) {u v y:Value} {m k x:AV} {K:List aa→Prop}
 (h:fW kd m k x H K) (hu:aX M L u m) (hv:aX M L v k) (hy:aX M L y x) :
 ∃ w' H',(Instr.mapUpdate t u v y).run P w=.ok () w'∧K H'∧St A M L w' H' ev ea O∧Ext A M w M w':=by
 obtain ⟨d,Lw,Jn⟩:=rC hk
 have Jp:(∃ b,cL kd k k=some b)→(Instr.checkKey false 10000 kt v).run P w=.ok () w:=fun ⟨b,hb⟩=>run_checkKey (n:=9998) Lw Jn w false hv hb
 unfold fW at h
 split at h <;> try exact h.elim
 rename_i id
 cases hu with
 | map b _ hl=>
 split at h <;> try exact h.elim
 rename_i es bu
 obtain ⟨qD,rv,kX,h⟩:=h
 obtain ⟨ents,ck,h1,h2,h3⟩:=hs.obj id _ b bu hl
 have hlen:ents.size=es.length:=by have:=h2.length;simpa using this
 have b7:=hs.bG id _ bu
 replace qD:=AV.cI (A.mP (aO bu)) _ qD
 replace rv:=AV.cI (A.mP (aO bu)) _ rv
 simp only [aa.aW,zB] at b7
 have kw:(getObj b).run P w=.ok (.map ents ck) w:=by simp [getObj,Sem.run,h1]
 have g9:∀ o,(setObj b o).run P w=.ok () { w with heap:=w.heap.setIfInBounds b o }:=by intro o;simp [setObj,Sem.run,h1]
 have hcb:(aR x).aW (A.kh H.length id)=true:=by
  have hdrop:∀ z:AV,z.aW (A.kh H.length id)=true→z.drop.aW (A.kh H.length id)=true:=by
   intro z hz;cases z <;> simp_all [AV.drop,AV.aW,aj]
  cases x <;> simp only [bm.aR] <;> first | exact hdrop _ rv | skip
  rename_i xs
  simp only [AV.aW,bc,aaR] at rv ⊢
  rintro z ⟨q,hq,rfl⟩
  exact hdrop q (rv q hq)
 split at h
 ·rename_i j z hf
  obtain ⟨v0,f1,f2,en,f3,f4,f5,f6⟩:=k8 Lw Jn hv (ents:=ents.toList) (by simpa using h2) (by simpa using h3) hf
  have PD:=Jp (tf _ _ _ _ hf)
  have hj:j < ents.size:=by omega
  have hen:ents[j]?=some en:=by simpa using f3
  have adp:((ents[j]?).map (·.key)).getD v=v:=by simp [hen,f4]
  have hstay:(Instr.keyThatStays v v).run P w=.ok v w:=by simp [Instr.keyThatStays,Bs (tf es 0 j z hf) hv 9999]
  have bL:(Instr.mapUpdate t (.map (some b)) v y).run P w=.ok () { w with heap:=w.heap.setIfInBounds b (.map (ents.modify j fun e=>{ e with key:=v,val:=y }) ck) }:=by
   simp only [Instr.mapUpdate,Sem.run_bind,run_underlying ht,Result.andThen_ok,kw,PD]
   simp only [f1 w,Result.andThen_ok,Sem.run_bind,adp,hstay,g9]
  have Yd:(ents.modify j fun e=>{ e with key:=v,val:=y }).toList.map (·.key)=(ents.toList.map (·.key)).set j v∧(ents.modify j fun e=>{ e with key:=v,val:=y }).toList.map (·.val)=(ents.toList.map (·.val)).set j y:=by
   constructor
   ·apply acG
    intro q
    simp only [acQ,adz,aet,acM]
    by_cases hq:j=q
    ·subst hq;simp [hj]
    ·simp [hq]
   ·apply acG
    intro q
    simp only [acQ,adz,aet,acM]
    by_cases hq:j=q
    ·subst hq;simp [hj]
    ·simp [hq]
  obtain ⟨g1,g2⟩:=hs.Db (es':=es.set j (k,aR x)) (o':=.map (ents.modify j fun e=>{ e with key:=v,val:=y }) ck) bu hl (by intro _ _ _ e;cases e) (fun w' hw=>⟨_,_,hw,by
   rw [Yd.1]
   have:=aM.set (by simpa using h2) hv j
   rwa [show (es.set j (k,aR x)).map (·.1)=(es.map (·.1)).set j k by rw [adK]],by
   rw [Yd.2]
   have:=aM.set (by simpa using h3) hy.aR j
   rwa [show (es.set j (k,aR x)).map (·.2)=(es.map (·.2)).set j (aR x) by rw [adK]]⟩) (by
   simp only [aa.aW,zB,adK]
   rw [bc,bc] at *
   refine ⟨fun q hq=>?_,fun q hq=>?_⟩
   ·rcases acH hq with h' | rfl
    ·exact b7.1 q h'
    ·exact qD
   ·rcases acH hq with h' | rfl
    ·exact b7.2 q h'
    ·exact hcb)
  exact ⟨_,_,bL,h,g1,g2⟩
 ·rename_i hf
  obtain ⟨FH,hK⟩:=h
  have PD:=Jp ⟨_,FH⟩
  have f1:∀ w,(Instr.findKey kt v ents.toList).run P w=.ok none w:=k8 Lw Jn hv (ents:=ents.toList) (by simpa using h2) (by simpa using h3) hf
  have bL:(Instr.mapUpdate t (.map (some b)) v y).run P w=.ok () { w with heap:=w.heap.setIfInBounds b (.map (ents.push { key:=v,val:=y,born:=ck }) (ck + 1)) }:=by
   simp only [Instr.mapUpdate,Sem.run_bind,run_underlying ht,Result.andThen_ok,kw,PD]
   simp only [f1 w,Result.andThen_ok,g9]
  obtain ⟨g1,g2⟩:=hs.Db (es':=es++[(k,aR x)]) (o':=.map (ents.push { key:=v,val:=y,born:=ck }) (ck + 1)) bu hl (by intro _ _ _ e;cases e) (fun w' hw=>⟨_,_,hw,by
   simpa using h2.append (.one hv),by
   simpa using h3.append (.one hy.aR)⟩) (by
   simp only [aa.aW,zB,acL,List.map_cons,List.map_nil]
   exact ⟨a8.2 ⟨b7.1,by simp [aj,qD]⟩,a8.2 ⟨b7.2,by simp [aj,hcb]⟩⟩)
  exact ⟨_,_,bL,hK,g1,g2⟩
 ·exact h.elim
end
end Go.aK
end
section
namespace Go.aK
open Go
def yV (esz:Nat) (s:AV) (H:List aa):Option (Nat×List AV):=
 match s with
 | .ag=>some (0,[])
 | .ak _ xs=>if xs.all (fun y=>y.cells.length == esz)=true then some (xs.length,flat xs) else none
 | .ba id off len _=>match H[id]? with
   | some (.cells es)=>if off + len * esz≤es.length then some (len,es.drop off) else none
   | _=>none
 | _=>none
def kC (esz:Nat) (d s:AV) (H:List aa) (K:AV→List aa→Prop):Prop:=
 match d,yV esz s H with
 | .ba id off len _,some (n,ys)=>match H[id]? with
   | some (.cells es)=>(ys.take (min n len * esz)).all AV.one=true∧off + min n len * esz≤es.length∧aj (id + 1) ((ys.take (min n len * esz)).map AV.ab)=true∧
      K (.int .i64 (min n len:Nat)) (H.set id (.cells (ai es off ((ys.take (min n len * esz)).map AV.ab))))
   | _=>False
 | _,_=>False
def iw (esz:Nat) (x:AV) (lo hi:Option AV) (φ:AV→Prop):Prop:=
 match x with
 | .ba id off len cap=>dV hi len fun h=>dV lo 0 fun l=>l≤h∧h≤cap∧φ (.ba id (if cap=l then off else off + l * esz) (h - l) (cap - l))
 | _=>False
def px (esz:Nat) (x:AV) (lo hi:Option AV) (m:AV) (φ:AV→Prop):Prop:=
 match x with
 | .ba id off len cap=>hi.isSome=true∧dV (some m) 0 fun m=>dV hi len fun h=>dV lo 0 fun l=>l≤h∧h≤m∧m≤cap∧φ (.ba id (if m=l then off else off + l * esz) (h - l) (m - l))
 | _=>False
def bo (esz:Nat) (x:AV) (lo hi mx:Option AV) (φ:AV→Prop):Prop:=
 match x with
 | .ba a b c d=>match mx with
   | none=>iw esz (.ba a b c d) lo hi φ
   | some m=>px esz (.ba a b c d) lo hi m φ
 | _=>(∀ own xs,x=.ak own xs→∀ z∈xs,z.cells.length=esz)∧ff esz x lo hi mx φ
section
variable {P:Program} {w:World} {M:Mem} {L:List Nat} {H:List aa} {A:Perm} {ev:Nat→Value} {ea:Nat→AV} {O:Pos→Option Nat}
theorem St.Bt (hs:St A M L w H ev ea O) {id off b:Nat} {es:List AV} (bu:H[id]?=some (.cells es)) (hl:L[id]?=some b) {cs:Array Value} {e:TypeId} (h1:w.heap[b]?=some (.cells cs e (0,0)))
 (h2:aM M L cs.toList es) {vs:List Value} {xs:List AV} (hv:aM M L vs xs) (hle:off + xs.length≤es.length) (pv:aj (id + 1) (xs.map AV.ab)=true) :
 ∃ O',St A M L (w.setRow b (ai cs.toList off vs).toArray) (H.set id (.cells (ai es off (xs.map AV.ab)))) ev ea O'∧Ext A M w M (w.setRow b (ai cs.toList off vs).toArray):=by
 have rq:=hv.length
 have jD:=h2.length
 let O':Pos→Option Nat:=fun q=>match q with
  | .t t=>O (.t t)
  | .c id' j=>if id'=id∧off≤j∧j < off + xs.length then none else O (.c id' j)
 have hO:∀ q b,O' q=some b→O q=some b:=by
  intro q b hq
  cases q with
  | t t=>exact hq
  | c id' j=>
    simp only [O'] at hq
    split at hq
    ·cases hq
    ·exact hq
 have OV:off + (xs.map AV.ab).length≤es.length:=by simp;omega
 have hsv:off + vs.length≤cs.toList.length:=by omega
 exact ⟨O',hs.write (cs':=(ai cs.toList off vs).toArray) (es':=ai es off (xs.map AV.ab)) (O':=O') bu hl h1
  (by simpa using hv.di.Bg off h2)
  (by
    have b7:=hs.bG id _ bu
    simp only [aa.aW] at b7
    unfold ai
    exact a8.2 ⟨uB b7,a8.2 ⟨bK (A.mP (aO bu)) _ pv,uC b7⟩⟩)
  (wJ.sub hs.ct hO) hs.env hs.iQ (by
  intro j
  have e1:((ai cs.toList off vs).toArray)[j]?=(ai cs.toList off vs)[j]?:=by simp
  rw [e1,fF _ _ _ hsv,sT,fF _ _ _ OV]
  simp only [ac1]
  rw [rq]
  by_cases hj:off≤j∧j < off + xs.length
  ·simp only [hj,and_self,if_true]
   have:O' (.c id j)=none:=by simp [O',hj]
   rw [this]
   refine bi.free ?_
   intro own ys hh
   rw [acQ] at hh
   cases hx:xs[j - off]? with
   | none=>simp [hx] at hh
   | some y=>simp [hx] at hh;exact AV.bQ y own ys hh
  ·simp only [hj,if_false]
   have:O' (.c id j)=O (.c id j):=by simp only [O'];rw [if_neg (by intro h';exact hj h'.2)]
   rw [this]
   have h0:=hs.iL id j
   have e3:bR L w id j=(cs.toList[j]?).getD undef:=by
    unfold bR;simp [hl,World.cell?,h1]
   have e4:bB H id j=(es[j]?).getD .any:=by
    unfold bB;simp [bu,sT]
   rw [e3,e4] at h0
   exact h0)
  (by intro id' j eS;simp [O',eS])⟩
theorem LD (hs:St A M L w H ev ea O) {esz n m:Nat} {s:AV} {ys:List AV} {v:Value} (h:yV esz s H=some (n,ys)) (hv:aX M L v s) (hm:m≤n) :
 (Builtin.lenOf v).run P w=.ok n w∧∃ vs,(Builtin.firstCells esz m v).run P w=.ok vs.toArray w∧aM M L vs (ys.take (m * esz)):=by
 unfold yV at h
 split at h
 ·cases h
  cases hv
  have:m=0:=by omega
  subst this
  refine ⟨rfl,[],?_,by simpa using aM.nil⟩
  simp [Builtin.firstCells]
 ·rename_i own xs
  split at h <;> cases h
  rename_i jn
  have Ye:∀ y∈xs,y.cells.length=esz:=by
   intro y hy
   have:=abo.1 jn y hy
   simpa using this
  cases hv with
  | ig a c _ hc=>
    have:m=0:=by simpa using hm
    subst this
    refine ⟨rfl,[],?_,by simpa [flat] using aM.nil⟩
    cases a with
    | none=>simp [Builtin.firstCells]
    | some a=>simpa [Builtin.firstCells] using run_loadCells_list (P:=P) w a [] (by simp)
  | ak b off c _ e cs _ he hx hn hle hc hr Un=>
    have Yf:=iY Un hs.mem
    have jD:=hr.length
    have PE:(flat xs).length=xs.length * esz:=cU xs esz Ye
    have Lq:=run_loadCells_list (P:=P) w ⟨b,off,none⟩ (cs.take (m * esz)) (fun j v hv=>Yf j v (by
     rw [aa7] at hv
     split at hv
     ·exact hv
     ·cases hv))
    have hlen:(cs.take (m * esz)).length=m * esz:=by
     have:m * esz≤xs.length * esz:=ac3 _ hm
     simp;omega
    rw [hlen] at Lq
    exact ⟨rfl,cs.take (m * esz),by simpa [Builtin.firstCells] using Lq,hr.take _⟩
 ·rename_i id off len cap
  split at h <;> try cases h
  rename_i es bu
  split at h <;> cases h
  rename_i vA
  cases hv with
  | ba b _ _ _ _ hl hc=>
  obtain ⟨cs,e,h1,h2,h3⟩:=fU hs bu hl
  have jD:=h2.length
  have hlen:((cs.toList.drop off).take (m * esz)).length=m * esz:=by
   have:m * esz≤n * esz:=ac3 _ hm
   simp at jD ⊢;omega
  have Lq:=run_loadCells_list (P:=P) w ⟨b,off,none⟩ ((cs.toList.drop off).take (m * esz)) (fun j v hv=>by rw [Addr.add_lit];exact h3 _ _ (dE _ _ _ _ _ hv))
  rw [hlen] at Lq
  exact ⟨rfl,(cs.toList.drop off).take (m * esz),by simpa [Builtin.firstCells] using Lq,(h2.drop off).take _⟩
 ·cases h
theorem Jq (hs:St A M L w H ev ea O) {t e:TypeId} {esz:Nat} (ht:P.underlying t=some (.slice e)) (he:dU P e=some esz) {u v:Value} {d s:AV} {K:AV→List aa→Prop} (h:kC esz d s H K) (hu:aX M L u d) (hv:aX M L v s) (t' ty:TypeId) :
 ∃ r z w' H' O',(Builtin.copy_ #[t,t'] ty #[u,v]).run P w=.ok r w'∧aX M L r z∧K z H'∧St A M L w' H' ev ea O'∧Ext A M w M w'∧∀ own xs,z=.ak own xs→own=0:=by
 unfold kC at h
 split at h <;> try exact h.elim
 rename_i id off len cap n ys yW
 split at h <;> try exact h.elim
 rename_i es bu
 obtain ⟨lH,hle,pv,hK⟩:=h
 cases hu with
 | ba b _ _ _ _ hl hc=>
 obtain ⟨hlen,vs,hfc,hr⟩:=LD (P:=P) hs yW hv (afu n len)
 obtain ⟨cs,e',h1,h2,h3⟩:=hs.obj id _ b bu hl
 have jD:=h2.length
 have rq:=hr.length
 have hyl:(ys.take (min n len * esz)).length≤min n len * esz:=by simp;omega
 have b7:=run_storeCells_at P b off e' vs 0 cs w h1 (by simp at jD ⊢;omega) (hr.ij lH)
 obtain ⟨O',g1,g2⟩:=hs.Bt (off:=off) bu hl h1 h2 hr (by omega) pv
 obtain ⟨i,hi,Lv⟩:=zF.1 he
 refine ⟨.int .i64 (min n len:Nat),.int .i64 (min n len:Nat),_,_,O',?_,.int _ _,hK,g1,g2,by intro _ _ e;cases e⟩
 have Uo:Nat.min n len=min n len:=rfl
 have mW:(storeCells ⟨b,off,none⟩ vs).run P w=.ok () (w.setRow b (ai cs.toList off vs).toArray):=by simpa [ai] using b7
 simp [Builtin.copy_,run_underlying ht,hlen,sizeOf,typeInfo,hi,Lv,Uo,hfc,mW,goInt]
theorem Ds {t e:TypeId} {esz:Nat} (ht:P.underlying t=some (.slice e)) (he:dU P e=some esz) {u:Value} {x:AV} {lo hi:Option AV} {vlo vhi:Option Value} {φ:AV→Prop} (h:iw esz x lo hi φ) (hu:aX M L u x) (h1:jK M L lo vlo) (h2:jK M L hi vhi) :
 ∃ r z,(Instr.sliceAt t u vlo vhi none).run P w=.ok r w∧aX M L r z∧φ z∧∀ own xs,z=.ak own xs→own=0:=by
 unfold iw at h
 split at h <;> try exact h.elim
 rename_i id off len cap
 cases hu with
 | ba b _ _ _ _ hl hc=>
 obtain ⟨hh,h,LC⟩:=dW h2 h
 obtain ⟨ll,h,wQ⟩:=dW h1 h
 obtain ⟨hle,hhl,hφ⟩:=h
 obtain ⟨i,jG,Lv⟩:=zF.1 he
 have dm:(sizeOf e).run P w=.ok esz w:=by simp [sizeOf,typeInfo,jG,Lv]
 refine ⟨_,_,?_,.ba b (if cap=ll then off else off + ll * esz) (hh - ll) (cap - ll) id hl (by omega),hφ,by intro _ _ e;cases e⟩
 have hb:(Instr.sliceBounds true len cap vlo vhi none).run P w=.ok (ll,hh,cap) w:=by
  rcases LC with ⟨_,rfl,rfl⟩ | ⟨kd,i,rfl,vP,rfl⟩ <;> rcases wQ with ⟨_,rfl,rfl⟩ | ⟨kd',i',rfl,vD,rfl⟩
  ·rfl
  ·have qD:=run_sliceBound (P:=P) w kd' i' hh .sliceB vD hle
   simp [Instr.sliceBounds,qD]
  ·have qD:=run_sliceBound (P:=P) w kd i cap .sliceAcap vP (by omega)
   simp [Instr.sliceBounds,qD]
  ·have qD:=run_sliceBound (P:=P) w kd i cap .sliceAcap vP (by omega)
   have rv:=run_sliceBound (P:=P) w kd' i' i.toNat .sliceB vD hle
   simp [Instr.sliceBounds,qD,rv]
 simp only [Instr.sliceAt,Instr.slice,Sem.run_bind,run_underlying ht,Result.andThen_ok,hb,dm,Sem.run_pure]
 by_cases jD:cap=ll
 ·simp [jD]
 ·simp [jD,Addr.add_lit]
theorem Dt {t e:TypeId} {esz:Nat} (ht:P.underlying t=some (.slice e)) (he:dU P e=some esz) {u:Value} {x m:AV} {lo hi:Option AV} {vlo vhi vm:Option Value} {φ:AV→Prop} (h:px esz x lo hi m φ) (hu:aX M L u x) (h1:jK M L lo vlo) (h2:jK M L hi vhi) (h3:jK M L (some m) vm) :
 ∃ r z,(Instr.sliceAt t u vlo vhi vm).run P w=.ok r w∧aX M L r z∧φ z∧∀ own xs,z=.ak own xs→own=0:=by
 unfold px at h
 split at h <;> try exact h.elim
 rename_i id off len cap
 cases hu with
 | ba b _ _ _ _ hl hc=>
 obtain ⟨hsome,h⟩:=h
 obtain ⟨mm,h,PF⟩:=dW h3 h
 obtain ⟨hh,h,LC⟩:=dW h2 h
 obtain ⟨ll,h,wQ⟩:=dW h1 h
 obtain ⟨hle,hhl,hmc,hφ⟩:=h
 obtain ⟨i,jG,Lv⟩:=zF.1 he
 have dm:(sizeOf e).run P w=.ok esz w:=by simp [sizeOf,typeInfo,jG,Lv]
 refine ⟨_,_,?_,.ba b (if mm=ll then off else off + ll * esz) (hh - ll) (mm - ll) id hl (by omega),hφ,by intro _ _ e;cases e⟩
 have hb:(Instr.sliceBounds true len cap vlo vhi vm).run P w=.ok (ll,hh,mm) w:=by
  rcases PF with ⟨e0,_⟩ | ⟨kd3,i3,rfl,hi3,rfl⟩
  ·cases e0
  have hb3:=run_sliceBound (P:=P) w kd3 i3 cap .slice3Acap hi3 hmc
  rcases LC with ⟨rfl,_,_⟩ | ⟨kd,i,rfl,vP,rfl⟩
  ·cases hsome
  have qD:=run_sliceBound (P:=P) w kd i i3.toNat .slice3B vP hhl
  rcases wQ with ⟨_,rfl,rfl⟩ | ⟨kd',i',rfl,vD,rfl⟩
  ·simp [Instr.sliceBounds,qD,hb3]
  ·have rv:=run_sliceBound (P:=P) w kd' i' i.toNat .slice3C vD hle
   simp [Instr.sliceBounds,qD,rv,hb3]
 simp only [Instr.sliceAt,Instr.slice,Sem.run_bind,run_underlying ht,Result.andThen_ok,hb,dm,Sem.run_pure]
 by_cases jD:mm=ll
 ·simp [jD]
 ·simp [jD,Addr.add_lit]
end
end Go.aK
end
section
namespace Go.aK
open Go
def chunks (esz:Nat):Nat→List AV→List AV
 | 0,_=>[]
 | n + 1,es=>(if esz=1 then (es.getD 0 .any).ab else .agg ((es.take esz).map AV.ab))::chunks esz n (es.drop esz)
def dx (esz:Nat) (x:AV) (H:List aa) (K:AV→List aa→Prop):Prop:=
 match x with
 | .ba id off len cap=>match H[id]? with
   | some (.cells es)=>0 < esz∧len≤cap∧off + len * esz≤es.length∧(es.drop off).all AV.one=true∧K (.ak 0 (chunks esz len (es.drop off))) (H.set id .dead)
   | _=>False
 | .any=>False
 | .pW=>K (.ak 0 []) H
 | x=>K x.ab H
def kD (esz:Nat):List AV→List aa→(List AV→List aa→Prop)→Prop
 | [],H,K=>K [] H
 | x::r,H,K=>dx esz x H fun y H'=>kD esz r H' fun ys H''=>K (y::ys) H''
def Bu (e id c:Nat) (H:List aa) (K:List aa→Prop):Prop:=
 match H[id]? with
 | some (.cells es)=>match es[c]? with
   | some (.ba a1 a2 a3 a4)=>dx e (.ba a1 a2 a3 a4) H fun y H'=>H'[id]?=some (.cells es)∧y.aW (id + 1)=true∧K (H'.set id (.cells (es.set c y)))
   | some .ag=>K H
   | _=>False
 | _=>False
def ft (esz:Nat) (x:AV) (H:List aa) (K:AV→List aa→Prop):Prop:=
 match x with
 | .agg xs=>kD esz xs H fun ys H'=>K (.agg ys) H'
 | .ptr id off=>if 1000≤esz then Bu (esz % 1000) id (off + esz / 1000 - 1) H (K (.ptr id off)) else dx esz (.ptr id off) H K
 | x=>dx esz x H K
theorem zS {x:AV} (h:x.one=true):x.cells=[x]:=by cases x <;> first | rfl | simp [AV.one] at h
theorem Jr {x:AV} (h:x.one=true):x.ab.one=true:=by cases x <;> first | rfl | exact h
theorem uE (esz:Nat) (h0:0 < esz):∀ (n:Nat) (es:List AV),n * esz≤es.length→es.all AV.one=true→
 flat (chunks esz n es)=(es.take (n * esz)).map AV.ab∧(chunks esz n es).length=n∧∀ x∈chunks esz n es,x.cells.length=esz
 | 0,es,_,_=>by simp [chunks,flat]
 | n + 1,es,hle,h1=>by
   have X6:n * esz + esz≤es.length:=by rw [acE] at hle;omega
   obtain ⟨i1,i2,i3⟩:=uE esz h0 n (es.drop esz) (by simp;omega) (by
    rw [abo] at h1 ⊢
    exact fun x hx=>h1 x (aeW hx))
   have hhead:(if esz=1 then (es.getD 0 .any).ab else AV.agg ((es.take esz).map AV.ab)).cells=(es.take esz).map AV.ab:=by
    split
    ·rename_i e
     subst e
     cases es with
     | nil=>simp at X6
     | cons x r=>
       have hx:x.one=true:=abo.1 h1 x (by simp)
       simp [zS (Jr hx)]
    ·rfl
   refine ⟨?_,by simp [chunks,i2],?_⟩
   ·simp only [flat] at i1
    simp only [chunks,flat,List.flatMap_cons,hhead,i1]
    rw [← acL]
    congr 1
    rw [acE,Nat.one_mul,afM (n * esz) esz,List.take_add]
   ·intro x hx
    simp only [chunks,OU] at hx
    rcases hx with rfl | hx
    ·rw [hhead];simp;omega
    ·exact i3 x hx
section
variable {P:Program} {w:World} {M:Mem} {L:List Nat} {H:List aa} {A:Perm} {ev:Nat→Value} {ea:Nat→AV} {O:Pos→Option Nat}
theorem St.freeze (h:St A M L w H ev ea O) {id b:Nat} {es:List AV} (bu:H[id]?=some (.cells es)) (hl:L[id]?=some b) :
 ∃ (cs:Array Value) (O':Pos→Option Nat),aM M L cs.toList es∧M.sub (M.add b cs.toList)∧(M.add b cs.toList).row b 0 cs.toList∧St A (M.add b cs.toList) L w (H.set id .dead) ev ea O'∧Ext A M w (M.add b cs.toList) w∧(∀ t,O' (.t t)=O (.t t)):=by
 obtain ⟨cs,e,h1,h2,h3⟩:=h.obj id _ b bu hl
 have zG:b∈L:=abJ hl
 have gh:M.sub (M.add b cs.toList):=by
  intro b' o v hv
  have eS:b'≠b:=by
   rintro rfl
   rw [h3] at hv;cases hv
  simp [Mem.add,eS,hv]
 have hM:∀ b',b'≠b→∀ o,(M.add b cs.toList) b' o=M b' o:=fun b' hb o=>by simp [Mem.add,hb]
 let O':Pos→Option Nat:=fun p=>match p with | .t t=>O (.t t) | .c id' j=>if id'=id then none else O (.c id' j)
 have hO:∀ q b,O' q=some b→O q=some b:=by
  intro q b hq
  cases q with
  | t t=>exact hq
  | c id' j=>
    simp only [O'] at hq
    split at hq
    ·cases hq
    ·exact hq
 have hOb:∀ q b',O q=some b'→b'≠b:=fun q b' hq e=>h.cD q b' hq (e ▸ zG)
 refine ⟨cs,O',h2,gh,?_,?_,?_,fun t=>rfl⟩
 ·intro j v hv
  simpa [Mem.add] using hv
 ·exact { len:=by simp [h.len],nodup:=h.nodup,env:=fun t=>(h.env t).mono gh (aaL _)
          mem:=by
           intro b' o v hv
           by_cases e0:b'=b
           ·subst e0
            simp only [Mem.add,if_true] at hv
            simpa [World.cell?,h1] using hv
           ·rw [hM b' e0] at hv
            exact h.mem b' o v hv
          obj:=by
           intro id' o b' ho dZ
           rw [acM] at ho
           split at ho
           ·split at ho <;> cases ho
            trivial
           ·rename_i eS
            refine (h.obj id' o b' ho dZ).mono gh (aaL _) rfl (hM b' ?_)
            rintro rfl
            exact eS ((adb (aO hl) h.nodup).1 (hl.trans dZ.symm))
          bG:=by
           intro id' o ho
           rw [acI]
           rw [acM] at ho
           split at ho
           ·split at ho <;> cases ho
            rfl
           ·exact h.bG id' o ho
          lt:=h.lt
          iQ:=fun t=>(h.iQ t).mono fun b' dZ=>⟨rfl,hM b' (hOb _ b' dZ)⟩
          iL:=by
           intro id' j
           by_cases e0:id'=id
           ·subst e0
            have:bB (H.set id' .dead) id' j=.any:=by
             unfold bB
             rw [acM]
             simp
            rw [this]
            simp [O',bi]
           ·have e1:bB (H.set id .dead) id' j=bB H id' j:=by
             unfold bB
             rw [acM,if_neg (Ne.symm e0)]
            rw [e1]
            have:O' (.c id' j)=O (.c id' j):=by simp [O',e0]
            rw [this]
            exact (h.iL id' j).mono fun b' dZ=>⟨rfl,hM b' (hOb _ b' dZ)⟩
          ct:=fun p q b hp hq=>h.ct p q b (hO p b hp) (hO q b hq)
          cD:=fun p b hp=>h.cD p b (hO p b hp)
          fQ:=fun p b hp=>h.fQ p b (hO p b hp)
          La:=h.La
          Oa:=fun p b hp=>h.Oa p b (hO p b hp)
          fresh:=h.fresh }
 ·exact ⟨gh,sU _,rfl,rfl,rfl,fun b' _ hA=>⟨rfl,hM b' (fun e=>hA (e ▸ h.La b zG))⟩,fun k r hk=>⟨r,hk,rfl⟩⟩
theorem mX (hs:St A M L w H ev ea O) {esz:Nat} {u:Value} {x:AV} {K:AV→List aa→Prop} (h:dx esz x H K) (hu:aX M L u x) :
 ∃ z M' H' O',aX M' L u z∧K z H'∧St A M' L w H' ev ea O'∧Ext A M w M' w∧∀ own xs,z=.ak own xs→own=0:=by
 unfold dx at h
 split at h
 ·rename_i id off len cap
  split at h <;> try exact h.elim
  rename_i es bu
  obtain ⟨h0,cc,hle,h1,hK⟩:=h
  cases hu with
  | ba b _ _ _ _ hl hc=>
  obtain ⟨cs,O',k1,k2,k3,k4,k5,_⟩:=hs.freeze bu hl
  obtain ⟨c1,c2,c3⟩:=uE esz h0 len (es.drop off) (by simp;omega) h1
  refine ⟨_,_,_,O',?_,hK,k4,k5,by intro own xs e;cases e;rfl⟩
  have jD:=k1.length
  by_cases hz:len=0
  ·subst hz
   simp only [chunks]
   exact .ig _ _ _ hc
  ·have hr:aM (M.add b cs.toList) L ((cs.toList.drop off).take (len * esz)) (flat (chunks esz len (es.drop off))):=by
    rw [c1]
    exact (((k1.drop off).take _).di).mono k2 (aaL _)
   have Un:(M.add b cs.toList).row b off ((cs.toList.drop off).take (len * esz)):=by
    intro j v hv
    have:=k3 (off + j) v (dE _ _ _ _ _ hv)
    simpa using this
   have:=aX.ak (M:=M.add b cs.toList) (L:=L) b off cap 0 esz _ (chunks esz len (es.drop off)) h0 c3 (by omega) (by omega) hc hr Un
   rw [c2] at this
   exact this
 ·exact h.elim
 ·cases hu
  exact ⟨_,M,H,O,.ig _ 0 0 (by decide),h,hs,Ext.refl A M w,by intro _ _ e;cases e;rfl⟩
 ·rename_i aix Uq
  refine ⟨_,M,H,O,hu.ab,h,hs,Ext.refl A M w,AV.bQ x⟩
theorem wW {esz:Nat}:∀ {xs:List AV} {us:List Value} {M:Mem} {H:List aa} {O:Pos→Option Nat} {K:List AV→List aa→Prop},St A M L w H ev ea O→kD esz xs H K→aM M L us xs→
 ∃ zs M' H' O',aM M' L us zs∧K zs H'∧St A M' L w H' ev ea O'∧Ext A M w M' w
 | [],us,M,H,O,K,hs,h,hu=>⟨[],M,H,O,hu,h,hs,Ext.refl A M w⟩
 | x::r,us,M,H,O,K,hs,h,hu=>by
   cases hu with
   | cons u _ us _ h1 h2=>
   obtain ⟨z,M1,H1,O1,k1,k2,k3,k4,_⟩:=mX hs h h1
   obtain ⟨zs,M2,H2,O2,g1,g2,g3,g4⟩:=wW k3 k2 (h2.mono k4.lZ (aaL L))
   exact ⟨z::zs,M2,H2,O2,.cons _ _ _ _ (k1.mono g4.lZ (aaL L)) g1,g2,g3,k4.trans g4⟩
theorem setRow_self {b:Nat} {cs:Array Value} {e:TypeId} {f:Nat×Nat} (h:w.heap[b]?=some (.cells cs e f)):w.setRow b cs=w:=by
 have:(w.setRow b cs).heap=w.heap:=by
  apply Array.ext
  ·simp [World.setRow]
  ·intro i h1 h2
   simp only [World.setRow,agu]
   split
   ·rename_i e0
    subst e0
    obtain ⟨_,h'⟩:=acF.1 h
    rw [h']
   ·rfl
 show ({ w with heap:=(w.setRow b cs).heap }:World)=w
 rw [this]
theorem LF (hs:St A M L w H ev ea O) {e id c:Nat} {K:List aa→Prop} (h:Bu e id c H K) :
 ∃ M' H' O',K H'∧St A M' L w H' ev ea O'∧Ext A M w M' w:=by
 unfold Bu at h
 split at h <;> try exact h.elim
 rename_i es bu
 split at h <;> try exact h.elim
 rotate_left
 ·exact ⟨M,H,O,h,hs,.refl A M w⟩
 rename_i a1 a2 a3 a4 hc
 have hb:∃ b,L[id]?=some b:=by
  have:=aO bu
  rw [← hs.len] at this
  exact ⟨L[id],by simp [this]⟩
 obtain ⟨b,hl⟩:=hb
 obtain ⟨cs,ty,k1,k2,k3⟩:=hs.obj id _ b bu hl
 obtain ⟨u,hu,hru⟩:=k2.get c _ hc
 obtain ⟨y,M',H1,O1,g1,⟨g2,g3,g4⟩,g5,g6,g7⟩:=mX hs h hru
 obtain ⟨cs',ty',m1,m2,m3⟩:=g5.obj id _ b g2 hl
 rw [k1] at m1;cases m1
 have b7:=g5.bG id _ g2
 have jD:c < es.length:=aO hc
 have g9:cs.toList.set c u=cs.toList:=by
  apply acG
  intro j
  rw [acM]
  split
  ·rename_i e0;subst e0
   have:c < cs.toList.length:=aO hu
   rw [if_pos this,hu]
  ·rfl
 have tg:=m2.set g1 c
 rw [g9] at tg
 have hcv:∀ j,bR L w id j=(cs[j]?).getD undef:=by
  intro j
  unfold bR
  rw [hl]
  simp [World.cell?,k1]
 have hO:O1 (.c id c)=none:=by
  have:=g5.iL id c
  have e1:bB H1 id c=.ba a1 a2 a3 a4:=by
   unfold bB
   rw [g2]
   simp [sT,hc]
  rw [e1] at this
  exact this
 obtain ⟨q1,q2⟩:=g5.write (es':=es.set c y) (cs':=cs) (ea':=ea) (O':=O1) g2 hl k1 tg (by
  simp only [aa.aW] at b7
  rw [bc] at b7 ⊢
  intro z hz
  rcases acH hz with h' | rfl
  ·exact b7 z h'
  ·exact AV.cI (A.mP (aO g2)) _ g3) ⟨fun p q b hp hq=>g5.ct p q b hp hq,fun p b hp=>⟨p,hp⟩⟩ g5.env g5.iQ (fun j=>by
  by_cases e0:j=c
  ·subst e0
   rw [hO]
   have:(es.set j y).getD j .any=y:=by rw [sT,zD jD];rfl
   rw [this]
   exact bi.free g7
  ·have:=g5.iL id j
   rw [hcv j] at this
   have e1:bB H1 id j=es.getD j .any:=by unfold bB;rw [g2]
   rw [e1] at this
   rwa [sT,zC (fun e=>e0 e.symm),← sT]) (fun _ _ _=>rfl)
 rw [setRow_self k1] at q1 q2
 exact ⟨M',_,O1,g4,q1,g6.trans q2⟩
theorem th (hs:St A M L w H ev ea O) {esz:Nat} {u:Value} {x:AV} {K:AV→List aa→Prop} (h:ft esz x H K) (hu:aX M L u x) :
 ∃ z M' H' O',aX M' L u z∧K z H'∧St A M' L w H' ev ea O'∧Ext A M w M' w∧∀ own xs,z=.ak own xs→own=0:=by
 unfold ft at h
 split at h
 ·cases hu with
  | agg cs xs hr=>
  obtain ⟨zs,M',H',O',g1,g2,g3,g4⟩:=wW hs h hr
  exact ⟨.agg zs,M',H',O',.agg _ _ g1,g2,g3,g4,by intro own xs e;cases e⟩
 ·rename_i id off
  split at h
  ·obtain ⟨M',H',O',g1,g2,g3⟩:=LF hs h
   exact ⟨.ptr id off,M',H',O',hu.mono g3.lZ (aaL L),g1,g2,g3,by intro own xs e;cases e⟩
  ·exact mX hs h hu
 ·exact mX hs h hu
end
end Go.aK
end
section
namespace Go.aK
open Go
def uF (xs:List AV) (H:List aa) (K:AV→List aa→Prop):Prop:=
 aj (H.length + 1) ((flat xs).map AV.ab)=true∧K (.ba H.length 0 xs.length xs.length) (H++[.cells ((flat xs).map AV.ab)])
def dl (z:AV) (n:Nat):List AV:=flat (List.replicate n (bV z))
def ch (esz bytes:Nat) (z s x:AV) (H:List aa) (K:AV→List aa→Prop):Prop:=
 match dG x with
 | none=>(match s,yV esz x H with
   | .ba id off len cap,some (n,ys)=>match H[id]? with
     | some (.cells es)=>n * esz≤ys.length∧(ys.take (n * esz)).all AV.one=true∧len + n≤cap∧off + cap * esz≤es.length∧aj (id + 1) ((ys.take (n * esz)).map AV.ab)=true∧
        K (.ba id off (len + n) cap) (H.set id (.cells (ai es (off + len * esz) ((ys.take (n * esz)).map AV.ab))))
     | _=>False
   | _,_=>False)
 | some ys=>sV esz ys∧match s with
   | .ag=>ys.length * bytes≤140737488355328∧(ys=[]→K .ag H)∧(ys≠[]→∀ cap,ys.length≤cap→cap < 9223372036854775808→
      aj (H.length + 1) ((flat ys).map AV.ab++dl z (cap - ys.length))=true∧K (.ba H.length 0 ys.length cap) (H++[.cells ((flat ys).map AV.ab++dl z (cap - ys.length))]))
   | .pW=>ys.length * bytes≤140737488355328∧(ys=[]→K .pW H)∧(ys≠[]→∀ cap,ys.length≤cap→cap < 9223372036854775808→
      aj (H.length + 1) ((flat ys).map AV.ab++dl z (cap - ys.length))=true∧K (.ba H.length 0 ys.length cap) (H++[.cells ((flat ys).map AV.ab++dl z (cap - ys.length))]))
   | .ba id off len cap=>match H[id]? with
     | some (.cells es)=>(len + ys.length) * bytes≤140737488355328∧len≤cap∧off + cap * esz≤es.length∧
        (len + ys.length≤cap→aj (id + 1) ((flat ys).map AV.ab)=true∧K (.ba id off (len + ys.length) cap) (H.set id (.cells (ai es (off + len * esz) ((flat ys).map AV.ab)))))∧
        (cap < len + ys.length→∀ gA,len + ys.length≤gA→gA < 9223372036854775808→
          aj (H.length + 1) (((es.drop off).take (len * esz)).map AV.ab++(flat ys).map AV.ab++dl z (gA - (len + ys.length)))=true∧
          K (.ba H.length 0 (len + ys.length) gA) (H++[.cells (((es.drop off).take (len * esz)).map AV.ab++(flat ys).map AV.ab++dl z (gA - (len + ys.length)))]))
     | _=>False
   | _=>False
def jh (esz:Nat) (z x:AV) (H:List aa) (K:List aa→Prop):Prop:=
 match x with
 | .ba id off len _=>match H[id]? with
   | some (.cells es)=>off + len * esz≤es.length∧(dl z len).all AV.one=true∧aj (id + 1) ((dl z len).map AV.ab)=true∧K (H.set id (.cells (ai es off ((dl z len).map AV.ab))))
   | _=>False
 | _=>False
section
variable {P:Program} {w:World} {M:Mem} {L:List Nat} {H:List aa} {A:Perm} {ev:Nat→Value} {ea:Nat→AV} {O:Pos→Option Nat}
theorem lK {α:Type} (es:List α) (off:Nat):ai es off []=es:=by simp [ai]
theorem St.Dv (hs:St A M L w H ev ea O) (cs:Array Value) (e:TypeId) {xs:List AV} (hr:aM M L cs.toList xs) (hb:aj (H.length + 1) xs=true) (hf:∀ y∈xs,∀ own zs,y=.ak own zs→own=0) :
 St A M (L++[w.heap.size]) { w with heap:=w.heap.push (.cells cs e) } (H++[.cells xs]) ev ea O∧Ext A M w M { w with heap:=w.heap.push (.cells cs e) }:=
 hs.s6 (.cells cs e) (.cells xs) (fun w' hw hM=>⟨_,e,hw,hr.mono (Mem.bX M) ⟨_,rfl⟩,hM⟩) (by simpa [aa.aW] using hb) (fun j=>by
  simp only [oD]
  refine bi.free ?_
  intro own zs hh
  rw [sT] at hh
  cases hx:xs[j]? with
  | none=>simp [hx] at hh
  | some y=>simp [hx] at hh;exact hf y (abJ hx) own zs hh)
theorem oM (xs:List AV):∀ y∈xs.map AV.ab,∀ own zs,y=.ak own zs→own=0:=by
 intro y hy own zs e
 obtain ⟨q,_,rfl⟩:=aaR.1 hy
 exact AV.bQ q own zs e
theorem Gc {z:AV} (LA:∀ y∈z.cells,∀ own xs,y=.ak own xs→own=0) (n:Nat):∀ y∈dl z n,∀ own zs,y=.ak own zs→own=0:=by
 intro y hy own zs e
 simp only [dl,flat,adJ] at hy
 obtain ⟨q,hq,Pz⟩:=hy
 rw [acK hq] at Pz
 subst e
 cases z <;> simp only [bV,AV.cells] at Pz LA
 case agg ys=>
  obtain ⟨y',_,hy'⟩:=aaR.1 Pz
  exact AV.kj y' own zs hy'
 all_goals exact LA _ Pz own zs rfl
theorem Js (hs:St A M L w H ev ea O) {t e:TypeId} (ht:P.underlying t=some (.slice e)) {esz:Nat} (he:dU P e=some esz) (h0:0 < esz) {z:AV} (hz:gr P e=some z) (jI:z.cells.length=esz) (uA:z.val=true)
 {len:Nat} (hlen:len * esz≤16777216) {parts:List (Nat×AV)} {vs:Array (Nat×Value)} (hp:∀ (j:Nat) (p:Nat×AV),parts[j]?=some p→∃ v,vs.toList[j]?=some (p.1,v)∧aX M L v p.2) (hl:vs.toList.length=parts.length)
 {K:AV→List aa→Prop} (h:bm (List.replicate len (aR z)) esz parts fun xs=>uF xs H K) :
 ∃ r x L' w' H',(Instr.buildSlice t len vs).run P w=.ok r w'∧aX M L' r x∧(∀ own xs,x=.ak own xs→own=0)∧K x H'∧St A M L' w' H' ev ea O∧Ext A M w M w'∧L <+: L':=by
 unfold gr at hz
 obtain ⟨ie,Lu,dm⟩:=zF.1 he
 simp only [Lu] at hz
 split at hz
 ·rename_i zv wP
  have Di:=(cT (M:=M) (L:=L) hz).aR.gO (td uA)
  have vN:zv.cells.size=esz:=by have:=Di.length;rw [fE,jI] at this;simpa using this
  obtain ⟨cs',xs',f1,f2,f3,f4,f5⟩:=oK (M:=M) (L:=L) esz parts vs.toList hp hl (kz zv.cells esz len vN h0 (aR z) Di) (fun y hy=>by rw [acK hy,fE];exact jI) h
  simp only [acR] at f4
  obtain ⟨pv,hK⟩:=f5
  have bL:(Instr.buildSlice t len vs).run P w=.ok (.slice (some ⟨w.heap.size,0,none⟩) len len) { w with heap:=w.heap.push (.cells cs' e) }:=by
   by_cases oh:len * ie.size=0
   ·have yQ:len=0:=by
     rcases Nat.mul_eq_zero.1 oh with h' | h'
     ·exact h'
     ·omega
    subst yQ
    have Pt:cs'=#[]:=by
     have:=f2.length
     rw [cU _ esz f3,f4] at this
     simp at this
     exact this
    have XD:vs.toList=[]:=by
     cases yR:vs.toList with
     | nil=>rfl
     | cons q r=>
       rw [yR] at hl
       cases parts with
       | nil=>simp at hl
       | cons p ps=>obtain ⟨_,_,h3,_⟩:=h;simp at h3
    subst Pt
    have hf:Instr.fill (fun i=>some (i * ie.size,ie.size)) #[] vs.toList=some #[]:=by rw [XD];rfl
    simp [Instr.buildSlice,run_underlying ht,sizeOf,typeInfo,Lu,newRow,XD,Instr.fill]
    congr 2
    apply Array.ext'
    simp
   ·rw [run_buildSlice w t e len vs cs' ie zv ht Lu wP (by rw [dm];omega) oh (by rw [dm];exact f1)]
    rfl
  obtain ⟨g1,g2⟩:=hs.Dv cs' e f2.di pv (oM _)
  have hbd:len < 9223372036854775808:=by
   have:len≤len * esz:=acU _ h0
   omega
  refine ⟨_,.ba H.length 0 len len,_,_,_,bL,.ba w.heap.size 0 _ _ H.length ?_ hbd,(by intro _ _ e;cases e),by rw [f4] at hK;exact hK,g1,g2,⟨_,rfl⟩⟩
  rw [abu (by rw [hs.len];exact sU _),hs.len];simp
 ·cases hz
theorem Bv (hs:St A M L w H ev ea O) {t ty e:TypeId} {i:TypeInfo} {zv:Value} {esz bytes:Nat} (ht:P.underlying t=some (.slice e)) (hi:P.info? e=some i) (hz:i.zero=some zv) (dm:i.size=esz) (zL:i.bytes=bytes) (h0:0 < esz) (wR:0 < bytes)
 {z:AV} (OW:ofValue zv=some z) (uA:z.val=true) (jI:z.cells.length=esz) (LA:∀ y∈z.cells,∀ own xs,y=.ak own xs→own=0) {u v:Value} {s x:AV} {K:AV→List aa→Prop} (h:ch esz bytes z s x H K) (hu:aX M L u s) (hv:aX M L v x) :
 ∃ r y L' w' H' O',(Builtin.append_ #[t,t] ty #[u,v]).run P w=.ok r w'∧aX M L' r y∧(∀ own xs,y=.ak own xs→own=0)∧K y H'∧St A M L' w' H' ev ea O'∧Ext A M w M w'∧L <+: L':=by
 unfold ch at h
 split at h
 ·-- out of an object
  rename_i hnone
  split at h <;> try exact h.elim
  rename_i id off len cap n ys yW
  split at h <;> try exact h.elim
  rename_i es bu
  obtain ⟨hny,lH,hroom,vA,pv,hK⟩:=h
  cases hu with
  | ba b _ _ _ _ hl hc=>
  obtain ⟨cs,e',h1,h2,h3⟩:=fU hs bu hl
  have jD:=h2.length
  have yS:(len + n) * esz≤cap * esz:=ac3 _ hroom
  rw [acE] at yS
  unfold yV at yW
  split at yW
  ·simp [dG] at hnone
  ·simp [dG] at hnone
  ·rename_i id2 off2 Yg Yh
   split at yW <;> try cases yW
   rename_i es2 PG
   split at yW <;> cases yW
   rename_i hfit2
   cases hv with
   | ba b2 _ _ _ _ lY pZ=>
   obtain ⟨cs2,e2,k1,k2,k3⟩:=fU hs PG lY
   have aiB:=k2.length
   by_cases Dm:n=0
   ·subst Dm
    simp only [afL,List.take_zero,List.map_nil,lK,aey] at hK
    have es':H.set id (.cells es)=H:=by
     obtain ⟨mV,e1⟩:=aaH.1 bu
     rw [← e1];simp
    rw [es'] at hK
    exact ⟨_,.ba id off len cap,L,w,H,O,dF ht hi w _ len cap (by omega) _ Yh,.ba b off len cap id hl hc,(by intro _ _ e;cases e),hK,hs,Ext.refl A M w,aaL L⟩
   ·have zM:((cs2.toList.drop off2).take (n * esz)).length=n * esz:=by
     rw [acJ,agl];omega
    have hnews:∀ j u,((cs2.toList.drop off2).take (n * esz))[j]?=some u→w.cell? ((⟨b2,off2,none⟩:Addr).add j)=some u:=fun j u hu=>by
     rw [Addr.add_lit];exact k3 _ _ (dE _ _ _ _ _ hu)
    have Bn:aM M L ((cs2.toList.drop off2).take (n * esz)) ((es2.drop off2).take (n * esz)):=(k2.drop off2).take _
    have Yi:=Bn.ij lH
    have bL:=gP (P:=P) (ty:=ty) ht hi w b off len cap cs (0,0) h1 (pq _) ⟨b2,off2,none⟩ n Yh ((cs2.toList.drop off2).take (n * esz)) (by rw [dm];exact zM) hnews Yi hroom (by
     have:es.length=cs.size:=by rw [← jD];simp
     rw [dm,zM];omega)
    rw [dm] at bL
    obtain ⟨O',g1,g2⟩:=hs.Bt (off:=off + len * esz) bu hl h1 h2 Bn (by rw [acJ,agl];omega) pv
    exact ⟨_,.ba id off (len + n) cap,L,_,_,O',bL,.ba b off _ cap id hl hc,(by intro _ _ e;cases e),hK,g1,g2,aaL L⟩
  ·cases yW
 rename_i ys ru
 obtain ⟨jo,h⟩:=h
 have Di:=(cT (M:=M) (L:=L) OW).bV.gO (qC uA)
 have vN:zv.cells.size=esz:=by have:=Di.length;rw [j3,jI] at this;simpa using this
 have hesz0:esz≠0:=by omega
 have LG:∀ n,aM M L (Builtin.zeroCells zv.cells n).toList (dl z n):=fun n=>by
  have:=kz (M:=M) (L:=L) zv.cells esz n vN h0 (bV z) Di
  rw [Builtin.zeroCells,vN]
  rw [vN] at this
  exact this
 -- a new row
 have grow:∀ (olds news:List Value) (xs:List AV) (k need oldCap:Nat) (w':World),aM M L olds xs→aM M L news (flat ys)→need≤maxLen→
  w'=w.drew.alloc (.cells (olds.toArray++news.toArray++Builtin.zeroCells zv.cells (grownCap w need oldCap e - need)) e)→
  (Builtin.append_ #[t,t] ty #[u,v]).run P w=.ok (.slice (some ⟨w.heap.size,0,none⟩) need (grownCap w need oldCap e)) w'→
  (∀ gA,need≤gA→gA < 9223372036854775808→aj (H.length + 1) (xs.map AV.ab++(flat ys).map AV.ab++dl z (gA - need))=true∧K (.ba H.length 0 need gA) (H++[.cells (xs.map AV.ab++(flat ys).map AV.ab++dl z (gA - need))]))→
  ∃ r y L' w' H' O',(Builtin.append_ #[t,t] ty #[u,v]).run P w=.ok r w'∧aX M L' r y∧(∀ own xs,y=.ak own xs→own=0)∧K y H'∧St A M L' w' H' ev ea O'∧Ext A M w M w'∧L <+: L':=by
  intro olds news xs k need oldCap w' X9 Bn hneed Ly bL hK
  have eW:=grownCap_ge w need oldCap e
  have hle:=grownCap_le_maxLen w need oldCap e hneed
  simp only [maxLen] at hle
  obtain ⟨pv,hK⟩:=hK _ eW (by omega)
  obtain ⟨g1,g2⟩:=hs.drew.Dv (olds.toArray++news.toArray++Builtin.zeroCells zv.cells (grownCap w need oldCap e - need)) e (xs:=xs.map AV.ab++(flat ys).map AV.ab++dl z (grownCap w need oldCap e - need))
   (by rw [agy,agy];exact (X9.di.append Bn.di).append (LG _)) pv (by
     intro y hy
     rcases ab7.1 hy with hy | hy
     ·rcases ab7.1 hy with hy | hy
      ·exact oM _ y hy
      ·exact oM _ y hy
     ·exact Gc LA _ y hy)
  subst Ly
  refine ⟨_,.ba H.length 0 need (grownCap w need oldCap e),L++[w.heap.size],_,_,O,bL,.ba w.heap.size 0 _ _ H.length ?_ (by omega),(by intro _ _ e;cases e),hK,g1,Ext.drew.trans g2,⟨_,rfl⟩⟩
  rw [abu (by rw [hs.len];exact sU _),hs.len];simp
 split at h <;> try exact h.elim
 ·-- onto nothing
  obtain ⟨hbound,hn,hc⟩:=h
  cases hu
  rcases mU ru jo hv with ⟨rfl,b',c',rfl⟩ | ⟨Dm,b2,o2,c2,news,rfl,Bn,Ul,zM⟩
  ·exact ⟨_,.ag,L,w,H,O,dF ht hi w none 0 0 (sU _) b' c',.ag,(by intro _ _ e;cases e),hn rfl,hs,Ext.refl A M w,aaL L⟩
  ·have hnews:∀ j u,news[j]?=some u→w.cell? ((⟨b2,o2,none⟩:Addr).add j)=some u:=iY Ul hs.mem
   have hlen:ys.length≤140737488355328:=acN (acU _ wR) hbound
   have hbound':ys.length * i.bytes≤140737488355328:=by rw [zL];exact hbound
   have hr:=run_append_nil (P:=P) w t ty e i zv ht hi hz ⟨b2,o2,none⟩ ys.length c2 news (by rw [dm];exact zM) hnews Dm (by omega) (by first | omega | (simp at hbound';omega))
   refine grow [] news [] 0 ys.length 0 _ .nil Bn (by simp only [maxLen];omega) rfl (by simpa using hr) fun gA h1 h2=>?_
   have:=hc (by intro e;rw [e] at Dm;simp at Dm) gA h1 h2
   simpa using this
 ·-- onto what is empty
  obtain ⟨hbound,hn,hc⟩:=h
  cases hu with
  | pW ad=>
  rcases mU ru jo hv with ⟨rfl,b',c',rfl⟩ | ⟨Dm,b2,o2,c2,news,rfl,Bn,Ul,zM⟩
  ·exact ⟨_,.pW,L,w,H,O,dF ht hi w ad 0 0 (sU _) b' c',.pW _,(by intro _ _ e;cases e),hn rfl,hs,Ext.refl A M w,aaL L⟩
  ·have hnews:∀ j u,news[j]?=some u→w.cell? ((⟨b2,o2,none⟩:Addr).add j)=some u:=iY Ul hs.mem
   have hlen:ys.length≤140737488355328:=acN (acU _ wR) hbound
   have hbound':ys.length * i.bytes≤140737488355328:=by rw [zL];exact hbound
   have hK:∀ gA,ys.length≤gA→gA < 9223372036854775808→aj (H.length + 1) (([]:List AV).map AV.ab++(flat ys).map AV.ab++dl z (gA - ys.length))=true∧K (.ba H.length 0 ys.length gA) (H++[.cells (([]:List AV).map AV.ab++(flat ys).map AV.ab++dl z (gA - ys.length))]):=fun gA h1 h2=>by
    have:=hc (by intro e;rw [e] at Dm;simp at Dm) gA h1 h2
    simpa using this
   cases ad with
   | none=>
     have hr:=run_append_nil (P:=P) w t ty e i zv ht hi hz ⟨b2,o2,none⟩ ys.length c2 news (by rw [dm];exact zM) hnews Dm (by omega) (by first | omega | (simp at hbound';omega))
     exact grow [] news [] 0 ys.length 0 _ .nil Bn (by simp only [maxLen];omega) rfl (by simpa using hr) hK
   | some ad=>
     have hr:=run_append_grow (P:=P) w t ty e i zv ht hi hz ad 0 0 [] (by simp) (fun j v hv=>by simp at hv)
      ⟨b2,o2,none⟩ ys.length c2 news (by rw [dm];exact zM) hnews (by omega) (by omega) (growslice_fits (by omega) (by simpa using hbound'))
     simp only [acC] at hr
     exact grow [] news [] 0 ys.length 0 _ .nil Bn (by simp only [maxLen];omega) rfl hr hK
 ·rename_i id off len cap
  split at h <;> try exact h.elim
  rename_i es bu
  obtain ⟨hbound,Bk,vA,FJ,Ll⟩:=h
  cases hu with
  | ba b _ _ _ _ hl hc=>
  obtain ⟨cs,e',h1,h2,h3⟩:=fU hs bu hl
  have jD:=h2.length
  rcases mU ru jo hv with ⟨rfl,b',c',rfl⟩ | ⟨Dm,b2,o2,c2,news,rfl,Bn,Ul,zM⟩
  ·obtain ⟨_,hK⟩:=FJ (by simpa using Bk)
   simp only [flat,ago,List.map_nil,lK,List.length_nil,aey] at hK
   have es':H.set id (.cells es)=H:=by
    obtain ⟨mV,e1⟩:=aaH.1 bu
    rw [← e1];simp
   rw [es'] at hK
   exact ⟨_,.ba id off len cap,L,w,H,O,dF ht hi w _ len cap Bk b' c',.ba b off len cap id hl hc,(by intro _ _ e;cases e),hK,hs,Ext.refl A M w,aaL L⟩
  ·have hnews:∀ j u,news[j]?=some u→w.cell? ((⟨b2,o2,none⟩:Addr).add j)=some u:=iY Ul hs.mem
   have lH:=Bn.ij (Dk jo)
   have PE:(flat ys).length=ys.length * esz:=cU ys esz (fun y hy=>(jo y hy).1)
   by_cases hroom:len + ys.length≤cap
   ·obtain ⟨pv,hK⟩:=FJ hroom
    have yS:(len + ys.length) * esz≤cap * esz:=ac3 _ hroom
    rw [acE] at yS
    have aiC:es.length=cs.size:=by rw [← jD];simp
    have bL:=gP (P:=P) (ty:=ty) ht hi w b off len cap cs (0,0) h1 (pq _) ⟨b2,o2,none⟩ ys.length c2 news (by rw [dm];exact zM) hnews lH hroom (by rw [dm,zM];omega)
    rw [dm] at bL
    obtain ⟨O',g1,g2⟩:=hs.Bt (off:=off + len * esz) bu hl h1 h2 Bn (by rw [PE];omega) pv
    exact ⟨_,.ba id off (len + ys.length) cap,L,_,_,O',bL,.ba b off _ cap id hl hc,(by intro _ _ e;cases e),hK,g1,g2,aaL L⟩
   ·have hlen:(len + ys.length)≤140737488355328:=acN (acU _ wR) hbound
    have hbound':(len + ys.length) * i.bytes≤140737488355328:=by rw [zL];exact hbound
    have yS:len * esz≤cap * esz:=ac3 _ Bk
    have adq:((cs.toList.drop off).take (len * esz)).length=len * esz:=by rw [acJ,agl];omega
    have hr:=run_append_grow (P:=P) w t ty e i zv ht hi hz ⟨b,off,none⟩ len cap ((cs.toList.drop off).take (len * esz)) (by rw [dm];exact adq) (fun j v hv=>by rw [Addr.add_lit];exact h3 _ _ (dE _ _ _ _ _ hv))
     ⟨b2,o2,none⟩ ys.length c2 news (by rw [dm];exact zM) hnews (by omega) (by omega) (growslice_fits (by omega) hbound')
    exact grow _ news ((es.drop off).take (len * esz)) 0 (len + ys.length) cap _ ((h2.drop off).take _) Bn (by simp only [maxLen];omega) rfl hr fun gA a b=>Ll (by omega) gA a b
theorem Dw (hs:St A M L w H ev ea O) {t e:TypeId} {i:TypeInfo} {zv:Value} {esz:Nat} (ht:P.underlying t=some (.slice e)) (hi:P.info? e=some i) (hz:i.zero=some zv) (h0:0 < esz)
 {z:AV} (OW:ofValue zv=some z) (uA:z.val=true) (jI:z.cells.length=esz) {v:Value} {x:AV} {K:List aa→Prop} (h:jh esz z x H K) (hv:aX M L v x) (ty:TypeId) :
 ∃ w' H' O',(Builtin.clear_ #[t] ty #[v]).run P w=.ok (.tuple #[]) w'∧K H'∧St A M L w' H' ev ea O'∧Ext A M w M w':=by
 unfold jh at h
 split at h <;> try exact h.elim
 rename_i id off len cap
 split at h <;> try exact h.elim
 rename_i es bu
 obtain ⟨vA,lH,pv,hK⟩:=h
 cases hv with
 | ba b _ _ _ _ hl hc=>
 have Di:=(cT (M:=M) (L:=L) OW).bV.gO (qC uA)
 have vN:zv.cells.size=esz:=by have:=Di.length;rw [j3,jI] at this;simpa using this
 have LG:aM M L (Builtin.zeroCells zv.cells len).toList (dl z len):=by
  have:=kz (M:=M) (L:=L) zv.cells esz len vN h0 (bV z) Di
  rw [Builtin.zeroCells,vN]
  rw [vN] at this
  exact this
 obtain ⟨cs,e',h1,h2,h3⟩:=hs.obj id _ b bu hl
 have jD:=h2.length
 have vM:(dl z len).length=len * esz:=by
  unfold dl
  rw [cU _ esz (fun y hy=>by rw [acK hy,j3];exact jI),acR]
 have rq:=LG.length
 by_cases yQ:len=0
 ·subst yQ
  have e0:dl z 0=[]:=rfl
  rw [e0] at hK
  simp only [List.map_nil,lK] at hK
  have es':H.set id (.cells es)=H:=by
   obtain ⟨mV,e1⟩:=aaH.1 bu
   rw [← e1];simp
  rw [es'] at hK
  refine ⟨w,H,O,?_,hK,hs,Ext.refl A M w⟩
  simp [Builtin.clear_,run_underlying ht]
 ·have b7:=run_storeCells_at P b off e' (Builtin.zeroCells zv.cells len).toList 0 cs w h1 (by simp at jD ⊢;simp at rq;omega) (LG.ij lH)
  obtain ⟨O',g1,g2⟩:=hs.Bt (off:=off) bu hl h1 h2 LG (by omega) pv
  refine ⟨_,_,O',?_,hK,g1,g2⟩
  have mW:(storeCells ⟨b,off,none⟩ (Builtin.zeroCells zv.cells len).toList).run P w=.ok () (w.setRow b (ai cs.toList off (Builtin.zeroCells zv.cells len).toList).toArray):=by simpa [ai] using b7
  have hzero:(zeroValue e).run P w=.ok zv w:=by simp [zeroValue,typeInfo,hi,hz]
  have oh:∃ m,len=m + 1:=⟨len - 1,by omega⟩
  obtain ⟨m,rfl⟩:=oh
  simp [Builtin.clear_,run_underlying ht,hzero,mW]
end
end Go.aK
end
