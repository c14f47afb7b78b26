/- A memory-free reading of the model's values (part 19): operations that are run. -/
import Derived.Test.YtljchnfgjdjobaaGreatPac
set_option linter.unusedVariables false
set_option linter.unusedSimpArgs false
set_option linter.defProp false
set_option linter.unusedSectionVars false
namespace Go.Abs
open Go
def boolE : AV → Option Bool | .bool b => some b | _ => none
def abinE (op : BinOp) (x y : AV) : Option AV :=
 match x, y with
 | .int k a, .int k' b => if k = k' then
    match op with
    | .add => some (.int k (k.wrap (a + b)))
    | .sub => some (.int k (k.wrap (a - b)))
    | .mul => some (.int k (k.wrap (a * b)))
    | .quo => if b ≠ 0 then some (.int k (k.wrap (a.tdiv b))) else none
    | .rem => if b ≠ 0 then some (.int k (a.tmod b)) else none
    | .and => some (.int k (k.wrap (BitVec.ofInt k.bits a &&& BitVec.ofInt k.bits b).toNat))
    | .or => some (.int k (k.wrap (BitVec.ofInt k.bits a ||| BitVec.ofInt k.bits b).toNat))
    | .eql => some (.bool (decide (a = b)))
    | .neq => some (.bool (decide (a ≠ b)))
    | .lss => some (.bool (decide (a < b)))
    | .leq => some (.bool (decide (a ≤ b)))
    | .gtr => some (.bool (decide (b < a)))
    | .geq => some (.bool (decide (b ≤ a)))
    | _ => none
   else none
 | .str a, .str b =>
   match op with
   | .add => if a.size + b.size < 9223372036854775808 then some (.str (a ++ b)) else none
   | .eql => some (.bool (decide (a = b)))
   | .neq => some (.bool (decide (a ≠ b)))
   | .lss => some (.bool (Op.bytesLess a.data.toList b.data.toList))
   | _ => none
 | _, _ => none
def ashiftE (op : BinOp) (x y : AV) : Option AV :=
 match x, y with
 | .int k a, .int _ b => if 0 ≤ b then
    match op with
    | .shl => some (.int k (k.wrap (a * 2 ^ (min b.toNat k.bits))))
    | .shr => some (.int k (a.fdiv (2 ^ (min b.toNat k.bits))))
    | _ => none
   else none
 | _, _ => none
def aeqBoolE (neq : Bool) (x y : AV) : Option AV :=
 match x, y with
 | .bool a, .bool b => some (.bool (if neq then decide (a ≠ b) else decide (a = b)))
 | _, _ => none
def aeqNilE (kd : Nat) (neq : Bool) (x : AV) : Option AV :=
 match isNil kd x with
 | some b => some (.bool (if neq then !b else b))
 | none => none
def aunE (op : UnOp) (x : AV) : Option AV :=
 match op, x with
 | .not, .bool b => some (.bool (!b))
 | .neg, .int k n => some (.int k (k.wrap (0 - n)))
 | _, _ => none
def afillE (zs : List AV) : List (Nat × Nat × AV) → Option (List AV)
 | [] => some zs
 | (off, sz, x) :: r => if x.val = true ∧ x.cells.length = sz ∧ off + sz ≤ zs.length then afillE (asplice zs off (x.cells.map AV.unown)) r else none
def absliceE (xs : List AV) (esz : Nat) : List (Nat × AV) → Option (List AV)
 | [] => some xs
 | (i, x) :: r => if x.val = true ∧ x.cells.length = esz ∧ i < xs.length then absliceE (xs.set i (canon x)) esz r else none
def aloadE (sz : Option Nat) (x : AV) (H : List AObj) : Option AV :=
 match x with
 | .ptr id off => match H[id]? with
   | some (.cells es) => match sz with
     | some m => if off + m ≤ es.length then some (.agg (((es.drop off).take m).map AV.drop)) else none
     | none => if off < es.length then some (es.getD off .any).unown else none
   | _ => none
 | .iptr y => match sz with
   | some m => if y.cells.length = m then some (.agg y.cells) else none
   | none => if y.one = true then some y.unown else none
 | _ => none
def apartE (off : Nat) (sz : Option Nat) (xs : List AV) : Option AV :=
 match sz with
 | some m => if off + m ≤ xs.length then some (.agg ((xs.drop off).take m)) else none
 | none => if off < xs.length ∧ (xs.getD off .any).one = true then some (xs.getD off .any) else none
def afieldAddrE (off : Nat) (sz : Option Nat) (x : AV) : Option AV :=
 match x with
 | .ptr id o => some (.ptr id (o + off))
 | .iptr y => (apartE off sz y.cells).map .iptr
 | _ => none
def afieldE (off : Nat) (sz : Option Nat) (x : AV) : Option AV :=
 match x with
 | .agg xs => (apartE off sz xs).map AV.drop
 | _ => none
def lensOk (esz : Nat) (x : AV) : Bool :=
 match x with
 | .lst _ xs => xs.all fun z => z.cells.length == esz
 | _ => true
def aindexAddrE (esz : Nat) (x i : AV) : Option AV :=
 match x, i with
 | .lst _ xs, .int _ i => if 0 ≤ i ∧ i.toNat < xs.length then some (.iptr (xs.getD i.toNat .any)) else none
 | .arr id off len _, .int _ i => if 0 ≤ i ∧ i.toNat < len then some (.ptr id (off + i.toNat * esz)) else none
 | _, _ => none
def aindexArrE (n : Nat) (x i : AV) : Option AV :=
 match x, i with
 | .agg xs, .int _ i => if xs.length = n ∧ 0 ≤ i ∧ i.toNat < n then some (xs.getD i.toNat .any).drop else none
 | _, _ => none
def aindexStrE (x i : AV) : Option AV :=
 match x, i with
 | .str s, .int _ i => if 0 ≤ i ∧ i.toNat < s.size then some (.int .u8 (s.data.toList.getD i.toNat 0).toNat) else none
 | _, _ => none
def lenOkB (kd : Nat) (x : AV) : Bool :=
 match kd, x with
 | 0, .str _ => true
 | 1, .nils => true
 | 1, .lst _ _ => true
 | 1, .arr _ _ _ _ => true
 | 2, .nilm => true
 | 2, .map _ => true
 | _, _ => false
def alenE (x : AV) (H : List AObj) : Option AV :=
 match x with
 | .str s => some (.int .i64 s.size)
 | .nils => some (.int .i64 0)
 | .lst _ xs => some (.int .i64 xs.length)
 | .arr _ _ len _ => some (.int .i64 len)
 | .nilm => some (.int .i64 0)
 | .map id => match H[id]? with
   | some (.map es) => some (.int .i64 es.length)
   | _ => none
 | _ => none
def aextractE (x : AV) (i : Nat) : Option AV :=
 match x with
 | .tuple xs => if i < xs.length then some (xs.getD i .any).unown else none
 | _ => none
def anilCheckE (x : AV) : Option AV :=
 match x with
 | .ptr .. | .iptr _ => some x
 | .fn (.func _) _ _ => some x
 | _ => none
def aconvIntE (k : IntKind) (x : AV) : Option AV :=
 match x with
 | .int _ n => some (.int k (k.wrap n))
 | _ => none
def amxE (big : Bool) (x y : AV) : Option AV :=
 match x, y with
 | .int k a, .int _ b => some (.int k (if big then (if b > a then b else a) else (if b < a then b else a)))
 | _, _ => none
def astoreE (m : Nat) (p x : AV) (H : List AObj) : Option (List AObj) :=
 match p with
 | .ptr id off => match H[id]? with
   | some (.cells es) => if x.val = true ∧ x.cells.length = m ∧ off + m ≤ es.length ∧ x.cells.all AV.one = true ∧ belowL (id + 1) (x.cells.map AV.unown) = true then
      some (H.set id (.cells (asplice es off (x.cells.map AV.unown)))) else none
   | _ => none
 | _ => none
def aputCellE (p x : AV) (H : List AObj) : Option (List AObj) :=
 match p with
 | .ptr id off => match H[id]? with
   | some (.cells es) => if off < es.length ∧ x.one = true ∧ x.blw (id + 1) = true then some (H.set id (.cells (es.set off x))) else none
   | _ => none
 | _ => none
def aappendE (esz bytes : Nat) (s x : AV) : Option (List AV) :=
 match alist esz s, rlist x with
 | some xs, some ys => if (xs.length + ys.length) * bytes ≤ 140737488355328 ∧ (ys.all fun y => y.cells.length == esz && y.cells.all AV.one) = true then some (xs ++ ys) else none
 | _, _ => none
def amkarrE (bytes : Nat) (z n : AV) (H : List AObj) : Option (AV × List AObj) :=
 match n with
 | .int .i64 n => if 0 ≤ n ∧ n.toNat * bytes ≤ 140737488355328 ∧ belowL (H.length + 1) (flat (List.replicate n.toNat (zcanon z))) = true then
    some (.arr H.length 0 n.toNat n.toNat, H ++ [.cells (flat (List.replicate n.toNat (zcanon z)))]) else none
 | _ => none
def amkbufE (esz bytes : Nat) (n : AV) : Option AV :=
 match n with
 | .int .i64 n => if 0 ≤ n ∧ n.toNat * bytes ≤ 140737488355328 then some (.lst esz []) else none
 | _ => none
def aidxE (x : Option AV) (d : Nat) : Option Nat :=
 match x with
 | none => some d
 | some (.int _ i) => if 0 ≤ i then some i.toNat else none
 | _ => none
def asliceE (esz : Nat) (x : AV) (lo hi mx : Option AV) : Option AV :=
 match rlist x with
 | some xs => match aidxE hi xs.length, aidxE lo 0 with
   | some h, some l => if l ≤ h ∧ h ≤ xs.length then
      match mx with
      | none => some (.lst 0 ((xs.take h).drop l))
      | some m => match aidxE (some m) 0 with
        | some m => if hi.isSome = true ∧ m = h ∧ (xs.all fun y => y.cells.length == esz) = true then some (.lst esz ((xs.take h).drop l)) else none
        | none => none
     else none
   | _, _ => none
 | none => none
def acopyE (esz : Nat) (d s : AV) (H : List AObj) : Option (AV × List AObj) :=
 match d, csrc esz s H with
 | .arr id off len _, some (n, ys) => match H[id]? with
   | some (.cells es) => if (ys.take (min n len * esz)).all AV.one = true ∧ off + min n len * esz ≤ es.length ∧ belowL (id + 1) ((ys.take (min n len * esz)).map AV.unown) = true then
      some (.int .i64 (min n len : Nat), H.set id (.cells (asplice es off ((ys.take (min n len * esz)).map AV.unown)))) else none
   | _ => none
 | _, _ => none
def asetfE (esz : Nat) (x : AV) (H : List AObj) : Option (AV × List AObj) :=
 match x with
 | .arr id off len cap => match H[id]? with
   | some (.cells es) => if 0 < esz ∧ len ≤ cap ∧ off + len * esz ≤ es.length ∧ (es.drop off).all AV.one = true then some (.lst 0 (chunks esz len (es.drop off)), H.set id .dead) else none
   | _ => none
 | .any => none
 | .agg _ => none
 | .ptr _ _ => none
 | .emp => none
 | x => some (x.unown, H)
def asetfLE (esz : Nat) : List AV → List AObj → Option (List AV × List AObj)
 | [], H => some ([], H)
 | .agg _ :: _, _ => none
 | x :: r, H => match asetfE esz x H with
   | some (y, H') => match asetfLE esz r H' with
     | some (ys, H'') => some (y :: ys, H'')
     | none => none
   | none => none
def asetfXE (esz : Nat) (x : AV) (H : List AObj) : Option (AV × List AObj) :=
 match x with
 | .agg xs => match asetfLE esz xs H with
   | some (ys, H') => some (.agg ys, H')
   | none => none
 | x => asetfE esz x H
def asliceXE (esz : Nat) (x : AV) (lo hi mx : Option AV) : Option AV :=
 match x with
 | .arr id off len cap => match mx, aidxE hi len, aidxE lo 0 with
   | none, some h, some l => if l ≤ h ∧ h ≤ cap then some (.arr id (if cap = l then off else off + l * esz) (h - l) (cap - l)) else none
   | _, _, _ => none
 | x => if lensOk esz x = true then asliceE esz x lo hi mx else none
def asliceStrE (x : AV) (lo hi : Option AV) : Option AV :=
 match x with
 | .str s => match aidxE hi s.size, aidxE lo 0 with
   | some h, some l => if l ≤ h ∧ h ≤ s.size then some (.str (s.extract l h)) else none
   | _, _ => none
 | _ => none
def aconvStrE (x : AV) : Option AV := match x with | .str s => some (.str s) | _ => none
def unbyte : List AV → Option (List UInt8)
 | [] => some []
 | .int .u8 n :: r => match unbyte r with
   | some l => if 0 ≤ n ∧ n < 256 then some (UInt8.ofNat n.toNat :: l) else none
   | none => none
 | _ => none
def astrOfE (x : AV) : Option AV :=
 match rlist x with
 | some ys => match unbyte ys with
   | some l => some (.str ⟨l.toArray⟩)
   | none => none
 | none => none
def abytesOfE (own : Nat) (x : AV) : Option AV :=
 match x with
 | .str s => if s.size < 9223372036854775808 then some (.lst own (byteAVs s.data.toList)) else none
 | _ => none
def alookupE (kd : Nat) (zero m k : AV) (ok : Bool) (H : List AObj) : Option AV :=
 match m with
 | .nilm => if keyEq kd k k = some true then some (if ok then .tuple [canon zero, .bool false] else canon zero) else none
 | .map id => match H[id]? with
   | some (.map es) => match afind kd k es 0 with
     | some (some (_, v)) => some (if ok then .tuple [v.drop, .bool true] else v.drop)
     | some none => if keyEq kd k k = some true then some (if ok then .tuple [canon zero, .bool false] else canon zero) else none
     | none => none
   | _ => none
 | _ => none
def amapsetE (kd : Nat) (m k x : AV) (H : List AObj) : Option (List AObj) :=
 match m with
 | .map id => match H[id]? with
   | some (.map es) => if k.blw (id + 1) = true ∧ x.blw (id + 1) = true ∧ x.val = true then match afind kd k es 0 with
      | some (some (i, _)) => some (H.set id (.map (es.set i (k, canon x))))
      | some none => if keyEq kd k k = some true then some (H.set id (.map (es ++ [(k, canon x)]))) else none
      | none => none
     else none
   | _ => none
 | _ => none
section
variable {z : AV} {φ : AV → Prop}
theorem abinE_s {op : BinOp} {x y : AV} (h : abinE op x y = some z) (hφ : φ z) : abin op x y φ := by
 unfold abinE at h
 split at h
 ·split at h <;> try cases h
  rename_i hk
  refine ⟨hk, ?_⟩
  split at h <;> first | (cases h; exact hφ) | (split at h <;> cases h; exact ⟨by assumption, hφ⟩) | cases h
 ·split at h <;> first | (cases h; exact hφ) | (split at h <;> cases h; exact ⟨by assumption, hφ⟩) | cases h
 ·cases h
theorem ashiftE_s {op : BinOp} {x y : AV} (h : ashiftE op x y = some z) (hφ : φ z) : ashift op x y φ := by
 unfold ashiftE at h
 split at h <;> try cases h
 split at h <;> try cases h
 rename_i hb
 refine ⟨hb, ?_⟩
 split at h <;> cases h <;> exact hφ
theorem aeqBoolE_s {neq : Bool} {x y : AV} (h : aeqBoolE neq x y = some z) (hφ : φ z) : aeqBool neq x y φ := by
 unfold aeqBoolE at h; unfold aeqBool
 split at h <;> cases h <;> exact hφ
theorem aeqNilE_s {kd : Nat} {neq : Bool} {x : AV} (h : aeqNilE kd neq x = some z) (hφ : φ z) : aeqNil kd neq x φ := by
 unfold aeqNilE at h; unfold aeqNil
 split at h <;> cases h
 rename_i hb; rw [hb]; exact hφ
theorem aunE_s {op : UnOp} {x : AV} (h : aunE op x = some z) (hφ : φ z) : aun op x φ := by
 unfold aunE at h; unfold aun
 split at h <;> cases h <;> exact hφ
theorem afillE_s {φ : List AV → Prop} {r : List AV} (hφ : φ r) : ∀ {ps : List (Nat × Nat × AV)} {zs : List AV}, afillE zs ps = some r → afill zs ps φ
 | [], zs, h => by simp only [afillE] at h; cases h; exact hφ
 | (off, sz, x) :: ps, zs, h => by
   simp only [afillE] at h
   split at h <;> try cases h
   rename_i hc
   exact ⟨hc.1, hc.2.1, hc.2.2, afillE_s hφ h⟩
theorem absliceE_s {esz : Nat} {φ : List AV → Prop} {r : List AV} (hφ : φ r) : ∀ {ps : List (Nat × AV)} {zs : List AV}, absliceE zs esz ps = some r → abslice zs esz ps φ
 | [], zs, h => by simp only [absliceE] at h; cases h; exact hφ
 | (i, x) :: ps, zs, h => by
   simp only [absliceE] at h
   split at h <;> try cases h
   rename_i hc
   exact ⟨hc.1, hc.2.1, hc.2.2, absliceE_s hφ h⟩
theorem aloadE_s {sz : Option Nat} {x : AV} {H : List AObj} (h : aloadE sz x H = some z) (hφ : φ z) : aload sz x H φ := by
 unfold aloadE at h; unfold aload
 split at h <;> try cases h
 ·split at h <;> try cases h
  rename_i hid
  simp only [hid]
  split at h <;> (split at h <;> cases h) <;> exact ⟨by assumption, hφ⟩
 ·simp only
  split at h <;> (split at h <;> cases h) <;> exact ⟨by assumption, hφ⟩
theorem apartE_s {off : Nat} {sz : Option Nat} {xs : List AV} (h : apartE off sz xs = some z) (hφ : φ z) : apart off sz xs φ := by
 unfold apartE at h; unfold apart
 split at h <;> split at h <;> cases h
 ·exact ⟨by assumption, hφ⟩
 ·rename_i hc; exact ⟨hc.1, hc.2, hφ⟩
theorem afieldAddrE_s {off : Nat} {sz : Option Nat} {x : AV} (h : afieldAddrE off sz x = some z) (hφ : φ z) : afieldAddr off sz x φ := by
 unfold afieldAddrE at h; unfold afieldAddr
 split at h <;> try cases h
 ·exact hφ
 ·obtain ⟨u, hu, rfl⟩ := Option.map_eq_some_iff.1 h
  exact apartE_s hu hφ
theorem afieldE_s {off : Nat} {sz : Option Nat} {x : AV} (h : afieldE off sz x = some z) (hφ : φ z) : afield off sz x φ := by
 unfold afieldE at h; unfold afield
 split at h <;> try cases h
 obtain ⟨u, hu, rfl⟩ := Option.map_eq_some_iff.1 h
 exact apartE_s hu hφ
theorem lensOk_s {esz : Nat} {x : AV} (h : lensOk esz x = true) : ∀ own xs, x = .lst own xs → ∀ z ∈ xs, z.cells.length = esz := by
 intro own xs e z hz
 subst e
 simp only [lensOk, List.all_eq_true, beq_iff_eq] at h
 exact h z hz
theorem aindexAddrE_s {esz : Nat} {x i : AV} (h : aindexAddrE esz x i = some z) (hφ : φ z) : aindexAddr esz x i φ := by
 unfold aindexAddrE at h; unfold aindexAddr
 split at h <;> try cases h
 ·split at h <;> cases h
  rename_i hc; exact ⟨hc.1, hc.2, hφ⟩
 ·split at h <;> cases h
  rename_i hc; exact ⟨hc.1, hc.2, hφ⟩
theorem aindexStrE_s {x i : AV} (h : aindexStrE x i = some z) (hφ : φ z) : aindexStr x i φ := by
 unfold aindexStrE at h; unfold aindexStr
 split at h <;> try cases h
 split at h <;> cases h
 rename_i hc; exact ⟨hc.1, hc.2, hφ⟩
theorem aindexArrE_s {n : Nat} {x i : AV} (h : aindexArrE n x i = some z) (hφ : φ z) : aindexArr n x i φ := by
 unfold aindexArrE at h; unfold aindexArr
 split at h <;> try cases h
 split at h <;> cases h
 rename_i hc; exact ⟨hc.1, hc.2.1, hc.2.2, hφ⟩
theorem lenOkB_s {kd : Nat} {x : AV} (h : lenOkB kd x = true) : lenOk kd x := by
 unfold lenOkB at h; unfold lenOk
 split at h <;> first | trivial | cases h
theorem alenE_s {x : AV} {H : List AObj} (h : alenE x H = some z) (hφ : φ z) : alen x H φ := by
 unfold alenE at h; unfold alen
 split at h <;> try cases h
 ·exact hφ
 ·exact hφ
 ·exact fun _ => hφ
 ·exact hφ
 ·exact hφ
 ·split at h <;> cases h
  rename_i hid
  simp only [hid]; exact hφ
theorem aextractE_s {x : AV} {i : Nat} (h : aextractE x i = some z) (hφ : φ z) : aextract x i φ := by
 unfold aextractE at h; unfold aextract
 split at h <;> try cases h
 split at h <;> cases h
 exact ⟨by assumption, hφ⟩
theorem anilCheckE_s {x : AV} (h : anilCheckE x = some z) (hφ : φ z) : anilCheck x φ := by
 unfold anilCheckE at h; unfold anilCheck
 split at h <;> cases h <;> exact hφ
theorem aconvIntE_s {k : IntKind} {x : AV} (h : aconvIntE k x = some z) (hφ : φ z) : aconvInt k x φ := by
 unfold aconvIntE at h; unfold aconvInt
 split at h <;> cases h <;> exact hφ
theorem amxE_s {big : Bool} {x y : AV} (h : amxE big x y = some z) (hφ : φ z) : amx big x y φ := by
 unfold amxE at h; unfold amx
 split at h <;> cases h <;> exact hφ
theorem astoreE_s {m : Nat} {p x : AV} {H H' : List AObj} {K : List AObj → Prop} (h : astoreE m p x H = some H') (hK : K H') : astore m p x H K := by
 unfold astoreE at h; unfold astore
 split at h <;> try cases h
 split at h <;> try cases h
 rename_i hid
 split at h <;> cases h
 rename_i hc
 simp only [hid]
 exact ⟨hc.1, hc.2.1, hc.2.2.1, hc.2.2.2.1, hc.2.2.2.2, hK⟩
theorem aputCellE_s {p x : AV} {H H' : List AObj} {K : List AObj → Prop} (h : aputCellE p x H = some H') (hK : K H') : aputCell p x H K := by
 unfold aputCellE at h; unfold aputCell
 split at h <;> try cases h
 split at h <;> try cases h
 rename_i hid
 split at h <;> cases h
 rename_i hc
 simp only [hid]
 exact ⟨hc.1, hc.2.1, hc.2.2, hK⟩
theorem aappendE_s {esz bytes : Nat} {s x : AV} {r : List AV} {φ : List AV → Prop} (h : aappendE esz bytes s x = some r) (hφ : φ r) : aappend esz bytes s x φ := by
 unfold aappendE at h; unfold aappend
 split at h <;> try cases h
 rename_i xs ys h1 h2
 split at h <;> cases h
 rename_i hc
 simp only [h1, h2]
 refine ⟨hc.1, ?_, hφ⟩
 intro y hy
 have := List.all_eq_true.1 hc.2 y hy
 simpa using this
theorem amkarrE_s {esz bytes : Nat} {x n : AV} {H H' : List AObj} {K : AV → List AObj → Prop} (h : amkarrE bytes x n H = some (z, H')) (hK : K z H') : amkarr esz bytes x n H K := by
 unfold amkarrE at h; unfold amkarr
 split at h <;> try cases h
 split at h <;> cases h
 rename_i hc
 exact ⟨hc.1, hc.2.1, hc.2.2, hK⟩
theorem amkbufE_s {esz bytes : Nat} {n : AV} (h : amkbufE esz bytes n = some z) (hφ : φ z) : amkbuf esz bytes n φ := by
 unfold amkbufE at h; unfold amkbuf
 split at h <;> try cases h
 split at h <;> cases h
 rename_i hc
 exact ⟨hc.1, hc.2, hφ⟩
theorem aidxE_s {x : Option AV} {d k : Nat} {φ : Nat → Prop} (h : aidxE x d = some k) (hφ : φ k) : aidx x d φ := by
 unfold aidxE at h; unfold aidx
 split at h
 ·cases h; exact hφ
 ·split at h <;> cases h
  rename_i hc
  exact ⟨hc, hφ⟩
 ·cases h
theorem asliceE_s {esz : Nat} {x : AV} {lo hi mx : Option AV} (h : asliceE esz x lo hi mx = some z) (hφ : φ z) : aslice esz x lo hi mx φ := by
 unfold asliceE at h; unfold aslice
 split at h <;> try cases h
 rename_i xs hxs
 simp only [hxs]
 split at h <;> try cases h
 rename_i hh ll h1 h2
 split at h <;> try cases h
 rename_i hc
 refine aidxE_s h1 (aidxE_s h2 ⟨hc.1, hc.2, ?_⟩)
 split at h
 ·cases h; exact hφ
 ·split at h <;> try cases h
  rename_i m hm
  split at h <;> cases h
  rename_i hc
  refine ⟨hc.1, aidxE_s hm ⟨hc.2.1, ?_, hφ⟩⟩
  intro y hy
  have := List.all_eq_true.1 hc.2.2 y hy
  simpa using this
theorem acopyE_s {esz : Nat} {d s : AV} {H H' : List AObj} {K : AV → List AObj → Prop} (h : acopyE esz d s H = some (z, H')) (hK : K z H') : acopy esz d s H K := by
 unfold acopyE at h; unfold acopy
 split at h <;> try cases h
 rename_i hs
 split at h <;> try cases h
 rename_i hid
 split at h <;> cases h
 rename_i hc
 simp only [hs, hid]
 exact ⟨hc.1, hc.2.1, hc.2.2, hK⟩
theorem asetfE_s {esz : Nat} {x : AV} {H H' : List AObj} {K : AV → List AObj → Prop} (h : asetfE esz x H = some (z, H')) (hK : K z H') : asetf esz x H K := by
 unfold asetfE at h; unfold asetf
 split at h
 ·split at h <;> try cases h
  rename_i hid
  split at h <;> cases h
  rename_i hc
  simp only [asetf1, hid]
  exact ⟨hc.1, hc.2.1, hc.2.2.1, hc.2.2.2, hK⟩
 ·cases h
 ·cases h
 ·cases h
 ·cases h
 ·rename_i h1 h2 h3 h4 h5
  cases h
  cases x <;> first | exact hK | exact absurd rfl h2 | exact absurd rfl h5 | exact absurd rfl (h1 _ _ _ _) | exact absurd rfl (h3 _) | exact absurd rfl (h4 _ _)
theorem asetf1E_s {esz : Nat} {x : AV} {H H' : List AObj} {K : AV → List AObj → Prop} (hx : ∀ xs, x ≠ .agg xs) (h : asetfE esz x H = some (z, H')) (hK : K z H') : asetf1 esz x H K := by
 have := asetfE_s (K := K) h hK
 unfold asetf at this
 split at this
 ·exact absurd rfl (hx _)
 ·cases h
 ·exact this
theorem asetfLE_s {esz : Nat} : ∀ {xs : List AV} {H H' : List AObj} {ys : List AV} {K : List AV → List AObj → Prop}, asetfLE esz xs H = some (ys, H') → K ys H' → asetfL esz xs H K
 | [], H, H', ys, K, h, hK => by simp only [asetfLE] at h; cases h; exact hK
 | x :: r, H, H', ys, K, h, hK => by
   have hx : ∀ xs, x ≠ .agg xs := fun xs e => by subst e; simp [asetfLE] at h
   have h' : (match asetfE esz x H with
    | some (y, H') => match asetfLE esz r H' with
      | some (ys, H'') => some (y :: ys, H'')
      | none => none
    | none => none) = some (ys, H') := by
    cases x <;> first | exact absurd rfl (hx _) | (simpa only [asetfLE] using h)
   split at h' <;> try cases h'
   rename_i y H1 h1
   split at h' <;> cases h'
   rename_i ys' h2
   exact asetf1E_s (K := fun y H' => asetfL esz r H' fun ys H'' => K (y :: ys) H'') hx h1 (asetfLE_s (K := fun ys H'' => K (y :: ys) H'') h2 hK)
theorem asetfXE_s {esz : Nat} {x : AV} {H H' : List AObj} {K : AV → List AObj → Prop} (h : asetfXE esz x H = some (z, H')) (hK : K z H') : asetf esz x H K := by
 unfold asetfXE at h
 split at h
 ·split at h <;> cases h
  rename_i ys hs
  exact asetfLE_s (K := fun ys H' => K (.agg ys) H') hs hK
 ·exact asetfE_s h hK
theorem asliceXE_s {esz : Nat} {x : AV} {lo hi mx : Option AV} (h : asliceXE esz x lo hi mx = some z) (hφ : φ z) : asliceX esz x lo hi mx φ := by
 unfold asliceXE at h; unfold asliceX
 split at h
 ·split at h <;> try cases h
  rename_i h1 h2
  split at h <;> cases h
  rename_i hc
  simp only
  unfold aslicea
  exact aidxE_s h1 (aidxE_s h2 ⟨hc.1, hc.2, hφ⟩)
 ·rename_i hne
  split at h <;> try cases h
  rename_i hl
  split
  ·exact absurd rfl (hne _ _ _ _)
  ·exact ⟨lensOk_s hl, asliceE_s h hφ⟩
theorem asliceStrE_s {x : AV} {lo hi : Option AV} (h : asliceStrE x lo hi = some z) (hφ : φ z) : asliceStr x lo hi φ := by
 unfold asliceStrE at h; unfold asliceStr
 split at h <;> try cases h
 split at h <;> try cases h
 rename_i hh ll h1 h2
 split at h <;> cases h
 rename_i hc
 exact aidxE_s h1 (aidxE_s h2 ⟨hc.1, hc.2, hφ⟩)
theorem aconvStrE_s {x : AV} (h : aconvStrE x = some z) (hφ : φ z) : aconvStr x φ := by
 unfold aconvStrE at h; unfold aconvStr
 split at h <;> cases h <;> exact hφ
theorem unbyte_s : ∀ {ys : List AV} {l : List UInt8}, unbyte ys = some l → ys = byteAVs l
 | [], l, h => by simp only [unbyte] at h; cases h; rfl
 | y :: ys, l, h => by
   unfold unbyte at h
   split at h
   ·rename_i e; cases e
   ·rename_i n r e
    cases e
    split at h <;> try cases h
    rename_i l' hl
    split at h <;> cases h
    rename_i hn
    have := unbyte_s hl
    subst this
    simp only [byteAVs, List.map_cons]
    congr 1
    have : (UInt8.ofNat n.toNat).toNat = n.toNat := by
     rw [UInt8.toNat_ofNat']
     exact Nat.mod_eq_of_lt (by have : (2:Nat)^8 = 256 := rfl
                                omega)
    rw [this]
    congr 1
    omega
   ·cases h
theorem astrOfE_s {x : AV} (h : astrOfE x = some z) (hφ : φ z) : astrOf x φ := by
 unfold astrOfE at h; unfold astrOf
 split at h <;> try cases h
 rename_i ys hys
 split at h <;> cases h
 rename_i l hl
 simp only [hys]
 exact ⟨l, unbyte_s hl, hφ⟩
theorem abytesOfE_s {own : Nat} {x : AV} (h : abytesOfE own x = some z) (hφ : φ z) : abytesOf own x φ := by
 unfold abytesOfE at h; unfold abytesOf
 split at h <;> try cases h
 split at h <;> cases h
 exact ⟨by assumption, hφ⟩
theorem alookupE_s {kd : Nat} {zero m k : AV} {ok : Bool} {H : List AObj} (h : alookupE kd zero m k ok H = some z) (hφ : φ z) : alookup kd zero m k ok H φ := by
 unfold alookupE at h; unfold alookup
 split at h <;> try cases h
 ·split at h <;> cases h
  exact ⟨by assumption, hφ⟩
 ·split at h <;> try cases h
  rename_i hid
  simp only [hid]
  split at h
  ·rename_i hf; cases h; simp only [hf]; exact hφ
  ·rename_i hf
   split at h <;> cases h
   simp only [hf]
   exact ⟨by assumption, hφ⟩
  ·cases h
theorem amapsetE_s {kd : Nat} {m k x : AV} {H H' : List AObj} {K : List AObj → Prop} (h : amapsetE kd m k x H = some H') (hK : K H') : amapset kd m k x H K := by
 unfold amapsetE at h; unfold amapset
 split at h <;> try cases h
 split at h <;> try cases h
 rename_i hid
 simp only [hid]
 split at h <;> try cases h
 rename_i hc
 refine ⟨hc.1, hc.2.1, hc.2.2, ?_⟩
 split at h
 ·rename_i hf; cases h; simp only [hf]; exact hK
 ·rename_i hf
  split at h <;> cases h
  simp only [hf]
  exact ⟨by assumption, hK⟩
 ·cases h
end
end Go.Abs
