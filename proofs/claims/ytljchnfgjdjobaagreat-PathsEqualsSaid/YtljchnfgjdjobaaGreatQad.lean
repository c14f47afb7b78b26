/- A memory-free reading of the model's values (part 19): operations that are run. -/
import Derived.Test.YtljchnfgjdjobaaGreatQac
set_option linter.unusedVariables false
set_option linter.unusedSimpArgs false
set_option linter.defProp false
set_option linter.unusedSectionVars false
namespace Go.aK
open Go
def aaW : AV → Option Bool | .bool b => some b | _ => none
def ER (op : BinOp) (x y : AV) : Option AV :=
 match x, y with
 | .int k a, .int k' b => if k = k' then
    match op with
    | .add => some (.int k (k.wrap (a + b)))
    | .sub => some (.int k (k.wrap (a - b)))
    | .mul => some (.int k (k.wrap (a * b)))
    | .quo => if b ≠ 0 then some (.int k (k.wrap (a.tdiv b))) else none
    | .rem => if b ≠ 0 then some (.int k (a.tmod b)) else none
    | .and => some (.int k (k.wrap (BitVec.ofInt k.bits a &&& BitVec.ofInt k.bits b).toNat))
    | .or => some (.int k (k.wrap (BitVec.ofInt k.bits a ||| BitVec.ofInt k.bits b).toNat))
    | .eql => some (.bool (decide (a = b)))
    | .neq => some (.bool (decide (a ≠ b)))
    | .lss => some (.bool (decide (a < b)))
    | .leq => some (.bool (decide (a ≤ b)))
    | .gtr => some (.bool (decide (b < a)))
    | .geq => some (.bool (decide (b ≤ a)))
    | _ => none
   else none
 | .str a, .str b =>
   match op with
   | .add => if a.size + b.size < 9223372036854775808 then some (.str (a ++ b)) else none
   | .eql => some (.bool (decide (a = b)))
   | .neq => some (.bool (decide (a ≠ b)))
   | .lss => some (.bool (Op.bytesLess a.data.toList b.data.toList))
   | _ => none
 | _, _ => none
def tv (op : BinOp) (x y : AV) : Option AV :=
 match x, y with
 | .int k a, .int _ b => if 0 ≤ b then
    match op with
    | .shl => some (.int k (k.wrap (a * 2 ^ (min b.toNat k.bits))))
    | .shr => some (.int k (a.fdiv (2 ^ (min b.toNat k.bits))))
    | _ => none
   else none
 | _, _ => none
def pV (neq : Bool) (x y : AV) : Option AV :=
 match x, y with
 | .bool a, .bool b => some (.bool (if neq then decide (a ≠ b) else decide (a = b)))
 | _, _ => none
def tw (kd : Nat) (neq : Bool) (x : AV) : Option AV :=
 match isNil kd x with
 | some b => some (.bool (if neq then !b else b))
 | none => none
def LB (op : UnOp) (x : AV) : Option AV :=
 match op, x with
 | .not, .bool b => some (.bool (!b))
 | .neg, .int k n => some (.int k (k.wrap (0 - n)))
 | _, _ => none
def ri (zs : List AV) : List (Nat × Nat × AV) → Option (List AV)
 | [] => some zs
 | (off, sz, x) :: r => if x.val = true ∧ x.cells.length = sz ∧ off + sz ≤ zs.length then ri (ag zs off (x.cells.map AV.ab)) r else none
def kF (xs : List AV) (esz : Nat) : List (Nat × AV) → Option (List AV)
 | [] => some xs
 | (i, x) :: r => if x.val = true ∧ x.cells.length = esz ∧ i < xs.length then kF (xs.set i (aS x)) esz r else none
def oY (sz : Option Nat) (x : AV) (H : List aa) : Option AV :=
 match x with
 | .ptr id off => match H[id]? with
   | some (.cells es) => match sz with
     | some m => if off + m ≤ es.length then some (.agg (((es.drop off).take m).map AV.drop)) else none
     | none => if off < es.length then some (es.getD off .any).ab else none
   | _ => none
 | .ai y => match sz with
   | some m => if y.cells.length = m then some (.agg y.cells) else none
   | none => if y.one = true then some y.ab else none
 | _ => none
def y7 (off : Nat) (sz : Option Nat) (xs : List AV) : Option AV :=
 match sz with
 | some m => if off + m ≤ xs.length then some (.agg ((xs.drop off).take m)) else none
 | none => if off < xs.length ∧ (xs.getD off .any).one = true then some (xs.getD off .any) else none
def jQ (off : Nat) (sz : Option Nat) (x : AV) : Option AV :=
 match x with
 | .ptr id o => some (.ptr id (o + off))
 | .ai y => (y7 off sz y.cells).map .ai
 | _ => none
def tx (off : Nat) (sz : Option Nat) (x : AV) : Option AV :=
 match x with
 | .agg xs => (y7 off sz xs).map AV.drop
 | _ => none
def uC (esz : Nat) (x : AV) : Bool :=
 match x with
 | .ap _ xs => xs.all fun z => z.cells.length == esz
 | _ => true
def jR (esz : Nat) (x i : AV) : Option AV :=
 match x, i with
 | .ap _ xs, .int _ i => if 0 ≤ i ∧ i.toNat < xs.length then some (.ai (xs.getD i.toNat .any)) else none
 | .bg id off len _, .int _ i => if 0 ≤ i ∧ i.toNat < len then some (.ptr id (off + i.toNat * esz)) else none
 | _, _ => none
def lE (n : Nat) (x i : AV) : Option AV :=
 match x, i with
 | .agg xs, .int _ i => if xs.length = n ∧ 0 ≤ i ∧ i.toNat < n then some (xs.getD i.toNat .any).drop else none
 | _, _ => none
def lF (x i : AV) : Option AV :=
 match x, i with
 | .str s, .int _ i => if 0 ≤ i ∧ i.toNat < s.size then some (.int .u8 (s.data.toList.getD i.toNat 0).toNat) else none
 | _, _ => none
def y8 (kd : Nat) (x : AV) : Bool :=
 match kd, x with
 | 0, .str _ => true
 | 1, .ah => true
 | 1, .ap _ _ => true
 | 1, .bg _ _ _ _ => true
 | 2, .iA => true
 | 2, .map _ => true
 | _, _ => false
def ES (x : AV) (H : List aa) : Option AV :=
 match x with
 | .str s => some (.int .i64 s.size)
 | .ah => some (.int .i64 0)
 | .ap _ xs => some (.int .i64 xs.length)
 | .bg _ _ len _ => some (.int .i64 len)
 | .iA => some (.int .i64 0)
 | .map id => match H[id]? with
   | some (.map es) => some (.int .i64 es.length)
   | _ => none
 | _ => none
def nQ (x : AV) (i : Nat) : Option AV :=
 match x with
 | .tuple xs => if i < xs.length then some (xs.getD i .any).ab else none
 | _ => none
def lG (x : AV) : Option AV :=
 match x with
 | .ptr .. | .ai _ => some x
 | .fn (.func _) _ _ => some x
 | _ => none
def nR (k : IntKind) (x : AV) : Option AV :=
 match x with
 | .int _ n => some (.int k (k.wrap n))
 | _ => none
def LC (big : Bool) (x y : AV) : Option AV :=
 match x, y with
 | .int k a, .int _ b => some (.int k (if big then (if b > a then b else a) else (if b < a then b else a)))
 | _, _ => none
def y9 (m : Nat) (p x : AV) (H : List aa) : Option (List aa) :=
 match p with
 | .ptr id off => match H[id]? with
   | some (.cells es) => if x.val = true ∧ x.cells.length = m ∧ off + m ≤ es.length ∧ x.cells.all AV.one = true ∧ aj (id + 1) (x.cells.map AV.ab) = true then
      some (H.set id (.cells (ag es off (x.cells.map AV.ab)))) else none
   | _ => none
 | _ => none
def rj (p x : AV) (H : List aa) : Option (List aa) :=
 match p with
 | .ptr id off => match H[id]? with
   | some (.cells es) => if off < es.length ∧ x.one = true ∧ x.aY (id + 1) = true then some (H.set id (.cells (es.set off x))) else none
   | _ => none
 | _ => none
def uD (esz bytes : Nat) (s x : AV) : Option (List AV) :=
 match me esz s, dE x with
 | some xs, some ys => if (xs.length + ys.length) * bytes ≤ 140737488355328 ∧ (ys.all fun y => y.cells.length == esz && y.cells.all AV.one) = true then some (xs ++ ys) else none
 | _, _ => none
def za (bytes : Nat) (z n : AV) (H : List aa) : Option (AV × List aa) :=
 match n with
 | .int .i64 n => if 0 ≤ n ∧ n.toNat * bytes ≤ 140737488355328 ∧ aj (H.length + 1) (flat (List.replicate n.toNat (bN z))) = true then
    some (.bg H.length 0 n.toNat n.toNat, H ++ [.cells (flat (List.replicate n.toNat (bN z)))]) else none
 | _ => none
def tA (esz bytes : Nat) (n : AV) : Option AV :=
 match n with
 | .int .i64 n => if 0 ≤ n ∧ n.toNat * bytes ≤ 140737488355328 then some (.ap esz []) else none
 | _ => none
def pW (x : Option AV) (d : Nat) : Option Nat :=
 match x with
 | none => some d
 | some (.int _ i) => if 0 ≤ i then some i.toNat else none
 | _ => none
def zc (esz : Nat) (x : AV) (lo hi mx : Option AV) : Option AV :=
 match dE x with
 | some xs => match pW hi xs.length, pW lo 0 with
   | some h, some l => if l ≤ h ∧ h ≤ xs.length then
      match mx with
      | none => some (.ap 0 ((xs.take h).drop l))
      | some m => match pW (some m) 0 with
        | some m => if hi.isSome = true ∧ m = h ∧ (xs.all fun y => y.cells.length == esz) = true then some (.ap esz ((xs.take h).drop l)) else none
        | none => none
     else none
   | _, _ => none
 | none => none
def Dr (esz : Nat) (d s : AV) (H : List aa) : Option (AV × List aa) :=
 match d, wv esz s H with
 | .bg id off len _, some (n, ys) => match H[id]? with
   | some (.cells es) => if (ys.take (min n len * esz)).all AV.one = true ∧ off + min n len * esz ≤ es.length ∧ aj (id + 1) ((ys.take (min n len * esz)).map AV.ab) = true then
      some (.int .i64 (min n len : Nat), H.set id (.cells (ag es off ((ys.take (min n len * esz)).map AV.ab)))) else none
   | _ => none
 | _, _ => none
def oZ (esz : Nat) (x : AV) (H : List aa) : Option (AV × List aa) :=
 match x with
 | .bg id off len cap => match H[id]? with
   | some (.cells es) => if 0 < esz ∧ len ≤ cap ∧ off + len * esz ≤ es.length ∧ (es.drop off).all AV.one = true then some (.ap 0 (chunks esz len (es.drop off)), H.set id .dead) else none
   | _ => none
 | .any => none
 | .agg _ => none
 | .ptr _ _ => none
 | .ol => none
 | x => some (x.ab, H)
def lH (esz : Nat) : List AV → List aa → Option (List AV × List aa)
 | [], H => some ([], H)
 | .agg _ :: _, _ => none
 | x :: r, H => match oZ esz x H with
   | some (y, H') => match lH esz r H' with
     | some (ys, H'') => some (y :: ys, H'')
     | none => none
   | none => none
def zd (esz : Nat) (x : AV) (H : List aa) : Option (AV × List aa) :=
 match x with
 | .agg xs => match lH esz xs H with
   | some (ys, H') => some (.agg ys, H')
   | none => none
 | x => oZ esz x H
def pX (esz : Nat) (x : AV) (lo hi mx : Option AV) : Option AV :=
 match x with
 | .bg id off len cap => match mx, pW hi len, pW lo 0 with
   | none, some h, some l => if l ≤ h ∧ h ≤ cap then some (.bg id (if cap = l then off else off + l * esz) (h - l) (cap - l)) else none
   | _, _, _ => none
 | x => if uC esz x = true then zc esz x lo hi mx else none
def lI (x : AV) (lo hi : Option AV) : Option AV :=
 match x with
 | .str s => match pW hi s.size, pW lo 0 with
   | some h, some l => if l ≤ h ∧ h ≤ s.size then some (.str (s.extract l h)) else none
   | _, _ => none
 | _ => none
def nS (x : AV) : Option AV := match x with | .str s => some (.str s) | _ => none
def uE : List AV → Option (List UInt8)
 | [] => some []
 | .int .u8 n :: r => match uE r with
   | some l => if 0 ≤ n ∧ n < 256 then some (UInt8.ofNat n.toNat :: l) else none
   | none => none
 | _ => none
def tB (x : AV) : Option AV :=
 match dE x with
 | some ys => match uE ys with
   | some l => some (.str ⟨l.toArray⟩)
   | none => none
 | none => none
def nT (own : Nat) (x : AV) : Option AV :=
 match x with
 | .str s => if s.size < 9223372036854775808 then some (.ap own (bh s.data.toList)) else none
 | _ => none
def pY (kd : Nat) (zero m k : AV) (ok : Bool) (H : List aa) : Option AV :=
 match m with
 | .iA => if cN kd k k = some true then some (if ok then .tuple [aS zero, .bool false] else aS zero) else none
 | .map id => match H[id]? with
   | some (.map es) => match dL kd k es 0 with
     | some (some (_, v)) => some (if ok then .tuple [v.drop, .bool true] else v.drop)
     | some none => if cN kd k k = some true then some (if ok then .tuple [aS zero, .bool false] else aS zero) else none
     | none => none
   | _ => none
 | _ => none
def uF (kd : Nat) (m k x : AV) (H : List aa) : Option (List aa) :=
 match m with
 | .map id => match H[id]? with
   | some (.map es) => if k.aY (id + 1) = true ∧ x.aY (id + 1) = true ∧ x.val = true then match dL kd k es 0 with
      | some (some (i, _)) => some (H.set id (.map (es.set i (k, aS x))))
      | some none => if cN kd k k = some true then some (H.set id (.map (es ++ [(k, aS x)]))) else none
      | none => none
     else none
   | _ => none
 | _ => none
section
variable {z : AV} {φ : AV → Prop}
theorem ET {op : BinOp} {x y : AV} (h : ER op x y = some z) (hφ : φ z) : cT op x y φ := by
 unfold ER at h
 split at h
 ·split at h <;> try cases h
  rename_i hk
  refine ⟨hk, ?_⟩
  split at h <;> first | (cases h; exact hφ) | (split at h <;> cases h; exact ⟨by assumption, hφ⟩) | cases h
 ·split at h <;> first | (cases h; exact hφ) | (split at h <;> cases h; exact ⟨by assumption, hφ⟩) | cases h
 ·cases h
theorem xp {op : BinOp} {x y : AV} (h : tv op x y = some z) (hφ : φ z) : dI op x y φ := by
 unfold tv at h
 split at h <;> try cases h
 split at h <;> try cases h
 rename_i hb
 refine ⟨hb, ?_⟩
 split at h <;> cases h <;> exact hφ
theorem uG {neq : Bool} {x y : AV} (h : pV neq x y = some z) (hφ : φ z) : cn neq x y φ := by
 unfold pV at h; unfold cn
 split at h <;> cases h <;> exact hφ
theorem xq {kd : Nat} {neq : Bool} {x : AV} (h : tw kd neq x = some z) (hφ : φ z) : dc kd neq x φ := by
 unfold tw at h; unfold dc
 split at h <;> cases h
 rename_i hb; rw [hb]; exact hφ
theorem Ir {op : UnOp} {x : AV} (h : LB op x = some z) (hφ : φ z) : yx op x φ := by
 unfold LB at h; unfold yx
 split at h <;> cases h <;> exact hφ
theorem uH {φ : List AV → Prop} {r : List AV} (hφ : φ r) : ∀ {ps : List (Nat × Nat × AV)} {zs : List AV}, ri zs ps = some r → gG zs ps φ
 | [], zs, h => by simp only [ri] at h; cases h; exact hφ
 | (off, sz, x) :: ps, zs, h => by
   simp only [ri] at h
   split at h <;> try cases h
   rename_i hc
   exact ⟨hc.1, hc.2.1, hc.2.2, uH hφ h⟩
theorem o6 {esz : Nat} {φ : List AV → Prop} {r : List AV} (hφ : φ r) : ∀ {ps : List (Nat × AV)} {zs : List AV}, kF zs esz ps = some r → bi zs esz ps φ
 | [], zs, h => by simp only [kF] at h; cases h; exact hφ
 | (i, x) :: ps, zs, h => by
   simp only [kF] at h
   split at h <;> try cases h
   rename_i hc
   exact ⟨hc.1, hc.2.1, hc.2.2, o6 hφ h⟩
theorem m8 {sz : Option Nat} {x : AV} {H : List aa} (h : oY sz x H = some z) (hφ : φ z) : aR sz x H φ := by
 unfold oY at h; unfold aR
 split at h <;> try cases h
 ·split at h <;> try cases h
  rename_i bm
  simp only [bm]
  split at h <;> (split at h <;> cases h) <;> exact ⟨by assumption, hφ⟩
 ·simp only
  split at h <;> (split at h <;> cases h) <;> exact ⟨by assumption, hφ⟩
theorem Bc {off : Nat} {sz : Option Nat} {xs : List AV} (h : y7 off sz xs = some z) (hφ : φ z) : apart off sz xs φ := by
 unfold y7 at h; unfold apart
 split at h <;> split at h <;> cases h
 ·exact ⟨by assumption, hφ⟩
 ·rename_i hc; exact ⟨hc.1, hc.2, hφ⟩
theorem oE {off : Nat} {sz : Option Nat} {x : AV} (h : jQ off sz x = some z) (hφ : φ z) : ak off sz x φ := by
 unfold jQ at h; unfold ak
 split at h <;> try cases h
 ·exact hφ
 ·obtain ⟨u, hu, rfl⟩ := Option.map_eq_some_iff.1 h
  exact Bc hu hφ
theorem xr {off : Nat} {sz : Option Nat} {x : AV} (h : tx off sz x = some z) (hφ : φ z) : eH off sz x φ := by
 unfold tx at h; unfold eH
 split at h <;> try cases h
 obtain ⟨u, hu, rfl⟩ := Option.map_eq_some_iff.1 h
 exact Bc hu hφ
theorem uI {esz : Nat} {x : AV} (h : uC esz x = true) : ∀ own xs, x = .ap own xs → ∀ z ∈ xs, z.cells.length = esz := by
 intro own xs e z hz
 subst e
 simp only [uC, List.all_eq_true, beq_iff_eq] at h
 exact h z hz
theorem oF {esz : Nat} {x i : AV} (h : jR esz x i = some z) (hφ : φ z) : ay esz x i φ := by
 unfold jR at h; unfold ay
 split at h <;> try cases h
 ·split at h <;> cases h
  rename_i hc; exact ⟨hc.1, hc.2, hφ⟩
 ·split at h <;> cases h
  rename_i hc; exact ⟨hc.1, hc.2, hφ⟩
theorem pZ {x i : AV} (h : lF x i = some z) (hφ : φ z) : bH x i φ := by
 unfold lF at h; unfold bH
 split at h <;> try cases h
 split at h <;> cases h
 rename_i hc; exact ⟨hc.1, hc.2, hφ⟩
theorem qc {n : Nat} {x i : AV} (h : lE n x i = some z) (hφ : φ z) : bQ n x i φ := by
 unfold lE at h; unfold bQ
 split at h <;> try cases h
 split at h <;> cases h
 rename_i hc; exact ⟨hc.1, hc.2.1, hc.2.2, hφ⟩
theorem Bd {kd : Nat} {x : AV} (h : y8 kd x = true) : aL kd x := by
 unfold y8 at h; unfold aL
 split at h <;> first | trivial | cases h
theorem EU {x : AV} {H : List aa} (h : ES x H = some z) (hφ : φ z) : eU x H φ := by
 unfold ES at h; unfold eU
 split at h <;> try cases h
 ·exact hφ
 ·exact hφ
 ·exact fun _ => hφ
 ·exact hφ
 ·exact hφ
 ·split at h <;> cases h
  rename_i bm
  simp only [bm]; exact hφ
theorem sE {x : AV} {i : Nat} (h : nQ x i = some z) (hφ : φ z) : bC x i φ := by
 unfold nQ at h; unfold bC
 split at h <;> try cases h
 split at h <;> cases h
 exact ⟨by assumption, hφ⟩
theorem qd {x : AV} (h : lG x = some z) (hφ : φ z) : bR x φ := by
 unfold lG at h; unfold bR
 split at h <;> cases h <;> exact hφ
theorem sF {k : IntKind} {x : AV} (h : nR k x = some z) (hφ : φ z) : cp k x φ := by
 unfold nR at h; unfold cp
 split at h <;> cases h <;> exact hφ
theorem Is {big : Bool} {x y : AV} (h : LC big x y = some z) (hφ : φ z) : we big x y φ := by
 unfold LC at h; unfold we
 split at h <;> cases h <;> exact hφ
theorem Gh {m : Nat} {p x : AV} {H H' : List aa} {K : List aa → Prop} (h : y9 m p x H = some H') (hK : K H') : gO m p x H K := by
 unfold y9 at h; unfold gO
 split at h <;> try cases h
 split at h <;> try cases h
 rename_i bm
 split at h <;> cases h
 rename_i hc
 simp only [bm]
 exact ⟨hc.1, hc.2.1, hc.2.2.1, hc.2.2.2.1, hc.2.2.2.2, hK⟩
theorem Be {p x : AV} {H H' : List aa} {K : List aa → Prop} (h : rj p x H = some H') (hK : K H') : dJ p x H K := by
 unfold rj at h; unfold dJ
 split at h <;> try cases h
 split at h <;> try cases h
 rename_i bm
 split at h <;> cases h
 rename_i hc
 simp only [bm]
 exact ⟨hc.1, hc.2.1, hc.2.2, hK⟩
theorem Ds {esz bytes : Nat} {s x : AV} {r : List AV} {φ : List AV → Prop} (h : uD esz bytes s x = some r) (hφ : φ r) : bE esz bytes s x φ := by
 unfold uD at h; unfold bE
 split at h <;> try cases h
 rename_i xs ys h1 h2
 split at h <;> cases h
 rename_i hc
 simp only [h1, h2]
 refine ⟨hc.1, ?_, hφ⟩
 intro y hy
 have := List.all_eq_true.1 hc.2 y hy
 simpa using this
theorem Gi {esz bytes : Nat} {x n : AV} {H H' : List aa} {K : AV → List aa → Prop} (h : za bytes x n H = some (z, H')) (hK : K z H') : fL esz bytes x n H K := by
 unfold za at h; unfold fL
 split at h <;> try cases h
 split at h <;> cases h
 rename_i hc
 exact ⟨hc.1, hc.2.1, hc.2.2, hK⟩
theorem xt {esz bytes : Nat} {n : AV} (h : tA esz bytes n = some z) (hφ : φ z) : iF esz bytes n φ := by
 unfold tA at h; unfold iF
 split at h <;> try cases h
 split at h <;> cases h
 rename_i hc
 exact ⟨hc.1, hc.2, hφ⟩
theorem lJ {x : Option AV} {d k : Nat} {φ : Nat → Prop} (h : pW x d = some k) (hφ : φ k) : dK x d φ := by
 unfold pW at h; unfold dK
 split at h
 ·cases h; exact hφ
 ·split at h <;> cases h
  rename_i hc
  exact ⟨hc, hφ⟩
 ·cases h
theorem Gj {esz : Nat} {x : AV} {lo hi mx : Option AV} (h : zc esz x lo hi mx = some z) (hφ : φ z) : fm esz x lo hi mx φ := by
 unfold zc at h; unfold fm
 split at h <;> try cases h
 rename_i xs fp
 simp only [fp]
 split at h <;> try cases h
 rename_i hh ll h1 h2
 split at h <;> try cases h
 rename_i hc
 refine lJ h1 (lJ h2 ⟨hc.1, hc.2, ?_⟩)
 split at h
 ·cases h; exact hφ
 ·split at h <;> try cases h
  rename_i m hm
  split at h <;> cases h
  rename_i hc
  refine ⟨hc.1, lJ hm ⟨hc.2.1, ?_, hφ⟩⟩
  intro y hy
  have := List.all_eq_true.1 hc.2.2 y hy
  simpa using this
theorem It {esz : Nat} {d s : AV} {H H' : List aa} {K : AV → List aa → Prop} (h : Dr esz d s H = some (z, H')) (hK : K z H') : jl esz d s H K := by
 unfold Dr at h; unfold jl
 split at h <;> try cases h
 rename_i hs
 split at h <;> try cases h
 rename_i bm
 split at h <;> cases h
 rename_i hc
 simp only [hs, bm]
 exact ⟨hc.1, hc.2.1, hc.2.2, hK⟩
theorem uJ {esz : Nat} {x : AV} {H H' : List aa} {K : AV → List aa → Prop} (h : oZ esz x H = some (z, H')) (hK : K z H') : fc esz x H K := by
 unfold oZ at h; unfold fc
 split at h
 ·split at h <;> try cases h
  rename_i bm
  split at h <;> cases h
  rename_i hc
  simp only [dB, bm]
  exact ⟨hc.1, hc.2.1, hc.2.2.1, hc.2.2.2, hK⟩
 ·cases h
 ·cases h
 ·cases h
 ·cases h
 ·rename_i h1 h2 h3 h4 h5
  cases h
  cases x <;> first | exact hK | exact absurd rfl h2 | exact absurd rfl h5 | exact absurd rfl (h1 _ _ _ _) | exact absurd rfl (h3 _) | exact absurd rfl (h4 _ _)
theorem Gk {esz : Nat} {x : AV} {H H' : List aa} {K : AV → List aa → Prop} (hx : ∀ xs, x ≠ .agg xs) (h : oZ esz x H = some (z, H')) (hK : K z H') : dB esz x H K := by
 have := uJ (K := K) h hK
 unfold fc at this
 split at this
 ·exact absurd rfl (hx _)
 ·cases h
 ·exact this
theorem xu {esz : Nat} : ∀ {xs : List AV} {H H' : List aa} {ys : List AV} {K : List AV → List aa → Prop}, lH esz xs H = some (ys, H') → K ys H' → jm esz xs H K
 | [], H, H', ys, K, h, hK => by simp only [lH] at h; cases h; exact hK
 | x :: r, H, H', ys, K, h, hK => by
   have hx : ∀ xs, x ≠ .agg xs := fun xs e => by subst e; simp [lH] at h
   have h' : (match oZ esz x H with
    | some (y, H') => match lH esz r H' with
      | some (ys, H'') => some (y :: ys, H'')
      | none => none
    | none => none) = some (ys, H') := by
    cases x <;> first | exact absurd rfl (hx _) | (simpa only [lH] using h)
   split at h' <;> try cases h'
   rename_i y H1 h1
   split at h' <;> cases h'
   rename_i ys' h2
   exact Gk (K := fun y H' => jm esz r H' fun ys H'' => K (y :: ys) H'') hx h1 (xu (K := fun ys H'' => K (y :: ys) H'') h2 hK)
theorem Gl {esz : Nat} {x : AV} {H H' : List aa} {K : AV → List aa → Prop} (h : zd esz x H = some (z, H')) (hK : K z H') : fc esz x H K := by
 unfold zd at h
 split at h
 ·split at h <;> cases h
  rename_i ys hs
  exact xu (K := fun ys H' => K (.agg ys) H') hs hK
 ·exact uJ h hK
theorem uK {esz : Nat} {x : AV} {lo hi mx : Option AV} (h : pX esz x lo hi mx = some z) (hφ : φ z) : bA esz x lo hi mx φ := by
 unfold pX at h; unfold bA
 split at h
 ·split at h <;> try cases h
  rename_i h1 h2
  split at h <;> cases h
  rename_i hc
  simp only
  unfold gf
  exact lJ h1 (lJ h2 ⟨hc.1, hc.2, hφ⟩)
 ·rename_i eo
  split at h <;> try cases h
  rename_i hl
  split
  ·exact absurd rfl (eo _ _ _ _)
  ·exact ⟨uI hl, Gj h hφ⟩
theorem qe {x : AV} {lo hi : Option AV} (h : lI x lo hi = some z) (hφ : φ z) : bZ x lo hi φ := by
 unfold lI at h; unfold bZ
 split at h <;> try cases h
 split at h <;> try cases h
 rename_i hh ll h1 h2
 split at h <;> cases h
 rename_i hc
 exact lJ h1 (lJ h2 ⟨hc.1, hc.2, hφ⟩)
theorem sG {x : AV} (h : nS x = some z) (hφ : φ z) : fw x φ := by
 unfold nS at h; unfold fw
 split at h <;> cases h <;> exact hφ
theorem Bf : ∀ {ys : List AV} {l : List UInt8}, uE ys = some l → ys = bh l
 | [], l, h => by simp only [uE] at h; cases h; rfl
 | y :: ys, l, h => by
   unfold uE at h
   split at h
   ·rename_i e; cases e
   ·rename_i n r e
    cases e
    split at h <;> try cases h
    rename_i l' hl
    split at h <;> cases h
    rename_i hn
    have := Bf hl
    subst this
    simp only [bh, List.map_cons]
    congr 1
    have : (UInt8.ofNat n.toNat).toNat = n.toNat := by
     rw [UInt8.toNat_ofNat']
     exact Nat.mod_eq_of_lt (by have : (2:Nat)^8 = 256 := rfl
                                omega)
    rw [this]
    congr 1
    omega
   ·cases h
theorem xv {x : AV} (h : tB x = some z) (hφ : φ z) : jk x φ := by
 unfold tB at h; unfold jk
 split at h <;> try cases h
 rename_i ys py
 split at h <;> cases h
 rename_i l hl
 simp only [py]
 exact ⟨l, Bf hl, hφ⟩
theorem sH {own : Nat} {x : AV} (h : nT own x = some z) (hφ : φ z) : eK own x φ := by
 unfold nT at h; unfold eK
 split at h <;> try cases h
 split at h <;> cases h
 exact ⟨by assumption, hφ⟩
theorem uL {kd : Nat} {zero m k : AV} {ok : Bool} {H : List aa} (h : pY kd zero m k ok H = some z) (hφ : φ z) : ca kd zero m k ok H φ := by
 unfold pY at h; unfold ca
 split at h <;> try cases h
 ·split at h <;> cases h
  exact ⟨by assumption, hφ⟩
 ·split at h <;> try cases h
  rename_i bm
  simp only [bm]
  split at h
  ·rename_i hf; cases h; simp only [hf]; exact hφ
  ·rename_i hf
   split at h <;> cases h
   simp only [hf]
   exact ⟨by assumption, hφ⟩
  ·cases h
theorem Dt {kd : Nat} {m k x : AV} {H H' : List aa} {K : List aa → Prop} (h : uF kd m k x H = some H') (hK : K H') : eX kd m k x H K := by
 unfold uF at h; unfold eX
 split at h <;> try cases h
 split at h <;> try cases h
 rename_i bm
 simp only [bm]
 split at h <;> try cases h
 rename_i hc
 refine ⟨hc.1, hc.2.1, hc.2.2, ?_⟩
 split at h
 ·rename_i hf; cases h; simp only [hf]; exact hK
 ·rename_i hf
  split at h <;> cases h
  simp only [hf]
  exact ⟨by assumption, hK⟩
 ·cases h
end
end Go.aK
