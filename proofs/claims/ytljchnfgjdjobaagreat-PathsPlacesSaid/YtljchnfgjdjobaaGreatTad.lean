/- A memory-free reading of the model's values (part 19): operations that are run. -/
import Derived.Test.YtljchnfgjdjobaaGreatTac
set_option linter.unusedVariables false
set_option linter.unusedSimpArgs false
set_option linter.defProp false
set_option linter.unusedSectionVars false
namespace Go.aL
open Go
def abf : AV → Option Bool | .bool b => some b | _ => none
def E6 (op : BinOp) (x y : AV) : Option AV :=
 match x, y with
 | .int k a, .int k' b => if k = k' then
    match op with
    | .add => some (.int k (k.wrap (a + b)))
    | .sub => some (.int k (k.wrap (a - b)))
    | .mul => some (.int k (k.wrap (a * b)))
    | .quo => if b ≠ 0 then some (.int k (k.wrap (a.tdiv b))) else none
    | .rem => if b ≠ 0 then some (.int k (a.tmod b)) else none
    | .and => some (.int k (k.wrap (BitVec.ofInt k.bits a &&& BitVec.ofInt k.bits b).toNat))
    | .or => some (.int k (k.wrap (BitVec.ofInt k.bits a ||| BitVec.ofInt k.bits b).toNat))
    | .eql => some (.bool (decide (a = b)))
    | .neq => some (.bool (decide (a ≠ b)))
    | .lss => some (.bool (decide (a < b)))
    | .leq => some (.bool (decide (a ≤ b)))
    | .gtr => some (.bool (decide (b < a)))
    | .geq => some (.bool (decide (b ≤ a)))
    | _ => none
   else none
 | .str a, .str b =>
   match op with
   | .add => if a.size + b.size < 9223372036854775808 then some (.str (a ++ b)) else none
   | .eql => some (.bool (decide (a = b)))
   | .neq => some (.bool (decide (a ≠ b)))
   | .lss => some (.bool (Op.bytesLess a.data.toList b.data.toList))
   | _ => none
 | _, _ => none
def tG (op : BinOp) (x y : AV) : Option AV :=
 match x, y with
 | .int k a, .int _ b => if 0 ≤ b then
    match op with
    | .shl => some (.int k (k.wrap (a * 2 ^ (min b.toNat k.bits))))
    | .shr => some (.int k (a.fdiv (2 ^ (min b.toNat k.bits))))
    | _ => none
   else none
 | _, _ => none
def pX (neq : Bool) (x y : AV) : Option AV :=
 match x, y with
 | .bool a, .bool b => some (.bool (if neq then decide (a ≠ b) else decide (a = b)))
 | _, _ => none
def tH (kd : Nat) (neq : Bool) (x : AV) : Option AV :=
 match isNil kd x with
 | some b => some (.bool (if neq then !b else b))
 | none => none
def LW (op : UnOp) (x : AV) : Option AV :=
 match op, x with
 | .not, .bool b => some (.bool (!b))
 | .neg, .int k n => some (.int k (k.wrap (0 - n)))
 | _, _ => none
def rk (zs : List AV) : List (Nat × Nat × AV) → Option (List AV)
 | [] => some zs
 | (off, sz, x) :: r => if x.val = true ∧ x.cells.length = sz ∧ off + sz ≤ zs.length then rk (ai zs off (x.cells.map AV.ae)) r else none
def kJ (xs : List AV) (esz : Nat) : List (Nat × AV) → Option (List AV)
 | [] => some xs
 | (i, x) :: r => if x.val = true ∧ x.cells.length = esz ∧ i < xs.length then kJ (xs.set i (aT x)) esz r else none
def oZ (sz : Option Nat) (x : AV) (H : List aa) : Option AV :=
 match x with
 | .ptr id off => match H[id]? with
   | some (.cells es) => match sz with
     | some m => if off + m ≤ es.length then some (.agg (((es.drop off).take m).map AV.drop)) else none
     | none => if off < es.length then some (es.getD off .any).ae else none
   | _ => none
 | .aj y => match sz with
   | some m => if y.cells.length = m then some (.agg y.cells) else none
   | none => if y.one = true then some y.ae else none
 | _ => none
def zg (off : Nat) (sz : Option Nat) (xs : List AV) : Option AV :=
 match sz with
 | some m => if off + m ≤ xs.length then some (.agg ((xs.drop off).take m)) else none
 | none => if off < xs.length ∧ (xs.getD off .any).one = true then some (xs.getD off .any) else none
def jW (off : Nat) (sz : Option Nat) (x : AV) : Option AV :=
 match x with
 | .ptr id o => some (.ptr id (o + off))
 | .aj y => (zg off sz y.cells).map .aj
 | _ => none
def tI (off : Nat) (sz : Option Nat) (x : AV) : Option AV :=
 match x with
 | .agg xs => (zg off sz xs).map AV.drop
 | _ => none
def uO (esz : Nat) (x : AV) : Bool :=
 match x with
 | .aq _ xs => xs.all fun z => z.cells.length == esz
 | _ => true
def jX (esz : Nat) (x i : AV) : Option AV :=
 match x, i with
 | .aq _ xs, .int _ i => if 0 ≤ i ∧ i.toNat < xs.length then some (.aj (xs.getD i.toNat .any)) else none
 | .bg id off len _, .int _ i => if 0 ≤ i ∧ i.toNat < len then some (.ptr id (off + i.toNat * esz)) else none
 | _, _ => none
def lG (n : Nat) (x i : AV) : Option AV :=
 match x, i with
 | .agg xs, .int _ i => if xs.length = n ∧ 0 ≤ i ∧ i.toNat < n then some (xs.getD i.toNat .any).drop else none
 | _, _ => none
def lH (x i : AV) : Option AV :=
 match x, i with
 | .str s, .int _ i => if 0 ≤ i ∧ i.toNat < s.size then some (.int .u8 (s.data.toList.getD i.toNat 0).toNat) else none
 | _, _ => none
def zh (kd : Nat) (x : AV) : Bool :=
 match kd, x with
 | 0, .str _ => true
 | 1, .ah => true
 | 1, .aq _ _ => true
 | 1, .bg _ _ _ _ => true
 | 2, .iE => true
 | 2, .map _ => true
 | _, _ => false
def E7 (x : AV) (H : List aa) : Option AV :=
 match x with
 | .str s => some (.int .i64 s.size)
 | .ah => some (.int .i64 0)
 | .aq _ xs => some (.int .i64 xs.length)
 | .bg _ _ len _ => some (.int .i64 len)
 | .iE => some (.int .i64 0)
 | .map id => match H[id]? with
   | some (.map es) => some (.int .i64 es.length)
   | _ => none
 | _ => none
def nQ (x : AV) (i : Nat) : Option AV :=
 match x with
 | .tuple xs => if i < xs.length then some (xs.getD i .any).ae else none
 | _ => none
def lI (x : AV) : Option AV :=
 match x with
 | .ptr .. | .aj _ => some x
 | .fn (.func _) _ _ => some x
 | _ => none
def nR (k : IntKind) (x : AV) : Option AV :=
 match x with
 | .int _ n => some (.int k (k.wrap n))
 | _ => none
def LX (big : Bool) (x y : AV) : Option AV :=
 match x, y with
 | .int k a, .int _ b => some (.int k (if big then (if b > a then b else a) else (if b < a then b else a)))
 | _, _ => none
def zi (m : Nat) (p x : AV) (H : List aa) : Option (List aa) :=
 match p with
 | .ptr id off => match H[id]? with
   | some (.cells es) => if x.val = true ∧ x.cells.length = m ∧ off + m ≤ es.length ∧ x.cells.all AV.one = true ∧ ak (id + 1) (x.cells.map AV.ae) = true then
      some (H.set id (.cells (ai es off (x.cells.map AV.ae)))) else none
   | _ => none
 | _ => none
def rn (p x : AV) (H : List aa) : Option (List aa) :=
 match p with
 | .ptr id off => match H[id]? with
   | some (.cells es) => if off < es.length ∧ x.one = true ∧ x.aZ (id + 1) = true then some (H.set id (.cells (es.set off x))) else none
   | _ => none
 | _ => none
def uP (esz bytes : Nat) (s x : AV) : Option (List AV) :=
 match mc esz s, dE x with
 | some xs, some ys => if (xs.length + ys.length) * bytes ≤ 140737488355328 ∧ (ys.all fun y => y.cells.length == esz && y.cells.all AV.one) = true then some (xs ++ ys) else none
 | _, _ => none
def zj (bytes : Nat) (z n : AV) (H : List aa) : Option (AV × List aa) :=
 match n with
 | .int .i64 n => if 0 ≤ n ∧ n.toNat * bytes ≤ 140737488355328 ∧ ak (H.length + 1) (flat (List.replicate n.toNat (bO z))) = true then
    some (.bg H.length 0 n.toNat n.toNat, H ++ [.cells (flat (List.replicate n.toNat (bO z)))]) else none
 | _ => none
def tJ (esz bytes : Nat) (n : AV) : Option AV :=
 match n with
 | .int .i64 n => if 0 ≤ n ∧ n.toNat * bytes ≤ 140737488355328 then some (.aq esz []) else none
 | _ => none
def pY (x : Option AV) (d : Nat) : Option Nat :=
 match x with
 | none => some d
 | some (.int _ i) => if 0 ≤ i then some i.toNat else none
 | _ => none
def zk (esz : Nat) (x : AV) (lo hi mx : Option AV) : Option AV :=
 match dE x with
 | some xs => match pY hi xs.length, pY lo 0 with
   | some h, some l => if l ≤ h ∧ h ≤ xs.length then
      match mx with
      | none => some (.aq 0 ((xs.take h).drop l))
      | some m => match pY (some m) 0 with
        | some m => if hi.isSome = true ∧ m = h ∧ (xs.all fun y => y.cells.length == esz) = true then some (.aq esz ((xs.take h).drop l)) else none
        | none => none
     else none
   | _, _ => none
 | none => none
def DG (esz : Nat) (d s : AV) (H : List aa) : Option (AV × List aa) :=
 match d, wE esz s H with
 | .bg id off len _, some (n, ys) => match H[id]? with
   | some (.cells es) => if (ys.take (min n len * esz)).all AV.one = true ∧ off + min n len * esz ≤ es.length ∧ ak (id + 1) ((ys.take (min n len * esz)).map AV.ae) = true then
      some (.int .i64 (min n len : Nat), H.set id (.cells (ai es off ((ys.take (min n len * esz)).map AV.ae)))) else none
   | _ => none
 | _, _ => none
def o6 (esz : Nat) (x : AV) (H : List aa) : Option (AV × List aa) :=
 match x with
 | .bg id off len cap => match H[id]? with
   | some (.cells es) => if 0 < esz ∧ len ≤ cap ∧ off + len * esz ≤ es.length ∧ (es.drop off).all AV.one = true then some (.aq 0 (chunks esz len (es.drop off)), H.set id .dead) else none
   | _ => none
 | .any => none
 | .agg _ => none
 | .ptr _ _ => none
 | .oo => none
 | x => some (x.ae, H)
def lJ (esz : Nat) : List AV → List aa → Option (List AV × List aa)
 | [], H => some ([], H)
 | .agg _ :: _, _ => none
 | x :: r, H => match o6 esz x H with
   | some (y, H') => match lJ esz r H' with
     | some (ys, H'') => some (y :: ys, H'')
     | none => none
   | none => none
def zm (esz : Nat) (x : AV) (H : List aa) : Option (AV × List aa) :=
 match x with
 | .agg xs => match lJ esz xs H with
   | some (ys, H') => some (.agg ys, H')
   | none => none
 | x => o6 esz x H
def pZ (esz : Nat) (x : AV) (lo hi mx : Option AV) : Option AV :=
 match x with
 | .bg id off len cap => match mx, pY hi len, pY lo 0 with
   | none, some h, some l => if l ≤ h ∧ h ≤ cap then some (.bg id (if cap = l then off else off + l * esz) (h - l) (cap - l)) else none
   | _, _, _ => none
 | x => if uO esz x = true then zk esz x lo hi mx else none
def lK (x : AV) (lo hi : Option AV) : Option AV :=
 match x with
 | .str s => match pY hi s.size, pY lo 0 with
   | some h, some l => if l ≤ h ∧ h ≤ s.size then some (.str (s.extract l h)) else none
   | _, _ => none
 | _ => none
def nS (x : AV) : Option AV := match x with | .str s => some (.str s) | _ => none
def uQ : List AV → Option (List UInt8)
 | [] => some []
 | .int .u8 n :: r => match uQ r with
   | some l => if 0 ≤ n ∧ n < 256 then some (UInt8.ofNat n.toNat :: l) else none
   | none => none
 | _ => none
def tK (x : AV) : Option AV :=
 match dE x with
 | some ys => match uQ ys with
   | some l => some (.str ⟨l.toArray⟩)
   | none => none
 | none => none
def nT (own : Nat) (x : AV) : Option AV :=
 match x with
 | .str s => if s.size < 9223372036854775808 then some (.aq own (bi s.data.toList)) else none
 | _ => none
def qc (kd : Nat) (zero m k : AV) (ok : Bool) (H : List aa) : Option AV :=
 match m with
 | .iE => if cP kd k k = some true then some (if ok then .tuple [aT zero, .bool false] else aT zero) else none
 | .map id => match H[id]? with
   | some (.map es) => match dM kd k es 0 with
     | some (some (_, v)) => some (if ok then .tuple [v.drop, .bool true] else v.drop)
     | some none => if cP kd k k = some true then some (if ok then .tuple [aT zero, .bool false] else aT zero) else none
     | none => none
   | _ => none
 | _ => none
def uR (kd : Nat) (m k x : AV) (H : List aa) : Option (List aa) :=
 match m with
 | .map id => match H[id]? with
   | some (.map es) => if k.aZ (id + 1) = true ∧ x.aZ (id + 1) = true ∧ x.val = true then match dM kd k es 0 with
      | some (some (i, _)) => some (H.set id (.map (es.set i (k, aT x))))
      | some none => if cP kd k k = some true then some (H.set id (.map (es ++ [(k, aT x)]))) else none
      | none => none
     else none
   | _ => none
 | _ => none
section
variable {z : AV} {φ : AV → Prop}
theorem E8 {op : BinOp} {x y : AV} (h : E6 op x y = some z) (hφ : φ z) : cV op x y φ := by
 unfold E6 at h
 split at h
 ·split at h <;> try cases h
  rename_i hk
  refine ⟨hk, ?_⟩
  split at h <;> first | (cases h; exact hφ) | (split at h <;> cases h; exact ⟨by assumption, hφ⟩) | cases h
 ·split at h <;> first | (cases h; exact hφ) | (split at h <;> cases h; exact ⟨by assumption, hφ⟩) | cases h
 ·cases h
theorem xy {op : BinOp} {x y : AV} (h : tG op x y = some z) (hφ : φ z) : dJ op x y φ := by
 unfold tG at h
 split at h <;> try cases h
 split at h <;> try cases h
 rename_i hb
 refine ⟨hb, ?_⟩
 split at h <;> cases h <;> exact hφ
theorem uS {neq : Bool} {x y : AV} (h : pX neq x y = some z) (hφ : φ z) : cM neq x y φ := by
 unfold pX at h; unfold cM
 split at h <;> cases h <;> exact hφ
theorem xz {kd : Nat} {neq : Bool} {x : AV} (h : tH kd neq x = some z) (hφ : φ z) : dc kd neq x φ := by
 unfold tH at h; unfold dc
 split at h <;> cases h
 rename_i hb; rw [hb]; exact hφ
theorem IG {op : UnOp} {x : AV} (h : LW op x = some z) (hφ : φ z) : yE op x φ := by
 unfold LW at h; unfold yE
 split at h <;> cases h <;> exact hφ
theorem uT {φ : List AV → Prop} {r : List AV} (hφ : φ r) : ∀ {ps : List (Nat × Nat × AV)} {zs : List AV}, rk zs ps = some r → gk zs ps φ
 | [], zs, h => by simp only [rk] at h; cases h; exact hφ
 | (off, sz, x) :: ps, zs, h => by
   simp only [rk] at h
   split at h <;> try cases h
   rename_i hc
   exact ⟨hc.1, hc.2.1, hc.2.2, uT hφ h⟩
theorem o7 {esz : Nat} {φ : List AV → Prop} {r : List AV} (hφ : φ r) : ∀ {ps : List (Nat × AV)} {zs : List AV}, kJ zs esz ps = some r → bk zs esz ps φ
 | [], zs, h => by simp only [kJ] at h; cases h; exact hφ
 | (i, x) :: ps, zs, h => by
   simp only [kJ] at h
   split at h <;> try cases h
   rename_i hc
   exact ⟨hc.1, hc.2.1, hc.2.2, o7 hφ h⟩
theorem mZ {sz : Option Nat} {x : AV} {H : List aa} (h : oZ sz x H = some z) (hφ : φ z) : aS sz x H φ := by
 unfold oZ at h; unfold aS
 split at h <;> try cases h
 ·split at h <;> try cases h
  rename_i bn
  simp only [bn]
  split at h <;> (split at h <;> cases h) <;> exact ⟨by assumption, hφ⟩
 ·simp only
  split at h <;> (split at h <;> cases h) <;> exact ⟨by assumption, hφ⟩
theorem Bk {off : Nat} {sz : Option Nat} {xs : List AV} (h : zg off sz xs = some z) (hφ : φ z) : apart off sz xs φ := by
 unfold zg at h; unfold apart
 split at h <;> split at h <;> cases h
 ·exact ⟨by assumption, hφ⟩
 ·rename_i hc; exact ⟨hc.1, hc.2, hφ⟩
theorem oF {off : Nat} {sz : Option Nat} {x : AV} (h : jW off sz x = some z) (hφ : φ z) : al off sz x φ := by
 unfold jW at h; unfold al
 split at h <;> try cases h
 ·exact hφ
 ·obtain ⟨u, hu, rfl⟩ := Option.map_eq_some_iff.1 h
  exact Bk hu hφ
theorem xA {off : Nat} {sz : Option Nat} {x : AV} (h : tI off sz x = some z) (hφ : φ z) : eJ off sz x φ := by
 unfold tI at h; unfold eJ
 split at h <;> try cases h
 obtain ⟨u, hu, rfl⟩ := Option.map_eq_some_iff.1 h
 exact Bk hu hφ
theorem uU {esz : Nat} {x : AV} (h : uO esz x = true) : ∀ own xs, x = .aq own xs → ∀ z ∈ xs, z.cells.length = esz := by
 intro own xs e z hz
 subst e
 simp only [uO, List.all_eq_true, beq_iff_eq] at h
 exact h z hz
theorem oG {esz : Nat} {x i : AV} (h : jX esz x i = some z) (hφ : φ z) : aA esz x i φ := by
 unfold jX at h; unfold aA
 split at h <;> try cases h
 ·split at h <;> cases h
  rename_i hc; exact ⟨hc.1, hc.2, hφ⟩
 ·split at h <;> cases h
  rename_i hc; exact ⟨hc.1, hc.2, hφ⟩
theorem qd {x i : AV} (h : lH x i = some z) (hφ : φ z) : bI x i φ := by
 unfold lH at h; unfold bI
 split at h <;> try cases h
 split at h <;> cases h
 rename_i hc; exact ⟨hc.1, hc.2, hφ⟩
theorem qe {n : Nat} {x i : AV} (h : lG n x i = some z) (hφ : φ z) : bR n x i φ := by
 unfold lG at h; unfold bR
 split at h <;> try cases h
 split at h <;> cases h
 rename_i hc; exact ⟨hc.1, hc.2.1, hc.2.2, hφ⟩
theorem Bl {kd : Nat} {x : AV} (h : zh kd x = true) : aM kd x := by
 unfold zh at h; unfold aM
 split at h <;> first | trivial | cases h
theorem E9 {x : AV} {H : List aa} (h : E7 x H = some z) (hφ : φ z) : eW x H φ := by
 unfold E7 at h; unfold eW
 split at h <;> try cases h
 ·exact hφ
 ·exact hφ
 ·exact fun _ => hφ
 ·exact hφ
 ·exact hφ
 ·split at h <;> cases h
  rename_i bn
  simp only [bn]; exact hφ
theorem sI {x : AV} {i : Nat} (h : nQ x i = some z) (hφ : φ z) : bD x i φ := by
 unfold nQ at h; unfold bD
 split at h <;> try cases h
 split at h <;> cases h
 exact ⟨by assumption, hφ⟩
theorem qf {x : AV} (h : lI x = some z) (hφ : φ z) : bS x φ := by
 unfold lI at h; unfold bS
 split at h <;> cases h <;> exact hφ
theorem sJ {k : IntKind} {x : AV} (h : nR k x = some z) (hφ : φ z) : cr k x φ := by
 unfold nR at h; unfold cr
 split at h <;> cases h <;> exact hφ
theorem IH {big : Bool} {x y : AV} (h : LX big x y = some z) (hφ : φ z) : wv big x y φ := by
 unfold LX at h; unfold wv
 split at h <;> cases h <;> exact hφ
theorem Gz {m : Nat} {p x : AV} {H H' : List aa} {K : List aa → Prop} (h : zi m p x H = some H') (hK : K H') : gR m p x H K := by
 unfold zi at h; unfold gR
 split at h <;> try cases h
 split at h <;> try cases h
 rename_i bn
 split at h <;> cases h
 rename_i hc
 simp only [bn]
 exact ⟨hc.1, hc.2.1, hc.2.2.1, hc.2.2.2.1, hc.2.2.2.2, hK⟩
theorem Bm {p x : AV} {H H' : List aa} {K : List aa → Prop} (h : rn p x H = some H') (hK : K H') : dK p x H K := by
 unfold rn at h; unfold dK
 split at h <;> try cases h
 split at h <;> try cases h
 rename_i bn
 split at h <;> cases h
 rename_i hc
 simp only [bn]
 exact ⟨hc.1, hc.2.1, hc.2.2, hK⟩
theorem DH {esz bytes : Nat} {s x : AV} {r : List AV} {φ : List AV → Prop} (h : uP esz bytes s x = some r) (hφ : φ r) : bF esz bytes s x φ := by
 unfold uP at h; unfold bF
 split at h <;> try cases h
 rename_i xs ys h1 h2
 split at h <;> cases h
 rename_i hc
 simp only [h1, h2]
 refine ⟨hc.1, ?_, hφ⟩
 intro y hy
 have := List.all_eq_true.1 hc.2 y hy
 simpa using this
theorem GA {esz bytes : Nat} {x n : AV} {H H' : List aa} {K : AV → List aa → Prop} (h : zj bytes x n H = some (z, H')) (hK : K z H') : fN esz bytes x n H K := by
 unfold zj at h; unfold fN
 split at h <;> try cases h
 split at h <;> cases h
 rename_i hc
 exact ⟨hc.1, hc.2.1, hc.2.2, hK⟩
theorem xB {esz bytes : Nat} {n : AV} (h : tJ esz bytes n = some z) (hφ : φ z) : iJ esz bytes n φ := by
 unfold tJ at h; unfold iJ
 split at h <;> try cases h
 split at h <;> cases h
 rename_i hc
 exact ⟨hc.1, hc.2, hφ⟩
theorem lL {x : Option AV} {d k : Nat} {φ : Nat → Prop} (h : pY x d = some k) (hφ : φ k) : dL x d φ := by
 unfold pY at h; unfold dL
 split at h
 ·cases h; exact hφ
 ·split at h <;> cases h
  rename_i hc
  exact ⟨hc, hφ⟩
 ·cases h
theorem GB {esz : Nat} {x : AV} {lo hi mx : Option AV} (h : zk esz x lo hi mx = some z) (hφ : φ z) : fq esz x lo hi mx φ := by
 unfold zk at h; unfold fq
 split at h <;> try cases h
 rename_i xs ft
 simp only [ft]
 split at h <;> try cases h
 rename_i hh ll h1 h2
 split at h <;> try cases h
 rename_i hc
 refine lL h1 (lL h2 ⟨hc.1, hc.2, ?_⟩)
 split at h
 ·cases h; exact hφ
 ·split at h <;> try cases h
  rename_i m hm
  split at h <;> cases h
  rename_i hc
  refine ⟨hc.1, lL hm ⟨hc.2.1, ?_, hφ⟩⟩
  intro y hy
  have := List.all_eq_true.1 hc.2.2 y hy
  simpa using this
theorem II {esz : Nat} {d s : AV} {H H' : List aa} {K : AV → List aa → Prop} (h : DG esz d s H = some (z, H')) (hK : K z H') : jt esz d s H K := by
 unfold DG at h; unfold jt
 split at h <;> try cases h
 rename_i hs
 split at h <;> try cases h
 rename_i bn
 split at h <;> cases h
 rename_i hc
 simp only [hs, bn]
 exact ⟨hc.1, hc.2.1, hc.2.2, hK⟩
theorem uV {esz : Nat} {x : AV} {H H' : List aa} {K : AV → List aa → Prop} (h : o6 esz x H = some (z, H')) (hK : K z H') : ff esz x H K := by
 unfold o6 at h; unfold ff
 split at h
 ·split at h <;> try cases h
  rename_i bn
  split at h <;> cases h
  rename_i hc
  simp only [dB, bn]
  exact ⟨hc.1, hc.2.1, hc.2.2.1, hc.2.2.2, hK⟩
 ·cases h
 ·cases h
 ·cases h
 ·cases h
 ·rename_i h1 h2 h3 h4 h5
  cases h
  cases x <;> first | exact hK | exact absurd rfl h2 | exact absurd rfl h5 | exact absurd rfl (h1 _ _ _ _) | exact absurd rfl (h3 _) | exact absurd rfl (h4 _ _)
theorem GC {esz : Nat} {x : AV} {H H' : List aa} {K : AV → List aa → Prop} (hx : ∀ xs, x ≠ .agg xs) (h : o6 esz x H = some (z, H')) (hK : K z H') : dB esz x H K := by
 have := uV (K := K) h hK
 unfold ff at this
 split at this
 ·exact absurd rfl (hx _)
 ·cases h
 ·exact this
theorem xC {esz : Nat} : ∀ {xs : List AV} {H H' : List aa} {ys : List AV} {K : List AV → List aa → Prop}, lJ esz xs H = some (ys, H') → K ys H' → ju esz xs H K
 | [], H, H', ys, K, h, hK => by simp only [lJ] at h; cases h; exact hK
 | x :: r, H, H', ys, K, h, hK => by
   have hx : ∀ xs, x ≠ .agg xs := fun xs e => by subst e; simp [lJ] at h
   have h' : (match o6 esz x H with
    | some (y, H') => match lJ esz r H' with
      | some (ys, H'') => some (y :: ys, H'')
      | none => none
    | none => none) = some (ys, H') := by
    cases x <;> first | exact absurd rfl (hx _) | (simpa only [lJ] using h)
   split at h' <;> try cases h'
   rename_i y H1 h1
   split at h' <;> cases h'
   rename_i ys' h2
   exact GC (K := fun y H' => ju esz r H' fun ys H'' => K (y :: ys) H'') hx h1 (xC (K := fun ys H'' => K (y :: ys) H'') h2 hK)
theorem GD {esz : Nat} {x : AV} {H H' : List aa} {K : AV → List aa → Prop} (h : zm esz x H = some (z, H')) (hK : K z H') : ff esz x H K := by
 unfold zm at h
 split at h
 ·split at h <;> cases h
  rename_i ys hs
  exact xC (K := fun ys H' => K (.agg ys) H') hs hK
 ·exact uV h hK
theorem uW {esz : Nat} {x : AV} {lo hi mx : Option AV} (h : pZ esz x lo hi mx = some z) (hφ : φ z) : bB esz x lo hi mx φ := by
 unfold pZ at h; unfold bB
 split at h
 ·split at h <;> try cases h
  rename_i h1 h2
  split at h <;> cases h
  rename_i hc
  simp only
  unfold gn
  exact lL h1 (lL h2 ⟨hc.1, hc.2, hφ⟩)
 ·rename_i ep
  split at h <;> try cases h
  rename_i hl
  split
  ·exact absurd rfl (ep _ _ _ _)
  ·exact ⟨uU hl, GB h hφ⟩
theorem qg {x : AV} {lo hi : Option AV} (h : lK x lo hi = some z) (hφ : φ z) : b8 x lo hi φ := by
 unfold lK at h; unfold b8
 split at h <;> try cases h
 split at h <;> try cases h
 rename_i hh ll h1 h2
 split at h <;> cases h
 rename_i hc
 exact lL h1 (lL h2 ⟨hc.1, hc.2, hφ⟩)
theorem sK {x : AV} (h : nS x = some z) (hφ : φ z) : fz x φ := by
 unfold nS at h; unfold fz
 split at h <;> cases h <;> exact hφ
theorem Bn : ∀ {ys : List AV} {l : List UInt8}, uQ ys = some l → ys = bi l
 | [], l, h => by simp only [uQ] at h; cases h; rfl
 | y :: ys, l, h => by
   unfold uQ at h
   split at h
   ·rename_i e; cases e
   ·rename_i n r e
    cases e
    split at h <;> try cases h
    rename_i l' hl
    split at h <;> cases h
    rename_i hn
    have := Bn hl
    subst this
    simp only [bi, List.map_cons]
    congr 1
    have : (UInt8.ofNat n.toNat).toNat = n.toNat := by
     rw [UInt8.toNat_ofNat']
     exact Nat.mod_eq_of_lt (by have : (2:Nat)^8 = 256 := rfl
                                omega)
    rw [this]
    congr 1
    omega
   ·cases h
theorem xD {x : AV} (h : tK x = some z) (hφ : φ z) : jr x φ := by
 unfold tK at h; unfold jr
 split at h <;> try cases h
 rename_i ys pA
 split at h <;> cases h
 rename_i l hl
 simp only [pA]
 exact ⟨l, Bn hl, hφ⟩
theorem sL {own : Nat} {x : AV} (h : nT own x = some z) (hφ : φ z) : eM own x φ := by
 unfold nT at h; unfold eM
 split at h <;> try cases h
 split at h <;> cases h
 exact ⟨by assumption, hφ⟩
theorem uX {kd : Nat} {zero m k : AV} {ok : Bool} {H : List aa} (h : qc kd zero m k ok H = some z) (hφ : φ z) : cc kd zero m k ok H φ := by
 unfold qc at h; unfold cc
 split at h <;> try cases h
 ·split at h <;> cases h
  exact ⟨by assumption, hφ⟩
 ·split at h <;> try cases h
  rename_i bn
  simp only [bn]
  split at h
  ·rename_i hf; cases h; simp only [hf]; exact hφ
  ·rename_i hf
   split at h <;> cases h
   simp only [hf]
   exact ⟨by assumption, hφ⟩
  ·cases h
theorem DI {kd : Nat} {m k x : AV} {H H' : List aa} {K : List aa → Prop} (h : uR kd m k x H = some H') (hK : K H') : eZ kd m k x H K := by
 unfold uR at h; unfold eZ
 split at h <;> try cases h
 split at h <;> try cases h
 rename_i bn
 simp only [bn]
 split at h <;> try cases h
 rename_i hc
 refine ⟨hc.1, hc.2.1, hc.2.2, ?_⟩
 split at h
 ·rename_i hf; cases h; simp only [hf]; exact hK
 ·rename_i hf
  split at h <;> cases h
  simp only [hf]
  exact ⟨by assumption, hK⟩
 ·cases h
end
end Go.aL
