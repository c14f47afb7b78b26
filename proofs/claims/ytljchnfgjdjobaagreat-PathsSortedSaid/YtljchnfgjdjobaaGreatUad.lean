/- A memory-free reading of the model's values (part 19): operations that are run. -/
import Derived.Test.YtljchnfgjdjobaaGreatUac
set_option linter.unusedVariables false
set_option linter.unusedSimpArgs false
set_option linter.defProp false
set_option linter.unusedSectionVars false
namespace Go.aK
open Go
def abf : AV → Option Bool | .bool b => some b | _ => none
def E2 (op : BinOp) (x y : AV) : Option AV :=
 match x, y with
 | .int k a, .int k' b => if k = k' then
    match op with
    | .add => some (.int k (k.wrap (a + b)))
    | .sub => some (.int k (k.wrap (a - b)))
    | .mul => some (.int k (k.wrap (a * b)))
    | .quo => if b ≠ 0 then some (.int k (k.wrap (a.tdiv b))) else none
    | .rem => if b ≠ 0 then some (.int k (a.tmod b)) else none
    | .and => some (.int k (k.wrap (BitVec.ofInt k.bits a &&& BitVec.ofInt k.bits b).toNat))
    | .or => some (.int k (k.wrap (BitVec.ofInt k.bits a ||| BitVec.ofInt k.bits b).toNat))
    | .eql => some (.bool (decide (a = b)))
    | .neq => some (.bool (decide (a ≠ b)))
    | .lss => some (.bool (decide (a < b)))
    | .leq => some (.bool (decide (a ≤ b)))
    | .gtr => some (.bool (decide (b < a)))
    | .geq => some (.bool (decide (b ≤ a)))
    | _ => none
   else none
 | .str a, .str b =>
   match op with
   | .add => if a.size + b.size < 9223372036854775808 then some (.str (a ++ b)) else none
   | .eql => some (.bool (decide (a = b)))
   | .neq => some (.bool (decide (a ≠ b)))
   | .lss => some (.bool (Op.bytesLess a.data.toList b.data.toList))
   | _ => none
 | _, _ => none
def tG (op : BinOp) (x y : AV) : Option AV :=
 match x, y with
 | .int k a, .int _ b => if 0 ≤ b then
    match op with
    | .shl => some (.int k (k.wrap (a * 2 ^ (min b.toNat k.bits))))
    | .shr => some (.int k (a.fdiv (2 ^ (min b.toNat k.bits))))
    | _ => none
   else none
 | _, _ => none
def pT (neq : Bool) (x y : AV) : Option AV :=
 match x, y with
 | .bool a, .bool b => some (.bool (if neq then decide (a ≠ b) else decide (a = b)))
 | _, _ => none
def tH (kd : Nat) (neq : Bool) (x : AV) : Option AV :=
 match isNil kd x with
 | some b => some (.bool (if neq then !b else b))
 | none => none
def LV (op : UnOp) (x : AV) : Option AV :=
 match op, x with
 | .not, .bool b => some (.bool (!b))
 | .neg, .int k n => some (.int k (k.wrap (0 - n)))
 | _, _ => none
def rn (zs : List AV) : List (Nat × Nat × AV) → Option (List AV)
 | [] => some zs
 | (off, sz, x) :: r => if x.val = true ∧ x.cells.length = sz ∧ off + sz ≤ zs.length then rn (ag zs off (x.cells.map AV.ab)) r else none
def kG (xs : List AV) (esz : Nat) : List (Nat × AV) → Option (List AV)
 | [] => some xs
 | (i, x) :: r => if x.val = true ∧ x.cells.length = esz ∧ i < xs.length then kG (xs.set i (aT x)) esz r else none
def oY (sz : Option Nat) (x : AV) (H : List aa) : Option AV :=
 match x with
 | .ptr id off => match H[id]? with
   | some (.cells es) => match sz with
     | some m => if off + m ≤ es.length then some (.agg (((es.drop off).take m).map AV.drop)) else none
     | none => if off < es.length then some (es.getD off .any).ab else none
   | _ => none
 | .ai y => match sz with
   | some m => if y.cells.length = m then some (.agg y.cells) else none
   | none => if y.one = true then some y.ab else none
 | _ => none
def zj (off : Nat) (sz : Option Nat) (xs : List AV) : Option AV :=
 match sz with
 | some m => if off + m ≤ xs.length then some (.agg ((xs.drop off).take m)) else none
 | none => if off < xs.length ∧ (xs.getD off .any).one = true then some (xs.getD off .any) else none
def jS (off : Nat) (sz : Option Nat) (x : AV) : Option AV :=
 match x with
 | .ptr id o => some (.ptr id (o + off))
 | .ai y => (zj off sz y.cells).map .ai
 | _ => none
def tI (off : Nat) (sz : Option Nat) (x : AV) : Option AV :=
 match x with
 | .agg xs => (zj off sz xs).map AV.drop
 | _ => none
def uK (esz : Nat) (x : AV) : Bool :=
 match x with
 | .ap _ xs => xs.all fun z => z.cells.length == esz
 | _ => true
def jT (esz : Nat) (x i : AV) : Option AV :=
 match x, i with
 | .ap _ xs, .int _ i => if 0 ≤ i ∧ i.toNat < xs.length then some (.ai (xs.getD i.toNat .any)) else none
 | .bf id off len _, .int _ i => if 0 ≤ i ∧ i.toNat < len then some (.ptr id (off + i.toNat * esz)) else none
 | _, _ => none
def lF (n : Nat) (x i : AV) : Option AV :=
 match x, i with
 | .agg xs, .int _ i => if xs.length = n ∧ 0 ≤ i ∧ i.toNat < n then some (xs.getD i.toNat .any).drop else none
 | _, _ => none
def lG (x i : AV) : Option AV :=
 match x, i with
 | .str s, .int _ i => if 0 ≤ i ∧ i.toNat < s.size then some (.int .u8 (s.data.toList.getD i.toNat 0).toNat) else none
 | _, _ => none
def zk (kd : Nat) (x : AV) : Bool :=
 match kd, x with
 | 0, .str _ => true
 | 1, .ah => true
 | 1, .ap _ _ => true
 | 1, .bf _ _ _ _ => true
 | 2, .iD => true
 | 2, .map _ => true
 | _, _ => false
def E3 (x : AV) (H : List aa) : Option AV :=
 match x with
 | .str s => some (.int .i64 s.size)
 | .ah => some (.int .i64 0)
 | .ap _ xs => some (.int .i64 xs.length)
 | .bf _ _ len _ => some (.int .i64 len)
 | .iD => some (.int .i64 0)
 | .map id => match H[id]? with
   | some (.map es) => some (.int .i64 es.length)
   | _ => none
 | _ => none
def nQ (x : AV) (i : Nat) : Option AV :=
 match x with
 | .tuple xs => if i < xs.length then some (xs.getD i .any).ab else none
 | _ => none
def lH (x : AV) : Option AV :=
 match x with
 | .ptr .. | .ai _ => some x
 | .fn (.func _) _ _ => some x
 | _ => none
def nR (k : IntKind) (x : AV) : Option AV :=
 match x with
 | .int _ n => some (.int k (k.wrap n))
 | _ => none
def LW (big : Bool) (x y : AV) : Option AV :=
 match x, y with
 | .int k a, .int _ b => some (.int k (if big then (if b > a then b else a) else (if b < a then b else a)))
 | _, _ => none
def zm (m : Nat) (p x : AV) (H : List aa) : Option (List aa) :=
 match p with
 | .ptr id off => match H[id]? with
   | some (.cells es) => if x.val = true ∧ x.cells.length = m ∧ off + m ≤ es.length ∧ x.cells.all AV.one = true ∧ aj (id + 1) (x.cells.map AV.ab) = true then
      some (H.set id (.cells (ag es off (x.cells.map AV.ab)))) else none
   | _ => none
 | _ => none
def rp (p x : AV) (H : List aa) : Option (List aa) :=
 match p with
 | .ptr id off => match H[id]? with
   | some (.cells es) => if off < es.length ∧ x.one = true ∧ x.a7 (id + 1) = true then some (H.set id (.cells (es.set off x))) else none
   | _ => none
 | _ => none
def uL (esz bytes : Nat) (s x : AV) : Option (List AV) :=
 match ma esz s, dz x with
 | some xs, some ys => if (xs.length + ys.length) * bytes ≤ 140737488355328 ∧ (ys.all fun y => y.cells.length == esz && y.cells.all AV.one) = true then some (xs ++ ys) else none
 | _, _ => none
def zn (bytes : Nat) (z n : AV) (H : List aa) : Option (AV × List aa) :=
 match n with
 | .int .i64 n => if 0 ≤ n ∧ n.toNat * bytes ≤ 140737488355328 ∧ aj (H.length + 1) (flat (List.replicate n.toNat (bN z))) = true then
    some (.bf H.length 0 n.toNat n.toNat, H ++ [.cells (flat (List.replicate n.toNat (bN z)))]) else none
 | _ => none
def tJ (esz bytes : Nat) (n : AV) : Option AV :=
 match n with
 | .int .i64 n => if 0 ≤ n ∧ n.toNat * bytes ≤ 140737488355328 then some (.ap esz []) else none
 | _ => none
def pU (x : Option AV) (d : Nat) : Option Nat :=
 match x with
 | none => some d
 | some (.int _ i) => if 0 ≤ i then some i.toNat else none
 | _ => none
def zp (esz : Nat) (x : AV) (lo hi mx : Option AV) : Option AV :=
 match dz x with
 | some xs => match pU hi xs.length, pU lo 0 with
   | some h, some l => if l ≤ h ∧ h ≤ xs.length then
      match mx with
      | none => some (.ap 0 ((xs.take h).drop l))
      | some m => match pU (some m) 0 with
        | some m => if hi.isSome = true ∧ m = h ∧ (xs.all fun y => y.cells.length == esz) = true then some (.ap esz ((xs.take h).drop l)) else none
        | none => none
     else none
   | _, _ => none
 | none => none
def DD (esz : Nat) (d s : AV) (H : List aa) : Option (AV × List aa) :=
 match d, wG esz s H with
 | .bf id off len _, some (n, ys) => match H[id]? with
   | some (.cells es) => if (ys.take (min n len * esz)).all AV.one = true ∧ off + min n len * esz ≤ es.length ∧ aj (id + 1) ((ys.take (min n len * esz)).map AV.ab) = true then
      some (.int .i64 (min n len : Nat), H.set id (.cells (ag es off ((ys.take (min n len * esz)).map AV.ab)))) else none
   | _ => none
 | _, _ => none
def oZ (esz : Nat) (x : AV) (H : List aa) : Option (AV × List aa) :=
 match x with
 | .bf id off len cap => match H[id]? with
   | some (.cells es) => if 0 < esz ∧ len ≤ cap ∧ off + len * esz ≤ es.length ∧ (es.drop off).all AV.one = true then some (.ap 0 (chunks esz len (es.drop off)), H.set id .dead) else none
   | _ => none
 | .any => none
 | .agg _ => none
 | .ptr _ _ => none
 | .oh => none
 | x => some (x.ab, H)
def lI (esz : Nat) : List AV → List aa → Option (List AV × List aa)
 | [], H => some ([], H)
 | .agg _ :: _, _ => none
 | x :: r, H => match oZ esz x H with
   | some (y, H') => match lI esz r H' with
     | some (ys, H'') => some (y :: ys, H'')
     | none => none
   | none => none
def zq (esz : Nat) (x : AV) (H : List aa) : Option (AV × List aa) :=
 match x with
 | .agg xs => match lI esz xs H with
   | some (ys, H') => some (.agg ys, H')
   | none => none
 | x => oZ esz x H
def pV (esz : Nat) (x : AV) (lo hi mx : Option AV) : Option AV :=
 match x with
 | .bf id off len cap => match mx, pU hi len, pU lo 0 with
   | none, some h, some l => if l ≤ h ∧ h ≤ cap then some (.bf id (if cap = l then off else off + l * esz) (h - l) (cap - l)) else none
   | _, _, _ => none
 | x => if uK esz x = true then zp esz x lo hi mx else none
def lJ (x : AV) (lo hi : Option AV) : Option AV :=
 match x with
 | .str s => match pU hi s.size, pU lo 0 with
   | some h, some l => if l ≤ h ∧ h ≤ s.size then some (.str (s.extract l h)) else none
   | _, _ => none
 | _ => none
def nS (x : AV) : Option AV := match x with | .str s => some (.str s) | _ => none
def uM : List AV → Option (List UInt8)
 | [] => some []
 | .int .u8 n :: r => match uM r with
   | some l => if 0 ≤ n ∧ n < 256 then some (UInt8.ofNat n.toNat :: l) else none
   | none => none
 | _ => none
def tK (x : AV) : Option AV :=
 match dz x with
 | some ys => match uM ys with
   | some l => some (.str ⟨l.toArray⟩)
   | none => none
 | none => none
def nT (own : Nat) (x : AV) : Option AV :=
 match x with
 | .str s => if s.size < 9223372036854775808 then some (.ap own (bg s.data.toList)) else none
 | _ => none
def pW (kd : Nat) (zero m k : AV) (ok : Bool) (H : List aa) : Option AV :=
 match m with
 | .iD => if cP kd k k = some true then some (if ok then .tuple [aT zero, .bool false] else aT zero) else none
 | .map id => match H[id]? with
   | some (.map es) => match dN kd k es 0 with
     | some (some (_, v)) => some (if ok then .tuple [v.drop, .bool true] else v.drop)
     | some none => if cP kd k k = some true then some (if ok then .tuple [aT zero, .bool false] else aT zero) else none
     | none => none
   | _ => none
 | _ => none
def uN (kd : Nat) (m k x : AV) (H : List aa) : Option (List aa) :=
 match m with
 | .map id => match H[id]? with
   | some (.map es) => if k.a7 (id + 1) = true ∧ x.a7 (id + 1) = true ∧ x.val = true then match dN kd k es 0 with
      | some (some (i, _)) => some (H.set id (.map (es.set i (k, aT x))))
      | some none => if cP kd k k = some true then some (H.set id (.map (es ++ [(k, aT x)]))) else none
      | none => none
     else none
   | _ => none
 | _ => none
section
variable {z : AV} {φ : AV → Prop}
theorem E4 {op : BinOp} {x y : AV} (h : E2 op x y = some z) (hφ : φ z) : cV op x y φ := by
 unfold E2 at h
 split at h
 ·split at h <;> try cases h
  rename_i hk
  refine ⟨hk, ?_⟩
  split at h <;> first | (cases h; exact hφ) | (split at h <;> cases h; exact ⟨by assumption, hφ⟩) | cases h
 ·split at h <;> first | (cases h; exact hφ) | (split at h <;> cases h; exact ⟨by assumption, hφ⟩) | cases h
 ·cases h
theorem xy {op : BinOp} {x y : AV} (h : tG op x y = some z) (hφ : φ z) : dL op x y φ := by
 unfold tG at h
 split at h <;> try cases h
 split at h <;> try cases h
 rename_i hb
 refine ⟨hb, ?_⟩
 split at h <;> cases h <;> exact hφ
theorem uO {neq : Bool} {x y : AV} (h : pT neq x y = some z) (hφ : φ z) : cM neq x y φ := by
 unfold pT at h; unfold cM
 split at h <;> cases h <;> exact hφ
theorem xz {kd : Nat} {neq : Bool} {x : AV} (h : tH kd neq x = some z) (hφ : φ z) : dc kd neq x φ := by
 unfold tH at h; unfold dc
 split at h <;> cases h
 rename_i hb; rw [hb]; exact hφ
theorem IG {op : UnOp} {x : AV} (h : LV op x = some z) (hφ : φ z) : yH op x φ := by
 unfold LV at h; unfold yH
 split at h <;> cases h <;> exact hφ
theorem uP {φ : List AV → Prop} {r : List AV} (hφ : φ r) : ∀ {ps : List (Nat × Nat × AV)} {zs : List AV}, rn zs ps = some r → gI zs ps φ
 | [], zs, h => by simp only [rn] at h; cases h; exact hφ
 | (off, sz, x) :: ps, zs, h => by
   simp only [rn] at h
   split at h <;> try cases h
   rename_i hc
   exact ⟨hc.1, hc.2.1, hc.2.2, uP hφ h⟩
theorem o6 {esz : Nat} {φ : List AV → Prop} {r : List AV} (hφ : φ r) : ∀ {ps : List (Nat × AV)} {zs : List AV}, kG zs esz ps = some r → bh zs esz ps φ
 | [], zs, h => by simp only [kG] at h; cases h; exact hφ
 | (i, x) :: ps, zs, h => by
   simp only [kG] at h
   split at h <;> try cases h
   rename_i hc
   exact ⟨hc.1, hc.2.1, hc.2.2, o6 hφ h⟩
theorem mX {sz : Option Nat} {x : AV} {H : List aa} (h : oY sz x H = some z) (hφ : φ z) : aS sz x H φ := by
 unfold oY at h; unfold aS
 split at h <;> try cases h
 ·split at h <;> try cases h
  rename_i bm
  simp only [bm]
  split at h <;> (split at h <;> cases h) <;> exact ⟨by assumption, hφ⟩
 ·simp only
  split at h <;> (split at h <;> cases h) <;> exact ⟨by assumption, hφ⟩
theorem Bm {off : Nat} {sz : Option Nat} {xs : List AV} (h : zj off sz xs = some z) (hφ : φ z) : apart off sz xs φ := by
 unfold zj at h; unfold apart
 split at h <;> split at h <;> cases h
 ·exact ⟨by assumption, hφ⟩
 ·rename_i hc; exact ⟨hc.1, hc.2, hφ⟩
theorem oE {off : Nat} {sz : Option Nat} {x : AV} (h : jS off sz x = some z) (hφ : φ z) : ak off sz x φ := by
 unfold jS at h; unfold ak
 split at h <;> try cases h
 ·exact hφ
 ·obtain ⟨u, hu, rfl⟩ := Option.map_eq_some_iff.1 h
  exact Bm hu hφ
theorem xA {off : Nat} {sz : Option Nat} {x : AV} (h : tI off sz x = some z) (hφ : φ z) : eI off sz x φ := by
 unfold tI at h; unfold eI
 split at h <;> try cases h
 obtain ⟨u, hu, rfl⟩ := Option.map_eq_some_iff.1 h
 exact Bm hu hφ
theorem uQ {esz : Nat} {x : AV} (h : uK esz x = true) : ∀ own xs, x = .ap own xs → ∀ z ∈ xs, z.cells.length = esz := by
 intro own xs e z hz
 subst e
 simp only [uK, List.all_eq_true, beq_iff_eq] at h
 exact h z hz
theorem oF {esz : Nat} {x i : AV} (h : jT esz x i = some z) (hφ : φ z) : ay esz x i φ := by
 unfold jT at h; unfold ay
 split at h <;> try cases h
 ·split at h <;> cases h
  rename_i hc; exact ⟨hc.1, hc.2, hφ⟩
 ·split at h <;> cases h
  rename_i hc; exact ⟨hc.1, hc.2, hφ⟩
theorem pX {x i : AV} (h : lG x i = some z) (hφ : φ z) : bH x i φ := by
 unfold lG at h; unfold bH
 split at h <;> try cases h
 split at h <;> cases h
 rename_i hc; exact ⟨hc.1, hc.2, hφ⟩
theorem pY {n : Nat} {x i : AV} (h : lF n x i = some z) (hφ : φ z) : bQ n x i φ := by
 unfold lF at h; unfold bQ
 split at h <;> try cases h
 split at h <;> cases h
 rename_i hc; exact ⟨hc.1, hc.2.1, hc.2.2, hφ⟩
theorem Bn {kd : Nat} {x : AV} (h : zk kd x = true) : aL kd x := by
 unfold zk at h; unfold aL
 split at h <;> first | trivial | cases h
theorem E5 {x : AV} {H : List aa} (h : E3 x H = some z) (hφ : φ z) : eW x H φ := by
 unfold E3 at h; unfold eW
 split at h <;> try cases h
 ·exact hφ
 ·exact hφ
 ·exact fun _ => hφ
 ·exact hφ
 ·exact hφ
 ·split at h <;> cases h
  rename_i bm
  simp only [bm]; exact hφ
theorem sM {x : AV} {i : Nat} (h : nQ x i = some z) (hφ : φ z) : bC x i φ := by
 unfold nQ at h; unfold bC
 split at h <;> try cases h
 split at h <;> cases h
 exact ⟨by assumption, hφ⟩
theorem pZ {x : AV} (h : lH x = some z) (hφ : φ z) : bR x φ := by
 unfold lH at h; unfold bR
 split at h <;> cases h <;> exact hφ
theorem sN {k : IntKind} {x : AV} (h : nR k x = some z) (hφ : φ z) : cp k x φ := by
 unfold nR at h; unfold cp
 split at h <;> cases h <;> exact hφ
theorem IH {big : Bool} {x y : AV} (h : LW big x y = some z) (hφ : φ z) : wy big x y φ := by
 unfold LW at h; unfold wy
 split at h <;> cases h <;> exact hφ
theorem Gy {m : Nat} {p x : AV} {H H' : List aa} {K : List aa → Prop} (h : zm m p x H = some H') (hK : K H') : gQ m p x H K := by
 unfold zm at h; unfold gQ
 split at h <;> try cases h
 split at h <;> try cases h
 rename_i bm
 split at h <;> cases h
 rename_i hc
 simp only [bm]
 exact ⟨hc.1, hc.2.1, hc.2.2.1, hc.2.2.2.1, hc.2.2.2.2, hK⟩
theorem Bo {p x : AV} {H H' : List aa} {K : List aa → Prop} (h : rp p x H = some H') (hK : K H') : dM p x H K := by
 unfold rp at h; unfold dM
 split at h <;> try cases h
 split at h <;> try cases h
 rename_i bm
 split at h <;> cases h
 rename_i hc
 simp only [bm]
 exact ⟨hc.1, hc.2.1, hc.2.2, hK⟩
theorem DE {esz bytes : Nat} {s x : AV} {r : List AV} {φ : List AV → Prop} (h : uL esz bytes s x = some r) (hφ : φ r) : bE esz bytes s x φ := by
 unfold uL at h; unfold bE
 split at h <;> try cases h
 rename_i xs ys h1 h2
 split at h <;> cases h
 rename_i hc
 simp only [h1, h2]
 refine ⟨hc.1, ?_, hφ⟩
 intro y hy
 have := List.all_eq_true.1 hc.2 y hy
 simpa using this
theorem Gz {esz bytes : Nat} {x n : AV} {H H' : List aa} {K : AV → List aa → Prop} (h : zn bytes x n H = some (z, H')) (hK : K z H') : fK esz bytes x n H K := by
 unfold zn at h; unfold fK
 split at h <;> try cases h
 split at h <;> cases h
 rename_i hc
 exact ⟨hc.1, hc.2.1, hc.2.2, hK⟩
theorem xB {esz bytes : Nat} {n : AV} (h : tJ esz bytes n = some z) (hφ : φ z) : iI esz bytes n φ := by
 unfold tJ at h; unfold iI
 split at h <;> try cases h
 split at h <;> cases h
 rename_i hc
 exact ⟨hc.1, hc.2, hφ⟩
theorem lK {x : Option AV} {d k : Nat} {φ : Nat → Prop} (h : pU x d = some k) (hφ : φ k) : dG x d φ := by
 unfold pU at h; unfold dG
 split at h
 ·cases h; exact hφ
 ·split at h <;> cases h
  rename_i hc
  exact ⟨hc, hφ⟩
 ·cases h
theorem GA {esz : Nat} {x : AV} {lo hi mx : Option AV} (h : zp esz x lo hi mx = some z) (hφ : φ z) : eL esz x lo hi mx φ := by
 unfold zp at h; unfold eL
 split at h <;> try cases h
 rename_i xs fp
 simp only [fp]
 split at h <;> try cases h
 rename_i hh ll h1 h2
 split at h <;> try cases h
 rename_i hc
 refine lK h1 (lK h2 ⟨hc.1, hc.2, ?_⟩)
 split at h
 ·cases h; exact hφ
 ·split at h <;> try cases h
  rename_i m hm
  split at h <;> cases h
  rename_i hc
  refine ⟨hc.1, lK hm ⟨hc.2.1, ?_, hφ⟩⟩
  intro y hy
  have := List.all_eq_true.1 hc.2.2 y hy
  simpa using this
theorem II {esz : Nat} {d s : AV} {H H' : List aa} {K : AV → List aa → Prop} (h : DD esz d s H = some (z, H')) (hK : K z H') : jo esz d s H K := by
 unfold DD at h; unfold jo
 split at h <;> try cases h
 rename_i hs
 split at h <;> try cases h
 rename_i bm
 split at h <;> cases h
 rename_i hc
 simp only [hs, bm]
 exact ⟨hc.1, hc.2.1, hc.2.2, hK⟩
theorem uR {esz : Nat} {x : AV} {H H' : List aa} {K : AV → List aa → Prop} (h : oZ esz x H = some (z, H')) (hK : K z H') : ff esz x H K := by
 unfold oZ at h; unfold ff
 split at h
 ·split at h <;> try cases h
  rename_i bm
  split at h <;> cases h
  rename_i hc
  simp only [dD, bm]
  exact ⟨hc.1, hc.2.1, hc.2.2.1, hc.2.2.2, hK⟩
 ·cases h
 ·cases h
 ·cases h
 ·cases h
 ·rename_i h1 h2 h3 h4 h5
  cases h
  cases x <;> first | exact hK | exact absurd rfl h2 | exact absurd rfl h5 | exact absurd rfl (h1 _ _ _ _) | exact absurd rfl (h3 _) | exact absurd rfl (h4 _ _)
theorem GB {esz : Nat} {x : AV} {H H' : List aa} {K : AV → List aa → Prop} (hx : ∀ xs, x ≠ .agg xs) (h : oZ esz x H = some (z, H')) (hK : K z H') : dD esz x H K := by
 have := uR (K := K) h hK
 unfold ff at this
 split at this
 ·exact absurd rfl (hx _)
 ·cases h
 ·exact this
theorem xC {esz : Nat} : ∀ {xs : List AV} {H H' : List aa} {ys : List AV} {K : List AV → List aa → Prop}, lI esz xs H = some (ys, H') → K ys H' → jq esz xs H K
 | [], H, H', ys, K, h, hK => by simp only [lI] at h; cases h; exact hK
 | x :: r, H, H', ys, K, h, hK => by
   have hx : ∀ xs, x ≠ .agg xs := fun xs e => by subst e; simp [lI] at h
   have h' : (match oZ esz x H with
    | some (y, H') => match lI esz r H' with
      | some (ys, H'') => some (y :: ys, H'')
      | none => none
    | none => none) = some (ys, H') := by
    cases x <;> first | exact absurd rfl (hx _) | (simpa only [lI] using h)
   split at h' <;> try cases h'
   rename_i y H1 h1
   split at h' <;> cases h'
   rename_i ys' h2
   exact GB (K := fun y H' => jq esz r H' fun ys H'' => K (y :: ys) H'') hx h1 (xC (K := fun ys H'' => K (y :: ys) H'') h2 hK)
theorem GC {esz : Nat} {x : AV} {H H' : List aa} {K : AV → List aa → Prop} (h : zq esz x H = some (z, H')) (hK : K z H') : ff esz x H K := by
 unfold zq at h
 split at h
 ·split at h <;> cases h
  rename_i ys hs
  exact xC (K := fun ys H' => K (.agg ys) H') hs hK
 ·exact uR h hK
theorem uS {esz : Nat} {x : AV} {lo hi mx : Option AV} (h : pV esz x lo hi mx = some z) (hφ : φ z) : bn esz x lo hi mx φ := by
 unfold pV at h; unfold bn
 split at h
 ·split at h <;> try cases h
  rename_i h1 h2
  split at h <;> cases h
  rename_i hc
  simp only
  unfold gk
  exact lK h1 (lK h2 ⟨hc.1, hc.2, hφ⟩)
 ·rename_i dS
  split at h <;> try cases h
  rename_i hl
  split
  ·exact absurd rfl (dS _ _ _ _)
  ·exact ⟨uQ hl, GA h hφ⟩
theorem qc {x : AV} {lo hi : Option AV} (h : lJ x lo hi = some z) (hφ : φ z) : b7 x lo hi φ := by
 unfold lJ at h; unfold b7
 split at h <;> try cases h
 split at h <;> try cases h
 rename_i hh ll h1 h2
 split at h <;> cases h
 rename_i hc
 exact lK h1 (lK h2 ⟨hc.1, hc.2, hφ⟩)
theorem sO {x : AV} (h : nS x = some z) (hφ : φ z) : fx x φ := by
 unfold nS at h; unfold fx
 split at h <;> cases h <;> exact hφ
theorem Bp : ∀ {ys : List AV} {l : List UInt8}, uM ys = some l → ys = bg l
 | [], l, h => by simp only [uM] at h; cases h; rfl
 | y :: ys, l, h => by
   unfold uM at h
   split at h
   ·rename_i e; cases e
   ·rename_i n r e
    cases e
    split at h <;> try cases h
    rename_i l' hl
    split at h <;> cases h
    rename_i hn
    have := Bp hl
    subst this
    simp only [bg, List.map_cons]
    congr 1
    have : (UInt8.ofNat n.toNat).toNat = n.toNat := by
     rw [UInt8.toNat_ofNat']
     exact Nat.mod_eq_of_lt (by have : (2:Nat)^8 = 256 := rfl
                                omega)
    rw [this]
    congr 1
    omega
   ·cases h
theorem xD {x : AV} (h : tK x = some z) (hφ : φ z) : jn x φ := by
 unfold tK at h; unfold jn
 split at h <;> try cases h
 rename_i ys pv
 split at h <;> cases h
 rename_i l hl
 simp only [pv]
 exact ⟨l, Bp hl, hφ⟩
theorem sP {own : Nat} {x : AV} (h : nT own x = some z) (hφ : φ z) : eM own x φ := by
 unfold nT at h; unfold eM
 split at h <;> try cases h
 split at h <;> cases h
 exact ⟨by assumption, hφ⟩
theorem uT {kd : Nat} {zero m k : AV} {ok : Bool} {H : List aa} (h : pW kd zero m k ok H = some z) (hφ : φ z) : cb kd zero m k ok H φ := by
 unfold pW at h; unfold cb
 split at h <;> try cases h
 ·split at h <;> cases h
  exact ⟨by assumption, hφ⟩
 ·split at h <;> try cases h
  rename_i bm
  simp only [bm]
  split at h
  ·rename_i hf; cases h; simp only [hf]; exact hφ
  ·rename_i hf
   split at h <;> cases h
   simp only [hf]
   exact ⟨by assumption, hφ⟩
  ·cases h
theorem DF {kd : Nat} {m k x : AV} {H H' : List aa} {K : List aa → Prop} (h : uN kd m k x H = some H') (hK : K H') : eZ kd m k x H K := by
 unfold uN at h; unfold eZ
 split at h <;> try cases h
 split at h <;> try cases h
 rename_i bm
 simp only [bm]
 split at h <;> try cases h
 rename_i hc
 refine ⟨hc.1, hc.2.1, hc.2.2, ?_⟩
 split at h
 ·rename_i hf; cases h; simp only [hf]; exact hK
 ·rename_i hf
  split at h <;> cases h
  simp only [hf]
  exact ⟨by assumption, hK⟩
 ·cases h
end
end Go.aK
