/- A memory-free reading of the model's values (part 19): operations that are run. -/
import Derived.Test.YtljchnfgjdjobaaGreatSac
set_option linter.unusedVariables false
set_option linter.unusedSimpArgs false
set_option linter.defProp false
set_option linter.unusedSectionVars false
namespace Go.aK
open Go
def aa9 : AV → Option Bool | .bool b => some b | _ => none
def E1 (op : BinOp) (x y : AV) : Option AV :=
 match x, y with
 | .int k a, .int k' b => if k = k' then
    match op with
    | .add => some (.int k (k.wrap (a + b)))
    | .sub => some (.int k (k.wrap (a - b)))
    | .mul => some (.int k (k.wrap (a * b)))
    | .quo => if b ≠ 0 then some (.int k (k.wrap (a.tdiv b))) else none
    | .rem => if b ≠ 0 then some (.int k (a.tmod b)) else none
    | .and => some (.int k (k.wrap (BitVec.ofInt k.bits a &&& BitVec.ofInt k.bits b).toNat))
    | .or => some (.int k (k.wrap (BitVec.ofInt k.bits a ||| BitVec.ofInt k.bits b).toNat))
    | .eql => some (.bool (decide (a = b)))
    | .neq => some (.bool (decide (a ≠ b)))
    | .lss => some (.bool (decide (a < b)))
    | .leq => some (.bool (decide (a ≤ b)))
    | .gtr => some (.bool (decide (b < a)))
    | .geq => some (.bool (decide (b ≤ a)))
    | _ => none
   else none
 | .str a, .str b =>
   match op with
   | .add => if a.size + b.size < 9223372036854775808 then some (.str (a ++ b)) else none
   | .eql => some (.bool (decide (a = b)))
   | .neq => some (.bool (decide (a ≠ b)))
   | .lss => some (.bool (Op.bytesLess a.data.toList b.data.toList))
   | _ => none
 | _, _ => none
def tB (op : BinOp) (x y : AV) : Option AV :=
 match x, y with
 | .int k a, .int _ b => if 0 ≤ b then
    match op with
    | .shl => some (.int k (k.wrap (a * 2 ^ (min b.toNat k.bits))))
    | .shr => some (.int k (a.fdiv (2 ^ (min b.toNat k.bits))))
    | _ => none
   else none
 | _, _ => none
def pR (neq : Bool) (x y : AV) : Option AV :=
 match x, y with
 | .bool a, .bool b => some (.bool (if neq then decide (a ≠ b) else decide (a = b)))
 | _, _ => none
def tC (kd : Nat) (neq : Bool) (x : AV) : Option AV :=
 match isNil kd x with
 | some b => some (.bool (if neq then !b else b))
 | none => none
def LO (op : UnOp) (x : AV) : Option AV :=
 match op, x with
 | .not, .bool b => some (.bool (!b))
 | .neg, .int k n => some (.int k (k.wrap (0 - n)))
 | _, _ => none
def ri (zs : List AV) : List (Nat × Nat × AV) → Option (List AV)
 | [] => some zs
 | (off, sz, x) :: r => if x.val = true ∧ x.cells.length = sz ∧ off + sz ≤ zs.length then ri (ag zs off (x.cells.map AV.ab)) r else none
def kH (xs : List AV) (esz : Nat) : List (Nat × AV) → Option (List AV)
 | [] => some xs
 | (i, x) :: r => if x.val = true ∧ x.cells.length = esz ∧ i < xs.length then kH (xs.set i (aT x)) esz r else none
def oX (sz : Option Nat) (x : AV) (H : List aa) : Option AV :=
 match x with
 | .ptr id off => match H[id]? with
   | some (.cells es) => match sz with
     | some m => if off + m ≤ es.length then some (.agg (((es.drop off).take m).map AV.drop)) else none
     | none => if off < es.length then some (es.getD off .any).ab else none
   | _ => none
 | .ai y => match sz with
   | some m => if y.cells.length = m then some (.agg y.cells) else none
   | none => if y.one = true then some y.ab else none
 | _ => none
def zg (off : Nat) (sz : Option Nat) (xs : List AV) : Option AV :=
 match sz with
 | some m => if off + m ≤ xs.length then some (.agg ((xs.drop off).take m)) else none
 | none => if off < xs.length ∧ (xs.getD off .any).one = true then some (xs.getD off .any) else none
def jT (off : Nat) (sz : Option Nat) (x : AV) : Option AV :=
 match x with
 | .ptr id o => some (.ptr id (o + off))
 | .ai y => (zg off sz y.cells).map .ai
 | _ => none
def tD (off : Nat) (sz : Option Nat) (x : AV) : Option AV :=
 match x with
 | .agg xs => (zg off sz xs).map AV.drop
 | _ => none
def uF (esz : Nat) (x : AV) : Bool :=
 match x with
 | .ap _ xs => xs.all fun z => z.cells.length == esz
 | _ => true
def jU (esz : Nat) (x i : AV) : Option AV :=
 match x, i with
 | .ap _ xs, .int _ i => if 0 ≤ i ∧ i.toNat < xs.length then some (.ai (xs.getD i.toNat .any)) else none
 | .bf id off len _, .int _ i => if 0 ≤ i ∧ i.toNat < len then some (.ptr id (off + i.toNat * esz)) else none
 | _, _ => none
def lF (n : Nat) (x i : AV) : Option AV :=
 match x, i with
 | .agg xs, .int _ i => if xs.length = n ∧ 0 ≤ i ∧ i.toNat < n then some (xs.getD i.toNat .any).drop else none
 | _, _ => none
def lG (x i : AV) : Option AV :=
 match x, i with
 | .str s, .int _ i => if 0 ≤ i ∧ i.toNat < s.size then some (.int .u8 (s.data.toList.getD i.toNat 0).toNat) else none
 | _, _ => none
def zh (kd : Nat) (x : AV) : Bool :=
 match kd, x with
 | 0, .str _ => true
 | 1, .ah => true
 | 1, .ap _ _ => true
 | 1, .bf _ _ _ _ => true
 | 2, .iD => true
 | 2, .map _ => true
 | _, _ => false
def E2 (x : AV) (H : List aa) : Option AV :=
 match x with
 | .str s => some (.int .i64 s.size)
 | .ah => some (.int .i64 0)
 | .ap _ xs => some (.int .i64 xs.length)
 | .bf _ _ len _ => some (.int .i64 len)
 | .iD => some (.int .i64 0)
 | .map id => match H[id]? with
   | some (.map es) => some (.int .i64 es.length)
   | _ => none
 | _ => none
def nP (x : AV) (i : Nat) : Option AV :=
 match x with
 | .tuple xs => if i < xs.length then some (xs.getD i .any).ab else none
 | _ => none
def lH (x : AV) : Option AV :=
 match x with
 | .ptr .. | .ai _ => some x
 | .fn (.func _) _ _ => some x
 | _ => none
def nQ (k : IntKind) (x : AV) : Option AV :=
 match x with
 | .int _ n => some (.int k (k.wrap n))
 | _ => none
def LP (big : Bool) (x y : AV) : Option AV :=
 match x, y with
 | .int k a, .int _ b => some (.int k (if big then (if b > a then b else a) else (if b < a then b else a)))
 | _, _ => none
def zi (m : Nat) (p x : AV) (H : List aa) : Option (List aa) :=
 match p with
 | .ptr id off => match H[id]? with
   | some (.cells es) => if x.val = true ∧ x.cells.length = m ∧ off + m ≤ es.length ∧ x.cells.all AV.one = true ∧ aj (id + 1) (x.cells.map AV.ab) = true then
      some (H.set id (.cells (ag es off (x.cells.map AV.ab)))) else none
   | _ => none
 | _ => none
def rj (p x : AV) (H : List aa) : Option (List aa) :=
 match p with
 | .ptr id off => match H[id]? with
   | some (.cells es) => if off < es.length ∧ x.one = true ∧ x.a7 (id + 1) = true then some (H.set id (.cells (es.set off x))) else none
   | _ => none
 | _ => none
def uG (esz bytes : Nat) (s x : AV) : Option (List AV) :=
 match ma esz s, dz x with
 | some xs, some ys => if (xs.length + ys.length) * bytes ≤ 140737488355328 ∧ (ys.all fun y => y.cells.length == esz && y.cells.all AV.one) = true then some (xs ++ ys) else none
 | _, _ => none
def zj (bytes : Nat) (z n : AV) (H : List aa) : Option (AV × List aa) :=
 match n with
 | .int .i64 n => if 0 ≤ n ∧ n.toNat * bytes ≤ 140737488355328 ∧ aj (H.length + 1) (flat (List.replicate n.toNat (bN z))) = true then
    some (.bf H.length 0 n.toNat n.toNat, H ++ [.cells (flat (List.replicate n.toNat (bN z)))]) else none
 | _ => none
def tE (esz bytes : Nat) (n : AV) : Option AV :=
 match n with
 | .int .i64 n => if 0 ≤ n ∧ n.toNat * bytes ≤ 140737488355328 then some (.ap esz []) else none
 | _ => none
def pS (x : Option AV) (d : Nat) : Option Nat :=
 match x with
 | none => some d
 | some (.int _ i) => if 0 ≤ i then some i.toNat else none
 | _ => none
def zk (esz : Nat) (x : AV) (lo hi mx : Option AV) : Option AV :=
 match dz x with
 | some xs => match pS hi xs.length, pS lo 0 with
   | some h, some l => if l ≤ h ∧ h ≤ xs.length then
      match mx with
      | none => some (.ap 0 ((xs.take h).drop l))
      | some m => match pS (some m) 0 with
        | some m => if hi.isSome = true ∧ m = h ∧ (xs.all fun y => y.cells.length == esz) = true then some (.ap esz ((xs.take h).drop l)) else none
        | none => none
     else none
   | _, _ => none
 | none => none
def DE (esz : Nat) (d s : AV) (H : List aa) : Option (AV × List aa) :=
 match d, wA esz s H with
 | .bf id off len _, some (n, ys) => match H[id]? with
   | some (.cells es) => if (ys.take (min n len * esz)).all AV.one = true ∧ off + min n len * esz ≤ es.length ∧ aj (id + 1) ((ys.take (min n len * esz)).map AV.ab) = true then
      some (.int .i64 (min n len : Nat), H.set id (.cells (ag es off ((ys.take (min n len * esz)).map AV.ab)))) else none
   | _ => none
 | _, _ => none
def oY (esz : Nat) (x : AV) (H : List aa) : Option (AV × List aa) :=
 match x with
 | .bf id off len cap => match H[id]? with
   | some (.cells es) => if 0 < esz ∧ len ≤ cap ∧ off + len * esz ≤ es.length ∧ (es.drop off).all AV.one = true then some (.ap 0 (chunks esz len (es.drop off)), H.set id .dead) else none
   | _ => none
 | .any => none
 | .agg _ => none
 | .ptr _ _ => none
 | .oh => none
 | x => some (x.ab, H)
def lI (esz : Nat) : List AV → List aa → Option (List AV × List aa)
 | [], H => some ([], H)
 | .agg _ :: _, _ => none
 | x :: r, H => match oY esz x H with
   | some (y, H') => match lI esz r H' with
     | some (ys, H'') => some (y :: ys, H'')
     | none => none
   | none => none
def zm (esz : Nat) (x : AV) (H : List aa) : Option (AV × List aa) :=
 match x with
 | .agg xs => match lI esz xs H with
   | some (ys, H') => some (.agg ys, H')
   | none => none
 | x => oY esz x H
def pT (esz : Nat) (x : AV) (lo hi mx : Option AV) : Option AV :=
 match x with
 | .bf id off len cap => match mx, pS hi len, pS lo 0 with
   | none, some h, some l => if l ≤ h ∧ h ≤ cap then some (.bf id (if cap = l then off else off + l * esz) (h - l) (cap - l)) else none
   | _, _, _ => none
 | x => if uF esz x = true then zk esz x lo hi mx else none
def lJ (x : AV) (lo hi : Option AV) : Option AV :=
 match x with
 | .str s => match pS hi s.size, pS lo 0 with
   | some h, some l => if l ≤ h ∧ h ≤ s.size then some (.str (s.extract l h)) else none
   | _, _ => none
 | _ => none
def nR (x : AV) : Option AV := match x with | .str s => some (.str s) | _ => none
def uH : List AV → Option (List UInt8)
 | [] => some []
 | .int .u8 n :: r => match uH r with
   | some l => if 0 ≤ n ∧ n < 256 then some (UInt8.ofNat n.toNat :: l) else none
   | none => none
 | _ => none
def tF (x : AV) : Option AV :=
 match dz x with
 | some ys => match uH ys with
   | some l => some (.str ⟨l.toArray⟩)
   | none => none
 | none => none
def nS (own : Nat) (x : AV) : Option AV :=
 match x with
 | .str s => if s.size < 9223372036854775808 then some (.ap own (bg s.data.toList)) else none
 | _ => none
def pU (kd : Nat) (zero m k : AV) (ok : Bool) (H : List aa) : Option AV :=
 match m with
 | .iD => if cP kd k k = some true then some (if ok then .tuple [aT zero, .bool false] else aT zero) else none
 | .map id => match H[id]? with
   | some (.map es) => match dP kd k es 0 with
     | some (some (_, v)) => some (if ok then .tuple [v.drop, .bool true] else v.drop)
     | some none => if cP kd k k = some true then some (if ok then .tuple [aT zero, .bool false] else aT zero) else none
     | none => none
   | _ => none
 | _ => none
def uI (kd : Nat) (m k x : AV) (H : List aa) : Option (List aa) :=
 match m with
 | .map id => match H[id]? with
   | some (.map es) => if k.a7 (id + 1) = true ∧ x.a7 (id + 1) = true ∧ x.val = true then match dP kd k es 0 with
      | some (some (i, _)) => some (H.set id (.map (es.set i (k, aT x))))
      | some none => if cP kd k k = some true then some (H.set id (.map (es ++ [(k, aT x)]))) else none
      | none => none
     else none
   | _ => none
 | _ => none
section
variable {z : AV} {φ : AV → Prop}
theorem E3 {op : BinOp} {x y : AV} (h : E1 op x y = some z) (hφ : φ z) : cV op x y φ := by
 unfold E1 at h
 split at h
 ·split at h <;> try cases h
  rename_i hk
  refine ⟨hk, ?_⟩
  split at h <;> first | (cases h; exact hφ) | (split at h <;> cases h; exact ⟨by assumption, hφ⟩) | cases h
 ·split at h <;> first | (cases h; exact hφ) | (split at h <;> cases h; exact ⟨by assumption, hφ⟩) | cases h
 ·cases h
theorem xt {op : BinOp} {x y : AV} (h : tB op x y = some z) (hφ : φ z) : dN op x y φ := by
 unfold tB at h
 split at h <;> try cases h
 split at h <;> try cases h
 rename_i hb
 refine ⟨hb, ?_⟩
 split at h <;> cases h <;> exact hφ
theorem uJ {neq : Bool} {x y : AV} (h : pR neq x y = some z) (hφ : φ z) : cM neq x y φ := by
 unfold pR at h; unfold cM
 split at h <;> cases h <;> exact hφ
theorem xu {kd : Nat} {neq : Bool} {x : AV} (h : tC kd neq x = some z) (hφ : φ z) : dc kd neq x φ := by
 unfold tC at h; unfold dc
 split at h <;> cases h
 rename_i hb; rw [hb]; exact hφ
theorem ID {op : UnOp} {x : AV} (h : LO op x = some z) (hφ : φ z) : yE op x φ := by
 unfold LO at h; unfold yE
 split at h <;> cases h <;> exact hφ
theorem uK {φ : List AV → Prop} {r : List AV} (hφ : φ r) : ∀ {ps : List (Nat × Nat × AV)} {zs : List AV}, ri zs ps = some r → gI zs ps φ
 | [], zs, h => by simp only [ri] at h; cases h; exact hφ
 | (off, sz, x) :: ps, zs, h => by
   simp only [ri] at h
   split at h <;> try cases h
   rename_i hc
   exact ⟨hc.1, hc.2.1, hc.2.2, uK hφ h⟩
theorem oZ {esz : Nat} {φ : List AV → Prop} {r : List AV} (hφ : φ r) : ∀ {ps : List (Nat × AV)} {zs : List AV}, kH zs esz ps = some r → bh zs esz ps φ
 | [], zs, h => by simp only [kH] at h; cases h; exact hφ
 | (i, x) :: ps, zs, h => by
   simp only [kH] at h
   split at h <;> try cases h
   rename_i hc
   exact ⟨hc.1, hc.2.1, hc.2.2, oZ hφ h⟩
theorem mX {sz : Option Nat} {x : AV} {H : List aa} (h : oX sz x H = some z) (hφ : φ z) : aS sz x H φ := by
 unfold oX at h; unfold aS
 split at h <;> try cases h
 ·split at h <;> try cases h
  rename_i bm
  simp only [bm]
  split at h <;> (split at h <;> cases h) <;> exact ⟨by assumption, hφ⟩
 ·simp only
  split at h <;> (split at h <;> cases h) <;> exact ⟨by assumption, hφ⟩
theorem Bk {off : Nat} {sz : Option Nat} {xs : List AV} (h : zg off sz xs = some z) (hφ : φ z) : apart off sz xs φ := by
 unfold zg at h; unfold apart
 split at h <;> split at h <;> cases h
 ·exact ⟨by assumption, hφ⟩
 ·rename_i hc; exact ⟨hc.1, hc.2, hφ⟩
theorem oD {off : Nat} {sz : Option Nat} {x : AV} (h : jT off sz x = some z) (hφ : φ z) : ak off sz x φ := by
 unfold jT at h; unfold ak
 split at h <;> try cases h
 ·exact hφ
 ·obtain ⟨u, hu, rfl⟩ := Option.map_eq_some_iff.1 h
  exact Bk hu hφ
theorem xv {off : Nat} {sz : Option Nat} {x : AV} (h : tD off sz x = some z) (hφ : φ z) : eJ off sz x φ := by
 unfold tD at h; unfold eJ
 split at h <;> try cases h
 obtain ⟨u, hu, rfl⟩ := Option.map_eq_some_iff.1 h
 exact Bk hu hφ
theorem uL {esz : Nat} {x : AV} (h : uF esz x = true) : ∀ own xs, x = .ap own xs → ∀ z ∈ xs, z.cells.length = esz := by
 intro own xs e z hz
 subst e
 simp only [uF, List.all_eq_true, beq_iff_eq] at h
 exact h z hz
theorem oE {esz : Nat} {x i : AV} (h : jU esz x i = some z) (hφ : φ z) : ay esz x i φ := by
 unfold jU at h; unfold ay
 split at h <;> try cases h
 ·split at h <;> cases h
  rename_i hc; exact ⟨hc.1, hc.2, hφ⟩
 ·split at h <;> cases h
  rename_i hc; exact ⟨hc.1, hc.2, hφ⟩
theorem pV {x i : AV} (h : lG x i = some z) (hφ : φ z) : bH x i φ := by
 unfold lG at h; unfold bH
 split at h <;> try cases h
 split at h <;> cases h
 rename_i hc; exact ⟨hc.1, hc.2, hφ⟩
theorem pW {n : Nat} {x i : AV} (h : lF n x i = some z) (hφ : φ z) : bQ n x i φ := by
 unfold lF at h; unfold bQ
 split at h <;> try cases h
 split at h <;> cases h
 rename_i hc; exact ⟨hc.1, hc.2.1, hc.2.2, hφ⟩
theorem Bl {kd : Nat} {x : AV} (h : zh kd x = true) : aL kd x := by
 unfold zh at h; unfold aL
 split at h <;> first | trivial | cases h
theorem E4 {x : AV} {H : List aa} (h : E2 x H = some z) (hφ : φ z) : eW x H φ := by
 unfold E2 at h; unfold eW
 split at h <;> try cases h
 ·exact hφ
 ·exact hφ
 ·exact fun _ => hφ
 ·exact hφ
 ·exact hφ
 ·split at h <;> cases h
  rename_i bm
  simp only [bm]; exact hφ
theorem sH {x : AV} {i : Nat} (h : nP x i = some z) (hφ : φ z) : bC x i φ := by
 unfold nP at h; unfold bC
 split at h <;> try cases h
 split at h <;> cases h
 exact ⟨by assumption, hφ⟩
theorem pX {x : AV} (h : lH x = some z) (hφ : φ z) : bR x φ := by
 unfold lH at h; unfold bR
 split at h <;> cases h <;> exact hφ
theorem sI {k : IntKind} {x : AV} (h : nQ k x = some z) (hφ : φ z) : cq k x φ := by
 unfold nQ at h; unfold cq
 split at h <;> cases h <;> exact hφ
theorem IE {big : Bool} {x y : AV} (h : LP big x y = some z) (hφ : φ z) : wj big x y φ := by
 unfold LP at h; unfold wj
 split at h <;> cases h <;> exact hφ
theorem Gw {m : Nat} {p x : AV} {H H' : List aa} {K : List aa → Prop} (h : zi m p x H = some H') (hK : K H') : gQ m p x H K := by
 unfold zi at h; unfold gQ
 split at h <;> try cases h
 split at h <;> try cases h
 rename_i bm
 split at h <;> cases h
 rename_i hc
 simp only [bm]
 exact ⟨hc.1, hc.2.1, hc.2.2.1, hc.2.2.2.1, hc.2.2.2.2, hK⟩
theorem Bm {p x : AV} {H H' : List aa} {K : List aa → Prop} (h : rj p x H = some H') (hK : K H') : dO p x H K := by
 unfold rj at h; unfold dO
 split at h <;> try cases h
 split at h <;> try cases h
 rename_i bm
 split at h <;> cases h
 rename_i hc
 simp only [bm]
 exact ⟨hc.1, hc.2.1, hc.2.2, hK⟩
theorem DF {esz bytes : Nat} {s x : AV} {r : List AV} {φ : List AV → Prop} (h : uG esz bytes s x = some r) (hφ : φ r) : bE esz bytes s x φ := by
 unfold uG at h; unfold bE
 split at h <;> try cases h
 rename_i xs ys h1 h2
 split at h <;> cases h
 rename_i hc
 simp only [h1, h2]
 refine ⟨hc.1, ?_, hφ⟩
 intro y hy
 have := List.all_eq_true.1 hc.2 y hy
 simpa using this
theorem Gx {esz bytes : Nat} {x n : AV} {H H' : List aa} {K : AV → List aa → Prop} (h : zj bytes x n H = some (z, H')) (hK : K z H') : fK esz bytes x n H K := by
 unfold zj at h; unfold fK
 split at h <;> try cases h
 split at h <;> cases h
 rename_i hc
 exact ⟨hc.1, hc.2.1, hc.2.2, hK⟩
theorem xw {esz bytes : Nat} {n : AV} (h : tE esz bytes n = some z) (hφ : φ z) : iI esz bytes n φ := by
 unfold tE at h; unfold iI
 split at h <;> try cases h
 split at h <;> cases h
 rename_i hc
 exact ⟨hc.1, hc.2, hφ⟩
theorem lK {x : Option AV} {d k : Nat} {φ : Nat → Prop} (h : pS x d = some k) (hφ : φ k) : dH x d φ := by
 unfold pS at h; unfold dH
 split at h
 ·cases h; exact hφ
 ·split at h <;> cases h
  rename_i hc
  exact ⟨hc, hφ⟩
 ·cases h
theorem Gy {esz : Nat} {x : AV} {lo hi mx : Option AV} (h : zk esz x lo hi mx = some z) (hφ : φ z) : eM esz x lo hi mx φ := by
 unfold zk at h; unfold eM
 split at h <;> try cases h
 rename_i xs fp
 simp only [fp]
 split at h <;> try cases h
 rename_i hh ll h1 h2
 split at h <;> try cases h
 rename_i hc
 refine lK h1 (lK h2 ⟨hc.1, hc.2, ?_⟩)
 split at h
 ·cases h; exact hφ
 ·split at h <;> try cases h
  rename_i m hm
  split at h <;> cases h
  rename_i hc
  refine ⟨hc.1, lK hm ⟨hc.2.1, ?_, hφ⟩⟩
  intro y hy
  have := List.all_eq_true.1 hc.2.2 y hy
  simpa using this
theorem IF {esz : Nat} {d s : AV} {H H' : List aa} {K : AV → List aa → Prop} (h : DE esz d s H = some (z, H')) (hK : K z H') : jq esz d s H K := by
 unfold DE at h; unfold jq
 split at h <;> try cases h
 rename_i hs
 split at h <;> try cases h
 rename_i bm
 split at h <;> cases h
 rename_i hc
 simp only [hs, bm]
 exact ⟨hc.1, hc.2.1, hc.2.2, hK⟩
theorem uM {esz : Nat} {x : AV} {H H' : List aa} {K : AV → List aa → Prop} (h : oY esz x H = some (z, H')) (hK : K z H') : ff esz x H K := by
 unfold oY at h; unfold ff
 split at h
 ·split at h <;> try cases h
  rename_i bm
  split at h <;> cases h
  rename_i hc
  simp only [dD, bm]
  exact ⟨hc.1, hc.2.1, hc.2.2.1, hc.2.2.2, hK⟩
 ·cases h
 ·cases h
 ·cases h
 ·cases h
 ·rename_i h1 h2 h3 h4 h5
  cases h
  cases x <;> first | exact hK | exact absurd rfl h2 | exact absurd rfl h5 | exact absurd rfl (h1 _ _ _ _) | exact absurd rfl (h3 _) | exact absurd rfl (h4 _ _)
theorem Gz {esz : Nat} {x : AV} {H H' : List aa} {K : AV → List aa → Prop} (hx : ∀ xs, x ≠ .agg xs) (h : oY esz x H = some (z, H')) (hK : K z H') : dD esz x H K := by
 have := uM (K := K) h hK
 unfold ff at this
 split at this
 ·exact absurd rfl (hx _)
 ·cases h
 ·exact this
theorem xx {esz : Nat} : ∀ {xs : List AV} {H H' : List aa} {ys : List AV} {K : List AV → List aa → Prop}, lI esz xs H = some (ys, H') → K ys H' → jr esz xs H K
 | [], H, H', ys, K, h, hK => by simp only [lI] at h; cases h; exact hK
 | x :: r, H, H', ys, K, h, hK => by
   have hx : ∀ xs, x ≠ .agg xs := fun xs e => by subst e; simp [lI] at h
   have h' : (match oY esz x H with
    | some (y, H') => match lI esz r H' with
      | some (ys, H'') => some (y :: ys, H'')
      | none => none
    | none => none) = some (ys, H') := by
    cases x <;> first | exact absurd rfl (hx _) | (simpa only [lI] using h)
   split at h' <;> try cases h'
   rename_i y H1 h1
   split at h' <;> cases h'
   rename_i ys' h2
   exact Gz (K := fun y H' => jr esz r H' fun ys H'' => K (y :: ys) H'') hx h1 (xx (K := fun ys H'' => K (y :: ys) H'') h2 hK)
theorem GA {esz : Nat} {x : AV} {H H' : List aa} {K : AV → List aa → Prop} (h : zm esz x H = some (z, H')) (hK : K z H') : ff esz x H K := by
 unfold zm at h
 split at h
 ·split at h <;> cases h
  rename_i ys hs
  exact xx (K := fun ys H' => K (.agg ys) H') hs hK
 ·exact uM h hK
theorem uN {esz : Nat} {x : AV} {lo hi mx : Option AV} (h : pT esz x lo hi mx = some z) (hφ : φ z) : bn esz x lo hi mx φ := by
 unfold pT at h; unfold bn
 split at h
 ·split at h <;> try cases h
  rename_i h1 h2
  split at h <;> cases h
  rename_i hc
  simp only
  unfold gk
  exact lK h1 (lK h2 ⟨hc.1, hc.2, hφ⟩)
 ·rename_i dG
  split at h <;> try cases h
  rename_i hl
  split
  ·exact absurd rfl (dG _ _ _ _)
  ·exact ⟨uL hl, Gy h hφ⟩
theorem pY {x : AV} {lo hi : Option AV} (h : lJ x lo hi = some z) (hφ : φ z) : b7 x lo hi φ := by
 unfold lJ at h; unfold b7
 split at h <;> try cases h
 split at h <;> try cases h
 rename_i hh ll h1 h2
 split at h <;> cases h
 rename_i hc
 exact lK h1 (lK h2 ⟨hc.1, hc.2, hφ⟩)
theorem sJ {x : AV} (h : nR x = some z) (hφ : φ z) : fw x φ := by
 unfold nR at h; unfold fw
 split at h <;> cases h <;> exact hφ
theorem Bn : ∀ {ys : List AV} {l : List UInt8}, uH ys = some l → ys = bg l
 | [], l, h => by simp only [uH] at h; cases h; rfl
 | y :: ys, l, h => by
   unfold uH at h
   split at h
   ·rename_i e; cases e
   ·rename_i n r e
    cases e
    split at h <;> try cases h
    rename_i l' hl
    split at h <;> cases h
    rename_i hn
    have := Bn hl
    subst this
    simp only [bg, List.map_cons]
    congr 1
    have : (UInt8.ofNat n.toNat).toNat = n.toNat := by
     rw [UInt8.toNat_ofNat']
     exact Nat.mod_eq_of_lt (by have : (2:Nat)^8 = 256 := rfl
                                omega)
    rw [this]
    congr 1
    omega
   ·cases h
theorem xy {x : AV} (h : tF x = some z) (hφ : φ z) : jo x φ := by
 unfold tF at h; unfold jo
 split at h <;> try cases h
 rename_i ys pr
 split at h <;> cases h
 rename_i l hl
 simp only [pr]
 exact ⟨l, Bn hl, hφ⟩
theorem sK {own : Nat} {x : AV} (h : nS own x = some z) (hφ : φ z) : eN own x φ := by
 unfold nS at h; unfold eN
 split at h <;> try cases h
 split at h <;> cases h
 exact ⟨by assumption, hφ⟩
theorem uO {kd : Nat} {zero m k : AV} {ok : Bool} {H : List aa} (h : pU kd zero m k ok H = some z) (hφ : φ z) : cb kd zero m k ok H φ := by
 unfold pU at h; unfold cb
 split at h <;> try cases h
 ·split at h <;> cases h
  exact ⟨by assumption, hφ⟩
 ·split at h <;> try cases h
  rename_i bm
  simp only [bm]
  split at h
  ·rename_i hf; cases h; simp only [hf]; exact hφ
  ·rename_i hf
   split at h <;> cases h
   simp only [hf]
   exact ⟨by assumption, hφ⟩
  ·cases h
theorem DG {kd : Nat} {m k x : AV} {H H' : List aa} {K : List aa → Prop} (h : uI kd m k x H = some H') (hK : K H') : eZ kd m k x H K := by
 unfold uI at h; unfold eZ
 split at h <;> try cases h
 split at h <;> try cases h
 rename_i bm
 simp only [bm]
 split at h <;> try cases h
 rename_i hc
 refine ⟨hc.1, hc.2.1, hc.2.2, ?_⟩
 split at h
 ·rename_i hf; cases h; simp only [hf]; exact hK
 ·rename_i hf
  split at h <;> cases h
  simp only [hf]
  exact ⟨by assumption, hK⟩
 ·cases h
end
end Go.aK
