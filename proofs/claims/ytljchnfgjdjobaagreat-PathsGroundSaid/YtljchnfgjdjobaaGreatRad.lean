/- A memory-free reading of the model's values (part 19): operations that are run. -/
import Derived.Test.YtljchnfgjdjobaaGreatRac
set_option linter.unusedVariables false
set_option linter.unusedSimpArgs false
set_option linter.defProp false
set_option linter.unusedSectionVars false
namespace Go.aK
open Go
def abr : AV → Option Bool | .bool b => some b | _ => none
def Fc (op : BinOp) (x y : AV) : Option AV :=
 match x, y with
 | .int k a, .int k' b => if k = k' then
    match op with
    | .add => some (.int k (k.wrap (a + b)))
    | .sub => some (.int k (k.wrap (a - b)))
    | .mul => some (.int k (k.wrap (a * b)))
    | .quo => if b ≠ 0 then some (.int k (k.wrap (a.tdiv b))) else none
    | .rem => if b ≠ 0 then some (.int k (a.tmod b)) else none
    | .and => some (.int k (k.wrap (BitVec.ofInt k.bits a &&& BitVec.ofInt k.bits b).toNat))
    | .or => some (.int k (k.wrap (BitVec.ofInt k.bits a ||| BitVec.ofInt k.bits b).toNat))
    | .eql => some (.bool (decide (a = b)))
    | .neq => some (.bool (decide (a ≠ b)))
    | .lss => some (.bool (decide (a < b)))
    | .leq => some (.bool (decide (a ≤ b)))
    | .gtr => some (.bool (decide (b < a)))
    | .geq => some (.bool (decide (b ≤ a)))
    | _ => none
   else none
 | .str a, .str b =>
   match op with
   | .add => if a.size + b.size < 9223372036854775808 then some (.str (a ++ b)) else none
   | .eql => some (.bool (decide (a = b)))
   | .neq => some (.bool (decide (a ≠ b)))
   | .lss => some (.bool (Op.bytesLess a.data.toList b.data.toList))
   | _ => none
 | _, _ => none
def tE (op : BinOp) (x y : AV) : Option AV :=
 match x, y with
 | .int k a, .int _ b => if 0 ≤ b then
    match op with
    | .shl => some (.int k (k.wrap (a * 2 ^ (min b.toNat k.bits))))
    | .shr => some (.int k (a.fdiv (2 ^ (min b.toNat k.bits))))
    | _ => none
   else none
 | _, _ => none
def qd (neq : Bool) (x y : AV) : Option AV :=
 match x, y with
 | .bool a, .bool b => some (.bool (if neq then decide (a ≠ b) else decide (a = b)))
 | _, _ => none
def tF (kd : Nat) (neq : Bool) (x : AV) : Option AV :=
 match isNil kd x with
 | some b => some (.bool (if neq then !b else b))
 | none => none
def L8 (op : UnOp) (x : AV) : Option AV :=
 match op, x with
 | .not, .bool b => some (.bool (!b))
 | .neg, .int k n => some (.int k (k.wrap (0 - n)))
 | _, _ => none
def ru (zs : List AV) : List (Nat × Nat × AV) → Option (List AV)
 | [] => some zs
 | (off, sz, x) :: r => if x.val = true ∧ x.cells.length = sz ∧ off + sz ≤ zs.length then ru (ag zs off (x.cells.map AV.ab)) r else none
def kR (xs : List AV) (esz : Nat) : List (Nat × AV) → Option (List AV)
 | [] => some xs
 | (i, x) :: r => if x.val = true ∧ x.cells.length = esz ∧ i < xs.length then kR (xs.set i (aQ x)) esz r else none
def o9 (sz : Option Nat) (x : AV) (H : List aa) : Option AV :=
 match x with
 | .ptr id off => match H[id]? with
   | some (.cells es) => match sz with
     | some m => if off + m ≤ es.length then some (.agg (((es.drop off).take m).map AV.drop)) else none
     | none => if off < es.length then some (es.getD off .any).ab else none
   | _ => none
 | .ai y => match sz with
   | some m => if y.cells.length = m then some (.agg y.cells) else none
   | none => if y.one = true then some y.ab else none
 | _ => none
def zj (off : Nat) (sz : Option Nat) (xs : List AV) : Option AV :=
 match sz with
 | some m => if off + m ≤ xs.length then some (.agg ((xs.drop off).take m)) else none
 | none => if off < xs.length ∧ (xs.getD off .any).one = true then some (xs.getD off .any) else none
def j3 (off : Nat) (sz : Option Nat) (x : AV) : Option AV :=
 match x with
 | .ptr id o => some (.ptr id (o + off))
 | .ai y => (zj off sz y.cells).map .ai
 | _ => none
def tG (off : Nat) (sz : Option Nat) (x : AV) : Option AV :=
 match x with
 | .agg xs => (zj off sz xs).map AV.drop
 | _ => none
def uJ (esz : Nat) (x : AV) : Bool :=
 match x with
 | .ap _ xs => xs.all fun z => z.cells.length == esz
 | _ => true
def j4 (esz : Nat) (x i : AV) : Option AV :=
 match x, i with
 | .ap _ xs, .int _ i => if 0 ≤ i ∧ i.toNat < xs.length then some (.ai (xs.getD i.toNat .any)) else none
 | .bf id off len _, .int _ i => if 0 ≤ i ∧ i.toNat < len then some (.ptr id (off + i.toNat * esz)) else none
 | _, _ => none
def lL (n : Nat) (x i : AV) : Option AV :=
 match x, i with
 | .agg xs, .int _ i => if xs.length = n ∧ 0 ≤ i ∧ i.toNat < n then some (xs.getD i.toNat .any).drop else none
 | _, _ => none
def lM (x i : AV) : Option AV :=
 match x, i with
 | .str s, .int _ i => if 0 ≤ i ∧ i.toNat < s.size then some (.int .u8 (s.data.toList.getD i.toNat 0).toNat) else none
 | _, _ => none
def zk (kd : Nat) (x : AV) : Bool :=
 match kd, x with
 | 0, .str _ => true
 | 1, .ah => true
 | 1, .ap _ _ => true
 | 1, .bf _ _ _ _ => true
 | 2, .iJ => true
 | 2, .map _ => true
 | _, _ => false
def Fe (x : AV) (H : List aa) : Option AV :=
 match x with
 | .str s => some (.int .i64 s.size)
 | .ah => some (.int .i64 0)
 | .ap _ xs => some (.int .i64 xs.length)
 | .bf _ _ len _ => some (.int .i64 len)
 | .iJ => some (.int .i64 0)
 | .map id => match H[id]? with
   | some (.map es) => some (.int .i64 es.length)
   | _ => none
 | _ => none
def nW (x : AV) (i : Nat) : Option AV :=
 match x with
 | .tuple xs => if i < xs.length then some (xs.getD i .any).ab else none
 | _ => none
def lN (x : AV) : Option AV :=
 match x with
 | .ptr .. | .ai _ => some x
 | .fn (.func _) _ _ => some x
 | _ => none
def nX (k : IntKind) (x : AV) : Option AV :=
 match x with
 | .int _ n => some (.int k (k.wrap n))
 | _ => none
def L9 (big : Bool) (x y : AV) : Option AV :=
 match x, y with
 | .int k a, .int _ b => some (.int k (if big then (if b > a then b else a) else (if b < a then b else a)))
 | _, _ => none
def zm (m : Nat) (p x : AV) (H : List aa) : Option (List aa) :=
 match p with
 | .ptr id off => match H[id]? with
   | some (.cells es) => if x.val = true ∧ x.cells.length = m ∧ off + m ≤ es.length ∧ x.cells.all AV.one = true ∧ aj (id + 1) (x.cells.map AV.ab) = true then
      some (H.set id (.cells (ag es off (x.cells.map AV.ab)))) else none
   | _ => none
 | _ => none
def rv (p x : AV) (H : List aa) : Option (List aa) :=
 match p with
 | .ptr id off => match H[id]? with
   | some (.cells es) => if off < es.length ∧ x.one = true ∧ x.a7 (id + 1) = true then some (H.set id (.cells (es.set off x))) else none
   | _ => none
 | _ => none
def uK (esz bytes : Nat) (s x : AV) : Option (List AV) :=
 match mr esz s, dI x with
 | some xs, some ys => if (xs.length + ys.length) * bytes ≤ 140737488355328 ∧ (ys.all fun y => y.cells.length == esz && y.cells.all AV.one) = true then some (xs ++ ys) else none
 | _, _ => none
def zn (bytes : Nat) (z n : AV) (H : List aa) : Option (AV × List aa) :=
 match n with
 | .int .i64 n => if 0 ≤ n ∧ n.toNat * bytes ≤ 140737488355328 ∧ aj (H.length + 1) (flat (List.replicate n.toNat (bO z))) = true then
    some (.bf H.length 0 n.toNat n.toNat, H ++ [.cells (flat (List.replicate n.toNat (bO z)))]) else none
 | _ => none
def tH (esz bytes : Nat) (n : AV) : Option AV :=
 match n with
 | .int .i64 n => if 0 ≤ n ∧ n.toNat * bytes ≤ 140737488355328 then some (.ap esz []) else none
 | _ => none
def qe (x : Option AV) (d : Nat) : Option Nat :=
 match x with
 | none => some d
 | some (.int _ i) => if 0 ≤ i then some i.toNat else none
 | _ => none
def zp (esz : Nat) (x : AV) (lo hi mx : Option AV) : Option AV :=
 match dI x with
 | some xs => match qe hi xs.length, qe lo 0 with
   | some h, some l => if l ≤ h ∧ h ≤ xs.length then
      match mx with
      | none => some (.ap 0 ((xs.take h).drop l))
      | some m => match qe (some m) 0 with
        | some m => if hi.isSome = true ∧ m = h ∧ (xs.all fun y => y.cells.length == esz) = true then some (.ap esz ((xs.take h).drop l)) else none
        | none => none
     else none
   | _, _ => none
 | none => none
def DJ (esz : Nat) (d s : AV) (H : List aa) : Option (AV × List aa) :=
 match d, wH esz s H with
 | .bf id off len _, some (n, ys) => match H[id]? with
   | some (.cells es) => if (ys.take (min n len * esz)).all AV.one = true ∧ off + min n len * esz ≤ es.length ∧ aj (id + 1) ((ys.take (min n len * esz)).map AV.ab) = true then
      some (.int .i64 (min n len : Nat), H.set id (.cells (ag es off ((ys.take (min n len * esz)).map AV.ab)))) else none
   | _ => none
 | _, _ => none
def pc (esz : Nat) (x : AV) (H : List aa) : Option (AV × List aa) :=
 match x with
 | .bf id off len cap => match H[id]? with
   | some (.cells es) => if 0 < esz ∧ len ≤ cap ∧ off + len * esz ≤ es.length ∧ (es.drop off).all AV.one = true then some (.ap 0 (chunks esz len (es.drop off)), H.set id .dead) else none
   | _ => none
 | .any => none
 | .agg _ => none
 | .ptr _ _ => none
 | .ou => none
 | x => some (x.ab, H)
def lO (esz : Nat) : List AV → List aa → Option (List AV × List aa)
 | [], H => some ([], H)
 | .agg _ :: _, _ => none
 | x :: r, H => match pc esz x H with
   | some (y, H') => match lO esz r H' with
     | some (ys, H'') => some (y :: ys, H'')
     | none => none
   | none => none
def zq (esz : Nat) (x : AV) (H : List aa) : Option (AV × List aa) :=
 match x with
 | .agg xs => match lO esz xs H with
   | some (ys, H') => some (.agg ys, H')
   | none => none
 | x => pc esz x H
def qf (esz : Nat) (x : AV) (lo hi mx : Option AV) : Option AV :=
 match x with
 | .bf id off len cap => match mx, qe hi len, qe lo 0 with
   | none, some h, some l => if l ≤ h ∧ h ≤ cap then some (.bf id (if cap = l then off else off + l * esz) (h - l) (cap - l)) else none
   | _, _, _ => none
 | x => if uJ esz x = true then zp esz x lo hi mx else none
def lP (x : AV) (lo hi : Option AV) : Option AV :=
 match x with
 | .str s => match qe hi s.size, qe lo 0 with
   | some h, some l => if l ≤ h ∧ h ≤ s.size then some (.str (s.extract l h)) else none
   | _, _ => none
 | _ => none
def nY (x : AV) : Option AV := match x with | .str s => some (.str s) | _ => none
def uL : List AV → Option (List UInt8)
 | [] => some []
 | .int .u8 n :: r => match uL r with
   | some l => if 0 ≤ n ∧ n < 256 then some (UInt8.ofNat n.toNat :: l) else none
   | none => none
 | _ => none
def tI (x : AV) : Option AV :=
 match dI x with
 | some ys => match uL ys with
   | some l => some (.str ⟨l.toArray⟩)
   | none => none
 | none => none
def nZ (own : Nat) (x : AV) : Option AV :=
 match x with
 | .str s => if s.size < 9223372036854775808 then some (.ap own (bg s.data.toList)) else none
 | _ => none
def qg (kd : Nat) (zero m k : AV) (ok : Bool) (H : List aa) : Option AV :=
 match m with
 | .iJ => if cR kd k k = some true then some (if ok then .tuple [aQ zero, .bool false] else aQ zero) else none
 | .map id => match H[id]? with
   | some (.map es) => match dP kd k es 0 with
     | some (some (_, v)) => some (if ok then .tuple [v.drop, .bool true] else v.drop)
     | some none => if cR kd k k = some true then some (if ok then .tuple [aQ zero, .bool false] else aQ zero) else none
     | none => none
   | _ => none
 | _ => none
def uM (kd : Nat) (m k x : AV) (H : List aa) : Option (List aa) :=
 match m with
 | .map id => match H[id]? with
   | some (.map es) => if k.a7 (id + 1) = true ∧ x.a7 (id + 1) = true ∧ x.val = true then match dP kd k es 0 with
      | some (some (i, _)) => some (H.set id (.map (es.set i (k, aQ x))))
      | some none => if cR kd k k = some true then some (H.set id (.map (es ++ [(k, aQ x)]))) else none
      | none => none
     else none
   | _ => none
 | _ => none
section
variable {z : AV} {φ : AV → Prop}
theorem Ff {op : BinOp} {x y : AV} (h : Fc op x y = some z) (hφ : φ z) : cW op x y φ := by
 unfold Fc at h
 split at h
 ·split at h <;> try cases h
  rename_i hk
  refine ⟨hk, ?_⟩
  split at h <;> first | (cases h; exact hφ) | (split at h <;> cases h; exact ⟨by assumption, hφ⟩) | cases h
 ·split at h <;> first | (cases h; exact hφ) | (split at h <;> cases h; exact ⟨by assumption, hφ⟩) | cases h
 ·cases h
theorem xz {op : BinOp} {x y : AV} (h : tE op x y = some z) (hφ : φ z) : dM op x y φ := by
 unfold tE at h
 split at h <;> try cases h
 split at h <;> try cases h
 rename_i hb
 refine ⟨hb, ?_⟩
 split at h <;> cases h <;> exact hφ
theorem uN {neq : Bool} {x y : AV} (h : qd neq x y = some z) (hφ : φ z) : cP neq x y φ := by
 unfold qd at h; unfold cP
 split at h <;> cases h <;> exact hφ
theorem xA {kd : Nat} {neq : Bool} {x : AV} (h : tF kd neq x = some z) (hφ : φ z) : de kd neq x φ := by
 unfold tF at h; unfold de
 split at h <;> cases h
 rename_i hb; rw [hb]; exact hφ
theorem IQ {op : UnOp} {x : AV} (h : L8 op x = some z) (hφ : φ z) : yH op x φ := by
 unfold L8 at h; unfold yH
 split at h <;> cases h <;> exact hφ
theorem uO {φ : List AV → Prop} {r : List AV} (hφ : φ r) : ∀ {ps : List (Nat × Nat × AV)} {zs : List AV}, ru zs ps = some r → gO zs ps φ
 | [], zs, h => by simp only [ru] at h; cases h; exact hφ
 | (off, sz, x) :: ps, zs, h => by
   simp only [ru] at h
   split at h <;> try cases h
   rename_i hc
   exact ⟨hc.1, hc.2.1, hc.2.2, uO hφ h⟩
theorem pd {esz : Nat} {φ : List AV → Prop} {r : List AV} (hφ : φ r) : ∀ {ps : List (Nat × AV)} {zs : List AV}, kR zs esz ps = some r → bh zs esz ps φ
 | [], zs, h => by simp only [kR] at h; cases h; exact hφ
 | (i, x) :: ps, zs, h => by
   simp only [kR] at h
   split at h <;> try cases h
   rename_i hc
   exact ⟨hc.1, hc.2.1, hc.2.2, pd hφ h⟩
theorem nl {sz : Option Nat} {x : AV} {H : List aa} (h : o9 sz x H = some z) (hφ : φ z) : aS sz x H φ := by
 unfold o9 at h; unfold aS
 split at h <;> try cases h
 ·split at h <;> try cases h
  rename_i bm
  simp only [bm]
  split at h <;> (split at h <;> cases h) <;> exact ⟨by assumption, hφ⟩
 ·simp only
  split at h <;> (split at h <;> cases h) <;> exact ⟨by assumption, hφ⟩
theorem Bn {off : Nat} {sz : Option Nat} {xs : List AV} (h : zj off sz xs = some z) (hφ : φ z) : apart off sz xs φ := by
 unfold zj at h; unfold apart
 split at h <;> split at h <;> cases h
 ·exact ⟨by assumption, hφ⟩
 ·rename_i hc; exact ⟨hc.1, hc.2, hφ⟩
theorem oJ {off : Nat} {sz : Option Nat} {x : AV} (h : j3 off sz x = some z) (hφ : φ z) : ak off sz x φ := by
 unfold j3 at h; unfold ak
 split at h <;> try cases h
 ·exact hφ
 ·obtain ⟨u, hu, rfl⟩ := Option.map_eq_some_iff.1 h
  exact Bn hu hφ
theorem xB {off : Nat} {sz : Option Nat} {x : AV} (h : tG off sz x = some z) (hφ : φ z) : eM off sz x φ := by
 unfold tG at h; unfold eM
 split at h <;> try cases h
 obtain ⟨u, hu, rfl⟩ := Option.map_eq_some_iff.1 h
 exact Bn hu hφ
theorem uP {esz : Nat} {x : AV} (h : uJ esz x = true) : ∀ own xs, x = .ap own xs → ∀ z ∈ xs, z.cells.length = esz := by
 intro own xs e z hz
 subst e
 simp only [uJ, List.all_eq_true, beq_iff_eq] at h
 exact h z hz
theorem oK {esz : Nat} {x i : AV} (h : j4 esz x i = some z) (hφ : φ z) : ay esz x i φ := by
 unfold j4 at h; unfold ay
 split at h <;> try cases h
 ·split at h <;> cases h
  rename_i hc; exact ⟨hc.1, hc.2, hφ⟩
 ·split at h <;> cases h
  rename_i hc; exact ⟨hc.1, hc.2, hφ⟩
theorem qh {x i : AV} (h : lM x i = some z) (hφ : φ z) : bH x i φ := by
 unfold lM at h; unfold bH
 split at h <;> try cases h
 split at h <;> cases h
 rename_i hc; exact ⟨hc.1, hc.2, hφ⟩
theorem qi {n : Nat} {x i : AV} (h : lL n x i = some z) (hφ : φ z) : bR n x i φ := by
 unfold lL at h; unfold bR
 split at h <;> try cases h
 split at h <;> cases h
 rename_i hc; exact ⟨hc.1, hc.2.1, hc.2.2, hφ⟩
theorem Bo {kd : Nat} {x : AV} (h : zk kd x = true) : aL kd x := by
 unfold zk at h; unfold aL
 split at h <;> first | trivial | cases h
theorem Fg {x : AV} {H : List aa} (h : Fe x H = some z) (hφ : φ z) : eY x H φ := by
 unfold Fe at h; unfold eY
 split at h <;> try cases h
 ·exact hφ
 ·exact hφ
 ·exact fun _ => hφ
 ·exact hφ
 ·exact hφ
 ·split at h <;> cases h
  rename_i bm
  simp only [bm]; exact hφ
theorem sL {x : AV} {i : Nat} (h : nW x i = some z) (hφ : φ z) : bC x i φ := by
 unfold nW at h; unfold bC
 split at h <;> try cases h
 split at h <;> cases h
 exact ⟨by assumption, hφ⟩
theorem qj {x : AV} (h : lN x = some z) (hφ : φ z) : bS x φ := by
 unfold lN at h; unfold bS
 split at h <;> cases h <;> exact hφ
theorem sM {k : IntKind} {x : AV} (h : nX k x = some z) (hφ : φ z) : cr k x φ := by
 unfold nX at h; unfold cr
 split at h <;> cases h <;> exact hφ
theorem IS {big : Bool} {x y : AV} (h : L9 big x y = some z) (hφ : φ z) : wz big x y φ := by
 unfold L9 at h; unfold wz
 split at h <;> cases h <;> exact hφ
theorem GJ {m : Nat} {p x : AV} {H H' : List aa} {K : List aa → Prop} (h : zm m p x H = some H') (hK : K H') : gW m p x H K := by
 unfold zm at h; unfold gW
 split at h <;> try cases h
 split at h <;> try cases h
 rename_i bm
 split at h <;> cases h
 rename_i hc
 simp only [bm]
 exact ⟨hc.1, hc.2.1, hc.2.2.1, hc.2.2.2.1, hc.2.2.2.2, hK⟩
theorem Bp {p x : AV} {H H' : List aa} {K : List aa → Prop} (h : rv p x H = some H') (hK : K H') : dN p x H K := by
 unfold rv at h; unfold dN
 split at h <;> try cases h
 split at h <;> try cases h
 rename_i bm
 split at h <;> cases h
 rename_i hc
 simp only [bm]
 exact ⟨hc.1, hc.2.1, hc.2.2, hK⟩
theorem DK {esz bytes : Nat} {s x : AV} {r : List AV} {φ : List AV → Prop} (h : uK esz bytes s x = some r) (hφ : φ r) : bE esz bytes s x φ := by
 unfold uK at h; unfold bE
 split at h <;> try cases h
 rename_i xs ys h1 h2
 split at h <;> cases h
 rename_i hc
 simp only [h1, h2]
 refine ⟨hc.1, ?_, hφ⟩
 intro y hy
 have := List.all_eq_true.1 hc.2 y hy
 simpa using this
theorem GK {esz bytes : Nat} {x n : AV} {H H' : List aa} {K : AV → List aa → Prop} (h : zn bytes x n H = some (z, H')) (hK : K z H') : fQ esz bytes x n H K := by
 unfold zn at h; unfold fQ
 split at h <;> try cases h
 split at h <;> cases h
 rename_i hc
 exact ⟨hc.1, hc.2.1, hc.2.2, hK⟩
theorem xC {esz bytes : Nat} {n : AV} (h : tH esz bytes n = some z) (hφ : φ z) : iO esz bytes n φ := by
 unfold tH at h; unfold iO
 split at h <;> try cases h
 split at h <;> cases h
 rename_i hc
 exact ⟨hc.1, hc.2, hφ⟩
theorem lQ {x : Option AV} {d k : Nat} {φ : Nat → Prop} (h : qe x d = some k) (hφ : φ k) : dO x d φ := by
 unfold qe at h; unfold dO
 split at h
 ·cases h; exact hφ
 ·split at h <;> cases h
  rename_i hc
  exact ⟨hc, hφ⟩
 ·cases h
theorem GL {esz : Nat} {x : AV} {lo hi mx : Option AV} (h : zp esz x lo hi mx = some z) (hφ : φ z) : ft esz x lo hi mx φ := by
 unfold zp at h; unfold ft
 split at h <;> try cases h
 rename_i xs fx
 simp only [fx]
 split at h <;> try cases h
 rename_i hh ll h1 h2
 split at h <;> try cases h
 rename_i hc
 refine lQ h1 (lQ h2 ⟨hc.1, hc.2, ?_⟩)
 split at h
 ·cases h; exact hφ
 ·split at h <;> try cases h
  rename_i m hm
  split at h <;> cases h
  rename_i hc
  refine ⟨hc.1, lQ hm ⟨hc.2.1, ?_, hφ⟩⟩
  intro y hy
  have := List.all_eq_true.1 hc.2.2 y hy
  simpa using this
theorem IT {esz : Nat} {d s : AV} {H H' : List aa} {K : AV → List aa → Prop} (h : DJ esz d s H = some (z, H')) (hK : K z H') : jw esz d s H K := by
 unfold DJ at h; unfold jw
 split at h <;> try cases h
 rename_i hs
 split at h <;> try cases h
 rename_i bm
 split at h <;> cases h
 rename_i hc
 simp only [hs, bm]
 exact ⟨hc.1, hc.2.1, hc.2.2, hK⟩
theorem uQ {esz : Nat} {x : AV} {H H' : List aa} {K : AV → List aa → Prop} (h : pc esz x H = some (z, H')) (hK : K z H') : fh esz x H K := by
 unfold pc at h; unfold fh
 split at h
 ·split at h <;> try cases h
  rename_i bm
  split at h <;> cases h
  rename_i hc
  simp only [dF, bm]
  exact ⟨hc.1, hc.2.1, hc.2.2.1, hc.2.2.2, hK⟩
 ·cases h
 ·cases h
 ·cases h
 ·cases h
 ·rename_i h1 h2 h3 h4 h5
  cases h
  cases x <;> first | exact hK | exact absurd rfl h2 | exact absurd rfl h5 | exact absurd rfl (h1 _ _ _ _) | exact absurd rfl (h3 _) | exact absurd rfl (h4 _ _)
theorem GM {esz : Nat} {x : AV} {H H' : List aa} {K : AV → List aa → Prop} (hx : ∀ xs, x ≠ .agg xs) (h : pc esz x H = some (z, H')) (hK : K z H') : dF esz x H K := by
 have := uQ (K := K) h hK
 unfold fh at this
 split at this
 ·exact absurd rfl (hx _)
 ·cases h
 ·exact this
theorem xD {esz : Nat} : ∀ {xs : List AV} {H H' : List aa} {ys : List AV} {K : List AV → List aa → Prop}, lO esz xs H = some (ys, H') → K ys H' → jy esz xs H K
 | [], H, H', ys, K, h, hK => by simp only [lO] at h; cases h; exact hK
 | x :: r, H, H', ys, K, h, hK => by
   have hx : ∀ xs, x ≠ .agg xs := fun xs e => by subst e; simp [lO] at h
   have h' : (match pc esz x H with
    | some (y, H') => match lO esz r H' with
      | some (ys, H'') => some (y :: ys, H'')
      | none => none
    | none => none) = some (ys, H') := by
    cases x <;> first | exact absurd rfl (hx _) | (simpa only [lO] using h)
   split at h' <;> try cases h'
   rename_i y H1 h1
   split at h' <;> cases h'
   rename_i ys' h2
   exact GM (K := fun y H' => jy esz r H' fun ys H'' => K (y :: ys) H'') hx h1 (xD (K := fun ys H'' => K (y :: ys) H'') h2 hK)
theorem GN {esz : Nat} {x : AV} {H H' : List aa} {K : AV → List aa → Prop} (h : zq esz x H = some (z, H')) (hK : K z H') : fh esz x H K := by
 unfold zq at h
 split at h
 ·split at h <;> cases h
  rename_i ys hs
  exact xD (K := fun ys H' => K (.agg ys) H') hs hK
 ·exact uQ h hK
theorem uR {esz : Nat} {x : AV} {lo hi mx : Option AV} (h : qf esz x lo hi mx = some z) (hφ : φ z) : bA esz x lo hi mx φ := by
 unfold qf at h; unfold bA
 split at h
 ·split at h <;> try cases h
  rename_i h1 h2
  split at h <;> cases h
  rename_i hc
  simp only
  unfold gr
  exact lQ h1 (lQ h2 ⟨hc.1, hc.2, hφ⟩)
 ·rename_i ep
  split at h <;> try cases h
  rename_i hl
  split
  ·exact absurd rfl (ep _ _ _ _)
  ·exact ⟨uP hl, GL h hφ⟩
theorem qk {x : AV} {lo hi : Option AV} (h : lP x lo hi = some z) (hφ : φ z) : b7 x lo hi φ := by
 unfold lP at h; unfold b7
 split at h <;> try cases h
 split at h <;> try cases h
 rename_i hh ll h1 h2
 split at h <;> cases h
 rename_i hc
 exact lQ h1 (lQ h2 ⟨hc.1, hc.2, hφ⟩)
theorem sN {x : AV} (h : nY x = some z) (hφ : φ z) : fA x φ := by
 unfold nY at h; unfold fA
 split at h <;> cases h <;> exact hφ
theorem Bq : ∀ {ys : List AV} {l : List UInt8}, uL ys = some l → ys = bg l
 | [], l, h => by simp only [uL] at h; cases h; rfl
 | y :: ys, l, h => by
   unfold uL at h
   split at h
   ·rename_i e; cases e
   ·rename_i n r e
    cases e
    split at h <;> try cases h
    rename_i l' hl
    split at h <;> cases h
    rename_i hn
    have := Bq hl
    subst this
    simp only [bg, List.map_cons]
    congr 1
    have : (UInt8.ofNat n.toNat).toNat = n.toNat := by
     rw [UInt8.toNat_ofNat']
     exact Nat.mod_eq_of_lt (by have : (2:Nat)^8 = 256 := rfl
                                omega)
    rw [this]
    congr 1
    omega
   ·cases h
theorem xE {x : AV} (h : tI x = some z) (hφ : φ z) : jv x φ := by
 unfold tI at h; unfold jv
 split at h <;> try cases h
 rename_i ys pE
 split at h <;> cases h
 rename_i l hl
 simp only [pE]
 exact ⟨l, Bq hl, hφ⟩
theorem sO {own : Nat} {x : AV} (h : nZ own x = some z) (hφ : φ z) : eR own x φ := by
 unfold nZ at h; unfold eR
 split at h <;> try cases h
 split at h <;> cases h
 exact ⟨by assumption, hφ⟩
theorem uS {kd : Nat} {zero m k : AV} {ok : Bool} {H : List aa} (h : qg kd zero m k ok H = some z) (hφ : φ z) : ch kd zero m k ok H φ := by
 unfold qg at h; unfold ch
 split at h <;> try cases h
 ·split at h <;> cases h
  exact ⟨by assumption, hφ⟩
 ·split at h <;> try cases h
  rename_i bm
  simp only [bm]
  split at h
  ·rename_i hf; cases h; simp only [hf]; exact hφ
  ·rename_i hf
   split at h <;> cases h
   simp only [hf]
   exact ⟨by assumption, hφ⟩
  ·cases h
theorem DL {kd : Nat} {m k x : AV} {H H' : List aa} {K : List aa → Prop} (h : uM kd m k x H = some H') (hK : K H') : fc kd m k x H K := by
 unfold uM at h; unfold fc
 split at h <;> try cases h
 split at h <;> try cases h
 rename_i bm
 simp only [bm]
 split at h <;> try cases h
 rename_i hc
 refine ⟨hc.1, hc.2.1, hc.2.2, ?_⟩
 split at h
 ·rename_i hf; cases h; simp only [hf]; exact hK
 ·rename_i hf
  split at h <;> cases h
  simp only [hf]
  exact ⟨by assumption, hK⟩
 ·cases h
end
end Go.aK
