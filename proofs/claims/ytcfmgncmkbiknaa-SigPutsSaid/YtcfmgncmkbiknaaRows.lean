/-
  NARROWER THAN 'FOR EVERY INPUT', by the rows' own cells (each row's printed sentence says how): SigMostGeneral: loops · SigOrder: loops · SigBehind: loops · SigPutSorts: loops · SigInstances: loops · SigNormal: loops · SigShifts: loops · SigIdempotent: loops · SigTrees: loops · SigPuts: loops.
  DERIVED. THE GIVEN ROWS OF THIS SEAT. 10 by the template 'for every input the law returns true; each argument reads behind the call as it read before'; 0 by the template 'total and deterministic' (their statements: YtcfmgncmkbiknaaTotals.lean).
  GIVEN WITH THE SEED: the statements are not yours to turn. If you find one false, say at which input.
  Laid BY PROGRAM, IN A SANDBOX (cutbox-rows.mjs): the forced cells as the released guide's own fill.sh prints them over the translation c5eed7bda4354e4a… (all of the seat's roots in one cut). By AI agents, Wed Nov 11 2026. No macro, syntax, notation, axiom, sorry.
-/
import Derived.Test.YtcfmgncmkbiknaaChecked
import GoSem.Claim
import GoSem.ClaimJoined
import GoSem.ClaimMapViews
import Derived.JoinedTies
import Derived.KernelRfl
namespace Go.Proofs.Ytcfmgncmkbiknaa
/- THE CELL 'sum', in the pinned program and in every row, IS THE sha256 OF THE DUMP (.gsa) THAT YtcfmgncmkbiknaaProg.lean LOADS. Nothing in Lean hashes anything: it is a label: what it is worth is what the hold of that sum in a sandbox is worth. -/
noncomputable def Try.pinned : Pinned := { name := "ytcfmgncmkbiknaa", sum := "c5eed7bda4354e4a3db32bd50c1fe11d49342dfebaf056309378af8b222f7432", checked := Try.checked }
namespace Rows
def none {H : Type} : Left H := { results := [], args := [] }

/-- 'madrigallaw04.SigMostGeneral': WHATEVER THE INPUT: true; the input reads as it did. -/
def sigMostGeneralSpec : ChangeSpec := { name := "sigMostGeneral", fn := fun _ => fun
  | [d1, d2, d3] => { results := [.lit (.bool true)], args := [d1, d2, d3] }
  | _ => none }
def sigMostGeneralRow : OpenClaim := { program := "ytcfmgncmkbiknaa", sum := "c5eed7bda4354e4a3db32bd50c1fe11d49342dfebaf056309378af8b222f7432", func := "madrigal/madrigallaw04.SigMostGeneral", spec := "sigMostGeneral", inPlace := ["internal/bytealg.IndexByteString", "internal/bytealg.IndexString", "internal/bytealg.CountString"], unfollowed := true, recurses := true, named := ["internal/bytealg.MaxLen"], loops := true, apart := false }
def SigMostGeneralSaid : Prop := sigMostGeneralRow.holds Try.pinned (OpenSpec.ofChange sigMostGeneralSpec)

/-- ITS FALSE NEIGHBOUR: 'it returns false'. Refute it at one input. -/
def sigMostGeneralWrong : ChangeSpec := { name := "sigMostGeneral", fn := fun _ => fun
  | [d1, d2, d3] => { results := [.lit (.bool false)], args := [d1, d2, d3] }
  | _ => none }
def SigMostGeneralWrongFalsely : Prop := sigMostGeneralRow.holds Try.pinned (OpenSpec.ofChange sigMostGeneralWrong)

/-- 'madrigallaw04.SigOrder': WHATEVER THE INPUT: true; the input reads as it did. -/
def sigOrderSpec : ChangeSpec := { name := "sigOrder", fn := fun _ => fun
  | [d1, d2, d3] => { results := [.lit (.bool true)], args := [d1, d2, d3] }
  | _ => none }
def sigOrderRow : OpenClaim := { program := "ytcfmgncmkbiknaa", sum := "c5eed7bda4354e4a3db32bd50c1fe11d49342dfebaf056309378af8b222f7432", func := "madrigal/madrigallaw04.SigOrder", spec := "sigOrder", inPlace := ["internal/bytealg.IndexByteString", "internal/bytealg.IndexString", "internal/bytealg.CountString"], unfollowed := true, recurses := true, named := ["internal/bytealg.MaxLen"], loops := true, apart := false }
def SigOrderSaid : Prop := sigOrderRow.holds Try.pinned (OpenSpec.ofChange sigOrderSpec)

/-- ITS FALSE NEIGHBOUR: 'it returns false'. Refute it at one input. -/
def sigOrderWrong : ChangeSpec := { name := "sigOrder", fn := fun _ => fun
  | [d1, d2, d3] => { results := [.lit (.bool false)], args := [d1, d2, d3] }
  | _ => none }
def SigOrderWrongFalsely : Prop := sigOrderRow.holds Try.pinned (OpenSpec.ofChange sigOrderWrong)

/-- 'madrigallaw04.SigBehind': WHATEVER THE INPUT: true; the input reads as it did. -/
def sigBehindSpec : ChangeSpec := { name := "sigBehind", fn := fun _ => fun
  | [d1, d2, d3] => { results := [.lit (.bool true)], args := [d1, d2, d3] }
  | _ => none }
def sigBehindRow : OpenClaim := { program := "ytcfmgncmkbiknaa", sum := "c5eed7bda4354e4a3db32bd50c1fe11d49342dfebaf056309378af8b222f7432", func := "madrigal/madrigallaw04.SigBehind", spec := "sigBehind", inPlace := ["internal/bytealg.IndexByteString", "internal/bytealg.IndexString", "internal/bytealg.CountString"], unfollowed := true, recurses := true, named := ["internal/bytealg.MaxLen"], loops := true, apart := false }
def SigBehindSaid : Prop := sigBehindRow.holds Try.pinned (OpenSpec.ofChange sigBehindSpec)

/-- ITS FALSE NEIGHBOUR: 'it returns false'. Refute it at one input. -/
def sigBehindWrong : ChangeSpec := { name := "sigBehind", fn := fun _ => fun
  | [d1, d2, d3] => { results := [.lit (.bool false)], args := [d1, d2, d3] }
  | _ => none }
def SigBehindWrongFalsely : Prop := sigBehindRow.holds Try.pinned (OpenSpec.ofChange sigBehindWrong)

/-- 'madrigallaw04.SigPutSorts': WHATEVER THE INPUT: true; the input reads as it did. -/
def sigPutSortsSpec : ChangeSpec := { name := "sigPutSorts", fn := fun _ => fun
  | [d1, d2] => { results := [.lit (.bool true)], args := [d1, d2] }
  | _ => none }
def sigPutSortsRow : OpenClaim := { program := "ytcfmgncmkbiknaa", sum := "c5eed7bda4354e4a3db32bd50c1fe11d49342dfebaf056309378af8b222f7432", func := "madrigal/madrigallaw04.SigPutSorts", spec := "sigPutSorts", inPlace := ["internal/bytealg.IndexByteString", "internal/bytealg.IndexString", "internal/bytealg.CountString"], unfollowed := true, recurses := true, named := ["internal/bytealg.MaxLen"], loops := true, apart := false }
def SigPutSortsSaid : Prop := sigPutSortsRow.holds Try.pinned (OpenSpec.ofChange sigPutSortsSpec)

/-- ITS FALSE NEIGHBOUR: 'it returns false'. Refute it at one input. -/
def sigPutSortsWrong : ChangeSpec := { name := "sigPutSorts", fn := fun _ => fun
  | [d1, d2] => { results := [.lit (.bool false)], args := [d1, d2] }
  | _ => none }
def SigPutSortsWrongFalsely : Prop := sigPutSortsRow.holds Try.pinned (OpenSpec.ofChange sigPutSortsWrong)

/-- 'madrigallaw04.SigInstances': WHATEVER THE INPUT: true; the input reads as it did. -/
def sigInstancesSpec : ChangeSpec := { name := "sigInstances", fn := fun _ => fun
  | [d1, d2, d3] => { results := [.lit (.bool true)], args := [d1, d2, d3] }
  | _ => none }
def sigInstancesRow : OpenClaim := { program := "ytcfmgncmkbiknaa", sum := "c5eed7bda4354e4a3db32bd50c1fe11d49342dfebaf056309378af8b222f7432", func := "madrigal/madrigallaw04.SigInstances", spec := "sigInstances", inPlace := ["internal/bytealg.IndexByteString", "internal/bytealg.IndexString", "internal/bytealg.CountString"], unfollowed := true, recurses := true, named := ["internal/bytealg.MaxLen"], loops := true, apart := false }
def SigInstancesSaid : Prop := sigInstancesRow.holds Try.pinned (OpenSpec.ofChange sigInstancesSpec)

/-- ITS FALSE NEIGHBOUR: 'it returns false'. Refute it at one input. -/
def sigInstancesWrong : ChangeSpec := { name := "sigInstances", fn := fun _ => fun
  | [d1, d2, d3] => { results := [.lit (.bool false)], args := [d1, d2, d3] }
  | _ => none }
def SigInstancesWrongFalsely : Prop := sigInstancesRow.holds Try.pinned (OpenSpec.ofChange sigInstancesWrong)

/-- 'madrigallaw04.SigNormal': WHATEVER THE INPUT: true; the input reads as it did. -/
def sigNormalSpec : ChangeSpec := { name := "sigNormal", fn := fun _ => fun
  | [d1, d2] => { results := [.lit (.bool true)], args := [d1, d2] }
  | _ => none }
def sigNormalRow : OpenClaim := { program := "ytcfmgncmkbiknaa", sum := "c5eed7bda4354e4a3db32bd50c1fe11d49342dfebaf056309378af8b222f7432", func := "madrigal/madrigallaw04.SigNormal", spec := "sigNormal", inPlace := ["internal/bytealg.IndexByteString", "internal/bytealg.IndexString", "internal/bytealg.CountString"], unfollowed := true, recurses := true, named := ["internal/bytealg.MaxLen"], loops := true, apart := false }
def SigNormalSaid : Prop := sigNormalRow.holds Try.pinned (OpenSpec.ofChange sigNormalSpec)

/-- ITS FALSE NEIGHBOUR: 'it returns false'. Refute it at one input. -/
def sigNormalWrong : ChangeSpec := { name := "sigNormal", fn := fun _ => fun
  | [d1, d2] => { results := [.lit (.bool false)], args := [d1, d2] }
  | _ => none }
def SigNormalWrongFalsely : Prop := sigNormalRow.holds Try.pinned (OpenSpec.ofChange sigNormalWrong)

/-- 'madrigallaw04.SigShifts': WHATEVER THE INPUT: true; the input reads as it did. -/
def sigShiftsSpec : ChangeSpec := { name := "sigShifts", fn := fun _ => fun
  | [d1, d2, d3, d4] => { results := [.lit (.bool true)], args := [d1, d2, d3, d4] }
  | _ => none }
def sigShiftsRow : OpenClaim := { program := "ytcfmgncmkbiknaa", sum := "c5eed7bda4354e4a3db32bd50c1fe11d49342dfebaf056309378af8b222f7432", func := "madrigal/madrigallaw04.SigShifts", spec := "sigShifts", inPlace := ["internal/bytealg.IndexByteString", "internal/bytealg.IndexString", "internal/bytealg.CountString"], unfollowed := true, recurses := true, named := ["internal/bytealg.MaxLen"], loops := true, apart := false }
def SigShiftsSaid : Prop := sigShiftsRow.holds Try.pinned (OpenSpec.ofChange sigShiftsSpec)

/-- ITS FALSE NEIGHBOUR: 'it returns false'. Refute it at one input. -/
def sigShiftsWrong : ChangeSpec := { name := "sigShifts", fn := fun _ => fun
  | [d1, d2, d3, d4] => { results := [.lit (.bool false)], args := [d1, d2, d3, d4] }
  | _ => none }
def SigShiftsWrongFalsely : Prop := sigShiftsRow.holds Try.pinned (OpenSpec.ofChange sigShiftsWrong)

/-- 'madrigallaw04.SigIdempotent': WHATEVER THE INPUT: true; the input reads as it did. -/
def sigIdempotentSpec : ChangeSpec := { name := "sigIdempotent", fn := fun _ => fun
  | [d1, d2] => { results := [.lit (.bool true)], args := [d1, d2] }
  | _ => none }
def sigIdempotentRow : OpenClaim := { program := "ytcfmgncmkbiknaa", sum := "c5eed7bda4354e4a3db32bd50c1fe11d49342dfebaf056309378af8b222f7432", func := "madrigal/madrigallaw04.SigIdempotent", spec := "sigIdempotent", inPlace := ["internal/bytealg.IndexByteString", "internal/bytealg.IndexString", "internal/bytealg.CountString"], unfollowed := true, recurses := true, named := ["internal/bytealg.MaxLen"], loops := true, apart := false }
def SigIdempotentSaid : Prop := sigIdempotentRow.holds Try.pinned (OpenSpec.ofChange sigIdempotentSpec)

/-- ITS FALSE NEIGHBOUR: 'it returns false'. Refute it at one input. -/
def sigIdempotentWrong : ChangeSpec := { name := "sigIdempotent", fn := fun _ => fun
  | [d1, d2] => { results := [.lit (.bool false)], args := [d1, d2] }
  | _ => none }
def SigIdempotentWrongFalsely : Prop := sigIdempotentRow.holds Try.pinned (OpenSpec.ofChange sigIdempotentWrong)

/-- 'madrigallaw04.SigTrees': WHATEVER THE INPUT: true; the input reads as it did. -/
def sigTreesSpec : ChangeSpec := { name := "sigTrees", fn := fun _ => fun
  | [d1, d2, d3] => { results := [.lit (.bool true)], args := [d1, d2, d3] }
  | _ => none }
def sigTreesRow : OpenClaim := { program := "ytcfmgncmkbiknaa", sum := "c5eed7bda4354e4a3db32bd50c1fe11d49342dfebaf056309378af8b222f7432", func := "madrigal/madrigallaw04.SigTrees", spec := "sigTrees", inPlace := ["internal/bytealg.IndexByteString", "internal/bytealg.IndexString", "internal/bytealg.CountString"], unfollowed := true, recurses := true, named := ["internal/bytealg.MaxLen"], loops := true, apart := false }
def SigTreesSaid : Prop := sigTreesRow.holds Try.pinned (OpenSpec.ofChange sigTreesSpec)

/-- ITS FALSE NEIGHBOUR: 'it returns false'. Refute it at one input. -/
def sigTreesWrong : ChangeSpec := { name := "sigTrees", fn := fun _ => fun
  | [d1, d2, d3] => { results := [.lit (.bool false)], args := [d1, d2, d3] }
  | _ => none }
def SigTreesWrongFalsely : Prop := sigTreesRow.holds Try.pinned (OpenSpec.ofChange sigTreesWrong)

/-- 'madrigallaw04.SigPuts': WHATEVER THE INPUT: true; the input reads as it did. -/
def sigPutsSpec : ChangeSpec := { name := "sigPuts", fn := fun _ => fun
  | [d1, d2, d3] => { results := [.lit (.bool true)], args := [d1, d2, d3] }
  | _ => none }
def sigPutsRow : OpenClaim := { program := "ytcfmgncmkbiknaa", sum := "c5eed7bda4354e4a3db32bd50c1fe11d49342dfebaf056309378af8b222f7432", func := "madrigal/madrigallaw04.SigPuts", spec := "sigPuts", inPlace := ["internal/bytealg.IndexByteString", "internal/bytealg.IndexString", "internal/bytealg.CountString"], unfollowed := true, recurses := true, named := ["internal/bytealg.MaxLen"], loops := true, apart := false }
def SigPutsSaid : Prop := sigPutsRow.holds Try.pinned (OpenSpec.ofChange sigPutsSpec)

/-- ITS FALSE NEIGHBOUR: 'it returns false'. Refute it at one input. -/
def sigPutsWrong : ChangeSpec := { name := "sigPuts", fn := fun _ => fun
  | [d1, d2, d3] => { results := [.lit (.bool false)], args := [d1, d2, d3] }
  | _ => none }
def SigPutsWrongFalsely : Prop := sigPutsRow.holds Try.pinned (OpenSpec.ofChange sigPutsWrong)

/- THE SECOND FORM. 'bulk': how many values and letters a reading holds, each counted each time it is reached (what is shared counts as often as it is met; a slice's spare places count too). A statement '..UptoSaid' is the law's where the arguments, and the package variables that the reading takes, are together of bulk at most 1048576: NARROWER than '..Said'. Prove '..Said' where nothing that the law and all that it calls make is longer than what came in: it says more and counts as full. Else prove '..UptoSaid'. A law counts once. -/
mutual
def uptoBulk {H : Type} : DataW H → Nat
  | .lit (.string bytes) => bytes.length + 1
  | .lit _ => 1
  | .nil => 1
  | .ptr d => uptoBulk d + 1
  | .slice elems spare => uptoBulkAll elems + uptoBulkAll spare + 1
  | .agg parts => uptoBulkAll parts + 1
  | .iface _ d => uptoBulk d + 1
  | .map entries => uptoBulkEntries entries + 1
  | .held _ => 1
def uptoBulkAll {H : Type} : List (DataW H) → Nat
  | [] => 0
  | d :: r => uptoBulk d + uptoBulkAll r
def uptoBulkEntries {H : Type} : List (Lit × DataW H) → Nat
  | [] => 0
  | x :: r => uptoBulkEntry x + uptoBulkEntries r
def uptoBulkEntry {H : Type} : Lit × DataW H → Nat
  | (.string bytes, d) => bytes.length + uptoBulk d + 1
  | (_, d) => uptoBulk d + 1
 end
def uptoSmall : (H : Type) → List (DataW H) → Bool := fun _ ds => decide (uptoBulkAll ds ≤ 1048576)
def OpenSpec.upto (s : _root_.Go.ChangeSpec) : _root_.Go.OpenSpec := { _root_.Go.OpenSpec.ofChange s with cond := some uptoSmall }

/-- 'madrigallaw04.SigMostGeneral', WHERE WHAT IT READS IS OF BULK AT MOST 1048576: true; the input reads as it did. -/
def sigMostGeneralUptoRow : OpenClaim := { program := "ytcfmgncmkbiknaa", sum := "c5eed7bda4354e4a3db32bd50c1fe11d49342dfebaf056309378af8b222f7432", func := "madrigal/madrigallaw04.SigMostGeneral", spec := "sigMostGeneral", inPlace := ["internal/bytealg.IndexByteString", "internal/bytealg.IndexString", "internal/bytealg.CountString"], unfollowed := true, recurses := true, named := ["internal/bytealg.MaxLen"], loops := true, apart := false, narrowed := true }
def SigMostGeneralUptoSaid : Prop := sigMostGeneralUptoRow.holds Try.pinned (OpenSpec.upto sigMostGeneralSpec)

/-- 'madrigallaw04.SigOrder', WHERE WHAT IT READS IS OF BULK AT MOST 1048576: true; the input reads as it did. -/
def sigOrderUptoRow : OpenClaim := { program := "ytcfmgncmkbiknaa", sum := "c5eed7bda4354e4a3db32bd50c1fe11d49342dfebaf056309378af8b222f7432", func := "madrigal/madrigallaw04.SigOrder", spec := "sigOrder", inPlace := ["internal/bytealg.IndexByteString", "internal/bytealg.IndexString", "internal/bytealg.CountString"], unfollowed := true, recurses := true, named := ["internal/bytealg.MaxLen"], loops := true, apart := false, narrowed := true }
def SigOrderUptoSaid : Prop := sigOrderUptoRow.holds Try.pinned (OpenSpec.upto sigOrderSpec)

/-- 'madrigallaw04.SigBehind', WHERE WHAT IT READS IS OF BULK AT MOST 1048576: true; the input reads as it did. -/
def sigBehindUptoRow : OpenClaim := { program := "ytcfmgncmkbiknaa", sum := "c5eed7bda4354e4a3db32bd50c1fe11d49342dfebaf056309378af8b222f7432", func := "madrigal/madrigallaw04.SigBehind", spec := "sigBehind", inPlace := ["internal/bytealg.IndexByteString", "internal/bytealg.IndexString", "internal/bytealg.CountString"], unfollowed := true, recurses := true, named := ["internal/bytealg.MaxLen"], loops := true, apart := false, narrowed := true }
def SigBehindUptoSaid : Prop := sigBehindUptoRow.holds Try.pinned (OpenSpec.upto sigBehindSpec)

/-- 'madrigallaw04.SigPutSorts', WHERE WHAT IT READS IS OF BULK AT MOST 1048576: true; the input reads as it did. -/
def sigPutSortsUptoRow : OpenClaim := { program := "ytcfmgncmkbiknaa", sum := "c5eed7bda4354e4a3db32bd50c1fe11d49342dfebaf056309378af8b222f7432", func := "madrigal/madrigallaw04.SigPutSorts", spec := "sigPutSorts", inPlace := ["internal/bytealg.IndexByteString", "internal/bytealg.IndexString", "internal/bytealg.CountString"], unfollowed := true, recurses := true, named := ["internal/bytealg.MaxLen"], loops := true, apart := false, narrowed := true }
def SigPutSortsUptoSaid : Prop := sigPutSortsUptoRow.holds Try.pinned (OpenSpec.upto sigPutSortsSpec)

/-- 'madrigallaw04.SigInstances', WHERE WHAT IT READS IS OF BULK AT MOST 1048576: true; the input reads as it did. -/
def sigInstancesUptoRow : OpenClaim := { program := "ytcfmgncmkbiknaa", sum := "c5eed7bda4354e4a3db32bd50c1fe11d49342dfebaf056309378af8b222f7432", func := "madrigal/madrigallaw04.SigInstances", spec := "sigInstances", inPlace := ["internal/bytealg.IndexByteString", "internal/bytealg.IndexString", "internal/bytealg.CountString"], unfollowed := true, recurses := true, named := ["internal/bytealg.MaxLen"], loops := true, apart := false, narrowed := true }
def SigInstancesUptoSaid : Prop := sigInstancesUptoRow.holds Try.pinned (OpenSpec.upto sigInstancesSpec)

/-- 'madrigallaw04.SigNormal', WHERE WHAT IT READS IS OF BULK AT MOST 1048576: true; the input reads as it did. -/
def sigNormalUptoRow : OpenClaim := { program := "ytcfmgncmkbiknaa", sum := "c5eed7bda4354e4a3db32bd50c1fe11d49342dfebaf056309378af8b222f7432", func := "madrigal/madrigallaw04.SigNormal", spec := "sigNormal", inPlace := ["internal/bytealg.IndexByteString", "internal/bytealg.IndexString", "internal/bytealg.CountString"], unfollowed := true, recurses := true, named := ["internal/bytealg.MaxLen"], loops := true, apart := false, narrowed := true }
def SigNormalUptoSaid : Prop := sigNormalUptoRow.holds Try.pinned (OpenSpec.upto sigNormalSpec)

/-- 'madrigallaw04.SigShifts', WHERE WHAT IT READS IS OF BULK AT MOST 1048576: true; the input reads as it did. -/
def sigShiftsUptoRow : OpenClaim := { program := "ytcfmgncmkbiknaa", sum := "c5eed7bda4354e4a3db32bd50c1fe11d49342dfebaf056309378af8b222f7432", func := "madrigal/madrigallaw04.SigShifts", spec := "sigShifts", inPlace := ["internal/bytealg.IndexByteString", "internal/bytealg.IndexString", "internal/bytealg.CountString"], unfollowed := true, recurses := true, named := ["internal/bytealg.MaxLen"], loops := true, apart := false, narrowed := true }
def SigShiftsUptoSaid : Prop := sigShiftsUptoRow.holds Try.pinned (OpenSpec.upto sigShiftsSpec)

/-- 'madrigallaw04.SigIdempotent', WHERE WHAT IT READS IS OF BULK AT MOST 1048576: true; the input reads as it did. -/
def sigIdempotentUptoRow : OpenClaim := { program := "ytcfmgncmkbiknaa", sum := "c5eed7bda4354e4a3db32bd50c1fe11d49342dfebaf056309378af8b222f7432", func := "madrigal/madrigallaw04.SigIdempotent", spec := "sigIdempotent", inPlace := ["internal/bytealg.IndexByteString", "internal/bytealg.IndexString", "internal/bytealg.CountString"], unfollowed := true, recurses := true, named := ["internal/bytealg.MaxLen"], loops := true, apart := false, narrowed := true }
def SigIdempotentUptoSaid : Prop := sigIdempotentUptoRow.holds Try.pinned (OpenSpec.upto sigIdempotentSpec)

/-- 'madrigallaw04.SigTrees', WHERE WHAT IT READS IS OF BULK AT MOST 1048576: true; the input reads as it did. -/
def sigTreesUptoRow : OpenClaim := { program := "ytcfmgncmkbiknaa", sum := "c5eed7bda4354e4a3db32bd50c1fe11d49342dfebaf056309378af8b222f7432", func := "madrigal/madrigallaw04.SigTrees", spec := "sigTrees", inPlace := ["internal/bytealg.IndexByteString", "internal/bytealg.IndexString", "internal/bytealg.CountString"], unfollowed := true, recurses := true, named := ["internal/bytealg.MaxLen"], loops := true, apart := false, narrowed := true }
def SigTreesUptoSaid : Prop := sigTreesUptoRow.holds Try.pinned (OpenSpec.upto sigTreesSpec)

/-- 'madrigallaw04.SigPuts', WHERE WHAT IT READS IS OF BULK AT MOST 1048576: true; the input reads as it did. -/
def sigPutsUptoRow : OpenClaim := { program := "ytcfmgncmkbiknaa", sum := "c5eed7bda4354e4a3db32bd50c1fe11d49342dfebaf056309378af8b222f7432", func := "madrigal/madrigallaw04.SigPuts", spec := "sigPuts", inPlace := ["internal/bytealg.IndexByteString", "internal/bytealg.IndexString", "internal/bytealg.CountString"], unfollowed := true, recurses := true, named := ["internal/bytealg.MaxLen"], loops := true, apart := false, narrowed := true }
def SigPutsUptoSaid : Prop := sigPutsUptoRow.holds Try.pinned (OpenSpec.upto sigPutsSpec)

end Rows
end Go.Proofs.Ytcfmgncmkbiknaa
