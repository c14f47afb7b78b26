/-
  NARROWER THAN 'FOR EVERY INPUT', by the rows' own cells (each row's printed sentence says how): SigUnifies: loops · SigSorts: loops · SigPlaces: loops.
  DERIVED. THE GIVEN ROWS OF THIS SEAT. 3 by the template 'for every input the law returns true; each argument reads behind the call as it read before'; 0 by the template 'total and deterministic' (their statements: YtcfmgncmkbiknaaGreatTotals.lean).
  GIVEN WITH THE SEED: the statements are not yours to turn. If you find one false, say at which input.
  Laid BY PROGRAM, IN A SANDBOX (cutbox-rows.mjs): the forced cells as the released guide's own fill.sh prints them over the translation 7be10227eb11dd78… (all of the seat's roots in one cut). By AI agents, Wed Nov 11 2026. No macro, syntax, notation, axiom, sorry.
-/
import Derived.Test.YtcfmgncmkbiknaaGreatChecked
import GoSem.Claim
import GoSem.ClaimJoined
import GoSem.ClaimMapViews
import Derived.JoinedTies
import Derived.KernelRfl
namespace Go.Proofs.YtcfmgncmkbiknaaGreat
/- THE CELL 'sum', in the pinned program and in every row, IS THE sha256 OF THE DUMP (.gsa) THAT YtcfmgncmkbiknaaGreatProg.lean LOADS. Nothing in Lean hashes anything: it is a label: what it is worth is what the hold of that sum in a sandbox is worth. -/
noncomputable def Tryz.pinned : Pinned := { name := "ytcfmgncmkbiknaagreat", sum := "7be10227eb11dd788bcb144d2aed48ef0134561275fb8adbd1c8de02ece1dcc2", checked := Tryz.checked }
namespace Rows
def none {H : Type} : Left H := { results := [], args := [] }

/-- 'madrigallaw04.SigUnifies': WHATEVER THE INPUT: true; the input reads as it did. -/
def sigUnifiesSpec : ChangeSpec := { name := "sigUnifies", fn := fun _ => fun
  | [d1, d2, d3] => { results := [.lit (.bool true)], args := [d1, d2, d3] }
  | _ => none }
def sigUnifiesRow : OpenClaim := { program := "ytcfmgncmkbiknaagreat", sum := "7be10227eb11dd788bcb144d2aed48ef0134561275fb8adbd1c8de02ece1dcc2", func := "madrigal/madrigallaw04.SigUnifies", spec := "sigUnifies", inPlace := ["internal/bytealg.IndexByteString", "internal/bytealg.IndexString", "internal/bytealg.CountString"], unfollowed := true, recurses := true, named := ["internal/bytealg.MaxLen"], loops := true, apart := false }
def SigUnifiesSaid : Prop := sigUnifiesRow.holds Tryz.pinned (OpenSpec.ofChange sigUnifiesSpec)

/-- ITS FALSE NEIGHBOUR: 'it returns false'. Refute it at one input. -/
def sigUnifiesWrong : ChangeSpec := { name := "sigUnifies", fn := fun _ => fun
  | [d1, d2, d3] => { results := [.lit (.bool false)], args := [d1, d2, d3] }
  | _ => none }
def SigUnifiesWrongFalsely : Prop := sigUnifiesRow.holds Tryz.pinned (OpenSpec.ofChange sigUnifiesWrong)

/-- 'madrigallaw04.SigSorts': WHATEVER THE INPUT: true; the input reads as it did. -/
def sigSortsSpec : ChangeSpec := { name := "sigSorts", fn := fun _ => fun
  | [d] => { results := [.lit (.bool true)], args := [d] }
  | _ => none }
def sigSortsRow : OpenClaim := { program := "ytcfmgncmkbiknaagreat", sum := "7be10227eb11dd788bcb144d2aed48ef0134561275fb8adbd1c8de02ece1dcc2", func := "madrigal/madrigallaw04.SigSorts", spec := "sigSorts", inPlace := ["internal/bytealg.IndexByteString", "internal/bytealg.IndexString", "internal/bytealg.CountString"], unfollowed := true, recurses := true, named := ["internal/bytealg.MaxLen"], loops := true, apart := false }
def SigSortsSaid : Prop := sigSortsRow.holds Tryz.pinned (OpenSpec.ofChange sigSortsSpec)

/-- ITS FALSE NEIGHBOUR: 'it returns false'. Refute it at one input. -/
def sigSortsWrong : ChangeSpec := { name := "sigSorts", fn := fun _ => fun
  | [d] => { results := [.lit (.bool false)], args := [d] }
  | _ => none }
def SigSortsWrongFalsely : Prop := sigSortsRow.holds Tryz.pinned (OpenSpec.ofChange sigSortsWrong)

/-- 'madrigallaw04.SigPlaces': WHATEVER THE INPUT: true; the input reads as it did. -/
def sigPlacesSpec : ChangeSpec := { name := "sigPlaces", fn := fun _ => fun
  | [d1, d2, d3, d4, d5] => { results := [.lit (.bool true)], args := [d1, d2, d3, d4, d5] }
  | _ => none }
def sigPlacesRow : OpenClaim := { program := "ytcfmgncmkbiknaagreat", sum := "7be10227eb11dd788bcb144d2aed48ef0134561275fb8adbd1c8de02ece1dcc2", func := "madrigal/madrigallaw04.SigPlaces", spec := "sigPlaces", inPlace := ["internal/bytealg.IndexByteString", "internal/bytealg.IndexString", "internal/bytealg.CountString"], unfollowed := true, recurses := true, named := ["internal/bytealg.MaxLen"], loops := true, apart := false }
def SigPlacesSaid : Prop := sigPlacesRow.holds Tryz.pinned (OpenSpec.ofChange sigPlacesSpec)

/-- ITS FALSE NEIGHBOUR: 'it returns false'. Refute it at one input. -/
def sigPlacesWrong : ChangeSpec := { name := "sigPlaces", fn := fun _ => fun
  | [d1, d2, d3, d4, d5] => { results := [.lit (.bool false)], args := [d1, d2, d3, d4, d5] }
  | _ => none }
def SigPlacesWrongFalsely : Prop := sigPlacesRow.holds Tryz.pinned (OpenSpec.ofChange sigPlacesWrong)

/- THE SECOND FORM. 'bulk': how many values and letters a reading holds, each counted each time it is reached (what is shared counts as often as it is met; a slice's spare places count too). A statement '..UptoSaid' is the law's where the arguments, and the package variables that the reading takes, are together of bulk at most 1048576: NARROWER than '..Said'. Prove '..Said' where nothing that the law and all that it calls make is longer than what came in: it says more and counts as full. Else prove '..UptoSaid'. A law counts once. -/
mutual
def uptoBulk {H : Type} : DataW H → Nat
  | .lit (.string bytes) => bytes.length + 1
  | .lit _ => 1
  | .nil => 1
  | .ptr d => uptoBulk d + 1
  | .slice elems spare => uptoBulkAll elems + uptoBulkAll spare + 1
  | .agg parts => uptoBulkAll parts + 1
  | .iface _ d => uptoBulk d + 1
  | .map entries => uptoBulkEntries entries + 1
  | .held _ => 1
def uptoBulkAll {H : Type} : List (DataW H) → Nat
  | [] => 0
  | d :: r => uptoBulk d + uptoBulkAll r
def uptoBulkEntries {H : Type} : List (Lit × DataW H) → Nat
  | [] => 0
  | x :: r => uptoBulkEntry x + uptoBulkEntries r
def uptoBulkEntry {H : Type} : Lit × DataW H → Nat
  | (.string bytes, d) => bytes.length + uptoBulk d + 1
  | (_, d) => uptoBulk d + 1
 end
def uptoSmall : (H : Type) → List (DataW H) → Bool := fun _ ds => decide (uptoBulkAll ds ≤ 1048576)
def OpenSpec.upto (s : _root_.Go.ChangeSpec) : _root_.Go.OpenSpec := { _root_.Go.OpenSpec.ofChange s with cond := some uptoSmall }

/-- 'madrigallaw04.SigUnifies', WHERE WHAT IT READS IS OF BULK AT MOST 1048576: true; the input reads as it did. -/
def sigUnifiesUptoRow : OpenClaim := { program := "ytcfmgncmkbiknaagreat", sum := "7be10227eb11dd788bcb144d2aed48ef0134561275fb8adbd1c8de02ece1dcc2", func := "madrigal/madrigallaw04.SigUnifies", spec := "sigUnifies", inPlace := ["internal/bytealg.IndexByteString", "internal/bytealg.IndexString", "internal/bytealg.CountString"], unfollowed := true, recurses := true, named := ["internal/bytealg.MaxLen"], loops := true, apart := false, narrowed := true }
def SigUnifiesUptoSaid : Prop := sigUnifiesUptoRow.holds Tryz.pinned (OpenSpec.upto sigUnifiesSpec)

/-- 'madrigallaw04.SigSorts', WHERE WHAT IT READS IS OF BULK AT MOST 1048576: true; the input reads as it did. -/
def sigSortsUptoRow : OpenClaim := { program := "ytcfmgncmkbiknaagreat", sum := "7be10227eb11dd788bcb144d2aed48ef0134561275fb8adbd1c8de02ece1dcc2", func := "madrigal/madrigallaw04.SigSorts", spec := "sigSorts", inPlace := ["internal/bytealg.IndexByteString", "internal/bytealg.IndexString", "internal/bytealg.CountString"], unfollowed := true, recurses := true, named := ["internal/bytealg.MaxLen"], loops := true, apart := false, narrowed := true }
def SigSortsUptoSaid : Prop := sigSortsUptoRow.holds Tryz.pinned (OpenSpec.upto sigSortsSpec)

/-- 'madrigallaw04.SigPlaces', WHERE WHAT IT READS IS OF BULK AT MOST 1048576: true; the input reads as it did. -/
def sigPlacesUptoRow : OpenClaim := { program := "ytcfmgncmkbiknaagreat", sum := "7be10227eb11dd788bcb144d2aed48ef0134561275fb8adbd1c8de02ece1dcc2", func := "madrigal/madrigallaw04.SigPlaces", spec := "sigPlaces", inPlace := ["internal/bytealg.IndexByteString", "internal/bytealg.IndexString", "internal/bytealg.CountString"], unfollowed := true, recurses := true, named := ["internal/bytealg.MaxLen"], loops := true, apart := false, narrowed := true }
def SigPlacesUptoSaid : Prop := sigPlacesUptoRow.holds Tryz.pinned (OpenSpec.upto sigPlacesSpec)

end Rows
end Go.Proofs.YtcfmgncmkbiknaaGreat
