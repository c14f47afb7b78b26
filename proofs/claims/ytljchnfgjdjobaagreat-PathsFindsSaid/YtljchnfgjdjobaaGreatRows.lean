/-
  NARROWER THAN 'FOR EVERY INPUT', by the rows' own cells (each row's printed sentence says how): PathsCompares: loops · PathsProofs: loops · PathsTypes: loops · PathsFinds: loops · PathsShows: loops · PathsEquals: loops · PathsFewer: loops · PathsPlaces: loops · PathsSorted: loops · PathsChains: loops · PathsGround: loops · PathsFound: loops · PathsEnds: loops · PathsSteps: loops.
  DERIVED. THE GIVEN ROWS OF THIS SEAT. 14 by the template 'for every input the law returns true; each argument reads behind the call as it read before'; 0 by the template 'total and deterministic' (their statements: YtljchnfgjdjobaaGreatTotals.lean).
  GIVEN WITH THE SEED: the statements are not yours to turn. If you find one false, say at which input.
  Laid BY PROGRAM, IN A SANDBOX (cutbox-rows.mjs): the forced cells as the released guide's own fill.sh prints them over the translation abf60bdfd7a37ae1… (all of the seat's roots in one cut). By AI agents, Wed Nov 11 2026. No macro, syntax, notation, axiom, sorry.
-/
import Derived.Test.YtljchnfgjdjobaaGreatChecked
import GoSem.Claim
import GoSem.ClaimJoined
import GoSem.ClaimMapViews
import Derived.JoinedTies
import Derived.KernelRfl
namespace Go.Proofs.YtljchnfgjdjobaaGreat
/- THE CELL 'sum', in the pinned program and in every row, IS THE sha256 OF THE DUMP (.gsa) THAT YtljchnfgjdjobaaGreatProg.lean LOADS. Nothing in Lean hashes anything: it is a label: what it is worth is what the hold of that sum in a sandbox is worth. -/
noncomputable def Tryz.pinned : Pinned := { name := "ytljchnfgjdjobaagreat", sum := "abf60bdfd7a37ae18ee5747afcdb6e9fe90042f01865bab067e9b68b83dff028", checked := Tryz.checked }
namespace Rows
def none {H : Type} : Left H := { results := [], args := [] }

/-- 'madrigallaw06.PathsCompares': WHATEVER THE INPUT: true; the input reads as it did. -/
def pathsComparesSpec : ChangeSpec := { name := "pathsCompares", fn := fun _ => fun
  | [d1, d2, d3, d4] => { results := [.lit (.bool true)], args := [d1, d2, d3, d4] }
  | _ => none }
def pathsComparesRow : OpenClaim := { program := "ytljchnfgjdjobaagreat", sum := "abf60bdfd7a37ae18ee5747afcdb6e9fe90042f01865bab067e9b68b83dff028", func := "madrigal/madrigallaw06.PathsCompares", spec := "pathsCompares", inPlace := ["internal/bytealg.IndexByteString", "internal/bytealg.IndexString", "internal/bytealg.CountString"], unfollowed := true, recurses := true, named := ["internal/bytealg.MaxLen"], loops := true, plainKeys := false, apart := false }
def PathsComparesSaid : Prop := pathsComparesRow.holds Tryz.pinned (OpenSpec.ofChange pathsComparesSpec)

/-- ITS FALSE NEIGHBOUR: 'it returns false'. Refute it at one input. -/
def pathsComparesWrong : ChangeSpec := { name := "pathsCompares", fn := fun _ => fun
  | [d1, d2, d3, d4] => { results := [.lit (.bool false)], args := [d1, d2, d3, d4] }
  | _ => none }
def PathsComparesWrongFalsely : Prop := pathsComparesRow.holds Tryz.pinned (OpenSpec.ofChange pathsComparesWrong)

/-- 'madrigallaw06.PathsProofs': WHATEVER THE INPUT: true; the input reads as it did. -/
def pathsProofsSpec : ChangeSpec := { name := "pathsProofs", fn := fun _ => fun
  | [d1, d2, d3, d4, d5] => { results := [.lit (.bool true)], args := [d1, d2, d3, d4, d5] }
  | _ => none }
def pathsProofsRow : OpenClaim := { program := "ytljchnfgjdjobaagreat", sum := "abf60bdfd7a37ae18ee5747afcdb6e9fe90042f01865bab067e9b68b83dff028", func := "madrigal/madrigallaw06.PathsProofs", spec := "pathsProofs", inPlace := ["internal/bytealg.IndexByteString", "internal/bytealg.IndexString", "internal/bytealg.CountString"], unfollowed := true, recurses := true, named := ["internal/bytealg.MaxLen"], loops := true, plainKeys := false, apart := false }
def PathsProofsSaid : Prop := pathsProofsRow.holds Tryz.pinned (OpenSpec.ofChange pathsProofsSpec)

/-- ITS FALSE NEIGHBOUR: 'it returns false'. Refute it at one input. -/
def pathsProofsWrong : ChangeSpec := { name := "pathsProofs", fn := fun _ => fun
  | [d1, d2, d3, d4, d5] => { results := [.lit (.bool false)], args := [d1, d2, d3, d4, d5] }
  | _ => none }
def PathsProofsWrongFalsely : Prop := pathsProofsRow.holds Tryz.pinned (OpenSpec.ofChange pathsProofsWrong)

/-- 'madrigallaw06.PathsTypes': WHATEVER THE INPUT: true; the input reads as it did. -/
def pathsTypesSpec : ChangeSpec := { name := "pathsTypes", fn := fun _ => fun
  | [d1, d2] => { results := [.lit (.bool true)], args := [d1, d2] }
  | _ => none }
def pathsTypesRow : OpenClaim := { program := "ytljchnfgjdjobaagreat", sum := "abf60bdfd7a37ae18ee5747afcdb6e9fe90042f01865bab067e9b68b83dff028", func := "madrigal/madrigallaw06.PathsTypes", spec := "pathsTypes", inPlace := ["internal/bytealg.IndexByteString", "internal/bytealg.IndexString", "internal/bytealg.CountString"], unfollowed := true, recurses := true, named := ["internal/bytealg.MaxLen"], loops := true, plainKeys := false, apart := false }
def PathsTypesSaid : Prop := pathsTypesRow.holds Tryz.pinned (OpenSpec.ofChange pathsTypesSpec)

/-- ITS FALSE NEIGHBOUR: 'it returns false'. Refute it at one input. -/
def pathsTypesWrong : ChangeSpec := { name := "pathsTypes", fn := fun _ => fun
  | [d1, d2] => { results := [.lit (.bool false)], args := [d1, d2] }
  | _ => none }
def PathsTypesWrongFalsely : Prop := pathsTypesRow.holds Tryz.pinned (OpenSpec.ofChange pathsTypesWrong)

/-- 'madrigallaw06.PathsFinds': WHATEVER THE INPUT: true; the input reads as it did. -/
def pathsFindsSpec : ChangeSpec := { name := "pathsFinds", fn := fun _ => fun
  | [d1, d2, d3] => { results := [.lit (.bool true)], args := [d1, d2, d3] }
  | _ => none }
def pathsFindsRow : OpenClaim := { program := "ytljchnfgjdjobaagreat", sum := "abf60bdfd7a37ae18ee5747afcdb6e9fe90042f01865bab067e9b68b83dff028", func := "madrigal/madrigallaw06.PathsFinds", spec := "pathsFinds", inPlace := ["internal/bytealg.IndexByteString", "internal/bytealg.IndexString", "internal/bytealg.CountString"], unfollowed := true, recurses := true, named := ["internal/bytealg.MaxLen"], loops := true, plainKeys := false, apart := false }
def PathsFindsSaid : Prop := pathsFindsRow.holds Tryz.pinned (OpenSpec.ofChange pathsFindsSpec)

/-- ITS FALSE NEIGHBOUR: 'it returns false'. Refute it at one input. -/
def pathsFindsWrong : ChangeSpec := { name := "pathsFinds", fn := fun _ => fun
  | [d1, d2, d3] => { results := [.lit (.bool false)], args := [d1, d2, d3] }
  | _ => none }
def PathsFindsWrongFalsely : Prop := pathsFindsRow.holds Tryz.pinned (OpenSpec.ofChange pathsFindsWrong)

/-- 'madrigallaw06.PathsShows': WHATEVER THE INPUT: true; the input reads as it did. -/
def pathsShowsSpec : ChangeSpec := { name := "pathsShows", fn := fun _ => fun
  | [d1, d2, d3, d4, d5] => { results := [.lit (.bool true)], args := [d1, d2, d3, d4, d5] }
  | _ => none }
def pathsShowsRow : OpenClaim := { program := "ytljchnfgjdjobaagreat", sum := "abf60bdfd7a37ae18ee5747afcdb6e9fe90042f01865bab067e9b68b83dff028", func := "madrigal/madrigallaw06.PathsShows", spec := "pathsShows", inPlace := ["internal/bytealg.IndexByteString", "internal/bytealg.IndexString", "internal/bytealg.CountString"], unfollowed := true, recurses := true, named := ["internal/bytealg.MaxLen"], loops := true, plainKeys := false, apart := false }
def PathsShowsSaid : Prop := pathsShowsRow.holds Tryz.pinned (OpenSpec.ofChange pathsShowsSpec)

/-- ITS FALSE NEIGHBOUR: 'it returns false'. Refute it at one input. -/
def pathsShowsWrong : ChangeSpec := { name := "pathsShows", fn := fun _ => fun
  | [d1, d2, d3, d4, d5] => { results := [.lit (.bool false)], args := [d1, d2, d3, d4, d5] }
  | _ => none }
def PathsShowsWrongFalsely : Prop := pathsShowsRow.holds Tryz.pinned (OpenSpec.ofChange pathsShowsWrong)

/-- 'madrigallaw06.PathsEquals': WHATEVER THE INPUT: true; the input reads as it did. -/
def pathsEqualsSpec : ChangeSpec := { name := "pathsEquals", fn := fun _ => fun
  | [d1, d2, d3, d4, d5] => { results := [.lit (.bool true)], args := [d1, d2, d3, d4, d5] }
  | _ => none }
def pathsEqualsRow : OpenClaim := { program := "ytljchnfgjdjobaagreat", sum := "abf60bdfd7a37ae18ee5747afcdb6e9fe90042f01865bab067e9b68b83dff028", func := "madrigal/madrigallaw06.PathsEquals", spec := "pathsEquals", inPlace := ["internal/bytealg.IndexByteString", "internal/bytealg.IndexString", "internal/bytealg.CountString"], unfollowed := true, recurses := true, named := ["internal/bytealg.MaxLen"], loops := true, plainKeys := false, apart := false }
def PathsEqualsSaid : Prop := pathsEqualsRow.holds Tryz.pinned (OpenSpec.ofChange pathsEqualsSpec)

/-- ITS FALSE NEIGHBOUR: 'it returns false'. Refute it at one input. -/
def pathsEqualsWrong : ChangeSpec := { name := "pathsEquals", fn := fun _ => fun
  | [d1, d2, d3, d4, d5] => { results := [.lit (.bool false)], args := [d1, d2, d3, d4, d5] }
  | _ => none }
def PathsEqualsWrongFalsely : Prop := pathsEqualsRow.holds Tryz.pinned (OpenSpec.ofChange pathsEqualsWrong)

/-- 'madrigallaw06.PathsFewer': WHATEVER THE INPUT: true; the input reads as it did. -/
def pathsFewerSpec : ChangeSpec := { name := "pathsFewer", fn := fun _ => fun
  | [d1, d2, d3] => { results := [.lit (.bool true)], args := [d1, d2, d3] }
  | _ => none }
def pathsFewerRow : OpenClaim := { program := "ytljchnfgjdjobaagreat", sum := "abf60bdfd7a37ae18ee5747afcdb6e9fe90042f01865bab067e9b68b83dff028", func := "madrigal/madrigallaw06.PathsFewer", spec := "pathsFewer", inPlace := ["internal/bytealg.IndexByteString", "internal/bytealg.IndexString", "internal/bytealg.CountString"], unfollowed := true, recurses := true, named := ["internal/bytealg.MaxLen"], loops := true, plainKeys := false, apart := false }
def PathsFewerSaid : Prop := pathsFewerRow.holds Tryz.pinned (OpenSpec.ofChange pathsFewerSpec)

/-- ITS FALSE NEIGHBOUR: 'it returns false'. Refute it at one input. -/
def pathsFewerWrong : ChangeSpec := { name := "pathsFewer", fn := fun _ => fun
  | [d1, d2, d3] => { results := [.lit (.bool false)], args := [d1, d2, d3] }
  | _ => none }
def PathsFewerWrongFalsely : Prop := pathsFewerRow.holds Tryz.pinned (OpenSpec.ofChange pathsFewerWrong)

/-- 'madrigallaw06.PathsPlaces': WHATEVER THE INPUT: true; the input reads as it did. -/
def pathsPlacesSpec : ChangeSpec := { name := "pathsPlaces", fn := fun _ => fun
  | [d1, d2, d3, d4, d5] => { results := [.lit (.bool true)], args := [d1, d2, d3, d4, d5] }
  | _ => none }
def pathsPlacesRow : OpenClaim := { program := "ytljchnfgjdjobaagreat", sum := "abf60bdfd7a37ae18ee5747afcdb6e9fe90042f01865bab067e9b68b83dff028", func := "madrigal/madrigallaw06.PathsPlaces", spec := "pathsPlaces", inPlace := ["internal/bytealg.IndexByteString", "internal/bytealg.IndexString", "internal/bytealg.CountString"], unfollowed := true, recurses := true, named := ["internal/bytealg.MaxLen"], loops := true, plainKeys := false, apart := false }
def PathsPlacesSaid : Prop := pathsPlacesRow.holds Tryz.pinned (OpenSpec.ofChange pathsPlacesSpec)

/-- ITS FALSE NEIGHBOUR: 'it returns false'. Refute it at one input. -/
def pathsPlacesWrong : ChangeSpec := { name := "pathsPlaces", fn := fun _ => fun
  | [d1, d2, d3, d4, d5] => { results := [.lit (.bool false)], args := [d1, d2, d3, d4, d5] }
  | _ => none }
def PathsPlacesWrongFalsely : Prop := pathsPlacesRow.holds Tryz.pinned (OpenSpec.ofChange pathsPlacesWrong)

/-- 'madrigallaw06.PathsSorted': WHATEVER THE INPUT: true; the input reads as it did. -/
def pathsSortedSpec : ChangeSpec := { name := "pathsSorted", fn := fun _ => fun
  | [d1, d2, d3] => { results := [.lit (.bool true)], args := [d1, d2, d3] }
  | _ => none }
def pathsSortedRow : OpenClaim := { program := "ytljchnfgjdjobaagreat", sum := "abf60bdfd7a37ae18ee5747afcdb6e9fe90042f01865bab067e9b68b83dff028", func := "madrigal/madrigallaw06.PathsSorted", spec := "pathsSorted", inPlace := ["internal/bytealg.IndexByteString", "internal/bytealg.IndexString", "internal/bytealg.CountString"], unfollowed := true, recurses := true, named := ["internal/bytealg.MaxLen"], loops := true, plainKeys := false, apart := false }
def PathsSortedSaid : Prop := pathsSortedRow.holds Tryz.pinned (OpenSpec.ofChange pathsSortedSpec)

/-- ITS FALSE NEIGHBOUR: 'it returns false'. Refute it at one input. -/
def pathsSortedWrong : ChangeSpec := { name := "pathsSorted", fn := fun _ => fun
  | [d1, d2, d3] => { results := [.lit (.bool false)], args := [d1, d2, d3] }
  | _ => none }
def PathsSortedWrongFalsely : Prop := pathsSortedRow.holds Tryz.pinned (OpenSpec.ofChange pathsSortedWrong)

/-- 'madrigallaw06.PathsChains': WHATEVER THE INPUT: true; the input reads as it did. -/
def pathsChainsSpec : ChangeSpec := { name := "pathsChains", fn := fun _ => fun
  | [d1, d2, d3] => { results := [.lit (.bool true)], args := [d1, d2, d3] }
  | _ => none }
def pathsChainsRow : OpenClaim := { program := "ytljchnfgjdjobaagreat", sum := "abf60bdfd7a37ae18ee5747afcdb6e9fe90042f01865bab067e9b68b83dff028", func := "madrigal/madrigallaw06.PathsChains", spec := "pathsChains", inPlace := ["internal/bytealg.IndexByteString", "internal/bytealg.IndexString", "internal/bytealg.CountString"], unfollowed := true, recurses := true, named := ["internal/bytealg.MaxLen"], loops := true, plainKeys := false, apart := false }
def PathsChainsSaid : Prop := pathsChainsRow.holds Tryz.pinned (OpenSpec.ofChange pathsChainsSpec)

/-- ITS FALSE NEIGHBOUR: 'it returns false'. Refute it at one input. -/
def pathsChainsWrong : ChangeSpec := { name := "pathsChains", fn := fun _ => fun
  | [d1, d2, d3] => { results := [.lit (.bool false)], args := [d1, d2, d3] }
  | _ => none }
def PathsChainsWrongFalsely : Prop := pathsChainsRow.holds Tryz.pinned (OpenSpec.ofChange pathsChainsWrong)

/-- 'madrigallaw06.PathsGround': WHATEVER THE INPUT: true; the input reads as it did. -/
def pathsGroundSpec : ChangeSpec := { name := "pathsGround", fn := fun _ => fun
  | [d1, d2, d3, d4] => { results := [.lit (.bool true)], args := [d1, d2, d3, d4] }
  | _ => none }
def pathsGroundRow : OpenClaim := { program := "ytljchnfgjdjobaagreat", sum := "abf60bdfd7a37ae18ee5747afcdb6e9fe90042f01865bab067e9b68b83dff028", func := "madrigal/madrigallaw06.PathsGround", spec := "pathsGround", inPlace := ["internal/bytealg.IndexByteString", "internal/bytealg.IndexString", "internal/bytealg.CountString"], unfollowed := true, recurses := true, named := ["internal/bytealg.MaxLen"], loops := true, plainKeys := false, apart := false }
def PathsGroundSaid : Prop := pathsGroundRow.holds Tryz.pinned (OpenSpec.ofChange pathsGroundSpec)

/-- ITS FALSE NEIGHBOUR: 'it returns false'. Refute it at one input. -/
def pathsGroundWrong : ChangeSpec := { name := "pathsGround", fn := fun _ => fun
  | [d1, d2, d3, d4] => { results := [.lit (.bool false)], args := [d1, d2, d3, d4] }
  | _ => none }
def PathsGroundWrongFalsely : Prop := pathsGroundRow.holds Tryz.pinned (OpenSpec.ofChange pathsGroundWrong)

/-- 'madrigallaw06.PathsFound': WHATEVER THE INPUT: true; the input reads as it did. -/
def pathsFoundSpec : ChangeSpec := { name := "pathsFound", fn := fun _ => fun
  | [d1, d2] => { results := [.lit (.bool true)], args := [d1, d2] }
  | _ => none }
def pathsFoundRow : OpenClaim := { program := "ytljchnfgjdjobaagreat", sum := "abf60bdfd7a37ae18ee5747afcdb6e9fe90042f01865bab067e9b68b83dff028", func := "madrigal/madrigallaw06.PathsFound", spec := "pathsFound", inPlace := ["internal/bytealg.IndexByteString", "internal/bytealg.IndexString", "internal/bytealg.CountString"], unfollowed := true, recurses := true, named := ["internal/bytealg.MaxLen"], loops := true, plainKeys := false, apart := false }
def PathsFoundSaid : Prop := pathsFoundRow.holds Tryz.pinned (OpenSpec.ofChange pathsFoundSpec)

/-- ITS FALSE NEIGHBOUR: 'it returns false'. Refute it at one input. -/
def pathsFoundWrong : ChangeSpec := { name := "pathsFound", fn := fun _ => fun
  | [d1, d2] => { results := [.lit (.bool false)], args := [d1, d2] }
  | _ => none }
def PathsFoundWrongFalsely : Prop := pathsFoundRow.holds Tryz.pinned (OpenSpec.ofChange pathsFoundWrong)

/-- 'madrigallaw06.PathsEnds': WHATEVER THE INPUT: true; the input reads as it did. -/
def pathsEndsSpec : ChangeSpec := { name := "pathsEnds", fn := fun _ => fun
  | [d1, d2, d3, d4, d5, d6, d7, d8] => { results := [.lit (.bool true)], args := [d1, d2, d3, d4, d5, d6, d7, d8] }
  | _ => none }
def pathsEndsRow : OpenClaim := { program := "ytljchnfgjdjobaagreat", sum := "abf60bdfd7a37ae18ee5747afcdb6e9fe90042f01865bab067e9b68b83dff028", func := "madrigal/madrigallaw06.PathsEnds", spec := "pathsEnds", inPlace := ["internal/bytealg.IndexByteString", "internal/bytealg.IndexString", "internal/bytealg.CountString"], unfollowed := true, recurses := true, named := ["internal/bytealg.MaxLen"], loops := true, plainKeys := false, apart := false }
def PathsEndsSaid : Prop := pathsEndsRow.holds Tryz.pinned (OpenSpec.ofChange pathsEndsSpec)

/-- ITS FALSE NEIGHBOUR: 'it returns false'. Refute it at one input. -/
def pathsEndsWrong : ChangeSpec := { name := "pathsEnds", fn := fun _ => fun
  | [d1, d2, d3, d4, d5, d6, d7, d8] => { results := [.lit (.bool false)], args := [d1, d2, d3, d4, d5, d6, d7, d8] }
  | _ => none }
def PathsEndsWrongFalsely : Prop := pathsEndsRow.holds Tryz.pinned (OpenSpec.ofChange pathsEndsWrong)

/-- 'madrigallaw06.PathsSteps': WHATEVER THE INPUT: true; the input reads as it did. -/
def pathsStepsSpec : ChangeSpec := { name := "pathsSteps", fn := fun _ => fun
  | [d1, d2, d3, d4] => { results := [.lit (.bool true)], args := [d1, d2, d3, d4] }
  | _ => none }
def pathsStepsRow : OpenClaim := { program := "ytljchnfgjdjobaagreat", sum := "abf60bdfd7a37ae18ee5747afcdb6e9fe90042f01865bab067e9b68b83dff028", func := "madrigal/madrigallaw06.PathsSteps", spec := "pathsSteps", inPlace := ["internal/bytealg.IndexByteString", "internal/bytealg.IndexString", "internal/bytealg.CountString"], unfollowed := true, recurses := true, named := ["internal/bytealg.MaxLen"], loops := true, plainKeys := false, apart := false }
def PathsStepsSaid : Prop := pathsStepsRow.holds Tryz.pinned (OpenSpec.ofChange pathsStepsSpec)

/-- ITS FALSE NEIGHBOUR: 'it returns false'. Refute it at one input. -/
def pathsStepsWrong : ChangeSpec := { name := "pathsSteps", fn := fun _ => fun
  | [d1, d2, d3, d4] => { results := [.lit (.bool false)], args := [d1, d2, d3, d4] }
  | _ => none }
def PathsStepsWrongFalsely : Prop := pathsStepsRow.holds Tryz.pinned (OpenSpec.ofChange pathsStepsWrong)

/- THE SECOND FORM. 'bulk': how many values and letters a reading holds, each counted each time it is reached (what is shared counts as often as it is met; a slice's spare places count too). A statement '..UptoSaid' is the law's where the arguments, and the package variables that the reading takes, are together of bulk at most 1048576: NARROWER than '..Said'. Prove '..Said' where nothing that the law and all that it calls make is longer than what came in: it says more and counts as full. Else prove '..UptoSaid'. A law counts once. -/
mutual
def uptoBulk {H : Type} : DataW H → Nat
  | .lit (.string bytes) => bytes.length + 1
  | .lit _ => 1
  | .nil => 1
  | .ptr d => uptoBulk d + 1
  | .slice elems spare => uptoBulkAll elems + uptoBulkAll spare + 1
  | .agg parts => uptoBulkAll parts + 1
  | .iface _ d => uptoBulk d + 1
  | .map entries => uptoBulkEntries entries + 1
  | .held _ => 1
def uptoBulkAll {H : Type} : List (DataW H) → Nat
  | [] => 0
  | d :: r => uptoBulk d + uptoBulkAll r
def uptoBulkEntries {H : Type} : List (Lit × DataW H) → Nat
  | [] => 0
  | x :: r => uptoBulkEntry x + uptoBulkEntries r
def uptoBulkEntry {H : Type} : Lit × DataW H → Nat
  | (.string bytes, d) => bytes.length + uptoBulk d + 1
  | (_, d) => uptoBulk d + 1
 end
def uptoSmall : (H : Type) → List (DataW H) → Bool := fun _ ds => decide (uptoBulkAll ds ≤ 1048576)
def OpenSpec.upto (s : _root_.Go.ChangeSpec) : _root_.Go.OpenSpec := { _root_.Go.OpenSpec.ofChange s with cond := some uptoSmall }

/-- 'madrigallaw06.PathsCompares', WHERE WHAT IT READS IS OF BULK AT MOST 1048576: true; the input reads as it did. -/
def pathsComparesUptoRow : OpenClaim := { program := "ytljchnfgjdjobaagreat", sum := "abf60bdfd7a37ae18ee5747afcdb6e9fe90042f01865bab067e9b68b83dff028", func := "madrigal/madrigallaw06.PathsCompares", spec := "pathsCompares", inPlace := ["internal/bytealg.IndexByteString", "internal/bytealg.IndexString", "internal/bytealg.CountString"], unfollowed := true, recurses := true, named := ["internal/bytealg.MaxLen"], loops := true, plainKeys := false, apart := false, narrowed := true }
def PathsComparesUptoSaid : Prop := pathsComparesUptoRow.holds Tryz.pinned (OpenSpec.upto pathsComparesSpec)

/-- 'madrigallaw06.PathsProofs', WHERE WHAT IT READS IS OF BULK AT MOST 1048576: true; the input reads as it did. -/
def pathsProofsUptoRow : OpenClaim := { program := "ytljchnfgjdjobaagreat", sum := "abf60bdfd7a37ae18ee5747afcdb6e9fe90042f01865bab067e9b68b83dff028", func := "madrigal/madrigallaw06.PathsProofs", spec := "pathsProofs", inPlace := ["internal/bytealg.IndexByteString", "internal/bytealg.IndexString", "internal/bytealg.CountString"], unfollowed := true, recurses := true, named := ["internal/bytealg.MaxLen"], loops := true, plainKeys := false, apart := false, narrowed := true }
def PathsProofsUptoSaid : Prop := pathsProofsUptoRow.holds Tryz.pinned (OpenSpec.upto pathsProofsSpec)

/-- 'madrigallaw06.PathsTypes', WHERE WHAT IT READS IS OF BULK AT MOST 1048576: true; the input reads as it did. -/
def pathsTypesUptoRow : OpenClaim := { program := "ytljchnfgjdjobaagreat", sum := "abf60bdfd7a37ae18ee5747afcdb6e9fe90042f01865bab067e9b68b83dff028", func := "madrigal/madrigallaw06.PathsTypes", spec := "pathsTypes", inPlace := ["internal/bytealg.IndexByteString", "internal/bytealg.IndexString", "internal/bytealg.CountString"], unfollowed := true, recurses := true, named := ["internal/bytealg.MaxLen"], loops := true, plainKeys := false, apart := false, narrowed := true }
def PathsTypesUptoSaid : Prop := pathsTypesUptoRow.holds Tryz.pinned (OpenSpec.upto pathsTypesSpec)

/-- 'madrigallaw06.PathsFinds', WHERE WHAT IT READS IS OF BULK AT MOST 1048576: true; the input reads as it did. -/
def pathsFindsUptoRow : OpenClaim := { program := "ytljchnfgjdjobaagreat", sum := "abf60bdfd7a37ae18ee5747afcdb6e9fe90042f01865bab067e9b68b83dff028", func := "madrigal/madrigallaw06.PathsFinds", spec := "pathsFinds", inPlace := ["internal/bytealg.IndexByteString", "internal/bytealg.IndexString", "internal/bytealg.CountString"], unfollowed := true, recurses := true, named := ["internal/bytealg.MaxLen"], loops := true, plainKeys := false, apart := false, narrowed := true }
def PathsFindsUptoSaid : Prop := pathsFindsUptoRow.holds Tryz.pinned (OpenSpec.upto pathsFindsSpec)

/-- 'madrigallaw06.PathsShows', WHERE WHAT IT READS IS OF BULK AT MOST 1048576: true; the input reads as it did. -/
def pathsShowsUptoRow : OpenClaim := { program := "ytljchnfgjdjobaagreat", sum := "abf60bdfd7a37ae18ee5747afcdb6e9fe90042f01865bab067e9b68b83dff028", func := "madrigal/madrigallaw06.PathsShows", spec := "pathsShows", inPlace := ["internal/bytealg.IndexByteString", "internal/bytealg.IndexString", "internal/bytealg.CountString"], unfollowed := true, recurses := true, named := ["internal/bytealg.MaxLen"], loops := true, plainKeys := false, apart := false, narrowed := true }
def PathsShowsUptoSaid : Prop := pathsShowsUptoRow.holds Tryz.pinned (OpenSpec.upto pathsShowsSpec)

/-- 'madrigallaw06.PathsEquals', WHERE WHAT IT READS IS OF BULK AT MOST 1048576: true; the input reads as it did. -/
def pathsEqualsUptoRow : OpenClaim := { program := "ytljchnfgjdjobaagreat", sum := "abf60bdfd7a37ae18ee5747afcdb6e9fe90042f01865bab067e9b68b83dff028", func := "madrigal/madrigallaw06.PathsEquals", spec := "pathsEquals", inPlace := ["internal/bytealg.IndexByteString", "internal/bytealg.IndexString", "internal/bytealg.CountString"], unfollowed := true, recurses := true, named := ["internal/bytealg.MaxLen"], loops := true, plainKeys := false, apart := false, narrowed := true }
def PathsEqualsUptoSaid : Prop := pathsEqualsUptoRow.holds Tryz.pinned (OpenSpec.upto pathsEqualsSpec)

/-- 'madrigallaw06.PathsFewer', WHERE WHAT IT READS IS OF BULK AT MOST 1048576: true; the input reads as it did. -/
def pathsFewerUptoRow : OpenClaim := { program := "ytljchnfgjdjobaagreat", sum := "abf60bdfd7a37ae18ee5747afcdb6e9fe90042f01865bab067e9b68b83dff028", func := "madrigal/madrigallaw06.PathsFewer", spec := "pathsFewer", inPlace := ["internal/bytealg.IndexByteString", "internal/bytealg.IndexString", "internal/bytealg.CountString"], unfollowed := true, recurses := true, named := ["internal/bytealg.MaxLen"], loops := true, plainKeys := false, apart := false, narrowed := true }
def PathsFewerUptoSaid : Prop := pathsFewerUptoRow.holds Tryz.pinned (OpenSpec.upto pathsFewerSpec)

/-- 'madrigallaw06.PathsPlaces', WHERE WHAT IT READS IS OF BULK AT MOST 1048576: true; the input reads as it did. -/
def pathsPlacesUptoRow : OpenClaim := { program := "ytljchnfgjdjobaagreat", sum := "abf60bdfd7a37ae18ee5747afcdb6e9fe90042f01865bab067e9b68b83dff028", func := "madrigal/madrigallaw06.PathsPlaces", spec := "pathsPlaces", inPlace := ["internal/bytealg.IndexByteString", "internal/bytealg.IndexString", "internal/bytealg.CountString"], unfollowed := true, recurses := true, named := ["internal/bytealg.MaxLen"], loops := true, plainKeys := false, apart := false, narrowed := true }
def PathsPlacesUptoSaid : Prop := pathsPlacesUptoRow.holds Tryz.pinned (OpenSpec.upto pathsPlacesSpec)

/-- 'madrigallaw06.PathsSorted', WHERE WHAT IT READS IS OF BULK AT MOST 1048576: true; the input reads as it did. -/
def pathsSortedUptoRow : OpenClaim := { program := "ytljchnfgjdjobaagreat", sum := "abf60bdfd7a37ae18ee5747afcdb6e9fe90042f01865bab067e9b68b83dff028", func := "madrigal/madrigallaw06.PathsSorted", spec := "pathsSorted", inPlace := ["internal/bytealg.IndexByteString", "internal/bytealg.IndexString", "internal/bytealg.CountString"], unfollowed := true, recurses := true, named := ["internal/bytealg.MaxLen"], loops := true, plainKeys := false, apart := false, narrowed := true }
def PathsSortedUptoSaid : Prop := pathsSortedUptoRow.holds Tryz.pinned (OpenSpec.upto pathsSortedSpec)

/-- 'madrigallaw06.PathsChains', WHERE WHAT IT READS IS OF BULK AT MOST 1048576: true; the input reads as it did. -/
def pathsChainsUptoRow : OpenClaim := { program := "ytljchnfgjdjobaagreat", sum := "abf60bdfd7a37ae18ee5747afcdb6e9fe90042f01865bab067e9b68b83dff028", func := "madrigal/madrigallaw06.PathsChains", spec := "pathsChains", inPlace := ["internal/bytealg.IndexByteString", "internal/bytealg.IndexString", "internal/bytealg.CountString"], unfollowed := true, recurses := true, named := ["internal/bytealg.MaxLen"], loops := true, plainKeys := false, apart := false, narrowed := true }
def PathsChainsUptoSaid : Prop := pathsChainsUptoRow.holds Tryz.pinned (OpenSpec.upto pathsChainsSpec)

/-- 'madrigallaw06.PathsGround', WHERE WHAT IT READS IS OF BULK AT MOST 1048576: true; the input reads as it did. -/
def pathsGroundUptoRow : OpenClaim := { program := "ytljchnfgjdjobaagreat", sum := "abf60bdfd7a37ae18ee5747afcdb6e9fe90042f01865bab067e9b68b83dff028", func := "madrigal/madrigallaw06.PathsGround", spec := "pathsGround", inPlace := ["internal/bytealg.IndexByteString", "internal/bytealg.IndexString", "internal/bytealg.CountString"], unfollowed := true, recurses := true, named := ["internal/bytealg.MaxLen"], loops := true, plainKeys := false, apart := false, narrowed := true }
def PathsGroundUptoSaid : Prop := pathsGroundUptoRow.holds Tryz.pinned (OpenSpec.upto pathsGroundSpec)

/-- 'madrigallaw06.PathsFound', WHERE WHAT IT READS IS OF BULK AT MOST 1048576: true; the input reads as it did. -/
def pathsFoundUptoRow : OpenClaim := { program := "ytljchnfgjdjobaagreat", sum := "abf60bdfd7a37ae18ee5747afcdb6e9fe90042f01865bab067e9b68b83dff028", func := "madrigal/madrigallaw06.PathsFound", spec := "pathsFound", inPlace := ["internal/bytealg.IndexByteString", "internal/bytealg.IndexString", "internal/bytealg.CountString"], unfollowed := true, recurses := true, named := ["internal/bytealg.MaxLen"], loops := true, plainKeys := false, apart := false, narrowed := true }
def PathsFoundUptoSaid : Prop := pathsFoundUptoRow.holds Tryz.pinned (OpenSpec.upto pathsFoundSpec)

/-- 'madrigallaw06.PathsEnds', WHERE WHAT IT READS IS OF BULK AT MOST 1048576: true; the input reads as it did. -/
def pathsEndsUptoRow : OpenClaim := { program := "ytljchnfgjdjobaagreat", sum := "abf60bdfd7a37ae18ee5747afcdb6e9fe90042f01865bab067e9b68b83dff028", func := "madrigal/madrigallaw06.PathsEnds", spec := "pathsEnds", inPlace := ["internal/bytealg.IndexByteString", "internal/bytealg.IndexString", "internal/bytealg.CountString"], unfollowed := true, recurses := true, named := ["internal/bytealg.MaxLen"], loops := true, plainKeys := false, apart := false, narrowed := true }
def PathsEndsUptoSaid : Prop := pathsEndsUptoRow.holds Tryz.pinned (OpenSpec.upto pathsEndsSpec)

/-- 'madrigallaw06.PathsSteps', WHERE WHAT IT READS IS OF BULK AT MOST 1048576: true; the input reads as it did. -/
def pathsStepsUptoRow : OpenClaim := { program := "ytljchnfgjdjobaagreat", sum := "abf60bdfd7a37ae18ee5747afcdb6e9fe90042f01865bab067e9b68b83dff028", func := "madrigal/madrigallaw06.PathsSteps", spec := "pathsSteps", inPlace := ["internal/bytealg.IndexByteString", "internal/bytealg.IndexString", "internal/bytealg.CountString"], unfollowed := true, recurses := true, named := ["internal/bytealg.MaxLen"], loops := true, plainKeys := false, apart := false, narrowed := true }
def PathsStepsUptoSaid : Prop := pathsStepsUptoRow.holds Tryz.pinned (OpenSpec.upto pathsStepsSpec)

end Rows
end Go.Proofs.YtljchnfgjdjobaaGreat
