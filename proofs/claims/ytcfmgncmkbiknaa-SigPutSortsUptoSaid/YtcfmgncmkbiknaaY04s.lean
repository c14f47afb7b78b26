/- A part of the proof; its place is told by its neighbours. -/
import Derived.Test.YtcfmgncmkbiknaaY04t
import Derived.KernelRfl
set_option maxRecDepth 1000000
namespace Go.Abs
open Go Go.Proofs
theorem sane_run : callE tab (execE tab 100000) 13 [] [] = some (.bool true, []) := by kernel_rfl
end Go.Abs
