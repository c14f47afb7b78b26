/- A memory-free reading of the model's values (part 20): code that is run. -/
import Derived.Test.YtljchnfgjdjobaaGreatXad
set_option linter.unusedVariables false
set_option linter.unusedSimpArgs false
set_option linter.defProp false
set_option linter.unusedSectionVars false
namespace Go.aI
open Go
theorem da:∀ xs,yU xs xs
 | []=>trivial
 | x::xs=>⟨le_refl _,da xs⟩
end Go.aI
