/-
  Contracts taken over from the model's own level: library functions whose arguments name no place.
-/
import Derived.Test.YtgmgmkhenhaniaaAmZc
set_option linter.unusedSimpArgs false
set_option linter.unusedVariables false
namespace Go.AM
variable {P : Program} {h h' : Heap}

end Go.AM
