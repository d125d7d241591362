import Derived.Test.YtgmgmkhenhaniaaAnJ
set_option linter.unusedVariables false
set_option linter.unusedSimpArgs false
set_option linter.unnecessarySimpa false
set_option linter.unusedSectionVars false
/-! Parts of slices of one's own; copies within one array. -/
namespace Go.AM
open Go
variable {P : Program} {h h' h1 h2 : Heap} {h0 : Base} {K : Value → Heap → Prop} {v x : Value} {l l' : List E} {i k sz : Nat} {o : Option Nat} {cs : List Value}
end Go.AM
