/-
  A law's contract where one package variable of a library package, a number, is read: whatever it is.
-/
import Derived.Test.YtgmgmkhenhaniaaAnD
import Derived.Shelf.Vars
import Derived.JoinedCond
import Derived.OpenShut
set_option linter.unusedSimpArgs false
set_option linter.unusedVariables false
set_option linter.unnecessarySimpa false
namespace Go.AM
open Go.ChangeShapes Go.RowKit
variable {P : Program} {h h' h0 : Heap} {ρ ρ' : Place} {W : World}
end Go.AM
