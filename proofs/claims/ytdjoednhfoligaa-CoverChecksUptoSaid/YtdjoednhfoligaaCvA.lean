import Derived.Test.YtdjoednhfoligaaAmX
import Derived.Test.YtdjoednhfoligaaProg
import Derived.KernelRfl
set_option linter.unusedSimpArgs false
set_option linter.unusedVariables false
set_option maxRecDepth 100000
namespace Go.Proofs.Ytdjoednhfoligaa
open Go.AM
variable {h h' h0 : Heap}
/-! ### awake: a closed call, by evaluation -/
def isTrue : Option (Value × Heap) → Bool | some (.bool true, _) => true | _ => false
def aw : List Nat := [14, 15, 23, 29, 49, 50, 51, 52, 53, 54, 55, 56, 57, 58, 59, 60, 61, 62, 64, 65, 67, 73, 87, 88, 89, 90, 91, 93, 94, 96, 107, 108, 110]
theorem aw_ok : aw.all (fOK Try.prog) = true := by kernel_rfl
theorem aw_ev : isTrue (evF Try.prog aw 100 20 14 [] []) = true := by kernel_rfl
theorem c14 : Runs Try.prog 14 [] h (.bool true) h := by
  have := aw_ev
  unfold isTrue at this
  split at this
  · rename_i hr he
    exact Runs.closed rfl (evF_ok (fun f hf => List.all_eq_true.mp aw_ok f hf) _ _ _ _ _ _ he)
  · cases this
end Go.Proofs.Ytdjoednhfoligaa
