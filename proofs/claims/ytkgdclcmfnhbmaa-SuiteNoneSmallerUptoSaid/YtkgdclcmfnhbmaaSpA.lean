import Derived.Test.YtkgdclcmfnhbmaaAmX
import Derived.Test.YtkgdclcmfnhbmaaProg
import Derived.KernelRfl
set_option linter.unusedSimpArgs false
set_option linter.unusedVariables false
set_option maxRecDepth 100000
namespace Go.Proofs.Ytkgdclcmfnhbmaa
open Go.AM
variable {h h' h0 : Heap}
/-! ### awake: a closed call, by evaluation -/
def isTrue : Option (Value × Heap) → Bool | some (.bool true, _) => true | _ => false
def aw : List Nat := [10, 11, 18, 24, 34, 35, 36, 37, 38, 39, 40, 41, 46, 47, 48, 50, 58, 59, 60, 63, 64, 65, 66, 67, 77, 78, 79, 80, 81, 82, 83, 84, 85, 91, 92]
theorem aw_ok : aw.all (fOK Try.prog) = true := by kernel_rfl
theorem aw_ev : isTrue (evF Try.prog aw 100 20 10 [] []) = true := by kernel_rfl
theorem c10 : Runs Try.prog 10 [] h (.bool true) h := by
  have := aw_ev
  unfold isTrue at this
  split at this
  · rename_i hr he
    exact Runs.closed rfl (evF_ok (fun f hf => List.all_eq_true.mp aw_ok f hf) _ _ _ _ _ _ he)
  · cases this
end Go.Proofs.Ytkgdclcmfnhbmaa
