import Derived.Test.YtkgdclcmfnhbmaaMcJ
import Derived.Test.YtkgdclcmfnhbmaaAmZb
import Derived.Test.YtkgdclcmfnhbmaaSpQ
set_option linter.unusedSimpArgs false
set_option linter.unusedVariables false
namespace Go.Proofs.Ytkgdclcmfnhbmaa
open Go.AM
theorem mt36 : macT Try.prog 36 3 34 63 = true := by kernel_rfl
theorem stt63 : stT Try.prog 63 3 = true := by kernel_rfl
theorem steps_le {H : Type} (d : DataW H) : (dSteps d).length ≤ Rows.uptoBulk d := by
  cases d with
  | slice elems spare =>
    have := bulks.length_le elems
    have := bulks.slice_elems elems spare
    simp only [dSteps, List.length_map]; omega
  | lit l => simp [dSteps]
  | nil => simp [dSteps]
  | ptr d => simp [dSteps]
  | agg parts => simp [dSteps]
  | iface t d => simp [dSteps]
  | map entries => simp [dSteps]
  | held h => simp [dSteps]
theorem mac_le {H : Type} (d : DataW H) : (dMac d).steps.length ≤ Rows.uptoBulk d := by
  unfold dMac
  split
  · rename_i a b c d e
    have h1 := steps_le e
    simp only [Rows.uptoBulk, Rows.uptoBulkAll]
    omega
  · simp
end Go.Proofs.Ytkgdclcmfnhbmaa
