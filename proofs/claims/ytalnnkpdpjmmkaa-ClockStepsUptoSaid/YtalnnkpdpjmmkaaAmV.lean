/-
  Code over the abstract memory, run: where it ends, that is what every run of the machine gives.
-/
import Derived.Test.YtalnnkpdpjmmkaaAmU
set_option linter.unusedSimpArgs false
set_option linter.unusedVariables false
namespace Go.AM
variable {P : Program} {h h' : Heap} {ρ : Place} {w : World}

/-! ### tests of sameness -/
/-! ### a region -/
theorem vK_of {o : Option Value} {v : Value} {K : Value → Heap → Prop} (ho : o.map (·, h) = some (v, h')) (hk : K v h') : vK o h K := by
  obtain ⟨a, e1, e2⟩ := map_eq ho
  cases e2
  exact ⟨by rw [e1]; exact hk⟩
theorem okK_of {o : Option (Value × Heap)} {v : Value} {K : Value → Heap → Prop} (ho : o = some (v, h')) (hk : K v h') : okK o K := ⟨by rw [ho]; exact hk⟩
theorem bK_of {t : Tmps} {c : Call} {v : Value} {K : Value → Heap → Prop} (ho : callVal P t c h = some (v, h')) (hk : K v h') : bK P t c h K := by
  unfold callVal at ho
  split at ho
  · rename_i b hb
    unfold bK
    rw [hb]
    cases b <;> simp only [bVal] at ho <;> first
      | (cases ho; done)
      | (split at ho
         · rename_i ha hat; simp only [ha, hat]; first | exact vK_of ho hk | exact okK_of ho hk
         · cases ho)
  · cases ho
theorem opS_of {t : Tmps} {op : Op} {v : Value} {K : Value → Heap → Prop} (ho : opVal P t op h = some (v, h')) (hk : K v h') : opS P t op h K := by
  cases op <;> first
    | (cases ho; done)
    | (cases ho; exact ⟨hk⟩)
    | exact vK_of ho hk
    | exact okK_of ho hk
    | exact bK_of ho hk
    | (rename_i fn first cap; cases fn <;> first | (cases ho; done) | (cases ho; exact ⟨hk⟩))
    | (rename_i ty r; cases r <;> first | (cases ho; done) | exact okK_of ho hk)
/-! ### code -/
/-! ### functions -/
end Go.AM
