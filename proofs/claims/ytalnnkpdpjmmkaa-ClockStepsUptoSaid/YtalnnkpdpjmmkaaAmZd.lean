/-
  Contracts taken over from the model's own level: library functions whose arguments name no place.
-/
import Derived.Test.YtalnnkpdpjmmkaaAmZc
set_option linter.unusedSimpArgs false
set_option linter.unusedVariables false
namespace Go.AM
variable {P : Program} {h h' : Heap}

theorem flat1_list {ρ : Place} : ∀ {xs cs : List Value}, xs.all flat1 = true → LRel ρ xs cs → cs = xs
  | xs, cs, ha, rl => by
    apply List.ext_getElem rl.1.symm
    intro j h1 h2
    have := rl.2 j
    rw [show xs.getD j undef = xs[j] by simp [List.getD, h2], show cs.getD j undef = cs[j] by simp [List.getD, h1]] at this
    exact flat1_eq (List.all_eq_true.mp ha _ (List.getElem_mem _)) this
theorem flat1_rel {ρ : Place} {v : Value} (hv : flat1 v = true) : VRel ρ v v := by
  cases v <;> first | exact .bool _ | exact .int _ _ | exact .string _ | (simp [flat1] at hv; done)
theorem Runs.of_extern {f : FuncId} {args : List Value} {v : Value} (hv : flat1 v = true) (ha : args.all flat1 = true)
    (hc : ∀ w, (callFunc f args.toArray).run P w = .ok (.value v) w) : Runs P f args h v h := by
  intro ρ w cargs G R rl
  have := flat1_list ha rl
  subst this
  exact .inr ⟨v, w, hc w, v, h, ρ, v, ⟨rfl, rfl⟩, rfl, R, Step.refl _ _ _, flat1_rel hv⟩
end Go.AM
