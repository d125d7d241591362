/-
  Contracts handed to the model's own level, and taken over from it; the cell of a package variable.
-/
import Derived.Test.YtgmgmkhenhaniaaAnC
import Derived.Test.YtgmgmkhenhaniaaAmZd
import Derived.Below
set_option linter.unusedSimpArgs false
set_option linter.unusedVariables false
namespace Go.AM
open Go.RowKit
variable {P : Program} {h h' : Heap}
/-- The package variable of number 0 is a number. -/
class GM (h : Heap) : Prop where
  ok : ∃ N : Int, h[0]? = some (.arr ⟨[.int .i64 N], 1, true⟩)
instance (priority := 400) gm_step {a b : Heap} [p : Prec a b] [g : GM a] : GM b := ⟨g.ok.imp fun N e => p.st.ro 0 _ e rfl⟩
theorem GM.cell [g : GM h] {ρ : Place} {w : World} (G : GlobP P ρ) (R : Rel h ρ w) (hg : 0 < P.globals.size) : ∃ m, w.cell? ⟨0, 0, none⟩ = some (.int .i64 m) := by
  obtain ⟨N, e⟩ := g.ok
  obtain ⟨L, h1, h2, h3⟩ := G 0 hg
  obtain ⟨cs, ty, fr, g1, g2, g3, g4, g5, g6⟩ := R.arr 0 L _ h1 e
  have := g5 0 (by simp)
  simp only [List.getD, List.getElem?_cons_zero, Option.getD_some, Nat.add_zero, h3] at this
  have hsz : 0 < cs.size := by simp at g3; omega
  rw [getD_in hsz] at this
  generalize hc : cs[0] = c at this
  cases this
  rw [h2] at g1
  refine ⟨N, ?_⟩
  unfold World.cell?
  simp [g1, hsz, hc]
end Go.AM
