import Derived.Test.YtomiejfeclefaaaAnJ
import Derived.Shelf.SlSortCmp.NoneTotal
set_option linter.unusedVariables false
set_option linter.unusedSimpArgs false
set_option linter.unnecessarySimpa false
set_option linter.unusedSectionVars false
/-! slices.SortFunc over a list of one's own: the shelf's contract, handed up. -/
namespace Go.AM
open Go
open Go.Shelf Go.Lib
variable {P : Program} {h h' h1 h2 : Heap} {h0 : Base} {K : Value → Heap → Prop} {v x : Value} {l : List E} {i k sz : Nat} {o : Option Nat} {cs : List Value}
/-- What is so of a world is so of one whose blocks are the same. -/
theorem Rel.same {w w' : World} {ρ : Place} (R : Rel h ρ w) (hk : ∀ b, b < w.heap.size → w'.heap[b]? = w.heap[b]?) : Rel h ρ w' := by
  have lt : ∀ {b : Nat} {x : _}, w.heap[b]? = some x → b < w.heap.size := fun e => (Array.getElem?_eq_some_iff.mp e).1
  refine ⟨R.dom, ?_, ?_, R.inj⟩
  · intro i L a h1 h2
    obtain ⟨cs, ty, fr, e1, e2⟩ := R.arr i L a h1 h2
    exact ⟨cs, ty, fr, by rw [hk _ (lt e1)]; exact e1, e2⟩
  · intro i L es h1 h2
    obtain ⟨en, cl, e1, e2⟩ := R.map i L es h1 h2
    exact ⟨en, cl, by rw [hk _ (lt e1)]; exact e1, e2⟩
end Go.AM
