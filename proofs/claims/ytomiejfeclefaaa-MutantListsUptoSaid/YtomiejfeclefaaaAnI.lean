import Derived.Test.YtomiejfeclefaaaAnH
set_option linter.unusedVariables false
set_option linter.unusedSimpArgs false
set_option linter.unnecessarySimpa false
set_option linter.unusedSectionVars false
/-! Memory of one's own in another order; pointers to structs that are only read; slices made. -/
namespace Go.AM
open Go
variable {P : Program} {h h' h0 h1 h2 : Heap} {K : Value → Heap → Prop} {v x : Value} {l : List E} {i k sz o : Nat} {cs : List Value}
theorem Mem.perm {l' : List E} (m : Mem h0 h l) (p : l.Perm l') : Mem h0 h l' :=
  ⟨m.pre, fun e he => m.has e (p.symm.subset he), (p.filterMap _).nodup_iff.mp m.nd⟩
/-- A pointer to a struct that is only read. -/
structure Bx (α : Type) where
  get : α
instance {α : Type} [F : Flat α] : Rep (Bx α) := ⟨1, fun h cs b => ∃ v, cs = [v] ∧ Pt h v (F.cells b.get) 0, by rintro h cs a ⟨v, rfl, _⟩; rfl,
  by rintro h h' cs a hs ⟨v, e, s⟩; exact ⟨v, e, s.mono hs⟩, by rintro h cs a ⟨v, rfl, i, b, c, rfl, _⟩; rfl⟩
/-! ### lists of lists, all of one's own -/
/-- The slices over them. -/
def LL {α : Type} (vs : List Value) (W : List (Option Nat)) (ls : List (List α)) : Prop :=
  vs.length = ls.length ∧ W.length = ls.length ∧ ∀ j, j < ls.length → IsSl (vs.getD j undef) (W.getD j none) (ls.getD j []).length
section
variable {α : Type} [F : Flat α] {vs : List Value} {W : List (Option Nat)} {ls : List (List α)} {a : List α}
theorem LL.add (s : LL vs W ls) {o : Option Nat} {v : Value} (hv : IsSl v o a.length) : LL (vs ++ [v]) (W ++ [o]) (ls ++ [a]) := by
  obtain ⟨s1, s2, s3⟩ := s
  refine ⟨by simp [s1], by simp [s2], fun j hj => ?_⟩
  by_cases e : j < ls.length
  · have h1 : (vs ++ [v]).getD j undef = vs.getD j undef := by simp [List.getD, List.getElem?_append_left (show j < vs.length by omega)]
    have h2 : (W ++ [o]).getD j none = W.getD j none := by simp [List.getD, List.getElem?_append_left (show j < W.length by omega)]
    have h3 : (ls ++ [a]).getD j [] = ls.getD j [] := by simp [List.getD, List.getElem?_append_left e]
    rw [h1, h2, h3]
    exact s3 j e
  · have e : j = ls.length := by simp at hj; omega
    subst e
    have h1 : (vs ++ [v]).getD ls.length undef = v := by rw [← s1]; simp [List.getD]
    have h2 : (W ++ [o]).getD ls.length none = o := by rw [← s2]; simp [List.getD]
    have h3 : (ls ++ [a]).getD ls.length [] = a := by simp [List.getD]
    rw [h1, h2, h3]; exact hv
theorem LL.at (s : LL vs W ls) {j : Nat} (hj : j < ls.length) : ∃ v, vs[j]? = some v ∧ IsSl v (W.getD j none) (ls.getD j []).length := by
  have e : j < vs.length := by have := s.1; omega
  refine ⟨vs[j], List.getElem?_eq_getElem e, ?_⟩
  have := s.2.2 j hj
  simpa [List.getD, e] using this
end
end Go.AM
