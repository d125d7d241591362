import Derived.Test.YtomiejfeclefaaaAnI
set_option linter.unusedVariables false
set_option linter.unusedSimpArgs false
set_option linter.unnecessarySimpa false
set_option linter.unusedSectionVars false
/-! Copies in memory of one's own. -/
namespace Go.AM
open Go
variable {P : Program} {h h' h0 h1 h2 : Heap} {K : Value → Heap → Prop} {v x : Value} {l : List E} {i k sz : Nat} {o : Option Nat} {cs : List Value}
/-- append(x, a): both one's own. -/
theorem app_snoc {α : Type} [F : Flat α] {t e sz by_ j c : Nat} {xs : List α} {a : α} {o : Option Nat} {k2 i2 : Nat} [T : SlT P t e sz by_] (M : Mem h0 h l) (s : IsSl v o xs.length) (q : EntO l o k (flat xs) sz) (q2 : Ent l i2 k2 (F.cells a) sz) (hz : sz = F.sz) (hb : (xs.length + 1) * by_ ≤ 2 ^ 46 ∧ xs.length + 1 ≤ 2 ^ 46)
    (hK : ∀ (i : Nat) (h' : Heap), Prec h h' → Mem h0 h' (l.set k ⟨some i, flat (xs ++ [a]), sz⟩) → K (.slice (some ⟨i, 0, none⟩) (xs.length + 1) 0) h') : okK (aAppend P t t v (.slice (some ⟨i2, 0, none⟩) 1 c) h) K := by
  subst hz
  refine app_o M s q (flat_length xs) (src_own M (q := q2) (n := 1) (by rw [F.len, Nat.one_mul]) (by decide) (by decide) (flat_ones (F.flat a))) hb fun i h p m => ?_
  rw [← flat_snoc] at m
  exact hK i h p m
/-! ### lists of one's own whose elements hold slices that are only read -/
def RdL {α : Type} [R : Rep α] (h : Heap) (cs : List Value) (l : List α) : Prop :=
  ∃ css : List (List Value), css.length = l.length ∧ cs = css.flatten ∧ ∀ (k : Nat) (h1 : k < css.length) (h2 : k < l.length), R.rd h css[k] l[k]
section
variable {α : Type} [R : Rep α] {xs : List α} {a : α} {c : List Value}
theorem RdL.nil (h : Heap) : RdL h [] ([] : List α) := ⟨[], rfl, rfl, fun k h1 => by simp at h1⟩
theorem RdL.mono (s : RdL h cs xs) (hs : Stab h h') : RdL h' cs xs := by
  obtain ⟨css, e1, e2, e3⟩ := s
  exact ⟨css, e1, e2, fun k h1 h2 => R.mono hs (e3 k h1 h2)⟩
theorem RdL.up [S : Stb h h'] (s : RdL h cs xs) : RdL h' cs xs := s.mono S.st
theorem RdL.add (s : RdL h cs xs) (r : R.rd h c a) : RdL h (cs ++ c) (xs ++ [a]) := by
  obtain ⟨css, e1, rfl, e3⟩ := s
  refine ⟨css ++ [c], by simp [e1], by simp, fun k h1 h2 => ?_⟩
  by_cases e : k < css.length
  · simp only [List.getElem_append_left e, List.getElem_append_left (show k < xs.length by omega)]
    exact e3 k e (by omega)
  · obtain rfl : k = css.length := by simp at h1; omega
    have : xs.length = css.length := e1.symm
    simp only [List.getElem_append_right (Nat.le_refl css.length), Nat.sub_self, List.getElem_cons_zero]
    simp only [List.getElem_append_right (show xs.length ≤ css.length by omega), this, Nat.sub_self, List.getElem_cons_zero]
    exact r
theorem css_len {n : Nat} : ∀ (css : List (List Value)), (∀ (k : Nat) (h1 : k < css.length), css[k].length = n) → css.flatten.length = css.length * n
  | [], _ => by simp
  | c :: css, hh => by
    have h0 := hh 0 (by simp)
    have := css_len css fun k h1 => hh (k + 1) (by simpa using h1)
    simp at h0
    simp only [List.flatten_cons, List.length_append, List.length_cons, this, Nat.add_mul, h0]; omega
theorem css_one : ∀ (css : List (List Value)), (∀ (k : Nat) (h1 : k < css.length), css[k].all (·.oneCell') = true) → css.flatten.all (·.oneCell') = true
  | [], _ => by simp
  | c :: css, hh => by
    have h0 := hh 0 (by simp)
    have := css_one css fun k h1 => hh (k + 1) (by simpa using h1)
    simp only [List.getElem_cons_zero] at h0
    rw [List.flatten_cons, List.all_append, h0, this]; rfl
theorem RdL.len (s : RdL h cs xs) : cs.length = xs.length * R.sz := by
  obtain ⟨css, e1, rfl, e3⟩ := s
  rw [css_len css fun k h1 => R.len (e3 k h1 (by omega)), e1]
theorem RdL.one (s : RdL h cs xs) : cs.all (·.oneCell') = true := by
  obtain ⟨css, e1, rfl, e3⟩ := s
  exact css_one css fun k h1 => R.one (e3 k h1 (by omega))
end
end Go.AM
