/-
  Contracts: slices over arrays told by labels; what stays while these change.
-/
import Derived.Test.YtgmgmkhenhaniaaAmYc
set_option linter.unusedSimpArgs false
set_option linter.unusedVariables false
namespace Go.AM
variable {P : Program} {h h' h0 h1 h2 : Heap} {K : Value → Heap → Prop} {v x : Value}
variable {N : Nat → Option Nat} {C : Nat → List Value} {E : Nat → Nat}

/-- What holds whatever becomes of the labelled arrays. -/
def Frz (N : Nat → Option Nat) (h : Heap) (Q : Heap → Prop) : Prop := ∀ g : Heap, h.length ≤ g.length → (∀ (j : Nat) (a : Arr), (∀ l, N l ≠ some j) → h[j]? = some (.arr a) → g[j]? = some (.arr a)) → Q g
theorem Frz.self {Q : Heap → Prop} (f : Frz N h Q) : Q h := f h (Nat.le_refl _) fun _ _ _ e => e
theorem Frz.ext {Q : Heap → Prop} (f : Frz N h Q) (p : h <+: h') : Frz N h' Q := fun g hl hg => f g (Nat.le_trans p.length_le hl) fun j a hj e => hg j a hj ((Sub.of_pre p).2 _ _ e)
theorem Frz.set {Q : Heap → Prop} (f : Frz N h Q) {l n : Nat} (hl : N l = some n) (x : Ob) : Frz N (h.set n x) Q := fun g hle hg => f g (by simpa using hle) fun j a hj e => hg j a hj (by
  rw [List.getElem?_set, if_neg (by rintro rfl; exact hj l hl)]; exact e)
theorem Frz.base {Q : Heap → Prop} (o : Owns h0 h N C E) (q : ∀ g, Sub h0 g → Q g) : Frz N h Q := fun g hl hg => q g ⟨Nat.le_trans o.pre.length_le hl, fun j a e => hg j a (fun l e2 => by
  have := (o.here l j e2).1
  have := (List.getElem?_eq_some_iff.mp e).1
  omega) (o.sub.2 _ _ e)⟩
theorem Frz.map {Q Q' : Heap → Prop} (f : Frz N h Q) (hm : ∀ g, Q g → Q' g) : Frz N h Q' := fun g hl hg => hm g (f g hl hg)
theorem Frz.and {Q Q' : Heap → Prop} (f : Frz N h Q) (f' : Frz N h Q') : Frz N h fun g => Q g ∧ Q' g := fun g hl hg => ⟨f g hl hg, f' g hl hg⟩
/-- What has been made since, told by itself. -/
theorem Owns.only {Q : Heap → Prop} (o : Owns h0 h N C E) (q : ∀ g, Owns [] g N C E → Q g) : Only h0 h Q := fun g hg => q g ⟨List.nil_prefix, fun l n e => ⟨Nat.zero_le _, hg _ _ (o.here l n e).1 (o.here l n e).2⟩, o.inj⟩
theorem Only.from {Q : Heap → Prop} (p : h0 <+: h) (q : Only h h' Q) : Only h0 h' Q := fun g hg => q g fun j a hj e => hg j a (Nat.le_trans p.length_le hj) e
theorem Only.map {Q Q' : Heap → Prop} (f : Only h h' Q) (hm : ∀ g, Q g → Q' g) : Only h h' Q' := fun g hg => hm g (f g hg)
theorem Only.pre {Q : Heap → Prop} (q : Only h h1 Q) (p : h1 <+: h2) : Only h h2 Q := q.mono (Sub.of_pre p)

/-- A slice of single cells over a labelled array (or none yet). -/
def LS (N : Nat → Option Nat) (C : Nat → List Value) (l : Nat) (v : Value) (q : List Value) : Prop :=
  (N l = none ∧ v = .slice none 0 0 ∧ q = []) ∨ ∃ i off c, N l = some i ∧ v = .slice (some ⟨i, off, none⟩) q.length c ∧ off + q.length ≤ (C l).length ∧ ((C l).drop off).take q.length = q
variable {l : Nat} {q : List Value}
theorem LS.nil (hn : N l = none) : LS N C l (.slice none 0 0) [] := .inl ⟨hn, rfl, rfl⟩
theorem LS.whole {i c k : Nat} (hn : N l = some i) (hk : (C l).length = k) : LS N C l (.slice (some ⟨i, 0, none⟩) k c) (C l) := .inr ⟨i, 0, c, hn, by rw [hk], by omega, by rw [List.drop_zero, List.take_length]⟩
theorem LS.seg (o : Owns h0 h N C E) (s : LS N C l v q) (he : E l = 1) (hb : q.length ≤ 2 ^ 50) : Seg 1 h v q.length q := by
  rcases s with ⟨_, rfl, rfl⟩ | ⟨i, off, c, hn, rfl, h1, h2⟩
  · exact Seg.nil _ _
  · exact ⟨⟨by omega, hb⟩, .inr ⟨i, off, c, _, rfl, o.get hn, he, by simpa using h1, by simpa using h2⟩⟩
theorem LS.ints {xs : List Int} (o : Owns h0 h N C E) (s : LS N C l v (xs.map (.int .i64))) (he : E l = 1) (hb : xs.length ≤ 2 ^ 50) : IntS h v xs := by
  have := s.seg o he (by simpa using hb)
  simpa [IntS] using this
/-! ### indexes that are numbers -/
/-! ### loops with a rank of their own -/
/-- A label given up. -/
theorem Owns.forget (o : Owns h0 h N C E) (l : Nat) (cs : List Value) : Owns h0 h (upN N l none) (upN C l cs) E := by
  refine ⟨o.pre, fun l' n hn => ?_, fun l1 l2 n e1 e2 => ?_⟩
  · by_cases q : l' = l
    · rw [q, upN_self] at hn; cases hn
    · rw [upN_ne q] at hn ⊢; exact o.here l' n hn
  · by_cases q1 : l1 = l
    · rw [q1, upN_self] at e1; cases e1
    · by_cases q2 : l2 = l
      · rw [q2, upN_self] at e2; cases e2
      · rw [upN_ne q1] at e1; rw [upN_ne q2] at e2; exact o.inj l1 l2 n e1 e2
/-- An array that is written no more. -/
theorem LS.freeze (o : Owns h0 h N C E) (s : LS N C l v q) (he : E l = 1) (hb : q.length ≤ 2 ^ 50) : Frz (upN N l none) h fun g => Seg 1 g v q.length q := by
  intro g hl hg
  rcases s with ⟨_, rfl, rfl⟩ | ⟨i, off, c, hn, rfl, h1, h2⟩
  · exact Seg.nil _ _
  · refine ⟨⟨by omega, hb⟩, .inr ⟨i, off, c, _, rfl, hg i _ (fun l' => ?_) (o.get hn), he, by simpa using h1, by simpa using h2⟩⟩
    by_cases q : l' = l
    · subst q; rw [upN_self]; simp
    · rw [upN_ne q]; intro e; exact q (o.inj l' l i e hn)
end Go.AM
