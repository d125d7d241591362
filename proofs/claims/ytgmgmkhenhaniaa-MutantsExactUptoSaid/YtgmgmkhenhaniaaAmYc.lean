/-
  Contracts: many arrays of one's own, told by labels; appends as equations; lists of truths.
-/
import Derived.Test.YtgmgmkhenhaniaaAmY
set_option linter.unusedSimpArgs false
set_option linter.unusedVariables false
namespace Go.AM
variable {P : Program} {h h' h0 h1 h2 : Heap} {K : Value → Heap → Prop} {v x : Value}

/-! ### appends as equations -/
theorem app_src {t e sz by_ m : Nat} {xs : List Value} (ht : sliceT P t e sz by_ = true) (hx : Seg sz h x m xs) (hm : 0 < m) : ∃ z, zeroOf P e = some z ∧ aSrc P h sz z.cells t x = some (m, xs) ∧ szOf P e = some sz ∧ bytesOf' P e = some by_ ∧ (z.cells.all flatV = true ∧ z.cells.size = sz ∧ 0 < sz) ∧ P.underlying t = some (.slice e) := by
  obtain ⟨hu, hsz, z, hz, hby, g1, g2, g3⟩ := sliceT_of ht
  refine ⟨z, hz, ?_, hsz, hby, ⟨g1, g2, g3⟩, hu⟩
  unfold aSrc
  rw [hu]
  simp only [aCells]
  obtain ⟨l, hx⟩ := hx
  rcases hx with ⟨_, _, rfl, _, rfl⟩ | ⟨i, o, c, a, rfl, e1, e2, e3, e4⟩
  · omega
  · simp only
    rw [if_neg (by omega), e1]
    simp only
    rw [if_pos e3, e4]
theorem app_nil {t e sz by_ m : Nat} {xs : List Value} (ht : sliceT P t e sz by_ = true) (hx : Seg sz h x m xs) (hone : xs.all (·.oneCell') = true) (hm : 0 < m) (hb : m * by_ ≤ 2 ^ 46 ∧ m ≤ 2 ^ 46) :
    aAppend P t t (.slice none 0 0) x h = some (.slice (some ⟨h.length, 0, none⟩) m 0, newArr h xs sz) := by
  obtain ⟨z, hz, hsrc, hsz, hby, g, hu⟩ := app_src ht hx hm
  unfold aAppend
  rw [hu]
  simp only [hsz, hz, hby]
  rw [if_pos g, hsrc]
  simp only
  rw [if_neg (by omega), if_pos ⟨by simpa using hb.1, by simpa using hb.2, hone⟩]
  simp [aCells]
theorem app_at {t e sz by_ n m i off c : Nat} {cells xs : List Value} (ht : sliceT P t e sz by_ = true) (hx : Seg sz h x m xs) (hone : xs.all (·.oneCell') = true) (hm : 0 < m) (hb : (n + m) * by_ ≤ 2 ^ 46 ∧ n + m ≤ 2 ^ 46)
    (hi : h[i]? = some (.arr ⟨cells, sz, false⟩)) (hoff : off + n * sz ≤ cells.length) :
    aAppend P t t (.slice (some ⟨i, off, none⟩) n c) x h = some (.slice (some ⟨h.length, 0, none⟩) (n + m) 0, newArr (if c ≠ 0 ∧ c - 1 < n + m then h else h.set i .dead) ((cells.drop off).take (n * sz) ++ xs) sz) := by
  obtain ⟨z, hz, hsrc, hsz, hby, g, hu⟩ := app_src ht hx hm
  unfold aAppend
  rw [hu]
  simp only [hsz, hz, hby]
  rw [if_pos g, hsrc]
  simp only
  rw [if_neg (by omega), if_pos ⟨hb.1, hb.2, hone⟩]
  have hac : ∃ q, aCells h sz (.slice (some ⟨i, off, none⟩) n c) = some (q, (cells.drop off).take (n * sz)) := by
    simp only [aCells]
    by_cases h0 : n = 0
    · subst h0; exact ⟨0, by simp⟩
    · rw [if_neg h0, hi]
      simp only
      rw [if_pos hoff]
      exact ⟨n, rfl⟩
  obtain ⟨q, hac⟩ := hac
  rw [hac]
  simp only
  by_cases hc : c ≠ 0 ∧ c - 1 < n + m
  · rw [if_pos hc, if_pos hc]
  · rw [if_neg hc, if_neg hc, hi]
    simp only
    rw [if_pos ⟨trivial, trivial, hoff⟩]

/-! ### arrays of one's own -/
def upN {α : Type} (f : Nat → α) (l : Nat) (x : α) : Nat → α := fun l' => if l' = l then x else f l'
theorem upN_self {α : Type} (f : Nat → α) (l : Nat) (x : α) : upN f l x l = x := by unfold upN; rw [if_pos rfl]
theorem upN_ne {α : Type} {f : Nat → α} {l l' : Nat} {x : α} (hn : l' ≠ l) : upN f l x l' = f l' := by unfold upN; rw [if_neg hn]
/-- Arrays by labels: where each is, what it holds, of what elements. -/
structure Owns (h0 h : Heap) (N : Nat → Option Nat) (C : Nat → List Value) (E : Nat → Nat) : Prop where
  pre : h0 <+: h
  here : ∀ l n, N l = some n → h0.length ≤ n ∧ h[n]? = some (.arr ⟨C l, E l, false⟩)
  inj : ∀ l l' n, N l = some n → N l' = some n → l = l'
variable {N : Nat → Option Nat} {C : Nat → List Value} {E : Nat → Nat}
theorem Owns.start (C : Nat → List Value) (E : Nat → Nat) (p : h0 <+: h) : Owns h0 h (fun _ => none) C E := ⟨p, fun l n e => by simp at e, fun l l' n e => by simp at e⟩
theorem Owns.lt (o : Owns h0 h N C E) {l n : Nat} (e : N l = some n) : n < h.length := (List.getElem?_eq_some_iff.mp (o.here l n e).2).1
theorem Owns.get (o : Owns h0 h N C E) {l n : Nat} (e : N l = some n) : h[n]? = some (.arr ⟨C l, E l, false⟩) := (o.here l n e).2
theorem Owns.ext (o : Owns h0 h N C E) (p : h <+: h') : Owns h0 h' N C E := ⟨o.pre.trans p, fun l n e => ⟨(o.here l n e).1, (Sub.of_pre p).2 _ _ (o.here l n e).2⟩, o.inj⟩
theorem Owns.sub (o : Owns h0 h N C E) : Sub h0 h := Sub.of_pre o.pre
theorem Owns.add (o : Owns h0 h N C E) (l : Nat) (cs : List Value) (e : Nat) (he : E l = e) : Owns h0 (newArr h cs e) (upN N l (some h.length)) (upN C l cs) E := by
  have op := o.ext (pre_new h cs e)
  refine ⟨op.pre, ?_, ?_⟩
  · intro l' n hn
    by_cases q : l' = l
    · subst q
      rw [upN_self] at hn ⊢
      cases hn
      exact ⟨o.pre.length_le, by rw [he]; exact newArr_get h cs e⟩
    · rw [upN_ne q] at hn ⊢
      exact op.here l' n hn
  · intro l1 l2 n e1 e2
    by_cases q1 : l1 = l
    · by_cases q2 : l2 = l
      · rw [q1, q2]
      · rw [q1, upN_self] at e1; cases e1
        rw [upN_ne q2] at e2
        have := o.lt e2; omega
    · by_cases q2 : l2 = l
      · rw [q2, upN_self] at e2; cases e2
        rw [upN_ne q1] at e1
        have := o.lt e1; omega
      · rw [upN_ne q1] at e1; rw [upN_ne q2] at e2
        exact o.inj l1 l2 n e1 e2
theorem Owns.put (o : Owns h0 h N C E) {l n : Nat} (hl : N l = some n) (cs : List Value) : Owns h0 (h.set n (.arr ⟨cs, E l, false⟩)) N (upN C l cs) E := by
  have hlt := o.lt hl
  refine ⟨pre_set o.pre (o.here l n hl).1 _, ?_, o.inj⟩
  intro l' n' hn
  refine ⟨(o.here l' n' hn).1, ?_⟩
  by_cases q : l' = l
  · subst q
    rw [hl] at hn; cases hn
    rw [upN_self]; simp [hlt]
  · rw [upN_ne q, List.getElem?_set, if_neg ?_]
    · exact (o.here l' n' hn).2
    · rintro rfl; exact q (o.inj l' l n hn hl)
theorem Owns.drop (o : Owns h0 h N C E) {l n : Nat} (hl : N l = some n) : Owns h0 (h.set n .dead) (upN N l Option.none) C E := by
  refine ⟨pre_set o.pre (o.here l n hl).1 _, ?_, ?_⟩
  · intro l' n' hn
    by_cases q : l' = l
    · rw [q, upN_self] at hn; cases hn
    · rw [upN_ne q] at hn
      refine ⟨(o.here l' n' hn).1, ?_⟩
      rw [List.getElem?_set, if_neg ?_]
      · exact (o.here l' n' hn).2
      · rintro rfl; exact q (o.inj l' l n hn hl)
  · intro l1 l2 k e1 e2
    by_cases q1 : l1 = l
    · rw [q1, upN_self] at e1; cases e1
    · by_cases q2 : l2 = l
      · rw [q2, upN_self] at e2; cases e2
      · rw [upN_ne q1] at e1; rw [upN_ne q2] at e2
        exact o.inj l1 l2 k e1 e2
/-- An array given up, a new one in its place. -/
theorem Owns.swap (o : Owns h0 h N C E) {l n : Nat} (hl : N l = some n) (cs : List Value) (e : Nat) (he : E l = e) : Owns h0 (newArr (h.set n .dead) cs e) (upN N l (some h.length)) (upN C l cs) E := by
  have := (o.drop hl).add l cs e he
  have e1 : upN (upN N l Option.none) l (some (h.set n Ob.dead).length) = upN N l (some h.length) := by
    funext l'
    unfold upN
    split
    · simp
    · rfl
  rw [e1] at this
  exact this
theorem Owns.seg (o : Owns h0 h N C E) {l n k c : Nat} (hl : N l = some n) {sz : Nat} (he : E l = sz) (hk : (C l).length = k * sz) (hb : k ≤ 2 ^ 50) : Seg sz h (.slice (some ⟨n, 0, none⟩) k c) k (C l) :=
  ⟨⟨hk, hb⟩, .inr ⟨n, 0, c, _, rfl, o.get hl, he, by simp [hk], by rw [List.drop_zero, ← hk, List.take_length]⟩⟩

/-! ### lists of truths -/
def BoolS (h : Heap) (v : Value) (bs : List Bool) : Prop := Seg 1 h v bs.length (bs.map .bool)
theorem BoolS.mono {bs : List Bool} (s : BoolS h v bs) (hs : Sub h h') : BoolS h' v bs := Seg.mono s hs
end Go.AM
