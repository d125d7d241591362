import Derived.Test.YtgmgmkhenhaniaaAnI
set_option linter.unusedVariables false
set_option linter.unusedSimpArgs false
set_option linter.unnecessarySimpa false
set_option linter.unusedSectionVars false
/-! Copies in memory of one's own. -/
namespace Go.AM
open Go
variable {P : Program} {h h' h1 h2 : Heap} {h0 : Base} {K : Value → Heap → Prop} {v x : Value} {l : List E} {i k sz : Nat} {o : Option Nat} {cs : List Value}
/-- append([]T{}, x...): x is only read. -/
theorem app_copy {α : Type} [F : Flat α] {t e sz by_ : Nat} {xs : List α} [T : SlT P t e sz by_] [S : Stb h1 h] (M : Mem h0 h l) (q : EntO l (some i) k [] sz) (s : L h1 x xs) (hz : sz = F.sz) (hb : xs.length * by_ ≤ 2 ^ 46 ∧ xs.length ≤ 2 ^ 46)
    (hK : ∀ v o h', Prec h h' → IsSl v o xs.length → Mem h0 h' (l.set k ⟨o, flat xs, sz⟩) → K v h') : okK (aAppend P t t (.slice (some ⟨i, 0, none⟩) 0 1) x h) K := by
  subst hz
  by_cases he : xs = []
  · subst he
    obtain ⟨b, c, rfl, hb2⟩ := s.shape
    refine app_none (b := b) (c2 := c) rfl hb2 (hK _ (some i) h ⟨Stab.refl _⟩ (IsSl.some1 (n := 0)) ?_)
    have hk := q.ok
    have : l.set k ⟨some i, flat ([] : List α), F.sz⟩ = l := by
      refine List.ext_getElem? fun j => ?_
      rw [List.getElem?_set]
      split
      · rename_i e; subst e
        have hl := (List.getElem?_eq_some_iff.mp hk).1
        rw [if_pos hl, hk]; rfl
      · rfl
    rw [this]; exact M
  · have hpos : 0 < xs.length := List.length_pos_iff.mpr he
    refine app_o M (IsSl.some1 (n := 0)) q (by simp) (src_ro s hpos) (by rw [Nat.zero_add]; exact hb) fun i h p m => ?_
    rw [Nat.zero_add]
    simp only [List.nil_append] at m
    exact hK _ (some i) h p IsSl.some0 m
/-- append([]T{}, x...): x is one's own. -/
theorem app_copyO {α : Type} [F : Flat α] {t e sz by_ : Nat} {xs : List α} [T : SlT P t e sz by_] (M : Mem h0 h l) (q : EntO l (some i) k [] sz) {o2 : Option Nat} {k2 : Nat} (s : IsSl x o2 xs.length) {h3 : Base} {l3 : List E} (M3 : Mem h3 h l3) (q2 : EntO l3 o2 k2 (flat xs) sz) (hz : sz = F.sz) (hp : 0 < F.sz) (hb : xs.length * by_ ≤ 2 ^ 46 ∧ xs.length ≤ 2 ^ 46)
    (hK : ∀ v o h', Prec h h' → IsSl v o xs.length → Mem h0 h' (l.set k ⟨o, flat xs, sz⟩) → K v h') : okK (aAppend P t t (.slice (some ⟨i, 0, none⟩) 0 1) x h) K := by
  subst hz
  by_cases he : xs = []
  · subst he
    have hx : ∃ b c, x = .slice b 0 c ∧ (b = none ∨ ∃ i o, b = some ⟨i, o, none⟩) := by
      cases o2 with
      | none => exact ⟨none, 0, s.1, .inl rfl⟩
      | some i2 => obtain ⟨c, hc, _⟩ := s; exact ⟨_, c, hc, .inr ⟨_, _, rfl⟩⟩
    obtain ⟨b, c, rfl, hb2⟩ := hx
    refine app_none (b := b) (c2 := c) rfl hb2 (hK _ (some i) h ⟨Stab.refl _⟩ (IsSl.some1 (n := 0)) ?_)
    have hk := q.ok
    have : l.set k ⟨some i, flat ([] : List α), F.sz⟩ = l := by
      refine List.ext_getElem? fun j => ?_
      rw [List.getElem?_set]
      split
      · rename_i e; subst e
        have hl := (List.getElem?_eq_some_iff.mp hk).1
        rw [if_pos hl, hk]; rfl
      · rfl
    rw [this]; exact M
  · have hpos : 0 < xs.length := List.length_pos_iff.mpr he
    obtain ⟨i2, rfl⟩ := M3.isSome q2 hp hpos
    obtain ⟨c, rfl, _⟩ := s
    refine app_o M (IsSl.some1 (n := 0)) q (by simp) (src_own M3 (q := ⟨q2.ok⟩) (flat_length xs) hpos (by omega) (flat_all xs)) (by rw [Nat.zero_add]; exact hb) fun i h p m => ?_
    rw [Nat.zero_add]
    simp only [List.nil_append] at m
    exact hK _ (some i) h p IsSl.some0 m
/-- append(x, a): both one's own. -/
theorem app_snoc {α : Type} [F : Flat α] {t e sz by_ j c : Nat} {xs : List α} {a : α} {o : Option Nat} {k2 i2 : Nat} [T : SlT P t e sz by_] (M : Mem h0 h l) (s : IsSl v o xs.length) (q : EntO l o k (flat xs) sz) (q2 : Ent l i2 k2 (F.cells a) sz) (hz : sz = F.sz) (hb : (xs.length + 1) * by_ ≤ 2 ^ 46 ∧ xs.length + 1 ≤ 2 ^ 46)
    (hK : ∀ (i : Nat) (h' : Heap), Prec h h' → Mem h0 h' (l.set k ⟨some i, flat (xs ++ [a]), sz⟩) → K (.slice (some ⟨i, 0, none⟩) (xs.length + 1) 0) h') : okK (aAppend P t t v (.slice (some ⟨i2, 0, none⟩) 1 c) h) K := by
  subst hz
  refine app_o M s q (flat_length xs) (src_own M (q := q2) (n := 1) (by rw [F.len, Nat.one_mul]) (by decide) (by decide) (flat_ones (F.flat a))) hb fun i h p m => ?_
  rw [← flat_snoc] at m
  exact hK i h p m
def ptrB (P : Program) (t : Nat) : Bool := match P.underlying t with | some (.pointer _) => true | _ => false
theorem pnil_g {t o' : Nat} (ht : ptrB P t = true) (p : Pt h1 x cs o') (hK : K (.bool false) h) : vK (aBin P .eql t x (.pointer none)) h K := by
  obtain ⟨i, b, a, rfl, _⟩ := p
  unfold ptrB at ht
  split at ht
  · rename_i e hu
    exact vk_i (v := .bool false) (by simp [aBin, hu]) hK
  · cases ht
theorem pnn_g {o' : Nat} (p : Pt h1 x cs o') (hK : K x h) : vK (nilV x) h K := by
  obtain ⟨i, b, a, rfl, _⟩ := p
  exact nil_i hK
theorem vb_pt {o' : Nat} {Q : Prop} [S : Stb h1 h] (p : Pt h1 x cs o') (hq : Q) : VB h.length x ∧ Q := by
  refine ⟨?_, hq⟩
  obtain ⟨i, b, a, rfl, e, _⟩ := p.mono S.st
  exact (List.getElem?_eq_some_iff.mp e).1
/-! ### lists of one's own whose elements hold slices that are only read -/
def RdL {α : Type} [R : Rep α] (h : Heap) (cs : List Value) (l : List α) : Prop :=
  ∃ css : List (List Value), css.length = l.length ∧ cs = css.flatten ∧ ∀ (k : Nat) (h1 : k < css.length) (h2 : k < l.length), R.rd h css[k] l[k]
section
variable {α : Type} [R : Rep α] {xs : List α} {a : α} {c : List Value}
theorem RdL.nil (h : Heap) : RdL h [] ([] : List α) := ⟨[], rfl, rfl, fun k h1 => by simp at h1⟩
theorem RdL.mono (s : RdL h cs xs) (hs : Stab h h') : RdL h' cs xs := by
  obtain ⟨css, e1, e2, e3⟩ := s
  exact ⟨css, e1, e2, fun k h1 h2 => R.mono hs (e3 k h1 h2)⟩
theorem RdL.up [S : Stb h h'] (s : RdL h cs xs) : RdL h' cs xs := s.mono S.st
theorem RdL.add (s : RdL h cs xs) (r : R.rd h c a) : RdL h (cs ++ c) (xs ++ [a]) := by
  obtain ⟨css, e1, rfl, e3⟩ := s
  refine ⟨css ++ [c], by simp [e1], by simp, fun k h1 h2 => ?_⟩
  by_cases e : k < css.length
  · simp only [List.getElem_append_left e, List.getElem_append_left (show k < xs.length by omega)]
    exact e3 k e (by omega)
  · obtain rfl : k = css.length := by simp at h1; omega
    have : xs.length = css.length := e1.symm
    simp only [List.getElem_append_right (Nat.le_refl css.length), Nat.sub_self, List.getElem_cons_zero]
    simp only [List.getElem_append_right (show xs.length ≤ css.length by omega), this, Nat.sub_self, List.getElem_cons_zero]
    exact r
theorem css_len {n : Nat} : ∀ (css : List (List Value)), (∀ (k : Nat) (h1 : k < css.length), css[k].length = n) → css.flatten.length = css.length * n
  | [], _ => by simp
  | c :: css, hh => by
    have h0 := hh 0 (by simp)
    have := css_len css fun k h1 => hh (k + 1) (by simpa using h1)
    simp at h0
    simp only [List.flatten_cons, List.length_append, List.length_cons, this, Nat.add_mul, h0]; omega
theorem css_one : ∀ (css : List (List Value)), (∀ (k : Nat) (h1 : k < css.length), css[k].all (·.oneCell') = true) → css.flatten.all (·.oneCell') = true
  | [], _ => by simp
  | c :: css, hh => by
    have h0 := hh 0 (by simp)
    have := css_one css fun k h1 => hh (k + 1) (by simpa using h1)
    simp only [List.getElem_cons_zero] at h0
    rw [List.flatten_cons, List.all_append, h0, this]; rfl
theorem RdL.len (s : RdL h cs xs) : cs.length = xs.length * R.sz := by
  obtain ⟨css, e1, rfl, e3⟩ := s
  rw [css_len css fun k h1 => R.len (e3 k h1 (by omega)), e1]
theorem RdL.one (s : RdL h cs xs) : cs.all (·.oneCell') = true := by
  obtain ⟨css, e1, rfl, e3⟩ := s
  exact css_one css fun k h1 => R.one (e3 k h1 (by omega))
end
end Go.AM
