/-
  Contracts: what is looked at of slices and steps.
-/
import Derived.Test.YtgmgmkhenhaniaaAmYd
import Derived.Test.YtgmgmkhenhaniaaAmZb
set_option linter.unusedSimpArgs false
set_option linter.unusedVariables false
namespace Go.AM
variable {P : Program} {h h' h0 h1 h2 : Heap} {K : Value → Heap → Prop} {v x : Value}
/-- Loads that are pending: what they gave is what they give. -/
theorem again {e : TypeId} {a y : Value} (hk : aLoad P e a h = some y) : (aLoad P e a h).map (·, h) = some (y, h) := by rw [hk]; rfl
/-! boxes of one and of two cells -/
/-! structs of two lists of numbers -/
def dTwo {H : Type} : DataW H → List Int × List Int | .agg [a, b] => (dints a, dints b) | _ => ([], [])
def twoT (P : Program) (t q : Nat) : Bool :=
  (match P.underlying t with
  | some (.struct fs) => Nat.beq fs.size 2 && (match fs[0]? with | some f => Nat.beq f.offset 0 && Nat.beq f.type q | none => false) && (match fs[1]? with | some f => Nat.beq f.offset 1 && Nat.beq f.type q | none => false)
  | _ => false) && Nat.beq (P.cellsOf q) 1 && Nat.beq (P.cellsOf t) 2
theorem twoT_of {t q : Nat} (hh : twoT P t q = true) : (∃ fs, P.underlying t = some (.struct fs) ∧ fs.size = 2 ∧ (∃ f, fs[0]? = some f ∧ f.offset = 0 ∧ f.type = q) ∧ ∃ f, fs[1]? = some f ∧ f.offset = 1 ∧ f.type = q) ∧ P.cellsOf q = 1 ∧ P.cellsOf t = 2 := by
  unfold twoT at hh
  simp only [Bool.and_eq_true] at hh
  obtain ⟨⟨h1, h3⟩, h4⟩ := hh
  refine ⟨?_, Nat.eq_of_beq_eq_true h3, Nat.eq_of_beq_eq_true h4⟩
  split at h1
  · rename_i fs hu
    simp only [Bool.and_eq_true] at h1
    obtain ⟨⟨h0, h1⟩, h5⟩ := h1
    refine ⟨fs, hu, Nat.eq_of_beq_eq_true h0, ?_, ?_⟩
    · split at h1
      · rename_i f hf
        simp only [Bool.and_eq_true, Nat.beq_eq] at h1
        exact ⟨f, hf, h1.1, h1.2⟩
      · cases h1
    · split at h5
      · rename_i f hf
        simp only [Bool.and_eq_true, Nat.beq_eq] at h5
        exact ⟨f, hf, h5.1, h5.2⟩
      · cases h5
  · cases h1
theorem ints_val {H : Type} {q e : TypeId} {cs : List Value} {d : DataW H} (a : ARd P h q cs d) (hq : P.underlying q = some (.slice e)) (he : P.underlying e = some (.int .i64)) (hc : P.cellsOf e = 1) (hb : (dints d).length ≤ 2 ^ 50) : ∃ o l c, cs = [.slice o l c] ∧ IntS h (.slice o l c) (dints d) := by
  obtain ⟨s, e⟩ := a.ints hq he hc hb
  obtain ⟨o, l, c, ev⟩ := seg_slice s
  rw [ev] at s e
  exact ⟨o, l, c, e, s⟩
theorem ARd.two {H : Type} {t e q : TypeId} {cs : List Value} {d : DataW H} (a : ARd P h t cs d) (ht : twoT P t q = true) (hq : P.underlying q = some (.slice e)) (he : P.underlying e = some (.int .i64)) (hc : P.cellsOf e = 1) (hb : (dTwo d).1.length ≤ 2 ^ 50 ∧ (dTwo d).2.length ≤ 2 ^ 50) :
    ∃ o l c o' l' c', absV P t cs = .agg #[.slice o l c, .slice o' l' c'] ∧ IntS h (.slice o l c) (dTwo d).1 ∧ IntS h (.slice o' l' c') (dTwo d).2 := by
  obtain ⟨⟨fs, hu, hsz, ⟨f0, hf0, ho0, ht0⟩, f1, hf1, ho1, ht1⟩, hcq, hct⟩ := twoT_of ht
  cases a with
  | struct h1 hl hp hf =>
    rw [hu] at h1
    cases h1
    rename_i parts
    rw [hct] at hl
    rw [hsz] at hp
    obtain ⟨a, b, rfl⟩ : ∃ a b, parts = [a, b] := by
      match parts, hp with
      | [a, b], _ => exact ⟨a, b, rfl⟩
    have g0 := hf 0 f0 a hf0 rfl
    rw [ho0, ht0, hcq] at g0
    have g1 := hf 1 f1 b hf1 rfl
    rw [ho1, ht1, hcq] at g1
    obtain ⟨o, l, k, e0, s0⟩ := ints_val g0 hq he hc hb.1
    obtain ⟨o', l', k', e1, s1⟩ := ints_val g1 hq he hc hb.2
    have i0 := drop_one e0
    have i1 := drop_one e1
    refine ⟨o, l, k, o', l', k', ?_, s0, s1⟩
    simp only [absV, hu]
    congr 1
    have : cs = [.slice o l k, .slice o' l' k'] := by
      refine List.ext_getElem? fun j => ?_
      by_cases hj : j < 2
      · match j, hj with
        | 0, _ => rw [i0]; rfl
        | 1, _ => rw [i1]; rfl
      · rw [List.getElem?_eq_none (by omega), List.getElem?_eq_none (by simp; omega)]
    rw [this]
  | array h1 => rw [hu] at h1; cases h1
  | bool h1 => rw [hu] at h1; cases h1
  | string h1 => rw [hu] at h1; cases h1
  | int h1 => rw [hu] at h1; cases h1
  | nil h1 => rw [hu] at h1; cases h1
  | slice h1 => rw [hu] at h1; cases h1
end Go.AM
