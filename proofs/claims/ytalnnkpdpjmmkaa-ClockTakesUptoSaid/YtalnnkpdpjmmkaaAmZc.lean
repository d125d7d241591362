/-
  Contracts: what is looked at of slices and steps.
-/
import Derived.Test.YtalnnkpdpjmmkaaAmYd
import Derived.Test.YtalnnkpdpjmmkaaAmZb
set_option linter.unusedSimpArgs false
set_option linter.unusedVariables false
namespace Go.AM
variable {P : Program} {h h' h0 h1 h2 : Heap} {K : Value → Heap → Prop} {v x : Value}
theorem VB_of_ints {xs : List Int} (s : IntS h v xs) : VB h.length v := seg_vb s
theorem VB_of_bools {xs : List Bool} (s : BoolS h v xs) : VB h.length v := seg_vb s
theorem VB_of_steps {xs : List St} (s : StepsS h v xs) : VB h.length v := seg_vb s
theorem VB_of_rows {xs : List (List Int)} (s : RowsS h v xs) : VB h.length v := by obtain ⟨_, _, s, _⟩ := s; exact seg_vb s
theorem vbb (n : Nat) (z : Bool) : VB n (.bool z) := trivial
theorem ldfr {t e k : Nat} {l : List St} (d : St) (ht : rowT4 P t e = true) (s : StepsS h x l) (hk : k < l.length) (hK : K (.int .i64 (l.getD k d).fr) h) : vK (aLoad P e (eltf x k 0) h) h K := ldf_i ht s hk (by omega) d hK
theorem ldinp {t e k : Nat} {l : List St} (d : St) (ht : rowT4 P t e = true) (s : StepsS h x l) (hk : k < l.length) (hK : K (.int .i64 (l.getD k d).inp) h) : vK (aLoad P e (eltf x k 1) h) h K := ldf_i ht s hk (by omega) d hK
theorem ldout {t e k : Nat} {l : List St} (d : St) (ht : rowT4 P t e = true) (s : StepsS h x l) (hk : k < l.length) (hK : K (.int .i64 (l.getD k d).out) h) : vK (aLoad P e (eltf x k 2) h) h K := ldf_i ht s hk (by omega) d hK
theorem ldto {t e k : Nat} {l : List St} (d : St) (ht : rowT4 P t e = true) (s : StepsS h x l) (hk : k < l.length) (hK : K (.int .i64 (l.getD k d).to) h) : vK (aLoad P e (eltf x k 3) h) h K := ldf_i ht s hk (by omega) d hK
theorem ldc_e {e : TypeId} {i off : Nat} {a : Arr} {y : Value} (hr : isPlain P e = true) (hi : h[i]? = some (.arr a)) (hc : a.cells[off]? = some y) : aLoad P e (.pointer (some ⟨i, off, none⟩)) h = some y := by
  unfold isPlain at hr
  split at hr
  · rename_i d hd
    simp only [aLoad, hi, hd]
    rw [if_neg (by simpa using hr)]
    exact hc
  · cases hr
/-- Loads that are pending: what they gave is what they give. -/
theorem again {e : TypeId} {a y : Value} (hk : aLoad P e a h = some y) : (aLoad P e a h).map (·, h) = some (y, h) := by rw [hk]; rfl
theorem ldf_e {t e j k : Nat} {l : List St} (d : St) (ht : rowT4 P t e = true) (s : StepsS h x l) (hk : k < l.length) (hj : j < 4) : aLoad P e (eltf x k j) h = some (.int .i64 ((l.getD k d).get j)) := by
  have := ldf_i (K := fun v _ => some v = some (Value.int .i64 ((l.getD k d).get j))) ht s hk hj d rfl
  have := this.out
  split at this
  · rename_i v hv; rw [hv]; exact this
  · exact this.elim
theorem ldi_e {t e by_ k : Nat} {xs : List Int} (ht : sliceT P t e 1 by_ = true) (hr : isPlain P e = true) (s : IntS h x xs) (hk : k < xs.length) : aLoad P e (elt 1 x k) h = some (.int .i64 (xs.getD k 0)) := by
  have := ldi_i (K := fun v _ => some v = some (Value.int .i64 (xs.getD k 0))) ht hr s hk rfl
  have := this.out
  split at this
  · rename_i v hv; rw [hv]; exact this
  · exact this.elim
theorem lenst {t e by_ : Nat} {l : List St} (ht : sliceT P t e 4 by_ = true) (s : StepsS h1 x l) (hk : K (.int .i64 (l.length : Int)) h) : vK (aLen P t x) h K := len_i ht s hk
theorem idxst {t e by_ k : Nat} {l : List St} (ht : sliceT P t e 4 by_ = true) (s : StepsS h1 x l) (hk : k < l.length) (hK : K (elt 4 x k) h) : vK (aIndexAddr P t x (.int .i64 (k : Int))) h K := idx_i ht s hk hK
theorem idxzst {t e by_ : Nat} {z : Int} {l : List St} (ht : sliceT P t e 4 by_ = true) (s : StepsS h1 x l) (h0 : 0 ≤ z) (hk : z < l.length) (hK : K (elt 4 x z.toNat) h) : vK (aIndexAddr P t x (.int .i64 z)) h K := idxz ht s h0 hk hK
/-! boxes of one and of two cells -/
theorem ld1_0 {t : TypeId} {i n : Nat} {a : Value} (hr : isPlain P t = true) (hi : h[i]? = some (.arr ⟨[a], n, false⟩)) (hK : K a h) : vK (aLoad P t (.pointer (some ⟨i, 0, none⟩)) h) h K := ldc_i hr hi rfl hK
theorem ld2_0 {t : TypeId} {i n : Nat} {a b : Value} (hr : isPlain P t = true) (hi : h[i]? = some (.arr ⟨[a, b], n, false⟩)) (hK : K a h) : vK (aLoad P t (.pointer (some ⟨i, 0, none⟩)) h) h K := ldc_i hr hi rfl hK
theorem ld2_1 {t : TypeId} {i n : Nat} {a b : Value} (hr : isPlain P t = true) (hi : h[i]? = some (.arr ⟨[a, b], n, false⟩)) (hK : K b h) : vK (aLoad P t (.pointer (some ⟨i, 1, none⟩)) h) h K := ldc_i hr hi rfl hK
/-! structs of two lists of numbers -/
def dTwo {H : Type} : DataW H → List Int × List Int | .agg [a, b] => (dints a, dints b) | _ => ([], [])
def twoT (P : Program) (t q : Nat) : Bool :=
  (match P.underlying t with
  | some (.struct fs) => Nat.beq fs.size 2 && (match fs[0]? with | some f => Nat.beq f.offset 0 && Nat.beq f.type q | none => false) && (match fs[1]? with | some f => Nat.beq f.offset 1 && Nat.beq f.type q | none => false)
  | _ => false) && Nat.beq (P.cellsOf q) 1 && Nat.beq (P.cellsOf t) 2
theorem twoT_of {t q : Nat} (hh : twoT P t q = true) : (∃ fs, P.underlying t = some (.struct fs) ∧ fs.size = 2 ∧ (∃ f, fs[0]? = some f ∧ f.offset = 0 ∧ f.type = q) ∧ ∃ f, fs[1]? = some f ∧ f.offset = 1 ∧ f.type = q) ∧ P.cellsOf q = 1 ∧ P.cellsOf t = 2 := by
  unfold twoT at hh
  simp only [Bool.and_eq_true] at hh
  obtain ⟨⟨h1, h3⟩, h4⟩ := hh
  refine ⟨?_, Nat.eq_of_beq_eq_true h3, Nat.eq_of_beq_eq_true h4⟩
  split at h1
  · rename_i fs hu
    simp only [Bool.and_eq_true] at h1
    obtain ⟨⟨h0, h1⟩, h5⟩ := h1
    refine ⟨fs, hu, Nat.eq_of_beq_eq_true h0, ?_, ?_⟩
    · split at h1
      · rename_i f hf
        simp only [Bool.and_eq_true, Nat.beq_eq] at h1
        exact ⟨f, hf, h1.1, h1.2⟩
      · cases h1
    · split at h5
      · rename_i f hf
        simp only [Bool.and_eq_true, Nat.beq_eq] at h5
        exact ⟨f, hf, h5.1, h5.2⟩
      · cases h5
  · cases h1
theorem ints_val {H : Type} {q e : TypeId} {cs : List Value} {d : DataW H} (a : ARd P h q cs d) (hq : P.underlying q = some (.slice e)) (he : P.underlying e = some (.int .i64)) (hc : P.cellsOf e = 1) (hb : (dints d).length ≤ 2 ^ 50) : ∃ o l c, cs = [.slice o l c] ∧ IntS h (.slice o l c) (dints d) := by
  obtain ⟨s, e⟩ := a.ints hq he hc hb
  obtain ⟨o, l, c, ev⟩ := seg_slice s
  rw [ev] at s e
  exact ⟨o, l, c, e, s⟩
theorem ARd.two {H : Type} {t e q : TypeId} {cs : List Value} {d : DataW H} (a : ARd P h t cs d) (ht : twoT P t q = true) (hq : P.underlying q = some (.slice e)) (he : P.underlying e = some (.int .i64)) (hc : P.cellsOf e = 1) (hb : (dTwo d).1.length ≤ 2 ^ 50 ∧ (dTwo d).2.length ≤ 2 ^ 50) :
    ∃ o l c o' l' c', absV P t cs = .agg #[.slice o l c, .slice o' l' c'] ∧ IntS h (.slice o l c) (dTwo d).1 ∧ IntS h (.slice o' l' c') (dTwo d).2 := by
  obtain ⟨⟨fs, hu, hsz, ⟨f0, hf0, ho0, ht0⟩, f1, hf1, ho1, ht1⟩, hcq, hct⟩ := twoT_of ht
  cases a with
  | struct h1 hl hp hf =>
    rw [hu] at h1
    cases h1
    rename_i parts
    rw [hct] at hl
    rw [hsz] at hp
    obtain ⟨a, b, rfl⟩ : ∃ a b, parts = [a, b] := by
      match parts, hp with
      | [a, b], _ => exact ⟨a, b, rfl⟩
    have g0 := hf 0 f0 a hf0 rfl
    rw [ho0, ht0, hcq] at g0
    have g1 := hf 1 f1 b hf1 rfl
    rw [ho1, ht1, hcq] at g1
    obtain ⟨o, l, k, e0, s0⟩ := ints_val g0 hq he hc hb.1
    obtain ⟨o', l', k', e1, s1⟩ := ints_val g1 hq he hc hb.2
    have i0 := drop_one e0
    have i1 := drop_one e1
    refine ⟨o, l, k, o', l', k', ?_, s0, s1⟩
    simp only [absV, hu]
    congr 1
    have : cs = [.slice o l k, .slice o' l' k'] := by
      refine List.ext_getElem? fun j => ?_
      by_cases hj : j < 2
      · match j, hj with
        | 0, _ => rw [i0]; rfl
        | 1, _ => rw [i1]; rfl
      · rw [List.getElem?_eq_none (by omega), List.getElem?_eq_none (by simp; omega)]
    rw [this]
  | bool h1 => rw [hu] at h1; cases h1
  | string h1 => rw [hu] at h1; cases h1
  | int h1 => rw [hu] at h1; cases h1
  | nil h1 => rw [hu] at h1; cases h1
  | slice h1 => rw [hu] at h1; cases h1
end Go.AM
