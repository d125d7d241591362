/-
  Arguments that are machines.
-/
import Derived.Test.YtgmgmkhenhaniaaAmZa
set_option linter.unusedSimpArgs false
set_option linter.unusedVariables false
namespace Go.AM
variable {P : Program} {h h' h0 h1 h2 : Heap} {K : Value → Heap → Prop} {v x : Value}

def dSt {H : Type} : DataW H → St | .agg [a, b, c, d] => ⟨dint a, dint b, dint c, dint d⟩ | _ => ⟨0, 0, 0, 0⟩
def dSteps {H : Type} : DataW H → List St | .slice elems _ => elems.map dSt | _ => []
def dMac {H : Type} : DataW H → Mac | .agg [a, b, c, d, e] => ⟨dint a, dint b, dint c, dint d, dSteps e⟩ | _ => ⟨0, 0, 0, 0, []⟩
/-- Types of steps, of machines. -/
def stT (P : Program) (t e : Nat) : Bool :=
  (match P.underlying t with
  | some (.struct fs) => Nat.beq fs.size 4 && (List.range 4).all (fun j => match fs[j]? with | some f => Nat.beq f.offset j && Nat.beq f.type e | none => false)
  | _ => false) && (match P.underlying e with | some (.int .i64) => true | _ => false) && Nat.beq (P.cellsOf e) 1 && Nat.beq (P.cellsOf t) 4
theorem stT_of {t e : Nat} (hh : stT P t e = true) : (∃ fs, P.underlying t = some (.struct fs) ∧ fs.size = 4 ∧ ∀ j, j < 4 → ∃ f, fs[j]? = some f ∧ f.offset = j ∧ f.type = e) ∧ P.underlying e = some (.int .i64) ∧ P.cellsOf e = 1 ∧ P.cellsOf t = 4 := by
  unfold stT at hh
  simp only [Bool.and_eq_true] at hh
  obtain ⟨⟨⟨h1, h2⟩, h3⟩, h4⟩ := hh
  refine ⟨?_, ?_, Nat.eq_of_beq_eq_true h3, Nat.eq_of_beq_eq_true h4⟩
  · split at h1
    · rename_i fs hu
      simp only [Bool.and_eq_true, List.all_eq_true, List.mem_range] at h1
      refine ⟨fs, hu, Nat.eq_of_beq_eq_true h1.1, fun j hj => ?_⟩
      have := h1.2 j hj
      split at this
      · rename_i f hf
        simp only [Bool.and_eq_true, Nat.beq_eq] at this
        exact ⟨f, hf, this.1, this.2⟩
      · cases this
    · cases h1
  · split at h2
    · assumption
    · cases h2
theorem drop_one {vs : List Value} {j : Nat} {x : Value} (e : (vs.drop j).take 1 = [x]) : vs[j]? = some x := by
  rw [List.take_one, List.head?_drop] at e
  cases hv : vs[j]? with
  | none => rw [hv] at e; simp at e
  | some y => rw [hv] at e; simp at e; rw [e]
theorem ARd.st {H : Type} {t e : TypeId} {cs : List Value} {d : DataW H} (a : ARd P h t cs d) (ht : stT P t e = true) : cs = (dSt d).cells := by
  obtain ⟨⟨fs, hu, hsz, hfs⟩, he, hce, hct⟩ := stT_of ht
  cases a with
  | struct h1 hl hp hf =>
    rw [hu] at h1
    cases h1
    rename_i parts
    rw [hct] at hl
    rw [hsz] at hp
    obtain ⟨a, b, c, d, rfl⟩ : ∃ a b c d, parts = [a, b, c, d] := by
      match parts, hp with
      | [a, b, c, d], _ => exact ⟨a, b, c, d, rfl⟩
    have get : ∀ j, j < 4 → ∀ p, [a, b, c, d][j]? = some p → cs[j]? = some (.int .i64 (AM.dint p)) := by
      intro j hj p hpj
      obtain ⟨f, hfj, ho, hty⟩ := hfs j hj
      have := hf j f p hfj hpj
      rw [ho, hty, hce] at this
      have := (this.dint he).1
      exact drop_one this
    refine List.ext_getElem? fun j => ?_
    by_cases hj : j < 4
    · match j, hj with
      | 0, _ => rw [get 0 (by omega) a rfl]; rfl
      | 1, _ => rw [get 1 (by omega) b rfl]; rfl
      | 2, _ => rw [get 2 (by omega) c rfl]; rfl
      | 3, _ => rw [get 3 (by omega) d rfl]; rfl
    · rw [List.getElem?_eq_none (by omega), List.getElem?_eq_none (by simp [St.cells]; omega)]
  | array h1 => rw [hu] at h1; cases h1
  | bool h1 => rw [hu] at h1; cases h1
  | string h1 => rw [hu] at h1; cases h1
  | int h1 => rw [hu] at h1; cases h1
  | nil h1 => rw [hu] at h1; cases h1
  | slice h1 => rw [hu] at h1; cases h1
theorem flat4 : ∀ (l : List St) (vs : List Value), vs.length = l.length * 4 → (∀ k, k < l.length → (vs.drop (k * 4)).take 4 = (l.getD k ⟨0, 0, 0, 0⟩).cells) → vs = l.flatMap St.cells
  | [], vs, hl, _ => by
    have : vs = [] := List.length_eq_zero_iff.mp (by simpa using hl)
    simp [this]
  | s :: l, vs, hl, hk => by
    have h0 := hk 0 (by simp)
    simp only [Nat.zero_mul, List.drop_zero, List.getD_cons_zero] at h0
    have := flat4 l (vs.drop 4) (by simp at hl ⊢; omega) (fun k hk2 => by
      have := hk (k + 1) (by simpa using hk2)
      rw [show (k + 1) * 4 = 4 + k * 4 by omega, ← List.drop_drop] at this
      simpa using this)
    rw [List.flatMap_cons, ← this, ← h0, List.take_append_drop]
theorem ARd.steps {H : Type} {t s e : TypeId} {cs : List Value} {d : DataW H} (a : ARd P h t cs d) (ht : P.underlying t = some (.slice s)) (hs : stT P s e = true) (hb : (dSteps d).length ≤ 2 ^ 50) :
    ∃ o l c, cs = [.slice o l c] ∧ StepsS h (.slice o l c) (dSteps d) := by
  have hcs := (stT_of hs).2.2.2
  cases a with
  | nil h1 => exact ⟨_, _, _, rfl, Seg.nil 4 h⟩
  | slice h1 hlt hl hv hi hel =>
    rename_i e' i len vs elems spare
    rw [ht] at h1
    cases h1
    rw [hcs] at hv hi hel
    refine ⟨_, _, _, rfl, ?_⟩
    simp only [dSteps, List.length_map] at hb
    have hvs : vs = (elems.map dSt).flatMap St.cells := by
      refine flat4 _ _ (by simp; omega) fun k hk => ?_
      simp only [List.length_map] at hk
      have := (hel k elems[k] (by simp [hk])).st hs
      rw [this]
      simp [List.getD, hk]
    refine ⟨⟨?_, by simp [dSteps]; omega⟩, ?_⟩
    · simp only [dSteps]
      rw [← hvs, hv, List.length_map, hl]
    · simp only [dSteps, List.length_map]
      rcases hi with h0 | hi
      · subst h0; exact .inl ⟨some (i, 0), 0, rfl, fun p hp => (by cases hp; exact hlt), hl⟩
      · refine .inr ⟨i, 0, 0, _, by simp [hl], hi, rfl, by simp [hl, hv], ?_⟩
        simp only [List.drop_zero]
        rw [List.take_of_length_le (by omega), hvs]
  | bool h1 => rw [ht] at h1; cases h1
  | string h1 => rw [ht] at h1; cases h1
  | int h1 => rw [ht] at h1; cases h1
  | struct h1 => rw [ht] at h1; cases h1
  | array h1 => rw [ht] at h1; cases h1
end Go.AM
