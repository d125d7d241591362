/-
  Arguments that hold texts, truths, numbers and lists of such structs.
-/
import Derived.Test.YtgmgmkhenhaniaaAnF
import Derived.Test.YtgmgmkhenhaniaaAmZb
set_option linter.unusedSimpArgs false
set_option linter.unusedVariables false
set_option linter.unnecessarySimpa false
namespace Go.AM
variable {P : Program} {h h' : Heap}
/-- A list of flat structs. -/
def dlist {H α : Type} (de : DataW H → α) : DataW H → List α | .slice elems _ => elems.map de | _ => []
theorem flat_of {α : Type} [F : Flat α] : ∀ (l : List α) (vs : List Value), vs.length = l.length * F.sz → (∀ (k : Nat) (hk : k < l.length), (vs.drop (k * F.sz)).take F.sz = F.cells l[k]) → vs = flat l
  | [], vs, hl, _ => by
    have : vs = [] := List.length_eq_zero_iff.mp (by simpa using hl)
    simp [this, flat]
  | s :: l, vs, hl, hk => by
    have h0 := hk 0 (by simp)
    simp only [Nat.zero_mul, List.drop_zero, List.getElem_cons_zero] at h0
    have := flat_of l (vs.drop F.sz) (by rw [List.length_drop, hl, List.length_cons, Nat.add_mul]; omega) (fun k hk2 => by
      have := hk (k + 1) (by simpa using hk2)
      rw [show (k + 1) * F.sz = F.sz + k * F.sz by rw [Nat.add_mul]; omega, ← List.drop_drop] at this
      simpa using this)
    unfold flat at this ⊢
    rw [List.flatMap_cons, ← this, ← h0, List.take_append_drop]
theorem ARd.list {H α : Type} [F : Flat α] {t e : TypeId} {cs : List Value} {d : DataW H} (de : DataW H → α) (a : ARd P h t cs d) (ht : P.underlying t = some (.slice e)) (hz : P.cellsOf e = F.sz)
    (he : ∀ (cs : List Value) (d : DataW H), ARd P h e cs d → cs = F.cells (de d)) (hb : (dlist de d).length ≤ 2 ^ 50) : ∃ o l c, cs = [.slice o l c] ∧ L h (.slice o l c) (dlist de d) := by
  cases a with
  | nil h1 => exact ⟨_, _, _, rfl, L.nil h⟩
  | slice h1 hlt hl hv hi hel =>
    rename_i e' i len vs elems spare
    rw [ht] at h1
    cases h1
    rw [hz] at hv hi hel
    refine ⟨_, _, _, rfl, L.of_flat ?_⟩
    simp only [dlist, List.length_map] at hb
    have hvs : vs = flat (elems.map de) := by
      refine flat_of _ _ (by rw [List.length_map, hl]; exact hv) fun k hk => ?_
      rw [List.length_map] at hk
      rw [he _ _ (hel k elems[k] (by simp [hk]))]
      simp
    simp only [dlist, List.length_map, hl]
    refine ⟨⟨by rw [flat_length, List.length_map, hl], by omega⟩, ?_⟩
    rcases hi with h0 | hi
    · subst h0; exact .inl ⟨some (i, 0), 0, rfl, fun p hp => (by cases hp; exact hlt), rfl⟩
    · refine .inr ⟨i, 0, 0, _, rfl, hi, rfl, rfl, by simp only; omega, ?_, by simp [capOf]⟩
      simp only [List.drop_zero]
      rw [List.take_of_length_le (by omega), hvs]
  | bool h1 => rw [ht] at h1; cases h1
  | string h1 => rw [ht] at h1; cases h1
  | int h1 => rw [ht] at h1; cases h1
  | struct h1 => rw [ht] at h1; cases h1
  | array h1 => rw [ht] at h1; cases h1
/-- The fields of a struct. -/
theorem ARd.fields {H : Type} {t : TypeId} {cs : List Value} {d : DataW H} {fs : Array Field} (a : ARd P h t cs d) (ht : P.underlying t = some (.struct fs)) :
    ∃ parts, d = .agg parts ∧ cs.length = P.cellsOf t ∧ parts.length = fs.size ∧ ∀ (k : Nat) (f : Field) (d : DataW H), fs[k]? = some f → parts[k]? = some d → ARd P h f.type ((cs.drop f.offset).take (P.cellsOf f.type)) d := by
  cases a with
  | struct h1 hl hp hf => rw [ht] at h1; cases h1; exact ⟨_, rfl, hl, hp, hf⟩
  | array h1 => rw [ht] at h1; cases h1
  | bool h1 => rw [ht] at h1; cases h1
  | string h1 => rw [ht] at h1; cases h1
  | int h1 => rw [ht] at h1; cases h1
  | nil h1 => rw [ht] at h1; cases h1
  | slice h1 => rw [ht] at h1; cases h1
/-- The elements of an array. -/
theorem ARd.elems {H : Type} {t e : TypeId} {cs : List Value} {d : DataW H} {n : Nat} (a : ARd P h t cs d) (ht : P.underlying t = some (.array n e)) :
    ∃ parts, d = .agg parts ∧ cs.length = P.cellsOf t ∧ parts.length = n ∧ ∀ (k : Nat) (d : DataW H), parts[k]? = some d → ARd P h e ((cs.drop (k * P.cellsOf e)).take (P.cellsOf e)) d := by
  cases a with
  | array h1 hl hp hf => rw [ht] at h1; cases h1; exact ⟨_, rfl, hl, hp, hf⟩
  | struct h1 hl hp hf => rw [ht] at h1; cases h1
  | bool h1 => rw [ht] at h1; cases h1
  | string h1 => rw [ht] at h1; cases h1
  | int h1 => rw [ht] at h1; cases h1
  | nil h1 => rw [ht] at h1; cases h1
  | slice h1 => rw [ht] at h1; cases h1
theorem ARd.f_int {H : Type} {t : TypeId} {cs : List Value} {d : DataW H} {off : Nat} (a : ARd P h t ((cs.drop off).take 1) d) (ht : P.underlying t = some (.int .i64)) : cs[off]? = some (.int .i64 (AM.dint d)) := drop_one (a.dint ht).1
end Go.AM
