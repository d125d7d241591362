import Derived.Test.YtomiejfeclefaaaAnJ
set_option linter.unusedVariables false
set_option linter.unusedSimpArgs false
set_option linter.unnecessarySimpa false
set_option linter.unusedSectionVars false
/-! Parts of slices of one's own; copies within one array. -/
namespace Go.AM
open Go
variable {P : Program} {h h' h0 h1 h2 : Heap} {K : Value → Heap → Prop} {v x : Value} {l l' : List E} {i k sz : Nat} {o : Option Nat} {cs : List Value}
/-- xs[z:] -/
theorem sl_own {t e by_ n c : Nat} {z : Int} [T : SlT P t e sz by_] (m : Mem h0 h l) (q : Ent l i k cs sz) (h0' : 0 ≤ z) (hz : z.toNat ≤ n)
    (hK : K (.slice (some ⟨i, z.toNat * sz, none⟩) (n - z.toNat) (if c = 0 then 0 else c - z.toNat)) h) : vK (aSlice P t (.slice (some ⟨i, 0, none⟩) n c) (some (.int .i64 z)) none none h) h K := by
  obtain ⟨hu, hsz, _⟩ := sliceT_of T.ok
  refine vk_i ?_ hK
  have hg := m.get q.ok
  simp only [aSlice, hu, hsz, hg, if_true, aBoundO, aBound]
  rw [if_pos ⟨h0', by omega⟩]
  simp
theorem vb_sl {n c f : Nat} {Q : Prop} (m : Mem h0 h l) (q : Ent l i k cs sz) (hq : Q) : VB h.length (.slice (some ⟨i, f, none⟩) n c) ∧ Q := ⟨m.lt (List.mem_of_getElem? q.ok) rfl, hq⟩
theorem flat_drop {α : Type} [F : Flat α] : ∀ (l : List α) (k : Nat), flat (l.drop k) = (flat l).drop (k * F.sz)
  | [], k => by simp [flat]
  | a :: l, 0 => by simp [flat]
  | a :: l, k + 1 => by
    have := flat_drop l k
    unfold flat at *
    rw [List.drop_succ_cons, List.flatMap_cons, this, Nat.add_mul, Nat.one_mul, Nat.add_comm, ← F.len a, List.drop_length_add_append]
/-- A list after copy(xs[a:], xs[b:]). -/
def cpL {α : Type} (xs : List α) (a b n : Nat) : List α := xs.take a ++ (xs.drop b).take n ++ xs.drop (a + n)
theorem cp_own {α : Type} [F : Flat α] {xs : List α} {t e by_ a b na nb c1 c2 : Nat} [T : SlT P t e sz by_] (m : Mem h0 h l) (q : Ent l i k (flat xs) sz) (hz : sz = F.sz) (ha : a + na = xs.length) (hb : b + nb = xs.length)
    (u : Upd l k ⟨some i, flat (cpL xs a b (Nat.min nb na)), sz⟩ l')
    (hK : ∀ h' v, Prec h h' → Mem h0 h' l' → K v h') : okK (aCopy P t t (.slice (some ⟨i, a * sz, none⟩) na c1) (.slice (some ⟨i, b * sz, none⟩) nb c2) h) K := by
  subst hz
  obtain ⟨hu, hsz, _⟩ := sliceT_of T.ok
  have hg := m.get q.ok
  by_cases h0n : Nat.min nb na = 0
  · have e1 : cpL xs a b (Nat.min nb na) = xs := by rw [h0n]; unfold cpL; simp
    refine ok_i (v := .int .i64 0) (h' := h) ?_ (hK _ _ ⟨Stab.refl _⟩ ?_)
    · simp only [aCopy, hu, hsz]
      rw [if_pos h0n]
    · have hu2 := u.ok
      rw [e1] at hu2
      have : l.set k ⟨some i, flat xs, F.sz⟩ = l := by
        refine List.ext_getElem? fun j => ?_
        rw [List.getElem?_set]
        split
        · rename_i ej; subst ej
          rw [if_pos (List.getElem?_eq_some_iff.mp q.ok).1, q.ok]
        · rfl
      rw [← hu2, this]; exact m
  · have hmin : Nat.min nb na ≤ nb ∧ Nat.min nb na ≤ na := ⟨Nat.min_le_left _ _, Nat.min_le_right _ _⟩
    generalize hn : Nat.min nb na = n at *
    have hseg : ((flat xs).drop (b * F.sz)).take (n * F.sz) = flat ((xs.drop b).take n) := by rw [flat_take, flat_drop]
    have hfit : b * F.sz + n * F.sz ≤ (flat xs).length := by rw [flat_length, ← Nat.add_mul]; exact Nat.mul_le_mul_right _ (by omega)
    have hlseg : ((xs.drop b).take n).length = n := by rw [List.length_take, List.length_drop]; omega
    have hfit2 : a * F.sz + (flat ((xs.drop b).take n)).length ≤ (flat xs).length := by rw [flat_length, flat_length, hlseg, ← Nat.add_mul]; exact Nat.mul_le_mul_right _ (by omega)
    have hset : setSeg (flat xs) (a * F.sz) (flat ((xs.drop b).take n)) = flat (cpL xs a b n) := by
      rw [setSeg_eq _ _ _ hfit2, flat_length, hlseg, ← Nat.add_mul]
      unfold cpL
      rw [← flat_take, ← flat_drop]
      unfold flat; simp [List.flatMap_append]
    refine ok_i (v := .int .i64 (n : Int)) (h' := h.set i (.arr ⟨flat (cpL xs a b n), F.sz, false⟩)) ?_ (hK _ _ ⟨m.setStab q.ok _⟩ (by rw [← u.ok]; exact m.set q.ok _))
    simp only [aCopy, hu, hsz, hn]
    rw [if_neg h0n]
    simp only [aCells, if_neg h0n, hg, if_pos hfit, hseg]
    rw [if_pos ⟨trivial, hfit2, flat_all _⟩, hset]
end Go.AM
