/-
  Contracts: what is looked at of slices and steps.
-/
import Derived.Test.YtdjoednhfoligaaAmYd
import Derived.Test.YtdjoednhfoligaaAmZb
set_option linter.unusedSimpArgs false
set_option linter.unusedVariables false
namespace Go.AM
variable {P : Program} {h h' h0 h1 h2 : Heap} {K : Value → Heap → Prop} {v x : Value}
theorem VB_of_ints {xs : List Int} (s : IntS h v xs) : VB h.length v := seg_vb s
theorem VB_of_bools {xs : List Bool} (s : BoolS h v xs) : VB h.length v := seg_vb s
theorem VB_of_steps {xs : List St} (s : StepsS h v xs) : VB h.length v := seg_vb s
theorem VB_of_rows {xs : List (List Int)} (s : RowsS h v xs) : VB h.length v := by obtain ⟨_, _, s, _⟩ := s; exact seg_vb s
theorem vbb (n : Nat) (z : Bool) : VB n (.bool z) := trivial
theorem ldfr {t e k : Nat} {l : List St} (d : St) (ht : rowT4 P t e = true) (s : StepsS h x l) (hk : k < l.length) (hK : K (.int .i64 (l.getD k d).fr) h) : vK (aLoad P e (eltf x k 0) h) h K := ldf_i ht s hk (by omega) d hK
theorem ldinp {t e k : Nat} {l : List St} (d : St) (ht : rowT4 P t e = true) (s : StepsS h x l) (hk : k < l.length) (hK : K (.int .i64 (l.getD k d).inp) h) : vK (aLoad P e (eltf x k 1) h) h K := ldf_i ht s hk (by omega) d hK
theorem ldout {t e k : Nat} {l : List St} (d : St) (ht : rowT4 P t e = true) (s : StepsS h x l) (hk : k < l.length) (hK : K (.int .i64 (l.getD k d).out) h) : vK (aLoad P e (eltf x k 2) h) h K := ldf_i ht s hk (by omega) d hK
theorem ldto {t e k : Nat} {l : List St} (d : St) (ht : rowT4 P t e = true) (s : StepsS h x l) (hk : k < l.length) (hK : K (.int .i64 (l.getD k d).to) h) : vK (aLoad P e (eltf x k 3) h) h K := ldf_i ht s hk (by omega) d hK
theorem ldc_e {e : TypeId} {i off : Nat} {a : Arr} {y : Value} (hr : isPlain P e = true) (hi : h[i]? = some (.arr a)) (hc : a.cells[off]? = some y) : aLoad P e (.pointer (some ⟨i, off, none⟩)) h = some y := by
  unfold isPlain at hr
  split at hr
  · rename_i d hd
    simp only [aLoad, hi, hd]
    rw [if_neg (by simpa using hr)]
    exact hc
  · cases hr
/-- Loads that are pending: what they gave is what they give. -/
theorem again {e : TypeId} {a y : Value} (hk : aLoad P e a h = some y) : (aLoad P e a h).map (·, h) = some (y, h) := by rw [hk]; rfl
theorem ldf_e {t e j k : Nat} {l : List St} (d : St) (ht : rowT4 P t e = true) (s : StepsS h x l) (hk : k < l.length) (hj : j < 4) : aLoad P e (eltf x k j) h = some (.int .i64 ((l.getD k d).get j)) := by
  have := ldf_i (K := fun v _ => some v = some (Value.int .i64 ((l.getD k d).get j))) ht s hk hj d rfl
  have := this.out
  split at this
  · rename_i v hv; rw [hv]; exact this
  · exact this.elim
theorem ldi_e {t e by_ k : Nat} {xs : List Int} (ht : sliceT P t e 1 by_ = true) (hr : isPlain P e = true) (s : IntS h x xs) (hk : k < xs.length) : aLoad P e (elt 1 x k) h = some (.int .i64 (xs.getD k 0)) := by
  have := ldi_i (K := fun v _ => some v = some (Value.int .i64 (xs.getD k 0))) ht hr s hk rfl
  have := this.out
  split at this
  · rename_i v hv; rw [hv]; exact this
  · exact this.elim
theorem lenst {t e by_ : Nat} {l : List St} (ht : sliceT P t e 4 by_ = true) (s : StepsS h1 x l) (hk : K (.int .i64 (l.length : Int)) h) : vK (aLen P t x) h K := len_i ht s hk
theorem idxst {t e by_ k : Nat} {l : List St} (ht : sliceT P t e 4 by_ = true) (s : StepsS h1 x l) (hk : k < l.length) (hK : K (elt 4 x k) h) : vK (aIndexAddr P t x (.int .i64 (k : Int))) h K := idx_i ht s hk hK
theorem idxzst {t e by_ : Nat} {z : Int} {l : List St} (ht : sliceT P t e 4 by_ = true) (s : StepsS h1 x l) (h0 : 0 ≤ z) (hk : z < l.length) (hK : K (elt 4 x z.toNat) h) : vK (aIndexAddr P t x (.int .i64 z)) h K := idxz ht s h0 hk hK
end Go.AM
