import Derived.Test.YtkgdclcmfnhbmaaAmY
import Derived.Test.YtkgdclcmfnhbmaaSpF
set_option linter.unusedSimpArgs false
set_option linter.unusedVariables false
namespace Go.Proofs.Ytkgdclcmfnhbmaa
open Go.AM
variable {h h' h0 : Heap}

theorem t23 : sliceT Try.prog 23 3 1 8 = true := by kernel_rfl
theorem t22 : sliceT Try.prog 22 23 1 24 = true := by kernel_rfl
theorem t65 : sliceT Try.prog 65 71 1 8 = true := by kernel_rfl
theorem t94 : sliceT Try.prog 94 25 1 8 = true := by kernel_rfl
theorem r3 : isPlain Try.prog 3 = true := by kernel_rfl
theorem r23 : isPlain Try.prog 23 = true := by kernel_rfl
theorem r71 : isPlain Try.prog 71 = true := by kernel_rfl
theorem r25 : isPlain Try.prog 25 = true := by kernel_rfl

/-- unless -/
theorem c38 (b : Bool) (e : Int) : Runs Try.prog 38 [.bool b, .int .i64 e] h (.int .i64 (if b then 0 else e)) h := by
  refine DetP.runs (w38 ?_)
  unfold n38
  cases b <;> (with_reducible repeat first|refine mv_i ?_|refine cnd_t ?_|refine cnd_f ?_|refine gd_tt ?_|refine gd_ff ?_|refine gd_tf ?_|refine gd_ft ?_|refine gd_u ?_|refine pick_t ?_|refine pick_f ?_|refine not_t ?_|refine not_f ?_|refine nil_i ?_|refine ret1 ?_|refine ret2 ?_|refine ret0 ?_|refine ret3 ?_|refine ex2_0 ?_|refine ex2_1 ?_|refine ex3_0 ?_|refine ex3_1 ?_|refine ex3_2 ?_) <;> exact ⟨rfl, rfl⟩
/-- spans, Within -/
def inR (n a b : Int) : Bool := decide (a ≤ n ∧ n ≤ b)
theorem c58 (n a b : Int) : Runs Try.prog 58 [.int .i64 n, .int .i64 a, .int .i64 b] h (.bool (inR n a b)) h := by
  refine DetP.runs (w58 ?_)
  unfold n58
  (with_reducible repeat first|refine mv_i ?_|refine cnd_t ?_|refine cnd_f ?_|refine gd_tt ?_|refine gd_ff ?_|refine gd_tf ?_|refine gd_ft ?_|refine gd_u ?_|refine pick_t ?_|refine pick_f ?_|refine not_t ?_|refine not_f ?_|refine nil_i ?_|refine ret1 ?_|refine ret2 ?_|refine ret0 ?_|refine ret3 ?_|refine ex2_0 ?_|refine ex2_1 ?_|refine ex3_0 ?_|refine ex3_1 ?_|refine ex3_2 ?_)
  refine leq_i (fun h1 => ?_) (fun h1 => ?_)
  · (with_reducible repeat first|refine mv_i ?_|refine cnd_t ?_|refine cnd_f ?_|refine gd_tt ?_|refine gd_ff ?_|refine gd_tf ?_|refine gd_ft ?_|refine gd_u ?_|refine pick_t ?_|refine pick_f ?_|refine not_t ?_|refine not_f ?_|refine nil_i ?_|refine ret1 ?_|refine ret2 ?_|refine ret0 ?_|refine ret3 ?_|refine ex2_0 ?_|refine ex2_1 ?_|refine ex3_0 ?_|refine ex3_1 ?_|refine ex3_2 ?_)
    refine leq_i (fun h2 => ?_) (fun h2 => ?_) <;> (with_reducible repeat first|refine mv_i ?_|refine cnd_t ?_|refine cnd_f ?_|refine gd_tt ?_|refine gd_ff ?_|refine gd_tf ?_|refine gd_ft ?_|refine gd_u ?_|refine pick_t ?_|refine pick_f ?_|refine not_t ?_|refine not_f ?_|refine nil_i ?_|refine ret1 ?_|refine ret2 ?_|refine ret0 ?_|refine ret3 ?_|refine ex2_0 ?_|refine ex2_1 ?_|refine ex3_0 ?_|refine ex3_1 ?_|refine ex3_2 ?_) <;> exact ⟨by simp [inR, h1, h2], rfl⟩
  · (with_reducible repeat first|refine mv_i ?_|refine cnd_t ?_|refine cnd_f ?_|refine gd_tt ?_|refine gd_ff ?_|refine gd_tf ?_|refine gd_ft ?_|refine gd_u ?_|refine pick_t ?_|refine pick_f ?_|refine not_t ?_|refine not_f ?_|refine nil_i ?_|refine ret1 ?_|refine ret2 ?_|refine ret0 ?_|refine ret3 ?_|refine ex2_0 ?_|refine ex2_1 ?_|refine ex3_0 ?_|refine ex3_1 ?_|refine ex3_2 ?_) 
    exact ⟨by simp [inR, h1], rfl⟩
theorem c61 (n a b : Int) : Runs Try.prog 61 [.int .i64 n, .int .i64 a, .int .i64 b] h (.bool (inR n a b)) h := by
  refine DetP.runs (w61 ?_)
  unfold n61
  (with_reducible repeat first|refine mv_i ?_|refine cnd_t ?_|refine cnd_f ?_|refine gd_tt ?_|refine gd_ff ?_|refine gd_tf ?_|refine gd_ft ?_|refine gd_u ?_|refine pick_t ?_|refine pick_f ?_|refine not_t ?_|refine not_f ?_|refine nil_i ?_|refine ret1 ?_|refine ret2 ?_|refine ret0 ?_|refine ret3 ?_|refine ex2_0 ?_|refine ex2_1 ?_|refine ex3_0 ?_|refine ex3_1 ?_|refine ex3_2 ?_)
  refine leq_i (fun h1 => ?_) (fun h1 => ?_)
  · (with_reducible repeat first|refine mv_i ?_|refine cnd_t ?_|refine cnd_f ?_|refine gd_tt ?_|refine gd_ff ?_|refine gd_tf ?_|refine gd_ft ?_|refine gd_u ?_|refine pick_t ?_|refine pick_f ?_|refine not_t ?_|refine not_f ?_|refine nil_i ?_|refine ret1 ?_|refine ret2 ?_|refine ret0 ?_|refine ret3 ?_|refine ex2_0 ?_|refine ex2_1 ?_|refine ex3_0 ?_|refine ex3_1 ?_|refine ex3_2 ?_)
    refine leq_i (fun h2 => ?_) (fun h2 => ?_) <;> (with_reducible repeat first|refine mv_i ?_|refine cnd_t ?_|refine cnd_f ?_|refine gd_tt ?_|refine gd_ff ?_|refine gd_tf ?_|refine gd_ft ?_|refine gd_u ?_|refine pick_t ?_|refine pick_f ?_|refine not_t ?_|refine not_f ?_|refine nil_i ?_|refine ret1 ?_|refine ret2 ?_|refine ret0 ?_|refine ret3 ?_|refine ex2_0 ?_|refine ex2_1 ?_|refine ex3_0 ?_|refine ex3_1 ?_|refine ex3_2 ?_) <;> exact ⟨by simp [inR, h1, h2], rfl⟩
  · (with_reducible repeat first|refine mv_i ?_|refine cnd_t ?_|refine cnd_f ?_|refine gd_tt ?_|refine gd_ff ?_|refine gd_tf ?_|refine gd_ft ?_|refine gd_u ?_|refine pick_t ?_|refine pick_f ?_|refine not_t ?_|refine not_f ?_|refine nil_i ?_|refine ret1 ?_|refine ret2 ?_|refine ret0 ?_|refine ret3 ?_|refine ex2_0 ?_|refine ex2_1 ?_|refine ex3_0 ?_|refine ex3_1 ?_|refine ex3_2 ?_) 
    exact ⟨by simp [inR, h1], rfl⟩
/-- Has -/
theorem c51 {a : Value} {xs : List Int} {n : Int} (s : IntS h a xs) : Runs Try.prog 51 [a, .int .i64 n] h (.bool (decide (n ∈ xs))) h := by
  have lt := s.lt
  refine DetP.runs (w51 ?_)
  unfold n51
  (with_reducible repeat first|refine mv_i ?_|refine cnd_t ?_|refine cnd_f ?_|refine gd_tt ?_|refine gd_ff ?_|refine gd_tf ?_|refine gd_ft ?_|refine gd_u ?_|refine pick_t ?_|refine pick_f ?_|refine not_t ?_|refine not_f ?_|refine nil_i ?_|refine ret1 ?_|refine ret2 ?_|refine ret0 ?_|refine ret3 ?_|refine ex2_0 ?_|refine ex2_1 ?_|refine ex3_0 ?_|refine ex3_1 ?_|refine ex3_2 ?_)
  refine loop1 xs.length (fun k h2 => h2 = h ∧ ∀ j, j < k → xs.getD j 0 ≠ n) ⟨rfl, fun j hj => by omega⟩ ?_
  rintro k _ _ hk ⟨rfl, hJ⟩
  (with_reducible repeat first|refine mv_i ?_|refine cnd_t ?_|refine cnd_f ?_|refine gd_tt ?_|refine gd_ff ?_|refine gd_tf ?_|refine gd_ft ?_|refine gd_u ?_|refine pick_t ?_|refine pick_f ?_|refine not_t ?_|refine not_f ?_|refine nil_i ?_|refine ret1 ?_|refine ret2 ?_|refine ret0 ?_|refine ret3 ?_|refine ex2_0 ?_|refine ex2_1 ?_|refine ex3_0 ?_|refine ex3_1 ?_|refine ex3_2 ?_)
  (first | with_reducible refine leni_i t23 (by assumption) ?_ | with_reducible refine lenr_i t22 (by assumption) ?_ | with_reducible refine lenw_i t65 (by assumption) ?_ | with_reducible refine leni_i t94 (by assumption) ?_)
  refine lss_i (fun hlt => ?_) (fun hge => ?_)
  · (with_reducible repeat first|refine mv_i ?_|refine cnd_t ?_|refine cnd_f ?_|refine gd_tt ?_|refine gd_ff ?_|refine gd_tf ?_|refine gd_ft ?_|refine gd_u ?_|refine pick_t ?_|refine pick_f ?_|refine not_t ?_|refine not_f ?_|refine nil_i ?_|refine ret1 ?_|refine ret2 ?_|refine ret0 ?_|refine ret3 ?_|refine ex2_0 ?_|refine ex2_1 ?_|refine ex3_0 ?_|refine ex3_1 ?_|refine ex3_2 ?_)
    (first | with_reducible refine idxi_i t23 (by assumption) (by omega) ?_ | with_reducible refine idxr_i t22 (by assumption) (by omega) ?_ | with_reducible refine idxw_i t65 (by assumption) (by omega) ?_ | with_reducible refine idxi_i t94 (by assumption) (by omega) ?_)
    (first | with_reducible refine ldi_i t23 r3 (by assumption) (by omega) ?_ | with_reducible refine ldr_i t22 r23 (by assumption) (by omega) ?_ | with_reducible refine ldw_i t65 r71 (by assumption) (by omega) ?_ | with_reducible refine ldi_i t94 r25 (by assumption) (by omega) ?_)
    (with_reducible repeat first|refine mv_i ?_|refine cnd_t ?_|refine cnd_f ?_|refine gd_tt ?_|refine gd_ff ?_|refine gd_tf ?_|refine gd_ft ?_|refine gd_u ?_|refine pick_t ?_|refine pick_f ?_|refine not_t ?_|refine not_f ?_|refine nil_i ?_|refine ret1 ?_|refine ret2 ?_|refine ret0 ?_|refine ret3 ?_|refine ex2_0 ?_|refine ex2_1 ?_|refine ex3_0 ?_|refine ex3_1 ?_|refine ex3_2 ?_)
    refine eql_i (fun he => ?_) (fun he => ?_)
    · (with_reducible repeat first|refine mv_i ?_|refine cnd_t ?_|refine cnd_f ?_|refine gd_tt ?_|refine gd_ff ?_|refine gd_tf ?_|refine gd_ft ?_|refine gd_u ?_|refine pick_t ?_|refine pick_f ?_|refine not_t ?_|refine not_f ?_|refine nil_i ?_|refine ret1 ?_|refine ret2 ?_|refine ret0 ?_|refine ret3 ?_|refine ex2_0 ?_|refine ex2_1 ?_|refine ex3_0 ?_|refine ex3_1 ?_|refine ex3_2 ?_)
      refine ⟨?_, rfl⟩
      have : n ∈ xs := he ▸ gd_mem 0 (by omega)
      simp [this]
    · (with_reducible repeat first|refine mv_i ?_|refine cnd_t ?_|refine cnd_f ?_|refine gd_tt ?_|refine gd_ff ?_|refine gd_tf ?_|refine gd_ft ?_|refine gd_u ?_|refine pick_t ?_|refine pick_f ?_|refine not_t ?_|refine not_f ?_|refine nil_i ?_|refine ret1 ?_|refine ret2 ?_|refine ret0 ?_|refine ret3 ?_|refine ex2_0 ?_|refine ex2_1 ?_|refine ex3_0 ?_|refine ex3_1 ?_|refine ex3_2 ?_)
      refine inc_i (by omega) ?_
      (with_reducible repeat first|refine mv_i ?_|refine cnd_t ?_|refine cnd_f ?_|refine gd_tt ?_|refine gd_ff ?_|refine gd_tf ?_|refine gd_ft ?_|refine gd_u ?_|refine pick_t ?_|refine pick_f ?_|refine not_t ?_|refine not_f ?_|refine nil_i ?_|refine ret1 ?_|refine ret2 ?_|refine ret0 ?_|refine ret3 ?_|refine ex2_0 ?_|refine ex2_1 ?_|refine ex3_0 ?_|refine ex3_1 ?_|refine ex3_2 ?_)
      refine next1 (by omega) ⟨rfl, fun j hj => ?_⟩
      by_cases e : j = k
      · subst e; exact he
      · exact hJ j (by omega)
  · (with_reducible repeat first|refine mv_i ?_|refine cnd_t ?_|refine cnd_f ?_|refine gd_tt ?_|refine gd_ff ?_|refine gd_tf ?_|refine gd_ft ?_|refine gd_u ?_|refine pick_t ?_|refine pick_f ?_|refine not_t ?_|refine not_f ?_|refine nil_i ?_|refine ret1 ?_|refine ret2 ?_|refine ret0 ?_|refine ret3 ?_|refine ex2_0 ?_|refine ex2_1 ?_|refine ex3_0 ?_|refine ex3_1 ?_|refine ex3_2 ?_)
    refine ⟨?_, rfl⟩
    have : ¬ n ∈ xs := by
      intro hm
      obtain ⟨j, hj, e⟩ := mem_gd 0 hm
      exact hJ j (by omega) e
    simp [this]
/-! ### errors of tests -/
def tErrAt (xs : List Int) (i : Nat) : Option Int := if inR (xs.getD i 0) 0 11 = false then some 3 else if 0 < i ∧ xs.getD i 0 ≤ xs.getD (i - 1) 0 then some 14 else none
def tErr (xs : List Int) : Int := (firstOf (tErrAt xs) xs.length).getD 0
theorem tErr_none {xs : List Int} (hf : ∀ j, j < xs.length → tErrAt xs j = none) : tErr xs = 0 := by unfold tErr; rw [firstOf_none hf]; rfl
theorem tErr_some {xs : List Int} {k : Nat} {e : Int} (hf : ∀ j, j < k → tErrAt xs j = none) (hk : k < xs.length) (he : tErrAt xs k = some e) : tErr xs = e := by unfold tErr; rw [firstOf_some hf hk he]; rfl
theorem c42 {a : Value} {xs : List Int} (s : IntS h a xs) : Runs Try.prog 42 [a] h (.int .i64 (tErr xs)) h := by
  have lt := s.lt
  refine DetP.runs (w42 ?_)
  unfold n42
  (with_reducible repeat first|refine mv_i ?_|refine cnd_t ?_|refine cnd_f ?_|refine gd_tt ?_|refine gd_ff ?_|refine gd_tf ?_|refine gd_ft ?_|refine gd_u ?_|refine pick_t ?_|refine pick_f ?_|refine not_t ?_|refine not_f ?_|refine nil_i ?_|refine ret1 ?_|refine ret2 ?_|refine ret0 ?_|refine ret3 ?_|refine ex2_0 ?_|refine ex2_1 ?_|refine ex3_0 ?_|refine ex3_1 ?_|refine ex3_2 ?_)
  refine loop1 xs.length (fun k h2 => h2 = h ∧ ∀ j, j < k → tErrAt xs j = none) ⟨rfl, fun j hj => by omega⟩ ?_
  rintro k _ _ hk ⟨rfl, hJ⟩
  (with_reducible repeat first|refine mv_i ?_|refine cnd_t ?_|refine cnd_f ?_|refine gd_tt ?_|refine gd_ff ?_|refine gd_tf ?_|refine gd_ft ?_|refine gd_u ?_|refine pick_t ?_|refine pick_f ?_|refine not_t ?_|refine not_f ?_|refine nil_i ?_|refine ret1 ?_|refine ret2 ?_|refine ret0 ?_|refine ret3 ?_|refine ex2_0 ?_|refine ex2_1 ?_|refine ex3_0 ?_|refine ex3_1 ?_|refine ex3_2 ?_)
  (first | with_reducible refine leni_i t23 (by assumption) ?_ | with_reducible refine lenr_i t22 (by assumption) ?_ | with_reducible refine lenw_i t65 (by assumption) ?_ | with_reducible refine leni_i t94 (by assumption) ?_)
  refine lss_i (fun hlt => ?_) (fun hge => ?_)
  · have next : tErrAt xs k = none → ∀ j, j < k + 1 → tErrAt xs j = none := fun e j hj => by
      by_cases q : j = k
      · subst q; exact e
      · exact hJ j (by omega)
    (with_reducible repeat first|refine mv_i ?_|refine cnd_t ?_|refine cnd_f ?_|refine gd_tt ?_|refine gd_ff ?_|refine gd_tf ?_|refine gd_ft ?_|refine gd_u ?_|refine pick_t ?_|refine pick_f ?_|refine not_t ?_|refine not_f ?_|refine nil_i ?_|refine ret1 ?_|refine ret2 ?_|refine ret0 ?_|refine ret3 ?_|refine ex2_0 ?_|refine ex2_1 ?_|refine ex3_0 ?_|refine ex3_1 ?_|refine ex3_2 ?_)
    (first | with_reducible refine idxi_i t23 (by assumption) (by omega) ?_ | with_reducible refine idxr_i t22 (by assumption) (by omega) ?_ | with_reducible refine idxw_i t65 (by assumption) (by omega) ?_ | with_reducible refine idxi_i t94 (by assumption) (by omega) ?_)
    (first | with_reducible refine ldi_i t23 r3 (by assumption) (by omega) ?_ | with_reducible refine ldr_i t22 r23 (by assumption) (by omega) ?_ | with_reducible refine ldw_i t65 r71 (by assumption) (by omega) ?_ | with_reducible refine ldi_i t94 r25 (by assumption) (by omega) ?_)
    refine call_r (c61 _ _ _) ?_
    cases hr : inR (xs.getD k 0) 0 11 with
    | false =>
      (with_reducible repeat first|refine mv_i ?_|refine cnd_t ?_|refine cnd_f ?_|refine gd_tt ?_|refine gd_ff ?_|refine gd_tf ?_|refine gd_ft ?_|refine gd_u ?_|refine pick_t ?_|refine pick_f ?_|refine not_t ?_|refine not_f ?_|refine nil_i ?_|refine ret1 ?_|refine ret2 ?_|refine ret0 ?_|refine ret3 ?_|refine ex2_0 ?_|refine ex2_1 ?_|refine ex3_0 ?_|refine ex3_1 ?_|refine ex3_2 ?_)
      exact ⟨by rw [tErr_some hJ (by omega) (by unfold tErrAt; rw [if_pos hr])], rfl⟩
    | true =>
      (with_reducible repeat first|refine mv_i ?_|refine cnd_t ?_|refine cnd_f ?_|refine gd_tt ?_|refine gd_ff ?_|refine gd_tf ?_|refine gd_ft ?_|refine gd_u ?_|refine pick_t ?_|refine pick_f ?_|refine not_t ?_|refine not_f ?_|refine nil_i ?_|refine ret1 ?_|refine ret2 ?_|refine ret0 ?_|refine ret3 ?_|refine ex2_0 ?_|refine ex2_1 ?_|refine ex3_0 ?_|refine ex3_1 ?_|refine ex3_2 ?_)
      refine gtr_i (fun h0 => ?_) (fun h0 => ?_)
      · (with_reducible repeat first|refine mv_i ?_|refine cnd_t ?_|refine cnd_f ?_|refine gd_tt ?_|refine gd_ff ?_|refine gd_tf ?_|refine gd_ft ?_|refine gd_u ?_|refine pick_t ?_|refine pick_f ?_|refine not_t ?_|refine not_f ?_|refine nil_i ?_|refine ret1 ?_|refine ret2 ?_|refine ret0 ?_|refine ret3 ?_|refine ex2_0 ?_|refine ex2_1 ?_|refine ex3_0 ?_|refine ex3_1 ?_|refine ex3_2 ?_)
        refine sub_i ⟨by omega, by omega⟩ ?_
        (with_reducible repeat first|refine mv_i ?_|refine cnd_t ?_|refine cnd_f ?_|refine gd_tt ?_|refine gd_ff ?_|refine gd_tf ?_|refine gd_ft ?_|refine gd_u ?_|refine pick_t ?_|refine pick_f ?_|refine not_t ?_|refine not_f ?_|refine nil_i ?_|refine ret1 ?_|refine ret2 ?_|refine ret0 ?_|refine ret3 ?_|refine ex2_0 ?_|refine ex2_1 ?_|refine ex3_0 ?_|refine ex3_1 ?_|refine ex3_2 ?_)
        rw [show (k : Int) - 1 = ((k - 1 : Nat) : Int) by omega]
        (first | with_reducible refine idxi_i t23 (by assumption) (by omega) ?_ | with_reducible refine idxr_i t22 (by assumption) (by omega) ?_ | with_reducible refine idxw_i t65 (by assumption) (by omega) ?_ | with_reducible refine idxi_i t94 (by assumption) (by omega) ?_)
        (with_reducible repeat first|refine mv_i ?_|refine cnd_t ?_|refine cnd_f ?_|refine gd_tt ?_|refine gd_ff ?_|refine gd_tf ?_|refine gd_ft ?_|refine gd_u ?_|refine pick_t ?_|refine pick_f ?_|refine not_t ?_|refine not_f ?_|refine nil_i ?_|refine ret1 ?_|refine ret2 ?_|refine ret0 ?_|refine ret3 ?_|refine ex2_0 ?_|refine ex2_1 ?_|refine ex3_0 ?_|refine ex3_1 ?_|refine ex3_2 ?_)
        (first | with_reducible refine ldi_i t23 r3 (by assumption) (by omega) ?_ | with_reducible refine ldr_i t22 r23 (by assumption) (by omega) ?_ | with_reducible refine ldw_i t65 r71 (by assumption) (by omega) ?_ | with_reducible refine ldi_i t94 r25 (by assumption) (by omega) ?_)
        refine ⟨trivial, ?_⟩
        (with_reducible repeat first|refine mv_i ?_|refine cnd_t ?_|refine cnd_f ?_|refine gd_tt ?_|refine gd_ff ?_|refine gd_tf ?_|refine gd_ft ?_|refine gd_u ?_|refine pick_t ?_|refine pick_f ?_|refine not_t ?_|refine not_f ?_|refine nil_i ?_|refine ret1 ?_|refine ret2 ?_|refine ret0 ?_|refine ret3 ?_|refine ex2_0 ?_|refine ex2_1 ?_|refine ex3_0 ?_|refine ex3_1 ?_|refine ex3_2 ?_)
        (first | with_reducible refine idxi_i t23 (by assumption) (by omega) ?_ | with_reducible refine idxr_i t22 (by assumption) (by omega) ?_ | with_reducible refine idxw_i t65 (by assumption) (by omega) ?_ | with_reducible refine idxi_i t94 (by assumption) (by omega) ?_)
        (with_reducible repeat first|refine mv_i ?_|refine cnd_t ?_|refine cnd_f ?_|refine gd_tt ?_|refine gd_ff ?_|refine gd_tf ?_|refine gd_ft ?_|refine gd_u ?_|refine pick_t ?_|refine pick_f ?_|refine not_t ?_|refine not_f ?_|refine nil_i ?_|refine ret1 ?_|refine ret2 ?_|refine ret0 ?_|refine ret3 ?_|refine ex2_0 ?_|refine ex2_1 ?_|refine ex3_0 ?_|refine ex3_1 ?_|refine ex3_2 ?_)
        (first | with_reducible refine ldi_i t23 r3 (by assumption) (by omega) ?_ | with_reducible refine ldr_i t22 r23 (by assumption) (by omega) ?_ | with_reducible refine ldw_i t65 r71 (by assumption) (by omega) ?_ | with_reducible refine ldi_i t94 r25 (by assumption) (by omega) ?_)
        refine ⟨trivial, ?_⟩
        (with_reducible repeat first|refine mv_i ?_|refine cnd_t ?_|refine cnd_f ?_|refine gd_tt ?_|refine gd_ff ?_|refine gd_tf ?_|refine gd_ft ?_|refine gd_u ?_|refine pick_t ?_|refine pick_f ?_|refine not_t ?_|refine not_f ?_|refine nil_i ?_|refine ret1 ?_|refine ret2 ?_|refine ret0 ?_|refine ret3 ?_|refine ex2_0 ?_|refine ex2_1 ?_|refine ex3_0 ?_|refine ex3_1 ?_|refine ex3_2 ?_)
        refine geq_i (fun hc => ?_) (fun hc => ?_)
        · (with_reducible repeat first|refine mv_i ?_|refine cnd_t ?_|refine cnd_f ?_|refine gd_tt ?_|refine gd_ff ?_|refine gd_tf ?_|refine gd_ft ?_|refine gd_u ?_|refine pick_t ?_|refine pick_f ?_|refine not_t ?_|refine not_f ?_|refine nil_i ?_|refine ret1 ?_|refine ret2 ?_|refine ret0 ?_|refine ret3 ?_|refine ex2_0 ?_|refine ex2_1 ?_|refine ex3_0 ?_|refine ex3_1 ?_|refine ex3_2 ?_)
          refine ⟨?_, rfl⟩
          rw [tErr_some hJ (by omega) (e := 14)]
          unfold tErrAt
          rw [if_neg (by rw [hr]; simp), if_pos ⟨by omega, hc⟩]
        · (with_reducible repeat first|refine mv_i ?_|refine cnd_t ?_|refine cnd_f ?_|refine gd_tt ?_|refine gd_ff ?_|refine gd_tf ?_|refine gd_ft ?_|refine gd_u ?_|refine pick_t ?_|refine pick_f ?_|refine not_t ?_|refine not_f ?_|refine nil_i ?_|refine ret1 ?_|refine ret2 ?_|refine ret0 ?_|refine ret3 ?_|refine ex2_0 ?_|refine ex2_1 ?_|refine ex3_0 ?_|refine ex3_1 ?_|refine ex3_2 ?_)
          refine inc_i (by omega) ?_
          (with_reducible repeat first|refine mv_i ?_|refine cnd_t ?_|refine cnd_f ?_|refine gd_tt ?_|refine gd_ff ?_|refine gd_tf ?_|refine gd_ft ?_|refine gd_u ?_|refine pick_t ?_|refine pick_f ?_|refine not_t ?_|refine not_f ?_|refine nil_i ?_|refine ret1 ?_|refine ret2 ?_|refine ret0 ?_|refine ret3 ?_|refine ex2_0 ?_|refine ex2_1 ?_|refine ex3_0 ?_|refine ex3_1 ?_|refine ex3_2 ?_)
          refine next1 (by omega) ⟨rfl, next ?_⟩
          unfold tErrAt
          rw [if_neg (by rw [hr]; simp), if_neg (fun hh => hc hh.2)]
      · (with_reducible repeat first|refine mv_i ?_|refine cnd_t ?_|refine cnd_f ?_|refine gd_tt ?_|refine gd_ff ?_|refine gd_tf ?_|refine gd_ft ?_|refine gd_u ?_|refine pick_t ?_|refine pick_f ?_|refine not_t ?_|refine not_f ?_|refine nil_i ?_|refine ret1 ?_|refine ret2 ?_|refine ret0 ?_|refine ret3 ?_|refine ex2_0 ?_|refine ex2_1 ?_|refine ex3_0 ?_|refine ex3_1 ?_|refine ex3_2 ?_)
        refine inc_i (by omega) ?_
        (with_reducible repeat first|refine mv_i ?_|refine cnd_t ?_|refine cnd_f ?_|refine gd_tt ?_|refine gd_ff ?_|refine gd_tf ?_|refine gd_ft ?_|refine gd_u ?_|refine pick_t ?_|refine pick_f ?_|refine not_t ?_|refine not_f ?_|refine nil_i ?_|refine ret1 ?_|refine ret2 ?_|refine ret0 ?_|refine ret3 ?_|refine ex2_0 ?_|refine ex2_1 ?_|refine ex3_0 ?_|refine ex3_1 ?_|refine ex3_2 ?_)
        refine next1 (by omega) ⟨rfl, next ?_⟩
        unfold tErrAt
        rw [if_neg (by rw [hr]; simp), if_neg (fun hh => h0 (by omega))]
  · (with_reducible repeat first|refine mv_i ?_|refine cnd_t ?_|refine cnd_f ?_|refine gd_tt ?_|refine gd_ff ?_|refine gd_tf ?_|refine gd_ft ?_|refine gd_u ?_|refine pick_t ?_|refine pick_f ?_|refine not_t ?_|refine not_f ?_|refine nil_i ?_|refine ret1 ?_|refine ret2 ?_|refine ret0 ?_|refine ret3 ?_|refine ex2_0 ?_|refine ex2_1 ?_|refine ex3_0 ?_|refine ex3_1 ?_|refine ex3_2 ?_)
    exact ⟨by rw [tErr_none (fun j hj => hJ j (by omega))], rfl⟩
theorem c35 {a : Value} {xs : List Int} (s : IntS h a xs) : Runs Try.prog 35 [a] h (.int .i64 (tErr xs)) h := by
  have lt := s.lt
  refine DetP.runs (w35 ?_)
  unfold n35
  (with_reducible repeat first|refine mv_i ?_|refine cnd_t ?_|refine cnd_f ?_|refine gd_tt ?_|refine gd_ff ?_|refine gd_tf ?_|refine gd_ft ?_|refine gd_u ?_|refine pick_t ?_|refine pick_f ?_|refine not_t ?_|refine not_f ?_|refine nil_i ?_|refine ret1 ?_|refine ret2 ?_|refine ret0 ?_|refine ret3 ?_|refine ex2_0 ?_|refine ex2_1 ?_|refine ex3_0 ?_|refine ex3_1 ?_|refine ex3_2 ?_)
  (first | with_reducible refine leni_i t23 (by assumption) ?_ | with_reducible refine lenr_i t22 (by assumption) ?_ | with_reducible refine lenw_i t65 (by assumption) ?_ | with_reducible refine leni_i t94 (by assumption) ?_)
  (with_reducible repeat first|refine mv_i ?_|refine cnd_t ?_|refine cnd_f ?_|refine gd_tt ?_|refine gd_ff ?_|refine gd_tf ?_|refine gd_ft ?_|refine gd_u ?_|refine pick_t ?_|refine pick_f ?_|refine not_t ?_|refine not_f ?_|refine nil_i ?_|refine ret1 ?_|refine ret2 ?_|refine ret0 ?_|refine ret3 ?_|refine ex2_0 ?_|refine ex2_1 ?_|refine ex3_0 ?_|refine ex3_1 ?_|refine ex3_2 ?_)
  refine loop1 xs.length (fun k h2 => h2 = h ∧ ∀ j, j < k → tErrAt xs j = none) ⟨rfl, fun j hj => by omega⟩ ?_
  rintro k _ _ hk ⟨rfl, hJ⟩
  (with_reducible repeat first|refine mv_i ?_|refine cnd_t ?_|refine cnd_f ?_|refine gd_tt ?_|refine gd_ff ?_|refine gd_tf ?_|refine gd_ft ?_|refine gd_u ?_|refine pick_t ?_|refine pick_f ?_|refine not_t ?_|refine not_f ?_|refine nil_i ?_|refine ret1 ?_|refine ret2 ?_|refine ret0 ?_|refine ret3 ?_|refine ex2_0 ?_|refine ex2_1 ?_|refine ex3_0 ?_|refine ex3_1 ?_|refine ex3_2 ?_)
  refine lss_i (fun hlt => ?_) (fun hge => ?_)
  · have next : tErrAt xs k = none → ∀ j, j < k + 1 → tErrAt xs j = none := fun e j hj => by
      by_cases q : j = k
      · subst q; exact e
      · exact hJ j (by omega)
    (with_reducible repeat first|refine mv_i ?_|refine cnd_t ?_|refine cnd_f ?_|refine gd_tt ?_|refine gd_ff ?_|refine gd_tf ?_|refine gd_ft ?_|refine gd_u ?_|refine pick_t ?_|refine pick_f ?_|refine not_t ?_|refine not_f ?_|refine nil_i ?_|refine ret1 ?_|refine ret2 ?_|refine ret0 ?_|refine ret3 ?_|refine ex2_0 ?_|refine ex2_1 ?_|refine ex3_0 ?_|refine ex3_1 ?_|refine ex3_2 ?_)
    (first | with_reducible refine idxi_i t23 (by assumption) (by omega) ?_ | with_reducible refine idxr_i t22 (by assumption) (by omega) ?_ | with_reducible refine idxw_i t65 (by assumption) (by omega) ?_ | with_reducible refine idxi_i t94 (by assumption) (by omega) ?_)
    (first | with_reducible refine ldi_i t23 r3 (by assumption) (by omega) ?_ | with_reducible refine ldr_i t22 r23 (by assumption) (by omega) ?_ | with_reducible refine ldw_i t65 r71 (by assumption) (by omega) ?_ | with_reducible refine ldi_i t94 r25 (by assumption) (by omega) ?_)
    (with_reducible repeat first|refine mv_i ?_|refine cnd_t ?_|refine cnd_f ?_|refine gd_tt ?_|refine gd_ff ?_|refine gd_tf ?_|refine gd_ft ?_|refine gd_u ?_|refine pick_t ?_|refine pick_f ?_|refine not_t ?_|refine not_f ?_|refine nil_i ?_|refine ret1 ?_|refine ret2 ?_|refine ret0 ?_|refine ret3 ?_|refine ex2_0 ?_|refine ex2_1 ?_|refine ex3_0 ?_|refine ex3_1 ?_|refine ex3_2 ?_)
    refine call_r (c58 _ _ _) ?_
    cases hr : inR (xs.getD k 0) 0 11 with
    | false =>
      (with_reducible repeat first|refine mv_i ?_|refine cnd_t ?_|refine cnd_f ?_|refine gd_tt ?_|refine gd_ff ?_|refine gd_tf ?_|refine gd_ft ?_|refine gd_u ?_|refine pick_t ?_|refine pick_f ?_|refine not_t ?_|refine not_f ?_|refine nil_i ?_|refine ret1 ?_|refine ret2 ?_|refine ret0 ?_|refine ret3 ?_|refine ex2_0 ?_|refine ex2_1 ?_|refine ex3_0 ?_|refine ex3_1 ?_|refine ex3_2 ?_)
      exact ⟨by rw [tErr_some hJ (by omega) (by unfold tErrAt; rw [if_pos hr])], rfl⟩
    | true =>
      (with_reducible repeat first|refine mv_i ?_|refine cnd_t ?_|refine cnd_f ?_|refine gd_tt ?_|refine gd_ff ?_|refine gd_tf ?_|refine gd_ft ?_|refine gd_u ?_|refine pick_t ?_|refine pick_f ?_|refine not_t ?_|refine not_f ?_|refine nil_i ?_|refine ret1 ?_|refine ret2 ?_|refine ret0 ?_|refine ret3 ?_|refine ex2_0 ?_|refine ex2_1 ?_|refine ex3_0 ?_|refine ex3_1 ?_|refine ex3_2 ?_)
      refine gtr_i (fun h0 => ?_) (fun h0 => ?_)
      · (with_reducible repeat first|refine mv_i ?_|refine cnd_t ?_|refine cnd_f ?_|refine gd_tt ?_|refine gd_ff ?_|refine gd_tf ?_|refine gd_ft ?_|refine gd_u ?_|refine pick_t ?_|refine pick_f ?_|refine not_t ?_|refine not_f ?_|refine nil_i ?_|refine ret1 ?_|refine ret2 ?_|refine ret0 ?_|refine ret3 ?_|refine ex2_0 ?_|refine ex2_1 ?_|refine ex3_0 ?_|refine ex3_1 ?_|refine ex3_2 ?_)
        refine sub_i ⟨by omega, by omega⟩ ?_
        (with_reducible repeat first|refine mv_i ?_|refine cnd_t ?_|refine cnd_f ?_|refine gd_tt ?_|refine gd_ff ?_|refine gd_tf ?_|refine gd_ft ?_|refine gd_u ?_|refine pick_t ?_|refine pick_f ?_|refine not_t ?_|refine not_f ?_|refine nil_i ?_|refine ret1 ?_|refine ret2 ?_|refine ret0 ?_|refine ret3 ?_|refine ex2_0 ?_|refine ex2_1 ?_|refine ex3_0 ?_|refine ex3_1 ?_|refine ex3_2 ?_)
        rw [show (k : Int) - 1 = ((k - 1 : Nat) : Int) by omega]
        (first | with_reducible refine idxi_i t23 (by assumption) (by omega) ?_ | with_reducible refine idxr_i t22 (by assumption) (by omega) ?_ | with_reducible refine idxw_i t65 (by assumption) (by omega) ?_ | with_reducible refine idxi_i t94 (by assumption) (by omega) ?_)
        (with_reducible repeat first|refine mv_i ?_|refine cnd_t ?_|refine cnd_f ?_|refine gd_tt ?_|refine gd_ff ?_|refine gd_tf ?_|refine gd_ft ?_|refine gd_u ?_|refine pick_t ?_|refine pick_f ?_|refine not_t ?_|refine not_f ?_|refine nil_i ?_|refine ret1 ?_|refine ret2 ?_|refine ret0 ?_|refine ret3 ?_|refine ex2_0 ?_|refine ex2_1 ?_|refine ex3_0 ?_|refine ex3_1 ?_|refine ex3_2 ?_)
        (first | with_reducible refine ldi_i t23 r3 (by assumption) (by omega) ?_ | with_reducible refine ldr_i t22 r23 (by assumption) (by omega) ?_ | with_reducible refine ldw_i t65 r71 (by assumption) (by omega) ?_ | with_reducible refine ldi_i t94 r25 (by assumption) (by omega) ?_)
        (with_reducible repeat first|refine mv_i ?_|refine cnd_t ?_|refine cnd_f ?_|refine gd_tt ?_|refine gd_ff ?_|refine gd_tf ?_|refine gd_ft ?_|refine gd_u ?_|refine pick_t ?_|refine pick_f ?_|refine not_t ?_|refine not_f ?_|refine nil_i ?_|refine ret1 ?_|refine ret2 ?_|refine ret0 ?_|refine ret3 ?_|refine ex2_0 ?_|refine ex2_1 ?_|refine ex3_0 ?_|refine ex3_1 ?_|refine ex3_2 ?_)
        refine leq_i (fun hc => ?_) (fun hc => ?_)
        · (with_reducible repeat first|refine mv_i ?_|refine cnd_t ?_|refine cnd_f ?_|refine gd_tt ?_|refine gd_ff ?_|refine gd_tf ?_|refine gd_ft ?_|refine gd_u ?_|refine pick_t ?_|refine pick_f ?_|refine not_t ?_|refine not_f ?_|refine nil_i ?_|refine ret1 ?_|refine ret2 ?_|refine ret0 ?_|refine ret3 ?_|refine ex2_0 ?_|refine ex2_1 ?_|refine ex3_0 ?_|refine ex3_1 ?_|refine ex3_2 ?_)
          refine ⟨?_, rfl⟩
          rw [tErr_some hJ (by omega) (e := 14)]
          unfold tErrAt
          rw [if_neg (by rw [hr]; simp), if_pos ⟨by omega, hc⟩]
        · (with_reducible repeat first|refine mv_i ?_|refine cnd_t ?_|refine cnd_f ?_|refine gd_tt ?_|refine gd_ff ?_|refine gd_tf ?_|refine gd_ft ?_|refine gd_u ?_|refine pick_t ?_|refine pick_f ?_|refine not_t ?_|refine not_f ?_|refine nil_i ?_|refine ret1 ?_|refine ret2 ?_|refine ret0 ?_|refine ret3 ?_|refine ex2_0 ?_|refine ex2_1 ?_|refine ex3_0 ?_|refine ex3_1 ?_|refine ex3_2 ?_)
          refine inc_i (by omega) ?_
          (with_reducible repeat first|refine mv_i ?_|refine cnd_t ?_|refine cnd_f ?_|refine gd_tt ?_|refine gd_ff ?_|refine gd_tf ?_|refine gd_ft ?_|refine gd_u ?_|refine pick_t ?_|refine pick_f ?_|refine not_t ?_|refine not_f ?_|refine nil_i ?_|refine ret1 ?_|refine ret2 ?_|refine ret0 ?_|refine ret3 ?_|refine ex2_0 ?_|refine ex2_1 ?_|refine ex3_0 ?_|refine ex3_1 ?_|refine ex3_2 ?_)
          refine next1 (by omega) ⟨rfl, next ?_⟩
          unfold tErrAt
          rw [if_neg (by rw [hr]; simp), if_neg (fun hh => hc hh.2)]
      · (with_reducible repeat first|refine mv_i ?_|refine cnd_t ?_|refine cnd_f ?_|refine gd_tt ?_|refine gd_ff ?_|refine gd_tf ?_|refine gd_ft ?_|refine gd_u ?_|refine pick_t ?_|refine pick_f ?_|refine not_t ?_|refine not_f ?_|refine nil_i ?_|refine ret1 ?_|refine ret2 ?_|refine ret0 ?_|refine ret3 ?_|refine ex2_0 ?_|refine ex2_1 ?_|refine ex3_0 ?_|refine ex3_1 ?_|refine ex3_2 ?_)
        refine inc_i (by omega) ?_
        (with_reducible repeat first|refine mv_i ?_|refine cnd_t ?_|refine cnd_f ?_|refine gd_tt ?_|refine gd_ff ?_|refine gd_tf ?_|refine gd_ft ?_|refine gd_u ?_|refine pick_t ?_|refine pick_f ?_|refine not_t ?_|refine not_f ?_|refine nil_i ?_|refine ret1 ?_|refine ret2 ?_|refine ret0 ?_|refine ret3 ?_|refine ex2_0 ?_|refine ex2_1 ?_|refine ex3_0 ?_|refine ex3_1 ?_|refine ex3_2 ?_)
        refine next1 (by omega) ⟨rfl, next ?_⟩
        unfold tErrAt
        rw [if_neg (by rw [hr]; simp), if_neg (fun hh => h0 (by omega))]
  · (with_reducible repeat first|refine mv_i ?_|refine cnd_t ?_|refine cnd_f ?_|refine gd_tt ?_|refine gd_ff ?_|refine gd_tf ?_|refine gd_ft ?_|refine gd_u ?_|refine pick_t ?_|refine pick_f ?_|refine not_t ?_|refine not_f ?_|refine nil_i ?_|refine ret1 ?_|refine ret2 ?_|refine ret0 ?_|refine ret3 ?_|refine ex2_0 ?_|refine ex2_1 ?_|refine ex3_0 ?_|refine ex3_1 ?_|refine ex3_2 ?_)
    exact ⟨by rw [tErr_none (fun j hj => hJ j (by omega))], rfl⟩
/-- cmp.Or -/
def nz (e : Int) : Option Int := if e = 0 then none else some e
def orOf (es : List Int) : Int := (firstOf (fun i => nz (es.getD i 0)) es.length).getD 0
theorem c37 {a : Value} {xs : List Int} (s : IntS h a xs) : Runs Try.prog 37 [a] h (.int .i64 (orOf xs)) h := by
  have lt := s.lt
  refine DetP.runs (w37 ?_)
  unfold n37
  (with_reducible repeat first|refine mv_i ?_|refine cnd_t ?_|refine cnd_f ?_|refine gd_tt ?_|refine gd_ff ?_|refine gd_tf ?_|refine gd_ft ?_|refine gd_u ?_|refine pick_t ?_|refine pick_f ?_|refine not_t ?_|refine not_f ?_|refine nil_i ?_|refine ret1 ?_|refine ret2 ?_|refine ret0 ?_|refine ret3 ?_|refine ex2_0 ?_|refine ex2_1 ?_|refine ex3_0 ?_|refine ex3_1 ?_|refine ex3_2 ?_)
  (first | with_reducible refine leni_i t23 (by assumption) ?_ | with_reducible refine lenr_i t22 (by assumption) ?_ | with_reducible refine lenw_i t65 (by assumption) ?_ | with_reducible refine leni_i t94 (by assumption) ?_)
  (with_reducible repeat first|refine mv_i ?_|refine cnd_t ?_|refine cnd_f ?_|refine gd_tt ?_|refine gd_ff ?_|refine gd_tf ?_|refine gd_ft ?_|refine gd_u ?_|refine pick_t ?_|refine pick_f ?_|refine not_t ?_|refine not_f ?_|refine nil_i ?_|refine ret1 ?_|refine ret2 ?_|refine ret0 ?_|refine ret3 ?_|refine ex2_0 ?_|refine ex2_1 ?_|refine ex3_0 ?_|refine ex3_1 ?_|refine ex3_2 ?_)
  refine loop1 xs.length (fun k h2 => h2 = h ∧ ∀ j, j < k → nz (xs.getD j 0) = none) ⟨rfl, fun j hj => by omega⟩ ?_
  rintro k _ _ hk ⟨rfl, hJ⟩
  (with_reducible repeat first|refine mv_i ?_|refine cnd_t ?_|refine cnd_f ?_|refine gd_tt ?_|refine gd_ff ?_|refine gd_tf ?_|refine gd_ft ?_|refine gd_u ?_|refine pick_t ?_|refine pick_f ?_|refine not_t ?_|refine not_f ?_|refine nil_i ?_|refine ret1 ?_|refine ret2 ?_|refine ret0 ?_|refine ret3 ?_|refine ex2_0 ?_|refine ex2_1 ?_|refine ex3_0 ?_|refine ex3_1 ?_|refine ex3_2 ?_)
  refine lss_i (fun hlt => ?_) (fun hge => ?_)
  · (with_reducible repeat first|refine mv_i ?_|refine cnd_t ?_|refine cnd_f ?_|refine gd_tt ?_|refine gd_ff ?_|refine gd_tf ?_|refine gd_ft ?_|refine gd_u ?_|refine pick_t ?_|refine pick_f ?_|refine not_t ?_|refine not_f ?_|refine nil_i ?_|refine ret1 ?_|refine ret2 ?_|refine ret0 ?_|refine ret3 ?_|refine ex2_0 ?_|refine ex2_1 ?_|refine ex3_0 ?_|refine ex3_1 ?_|refine ex3_2 ?_)
    (first | with_reducible refine idxi_i t23 (by assumption) (by omega) ?_ | with_reducible refine idxr_i t22 (by assumption) (by omega) ?_ | with_reducible refine idxw_i t65 (by assumption) (by omega) ?_ | with_reducible refine idxi_i t94 (by assumption) (by omega) ?_)
    (first | with_reducible refine ldi_i t23 r3 (by assumption) (by omega) ?_ | with_reducible refine ldr_i t22 r23 (by assumption) (by omega) ?_ | with_reducible refine ldw_i t65 r71 (by assumption) (by omega) ?_ | with_reducible refine ldi_i t94 r25 (by assumption) (by omega) ?_)
    (with_reducible repeat first|refine mv_i ?_|refine cnd_t ?_|refine cnd_f ?_|refine gd_tt ?_|refine gd_ff ?_|refine gd_tf ?_|refine gd_ft ?_|refine gd_u ?_|refine pick_t ?_|refine pick_f ?_|refine not_t ?_|refine not_f ?_|refine nil_i ?_|refine ret1 ?_|refine ret2 ?_|refine ret0 ?_|refine ret3 ?_|refine ex2_0 ?_|refine ex2_1 ?_|refine ex3_0 ?_|refine ex3_1 ?_|refine ex3_2 ?_)
    refine neq_i (fun he => ?_) (fun he => ?_)
    · (with_reducible repeat first|refine mv_i ?_|refine cnd_t ?_|refine cnd_f ?_|refine gd_tt ?_|refine gd_ff ?_|refine gd_tf ?_|refine gd_ft ?_|refine gd_u ?_|refine pick_t ?_|refine pick_f ?_|refine not_t ?_|refine not_f ?_|refine nil_i ?_|refine ret1 ?_|refine ret2 ?_|refine ret0 ?_|refine ret3 ?_|refine ex2_0 ?_|refine ex2_1 ?_|refine ex3_0 ?_|refine ex3_1 ?_|refine ex3_2 ?_)
      refine inc_i (by omega) ?_
      (with_reducible repeat first|refine mv_i ?_|refine cnd_t ?_|refine cnd_f ?_|refine gd_tt ?_|refine gd_ff ?_|refine gd_tf ?_|refine gd_ft ?_|refine gd_u ?_|refine pick_t ?_|refine pick_f ?_|refine not_t ?_|refine not_f ?_|refine nil_i ?_|refine ret1 ?_|refine ret2 ?_|refine ret0 ?_|refine ret3 ?_|refine ex2_0 ?_|refine ex2_1 ?_|refine ex3_0 ?_|refine ex3_1 ?_|refine ex3_2 ?_)
      refine next1 (by omega) ⟨rfl, fun j hj => ?_⟩
      by_cases q : j = k
      · subst q; unfold nz; rw [if_pos he]
      · exact hJ j (by omega)
    · (with_reducible repeat first|refine mv_i ?_|refine cnd_t ?_|refine cnd_f ?_|refine gd_tt ?_|refine gd_ff ?_|refine gd_tf ?_|refine gd_ft ?_|refine gd_u ?_|refine pick_t ?_|refine pick_f ?_|refine not_t ?_|refine not_f ?_|refine nil_i ?_|refine ret1 ?_|refine ret2 ?_|refine ret0 ?_|refine ret3 ?_|refine ex2_0 ?_|refine ex2_1 ?_|refine ex3_0 ?_|refine ex3_1 ?_|refine ex3_2 ?_)
      refine ⟨?_, rfl⟩
      unfold orOf
      rw [firstOf_some (f := fun i => nz (xs.getD i 0)) hJ (by omega) (by unfold nz; exact if_neg he)]
      rfl
  · (with_reducible repeat first|refine mv_i ?_|refine cnd_t ?_|refine cnd_f ?_|refine gd_tt ?_|refine gd_ff ?_|refine gd_tf ?_|refine gd_ft ?_|refine gd_u ?_|refine pick_t ?_|refine pick_f ?_|refine not_t ?_|refine not_f ?_|refine nil_i ?_|refine ret1 ?_|refine ret2 ?_|refine ret0 ?_|refine ret3 ?_|refine ex2_0 ?_|refine ex2_1 ?_|refine ex3_0 ?_|refine ex3_1 ?_|refine ex3_2 ?_)
    refine ⟨?_, rfl⟩
    unfold orOf
    rw [firstOf_none (f := fun i => nz (xs.getD i 0)) (fun j hj => hJ j (by omega))]
    rfl
theorem or2 (a b : Int) : orOf [a, b] = if a = 0 then b else a := by
  have e : List.range 2 = [0, 1] := rfl
  simp only [orOf, List.length_cons, List.length_nil, firstOf, nz]
  by_cases ha : a = 0 <;> by_cases hb : b = 0 <;> simp [ha, hb, e]
theorem or3 (a b c : Int) : orOf [a, b, c] = if a = 0 then (if b = 0 then c else b) else a := by
  have e : List.range 3 = [0, 1, 2] := rfl
  simp only [orOf, List.length_cons, List.length_nil, firstOf, nz]
  by_cases ha : a = 0 <;> by_cases hb : b = 0 <;> by_cases hc : c = 0 <;> simp [ha, hb, hc, e]
theorem bs94_2 (a b : Int) (h : Heap) : aBuildSlice Try.prog 94 2 [(0, .int .i64 a), (1, .int .i64 b)] h = some (.slice (some ⟨h.length, 0, none⟩) 2 3, newArr h [.int .i64 a, .int .i64 b] 1) := by kernel_rfl
theorem bs94_3 (a b c : Int) (h : Heap) : aBuildSlice Try.prog 94 3 [(0, .int .i64 a), (1, .int .i64 b), (2, .int .i64 c)] h = some (.slice (some ⟨h.length, 0, none⟩) 3 4, newArr h [.int .i64 a, .int .i64 b, .int .i64 c] 1) := by kernel_rfl
theorem bs23_1 (a : Int) (h : Heap) : aBuildSlice Try.prog 23 1 [(0, .int .i64 a)] h = some (.slice (some ⟨h.length, 0, none⟩) 1 2, newArr h [.int .i64 a] 1) := by kernel_rfl
theorem bs23_0 (h : Heap) : aBuildSlice Try.prog 23 0 [] h = some (.slice (some ⟨h.length, 0, none⟩) 0 1, newArr h [] 1) := by kernel_rfl
theorem bs65_1 (a : Int) (h : Heap) : aBuildSlice Try.prog 65 1 [(0, .int .u64 a)] h = some (.slice (some ⟨h.length, 0, none⟩) 1 2, newArr h [.int .u64 a] 1) := by kernel_rfl
theorem bs22_1 (o : Option Addr) (l c : Nat) (h : Heap) : aBuildSlice Try.prog 22 1 [(0, .slice o l c)] h = some (.slice (some ⟨h.length, 0, none⟩) 1 2, newArr h [.slice o l c] 1) := by kernel_rfl

/-! ### errors of tables -/
def rErr (xs : List Int) : Int := if xs.length = 0 then 1 else tErr xs
def rowAt (xss : List (List Int)) (i : Nat) : Option (Int × Int) := if rErr (xss.getD i []) = 0 then none else some ((i : Int), rErr (xss.getD i []))
def tabErr (xss : List (List Int)) : Int × Int := if 12 < xss.length then (0, 2) else (firstOf (rowAt xss) xss.length).getD (0, 0)
theorem tabErr_none {xss : List (List Int)} (hl : ¬ 12 < xss.length) (hf : ∀ j, j < xss.length → rowAt xss j = none) : tabErr xss = (0, 0) := by unfold tabErr; rw [if_neg hl, firstOf_none hf]; rfl
theorem tabErr_some {xss : List (List Int)} {k : Nat} {e : Int × Int} (hl : ¬ 12 < xss.length) (hf : ∀ j, j < k → rowAt xss j = none) (hk : k < xss.length) (he : rowAt xss k = some e) : tabErr xss = e := by unfold tabErr; rw [if_neg hl, firstOf_some hf hk he]; rfl
def pairV (p : Int × Int) : Value := .tuple #[.int .i64 p.1, .int .i64 p.2]
theorem c14 {a : Value} {xss : List (List Int)} (s : RowsS h a xss) : Runs Try.prog 14 [a] h (pairV (tabErr xss)) h := by
  have lt := s.lt
  refine DetP.runs (w14 ?_)
  unfold n14
  (with_reducible repeat first|refine mv_i ?_|refine cnd_t ?_|refine cnd_f ?_|refine gd_tt ?_|refine gd_ff ?_|refine gd_tf ?_|refine gd_ft ?_|refine gd_u ?_|refine pick_t ?_|refine pick_f ?_|refine not_t ?_|refine not_f ?_|refine nil_i ?_|refine ret1 ?_|refine ret2 ?_|refine ret0 ?_|refine ret3 ?_|refine ex2_0 ?_|refine ex2_1 ?_|refine ex3_0 ?_|refine ex3_1 ?_|refine ex3_2 ?_)
  (first | with_reducible refine leni_i t23 (by assumption) ?_ | with_reducible refine lenr_i t22 (by assumption) ?_ | with_reducible refine lenw_i t65 (by assumption) ?_ | with_reducible refine leni_i t94 (by assumption) ?_)
  refine gtr_i (fun hg => ?_) (fun hg => ?_)
  · (with_reducible repeat first|refine mv_i ?_|refine cnd_t ?_|refine cnd_f ?_|refine gd_tt ?_|refine gd_ff ?_|refine gd_tf ?_|refine gd_ft ?_|refine gd_u ?_|refine pick_t ?_|refine pick_f ?_|refine not_t ?_|refine not_f ?_|refine nil_i ?_|refine ret1 ?_|refine ret2 ?_|refine ret0 ?_|refine ret3 ?_|refine ex2_0 ?_|refine ex2_1 ?_|refine ex3_0 ?_|refine ex3_1 ?_|refine ex3_2 ?_)
    exact ⟨by unfold tabErr; rw [if_pos (by omega)]; rfl, rfl⟩
  · (with_reducible repeat first|refine mv_i ?_|refine cnd_t ?_|refine cnd_f ?_|refine gd_tt ?_|refine gd_ff ?_|refine gd_tf ?_|refine gd_ft ?_|refine gd_u ?_|refine pick_t ?_|refine pick_f ?_|refine not_t ?_|refine not_f ?_|refine nil_i ?_|refine ret1 ?_|refine ret2 ?_|refine ret0 ?_|refine ret3 ?_|refine ex2_0 ?_|refine ex2_1 ?_|refine ex3_0 ?_|refine ex3_1 ?_|refine ex3_2 ?_)
    refine loop1 xss.length (fun k h2 => h2 = h ∧ ∀ j, j < k → rowAt xss j = none) ⟨rfl, fun j hj => by omega⟩ ?_
    rintro k _ _ hk ⟨rfl, hJ⟩
    (with_reducible repeat first|refine mv_i ?_|refine cnd_t ?_|refine cnd_f ?_|refine gd_tt ?_|refine gd_ff ?_|refine gd_tf ?_|refine gd_ft ?_|refine gd_u ?_|refine pick_t ?_|refine pick_f ?_|refine not_t ?_|refine not_f ?_|refine nil_i ?_|refine ret1 ?_|refine ret2 ?_|refine ret0 ?_|refine ret3 ?_|refine ex2_0 ?_|refine ex2_1 ?_|refine ex3_0 ?_|refine ex3_1 ?_|refine ex3_2 ?_)
    (first | with_reducible refine leni_i t23 (by assumption) ?_ | with_reducible refine lenr_i t22 (by assumption) ?_ | with_reducible refine lenw_i t65 (by assumption) ?_ | with_reducible refine leni_i t94 (by assumption) ?_)
    refine lss_i (fun hlt => ?_) (fun hge => ?_)
    · (with_reducible repeat first|refine mv_i ?_|refine cnd_t ?_|refine cnd_f ?_|refine gd_tt ?_|refine gd_ff ?_|refine gd_tf ?_|refine gd_ft ?_|refine gd_u ?_|refine pick_t ?_|refine pick_f ?_|refine not_t ?_|refine not_f ?_|refine nil_i ?_|refine ret1 ?_|refine ret2 ?_|refine ret0 ?_|refine ret3 ?_|refine ex2_0 ?_|refine ex2_1 ?_|refine ex3_0 ?_|refine ex3_1 ?_|refine ex3_2 ?_)
      (first | with_reducible refine idxi_i t23 (by assumption) (by omega) ?_ | with_reducible refine idxr_i t22 (by assumption) (by omega) ?_ | with_reducible refine idxw_i t65 (by assumption) (by omega) ?_ | with_reducible refine idxi_i t94 (by assumption) (by omega) ?_)
      refine ldr_i t22 r23 s (by omega) fun r hr => ?_
      (first | with_reducible refine leni_i t23 (by assumption) ?_ | with_reducible refine lenr_i t22 (by assumption) ?_ | with_reducible refine lenw_i t65 (by assumption) ?_ | with_reducible refine leni_i t94 (by assumption) ?_)
      refine eql_i (fun he => ?_) (fun he => ?_)
      · (with_reducible repeat first|refine mv_i ?_|refine cnd_t ?_|refine cnd_f ?_|refine gd_tt ?_|refine gd_ff ?_|refine gd_tf ?_|refine gd_ft ?_|refine gd_u ?_|refine pick_t ?_|refine pick_f ?_|refine not_t ?_|refine not_f ?_|refine nil_i ?_|refine ret1 ?_|refine ret2 ?_|refine ret0 ?_|refine ret3 ?_|refine ex2_0 ?_|refine ex2_1 ?_|refine ex3_0 ?_|refine ex3_1 ?_|refine ex3_2 ?_)
        refine ⟨?_, rfl⟩
        have e1 : rErr (xss.getD k []) = 1 := by unfold rErr; rw [if_pos (by omega)]
        rw [tabErr_some (by omega) hJ (by omega) (by unfold rowAt; rw [e1]; exact if_neg (by omega))]
        rfl
      · (with_reducible repeat first|refine mv_i ?_|refine cnd_t ?_|refine cnd_f ?_|refine gd_tt ?_|refine gd_ff ?_|refine gd_tf ?_|refine gd_ft ?_|refine gd_u ?_|refine pick_t ?_|refine pick_f ?_|refine not_t ?_|refine not_f ?_|refine nil_i ?_|refine ret1 ?_|refine ret2 ?_|refine ret0 ?_|refine ret3 ?_|refine ex2_0 ?_|refine ex2_1 ?_|refine ex3_0 ?_|refine ex3_1 ?_|refine ex3_2 ?_)
        (first | with_reducible refine idxi_i t23 (by assumption) (by omega) ?_ | with_reducible refine idxr_i t22 (by assumption) (by omega) ?_ | with_reducible refine idxw_i t65 (by assumption) (by omega) ?_ | with_reducible refine idxi_i t94 (by assumption) (by omega) ?_)
        refine ldr_i t22 r23 s (by omega) fun r hr => ?_
        refine call_r (c42 hr) ?_
        have e1 : rErr (xss.getD k []) = tErr (xss.getD k []) := by unfold rErr; rw [if_neg (by omega)]
        (with_reducible repeat first|refine mv_i ?_|refine cnd_t ?_|refine cnd_f ?_|refine gd_tt ?_|refine gd_ff ?_|refine gd_tf ?_|refine gd_ft ?_|refine gd_u ?_|refine pick_t ?_|refine pick_f ?_|refine not_t ?_|refine not_f ?_|refine nil_i ?_|refine ret1 ?_|refine ret2 ?_|refine ret0 ?_|refine ret3 ?_|refine ex2_0 ?_|refine ex2_1 ?_|refine ex3_0 ?_|refine ex3_1 ?_|refine ex3_2 ?_)
        refine neq_i (fun hz => ?_) (fun hz => ?_)
        · (with_reducible repeat first|refine mv_i ?_|refine cnd_t ?_|refine cnd_f ?_|refine gd_tt ?_|refine gd_ff ?_|refine gd_tf ?_|refine gd_ft ?_|refine gd_u ?_|refine pick_t ?_|refine pick_f ?_|refine not_t ?_|refine not_f ?_|refine nil_i ?_|refine ret1 ?_|refine ret2 ?_|refine ret0 ?_|refine ret3 ?_|refine ex2_0 ?_|refine ex2_1 ?_|refine ex3_0 ?_|refine ex3_1 ?_|refine ex3_2 ?_)
          refine inc_i (by omega) ?_
          (with_reducible repeat first|refine mv_i ?_|refine cnd_t ?_|refine cnd_f ?_|refine gd_tt ?_|refine gd_ff ?_|refine gd_tf ?_|refine gd_ft ?_|refine gd_u ?_|refine pick_t ?_|refine pick_f ?_|refine not_t ?_|refine not_f ?_|refine nil_i ?_|refine ret1 ?_|refine ret2 ?_|refine ret0 ?_|refine ret3 ?_|refine ex2_0 ?_|refine ex2_1 ?_|refine ex3_0 ?_|refine ex3_1 ?_|refine ex3_2 ?_)
          refine next1 (by omega) ⟨rfl, fun j hj => ?_⟩
          by_cases q : j = k
          · subst q; unfold rowAt; rw [e1]; exact if_pos hz
          · exact hJ j (by omega)
        · (with_reducible repeat first|refine mv_i ?_|refine cnd_t ?_|refine cnd_f ?_|refine gd_tt ?_|refine gd_ff ?_|refine gd_tf ?_|refine gd_ft ?_|refine gd_u ?_|refine pick_t ?_|refine pick_f ?_|refine not_t ?_|refine not_f ?_|refine nil_i ?_|refine ret1 ?_|refine ret2 ?_|refine ret0 ?_|refine ret3 ?_|refine ex2_0 ?_|refine ex2_1 ?_|refine ex3_0 ?_|refine ex3_1 ?_|refine ex3_2 ?_)
          refine ⟨?_, rfl⟩
          rw [tabErr_some (by omega) hJ (by omega) (by unfold rowAt; rw [e1]; exact if_neg hz)]
          rfl
    · (with_reducible repeat first|refine mv_i ?_|refine cnd_t ?_|refine cnd_f ?_|refine gd_tt ?_|refine gd_ff ?_|refine gd_tf ?_|refine gd_ft ?_|refine gd_u ?_|refine pick_t ?_|refine pick_f ?_|refine not_t ?_|refine not_f ?_|refine nil_i ?_|refine ret1 ?_|refine ret2 ?_|refine ret0 ?_|refine ret3 ?_|refine ex2_0 ?_|refine ex2_1 ?_|refine ex3_0 ?_|refine ex3_1 ?_|refine ex3_2 ?_)
      exact ⟨by rw [tabErr_none (by omega) (fun j hj => hJ j (by omega))]; rfl, rfl⟩
theorem c24 {a : Value} {xss : List (List Int)} (s : RowsS h a xss) : Runs Try.prog 24 [a] h (pairV (tabErr xss)) h := by
  have lt := s.lt
  refine DetP.forget rfl ?_
  refine w24 ?_
  unfold n24
  (with_reducible repeat first|refine mv_i ?_|refine cnd_t ?_|refine cnd_f ?_|refine gd_tt ?_|refine gd_ff ?_|refine gd_tf ?_|refine gd_ft ?_|refine gd_u ?_|refine pick_t ?_|refine pick_f ?_|refine not_t ?_|refine not_f ?_|refine nil_i ?_|refine ret1 ?_|refine ret2 ?_|refine ret0 ?_|refine ret3 ?_|refine ex2_0 ?_|refine ex2_1 ?_|refine ex3_0 ?_|refine ex3_1 ?_|refine ex3_2 ?_)
  (first | with_reducible refine leni_i t23 (by assumption) ?_ | with_reducible refine lenr_i t22 (by assumption) ?_ | with_reducible refine lenw_i t65 (by assumption) ?_ | with_reducible refine leni_i t94 (by assumption) ?_)
  refine gtr_i (fun hg => ?_) (fun hg => ?_)
  · (with_reducible repeat first|refine mv_i ?_|refine cnd_t ?_|refine cnd_f ?_|refine gd_tt ?_|refine gd_ff ?_|refine gd_tf ?_|refine gd_ft ?_|refine gd_u ?_|refine pick_t ?_|refine pick_f ?_|refine not_t ?_|refine not_f ?_|refine nil_i ?_|refine ret1 ?_|refine ret2 ?_|refine ret0 ?_|refine ret3 ?_|refine ex2_0 ?_|refine ex2_1 ?_|refine ex3_0 ?_|refine ex3_1 ?_|refine ex3_2 ?_)
    exact ⟨by unfold tabErr; rw [if_pos (by omega)]; rfl, List.prefix_refl _⟩
  · (with_reducible repeat first|refine mv_i ?_|refine cnd_t ?_|refine cnd_f ?_|refine gd_tt ?_|refine gd_ff ?_|refine gd_tf ?_|refine gd_ft ?_|refine gd_u ?_|refine pick_t ?_|refine pick_f ?_|refine not_t ?_|refine not_f ?_|refine nil_i ?_|refine ret1 ?_|refine ret2 ?_|refine ret0 ?_|refine ret3 ?_|refine ex2_0 ?_|refine ex2_1 ?_|refine ex3_0 ?_|refine ex3_1 ?_|refine ex3_2 ?_)
    (first | with_reducible refine leni_i t23 (by assumption) ?_ | with_reducible refine lenr_i t22 (by assumption) ?_ | with_reducible refine lenw_i t65 (by assumption) ?_ | with_reducible refine leni_i t94 (by assumption) ?_)
    (with_reducible repeat first|refine mv_i ?_|refine cnd_t ?_|refine cnd_f ?_|refine gd_tt ?_|refine gd_ff ?_|refine gd_tf ?_|refine gd_ft ?_|refine gd_u ?_|refine pick_t ?_|refine pick_f ?_|refine not_t ?_|refine not_f ?_|refine nil_i ?_|refine ret1 ?_|refine ret2 ?_|refine ret0 ?_|refine ret3 ?_|refine ex2_0 ?_|refine ex2_1 ?_|refine ex3_0 ?_|refine ex3_1 ?_|refine ex3_2 ?_)
    refine loop1 xss.length (fun k h2 => h <+: h2 ∧ ∀ j, j < k → rowAt xss j = none) ⟨List.prefix_refl _, fun j hj => by omega⟩ ?_
    rintro k h2 _ hk ⟨hp, hJ⟩
    have s2 := s.mono (Sub.of_pre hp)
    (with_reducible repeat first|refine mv_i ?_|refine cnd_t ?_|refine cnd_f ?_|refine gd_tt ?_|refine gd_ff ?_|refine gd_tf ?_|refine gd_ft ?_|refine gd_u ?_|refine pick_t ?_|refine pick_f ?_|refine not_t ?_|refine not_f ?_|refine nil_i ?_|refine ret1 ?_|refine ret2 ?_|refine ret0 ?_|refine ret3 ?_|refine ex2_0 ?_|refine ex2_1 ?_|refine ex3_0 ?_|refine ex3_1 ?_|refine ex3_2 ?_)
    refine lss_i (fun hlt => ?_) (fun hge => ?_)
    · (with_reducible repeat first|refine mv_i ?_|refine cnd_t ?_|refine cnd_f ?_|refine gd_tt ?_|refine gd_ff ?_|refine gd_tf ?_|refine gd_ft ?_|refine gd_u ?_|refine pick_t ?_|refine pick_f ?_|refine not_t ?_|refine not_f ?_|refine nil_i ?_|refine ret1 ?_|refine ret2 ?_|refine ret0 ?_|refine ret3 ?_|refine ex2_0 ?_|refine ex2_1 ?_|refine ex3_0 ?_|refine ex3_1 ?_|refine ex3_2 ?_)
      refine idxr_i t22 s2 (by omega) ?_
      refine ldr_i t22 r23 s2 (by omega) fun r hr => ?_
      (with_reducible repeat first|refine mv_i ?_|refine cnd_t ?_|refine cnd_f ?_|refine gd_tt ?_|refine gd_ff ?_|refine gd_tf ?_|refine gd_ft ?_|refine gd_u ?_|refine pick_t ?_|refine pick_f ?_|refine not_t ?_|refine not_f ?_|refine nil_i ?_|refine ret1 ?_|refine ret2 ?_|refine ret0 ?_|refine ret3 ?_|refine ex2_0 ?_|refine ex2_1 ?_|refine ex3_0 ?_|refine ex3_1 ?_|refine ex3_2 ?_)
      (first | with_reducible refine leni_i t23 (by assumption) ?_ | with_reducible refine lenr_i t22 (by assumption) ?_ | with_reducible refine lenw_i t65 (by assumption) ?_ | with_reducible refine leni_i t94 (by assumption) ?_)
      have both : orOf [if decide ((0 : Int) < ((xss.getD k []).length : Int)) = true then 0 else 1, tErr (xss.getD k [])] = rErr (xss.getD k []) := by
        rw [or2]
        unfold rErr
        by_cases hl : (xss.getD k []).length = 0
        · rw [if_pos hl, decide_eq_false (by omega)]; rfl
        · rw [if_neg hl, decide_eq_true (by omega)]; rfl
      refine gtr_b ?_
      refine call_r (c38 _ _) ?_
      (with_reducible repeat first|refine mv_i ?_|refine cnd_t ?_|refine cnd_f ?_|refine gd_tt ?_|refine gd_ff ?_|refine gd_tf ?_|refine gd_ft ?_|refine gd_u ?_|refine pick_t ?_|refine pick_f ?_|refine not_t ?_|refine not_f ?_|refine nil_i ?_|refine ret1 ?_|refine ret2 ?_|refine ret0 ?_|refine ret3 ?_|refine ex2_0 ?_|refine ex2_1 ?_|refine ex3_0 ?_|refine ex3_1 ?_|refine ex3_2 ?_)
      refine call_r (c35 hr) ?_
      refine ok_i (bs94_2 _ _ _) ?_
      refine call_r (c37 (xs := [_, _]) (Seg.new 3 (by rfl) (by simp))) ?_
      rw [both]
      (with_reducible repeat first|refine mv_i ?_|refine cnd_t ?_|refine cnd_f ?_|refine gd_tt ?_|refine gd_ff ?_|refine gd_tf ?_|refine gd_ft ?_|refine gd_u ?_|refine pick_t ?_|refine pick_f ?_|refine not_t ?_|refine not_f ?_|refine nil_i ?_|refine ret1 ?_|refine ret2 ?_|refine ret0 ?_|refine ret3 ?_|refine ex2_0 ?_|refine ex2_1 ?_|refine ex3_0 ?_|refine ex3_1 ?_|refine ex3_2 ?_)
      refine neq_i (fun hz => ?_) (fun hz => ?_)
      · (with_reducible repeat first|refine mv_i ?_|refine cnd_t ?_|refine cnd_f ?_|refine gd_tt ?_|refine gd_ff ?_|refine gd_tf ?_|refine gd_ft ?_|refine gd_u ?_|refine pick_t ?_|refine pick_f ?_|refine not_t ?_|refine not_f ?_|refine nil_i ?_|refine ret1 ?_|refine ret2 ?_|refine ret0 ?_|refine ret3 ?_|refine ex2_0 ?_|refine ex2_1 ?_|refine ex3_0 ?_|refine ex3_1 ?_|refine ex3_2 ?_)
        refine inc_i (by omega) ?_
        (with_reducible repeat first|refine mv_i ?_|refine cnd_t ?_|refine cnd_f ?_|refine gd_tt ?_|refine gd_ff ?_|refine gd_tf ?_|refine gd_ft ?_|refine gd_u ?_|refine pick_t ?_|refine pick_f ?_|refine not_t ?_|refine not_f ?_|refine nil_i ?_|refine ret1 ?_|refine ret2 ?_|refine ret0 ?_|refine ret3 ?_|refine ex2_0 ?_|refine ex2_1 ?_|refine ex3_0 ?_|refine ex3_1 ?_|refine ex3_2 ?_)
        refine next1 (by omega) ⟨hp.trans (pre_new _ _ _), fun j hj => ?_⟩
        by_cases q : j = k
        · subst q; unfold rowAt; exact if_pos hz
        · exact hJ j (by omega)
      · (with_reducible repeat first|refine mv_i ?_|refine cnd_t ?_|refine cnd_f ?_|refine gd_tt ?_|refine gd_ff ?_|refine gd_tf ?_|refine gd_ft ?_|refine gd_u ?_|refine pick_t ?_|refine pick_f ?_|refine not_t ?_|refine not_f ?_|refine nil_i ?_|refine ret1 ?_|refine ret2 ?_|refine ret0 ?_|refine ret3 ?_|refine ex2_0 ?_|refine ex2_1 ?_|refine ex3_0 ?_|refine ex3_1 ?_|refine ex3_2 ?_)
        refine ⟨?_, hp.trans (pre_new _ _ _)⟩
        rw [tabErr_some (by omega) hJ (by omega) (by unfold rowAt; exact if_neg hz)]
        rfl
    · (with_reducible repeat first|refine mv_i ?_|refine cnd_t ?_|refine cnd_f ?_|refine gd_tt ?_|refine gd_ff ?_|refine gd_tf ?_|refine gd_ft ?_|refine gd_u ?_|refine pick_t ?_|refine pick_f ?_|refine not_t ?_|refine not_f ?_|refine nil_i ?_|refine ret1 ?_|refine ret2 ?_|refine ret0 ?_|refine ret3 ?_|refine ex2_0 ?_|refine ex2_1 ?_|refine ex3_0 ?_|refine ex3_1 ?_|refine ex3_2 ?_)
      exact ⟨by rw [tabErr_none (by omega) (fun j hj => hJ j (by omega))]; rfl, hp⟩
end Go.Proofs.Ytkgdclcmfnhbmaa
