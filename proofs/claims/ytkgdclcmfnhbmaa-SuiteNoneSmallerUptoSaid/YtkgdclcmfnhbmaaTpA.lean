import Derived.Test.YtkgdclcmfnhbmaaTpF
import Derived.Test.YtkgdclcmfnhbmaaSpO
set_option linter.unusedSimpArgs false
set_option linter.unusedVariables false
set_option maxRecDepth 100000
namespace Go.Proofs.Ytkgdclcmfnhbmaa
open Go.AM
variable {h h' h0 : Heap} {K : Value → Heap → Prop}

/-! ### counting bits -/
def ones (a : Nat) : Nat := ((List.range 12).filter (a.testBit ·)).length
theorem addu_i {t : TypeId} {a b : Nat} (hk : K (.int .u64 (((a + b) % 2 ^ 64 : Nat) : Int)) h) : vK (aBin Try.prog .add t (.int .u64 (a : Int)) (.int .u64 (b : Int))) h K := by
  refine vk_i (v := .int .u64 (((a + b) % 2 ^ 64 : Nat) : Int)) ?_ hk
  simp only [aBin, aInt, true_or, if_true]
  congr 2
theorem shru_i {t : TypeId} {a n : Nat} (h1 : n < 64) (hk : K (.int .u64 ((a >>> n : Nat) : Int)) h) : vK (aBin Try.prog .shr t (.int .u64 (a : Int)) (.int .u64 (n : Int))) h K :=
  shr_i (by omega) (by omega) (by simpa using hk)
def swar (a : Nat) : Nat :=
  let x := ((a >>> 1 &&& 6148914691236517205) + (a &&& 6148914691236517205)) % 2 ^ 64
  let y := ((x >>> 2 &&& 3689348814741910323) + (x &&& 3689348814741910323)) % 2 ^ 64
  let z := (y >>> 4 + y) % 2 ^ 64 &&& 1085102592571150095
  let z2 := (z + z >>> 8) % 2 ^ 64
  let z3 := (z2 + z2 >>> 16) % 2 ^ 64
  (z3 + z3 >>> 32) % 2 ^ 64
theorem swar_all : (List.range 4096).all (fun a => Nat.beq (swar a % 128) (ones a)) = true := by decide +kernel
theorem swar_ones {a : Nat} (ha : a < 4096) : swar a % 128 = ones a := by
  have := List.all_eq_true.mp swar_all a (List.mem_range.mpr ha)
  exact Nat.eq_of_beq_eq_true this
theorem ones_le (a : Nat) : ones a ≤ 12 := by
  unfold ones
  have := List.length_filter_le (fun x => a.testBit x) (List.range 12)
  simpa using this
theorem conv105 (x : Int) (h : Heap) : aConvert Try.prog 105 3 (.int .u64 x) = some (.int .i64 (IntKind.i64.wrap x)) := by kernel_rfl
theorem and127 (x : Nat) : aBin Try.prog .and 3 (.int .i64 (IntKind.i64.wrap (x : Int))) (.int .i64 127) = some (.int .i64 ((x % 128 : Nat) : Int)) := by
  have e : (BitVec.ofInt 64 (IntKind.i64.wrap (x : Int)) &&& BitVec.ofInt 64 127).toNat = x % 128 := by
    have h1 : BitVec.ofInt 64 (IntKind.i64.wrap (x : Int)) = BitVec.ofNat 64 x := by
      apply BitVec.eq_of_toNat_eq
      simp only [BitVec.toNat_ofInt, BitVec.toNat_ofNat, IntKind.wrap, IntKind.signed, IntKind.bits]
      simp
      omega
    rw [h1, BitVec.toNat_and]
    have h2 : (BitVec.ofInt 64 127).toNat = 2 ^ 7 - 1 := rfl
    rw [h2, Nat.and_two_pow_sub_one_eq_mod, BitVec.toNat_ofNat]
    omega
  show some (Value.int .i64 (IntKind.i64.wrap ((BitVec.ofInt 64 (IntKind.i64.wrap (x : Int)) &&& BitVec.ofInt 64 127).toNat : Int))) = _
  rw [e, wrap_i64 ⟨by omega, by omega⟩]
theorem c70 {a : Nat} (ha : a < 4096) : Runs Try.prog 70 [.int .u64 (a : Int)] h (.int .i64 (ones a : Nat)) h := by
  refine DetP.runs (w70 ?_)
  unfold n70
  have m64 : ∀ x : Nat, x % 2 ^ 64 < 2 ^ 64 := fun x => Nat.mod_lt _ (by omega)
  have ha64 : a < 2 ^ 64 := by omega
  (with_reducible repeat first|refine mv_i ?_|refine cnd_t ?_|refine cnd_f ?_|refine gd_tt ?_|refine gd_ff ?_|refine gd_tf ?_|refine gd_ft ?_|refine gd_u ?_|refine pick_t ?_|refine pick_f ?_|refine not_t ?_|refine not_f ?_|refine nil_i ?_|refine ret1 ?_|refine ret2 ?_|refine ret0 ?_|refine ret3 ?_|refine ex2_0 ?_|refine ex2_1 ?_|refine ex3_0 ?_|refine ex3_1 ?_|refine ex3_2 ?_)
  refine shru_i (n := 1) (by omega) ?_
  refine and_i (b := 6148914691236517205) (shr_lt ha64) (by omega) ?_
  (with_reducible repeat first|refine mv_i ?_|refine cnd_t ?_|refine cnd_f ?_|refine gd_tt ?_|refine gd_ff ?_|refine gd_tf ?_|refine gd_ft ?_|refine gd_u ?_|refine pick_t ?_|refine pick_f ?_|refine not_t ?_|refine not_f ?_|refine nil_i ?_|refine ret1 ?_|refine ret2 ?_|refine ret0 ?_|refine ret3 ?_|refine ex2_0 ?_|refine ex2_1 ?_|refine ex3_0 ?_|refine ex3_1 ?_|refine ex3_2 ?_)
  refine and_i (b := 6148914691236517205) ha64 (by omega) ?_
  refine addu_i ?_
  (with_reducible repeat first|refine mv_i ?_|refine cnd_t ?_|refine cnd_f ?_|refine gd_tt ?_|refine gd_ff ?_|refine gd_tf ?_|refine gd_ft ?_|refine gd_u ?_|refine pick_t ?_|refine pick_f ?_|refine not_t ?_|refine not_f ?_|refine nil_i ?_|refine ret1 ?_|refine ret2 ?_|refine ret0 ?_|refine ret3 ?_|refine ex2_0 ?_|refine ex2_1 ?_|refine ex3_0 ?_|refine ex3_1 ?_|refine ex3_2 ?_)
  refine shru_i (n := 2) (by omega) ?_
  refine and_i (b := 3689348814741910323) (shr_lt (m64 _)) (by omega) ?_
  (with_reducible repeat first|refine mv_i ?_|refine cnd_t ?_|refine cnd_f ?_|refine gd_tt ?_|refine gd_ff ?_|refine gd_tf ?_|refine gd_ft ?_|refine gd_u ?_|refine pick_t ?_|refine pick_f ?_|refine not_t ?_|refine not_f ?_|refine nil_i ?_|refine ret1 ?_|refine ret2 ?_|refine ret0 ?_|refine ret3 ?_|refine ex2_0 ?_|refine ex2_1 ?_|refine ex3_0 ?_|refine ex3_1 ?_|refine ex3_2 ?_)
  refine and_i (b := 3689348814741910323) (m64 _) (by omega) ?_
  refine addu_i ?_
  (with_reducible repeat first|refine mv_i ?_|refine cnd_t ?_|refine cnd_f ?_|refine gd_tt ?_|refine gd_ff ?_|refine gd_tf ?_|refine gd_ft ?_|refine gd_u ?_|refine pick_t ?_|refine pick_f ?_|refine not_t ?_|refine not_f ?_|refine nil_i ?_|refine ret1 ?_|refine ret2 ?_|refine ret0 ?_|refine ret3 ?_|refine ex2_0 ?_|refine ex2_1 ?_|refine ex3_0 ?_|refine ex3_1 ?_|refine ex3_2 ?_)
  refine shru_i (n := 4) (by omega) ?_
  (with_reducible repeat first|refine mv_i ?_|refine cnd_t ?_|refine cnd_f ?_|refine gd_tt ?_|refine gd_ff ?_|refine gd_tf ?_|refine gd_ft ?_|refine gd_u ?_|refine pick_t ?_|refine pick_f ?_|refine not_t ?_|refine not_f ?_|refine nil_i ?_|refine ret1 ?_|refine ret2 ?_|refine ret0 ?_|refine ret3 ?_|refine ex2_0 ?_|refine ex2_1 ?_|refine ex3_0 ?_|refine ex3_1 ?_|refine ex3_2 ?_)
  refine addu_i ?_
  refine and_i (b := 1085102592571150095) (m64 _) (by omega) ?_
  (with_reducible repeat first|refine mv_i ?_|refine cnd_t ?_|refine cnd_f ?_|refine gd_tt ?_|refine gd_ff ?_|refine gd_tf ?_|refine gd_ft ?_|refine gd_u ?_|refine pick_t ?_|refine pick_f ?_|refine not_t ?_|refine not_f ?_|refine nil_i ?_|refine ret1 ?_|refine ret2 ?_|refine ret0 ?_|refine ret3 ?_|refine ex2_0 ?_|refine ex2_1 ?_|refine ex3_0 ?_|refine ex3_1 ?_|refine ex3_2 ?_)
  refine shru_i (n := 8) (by omega) ?_
  refine addu_i ?_
  (with_reducible repeat first|refine mv_i ?_|refine cnd_t ?_|refine cnd_f ?_|refine gd_tt ?_|refine gd_ff ?_|refine gd_tf ?_|refine gd_ft ?_|refine gd_u ?_|refine pick_t ?_|refine pick_f ?_|refine not_t ?_|refine not_f ?_|refine nil_i ?_|refine ret1 ?_|refine ret2 ?_|refine ret0 ?_|refine ret3 ?_|refine ex2_0 ?_|refine ex2_1 ?_|refine ex3_0 ?_|refine ex3_1 ?_|refine ex3_2 ?_)
  refine shru_i (n := 16) (by omega) ?_
  refine addu_i ?_
  (with_reducible repeat first|refine mv_i ?_|refine cnd_t ?_|refine cnd_f ?_|refine gd_tt ?_|refine gd_ff ?_|refine gd_tf ?_|refine gd_ft ?_|refine gd_u ?_|refine pick_t ?_|refine pick_f ?_|refine not_t ?_|refine not_f ?_|refine nil_i ?_|refine ret1 ?_|refine ret2 ?_|refine ret0 ?_|refine ret3 ?_|refine ex2_0 ?_|refine ex2_1 ?_|refine ex3_0 ?_|refine ex3_1 ?_|refine ex3_2 ?_)
  refine shru_i (n := 32) (by omega) ?_
  refine addu_i ?_
  (with_reducible repeat first|refine mv_i ?_|refine cnd_t ?_|refine cnd_f ?_|refine gd_tt ?_|refine gd_ff ?_|refine gd_tf ?_|refine gd_ft ?_|refine gd_u ?_|refine pick_t ?_|refine pick_f ?_|refine not_t ?_|refine not_f ?_|refine nil_i ?_|refine ret1 ?_|refine ret2 ?_|refine ret0 ?_|refine ret3 ?_|refine ex2_0 ?_|refine ex2_1 ?_|refine ex3_0 ?_|refine ex3_1 ?_|refine ex3_2 ?_)
  refine vk_i (conv105 _ h) ?_
  refine vk_i (and127 _) ?_
  (with_reducible repeat first|refine mv_i ?_|refine cnd_t ?_|refine cnd_f ?_|refine gd_tt ?_|refine gd_ff ?_|refine gd_tf ?_|refine gd_ft ?_|refine gd_u ?_|refine pick_t ?_|refine pick_f ?_|refine not_t ?_|refine not_f ?_|refine nil_i ?_|refine ret1 ?_|refine ret2 ?_|refine ret0 ?_|refine ret3 ?_|refine ex2_0 ?_|refine ex2_1 ?_|refine ex3_0 ?_|refine ex3_1 ?_|refine ex3_2 ?_)
  refine ⟨?_, rfl⟩
  have := swar_ones ha
  unfold swar at this
  rw [← this]
theorem c53 {a : Nat} (ha : a < 4096) : Runs Try.prog 53 [.int .u64 (a : Int)] h (.int .i64 (ones a : Nat)) h := by
  refine DetP.runs (w53 ?_)
  unfold n53
  (with_reducible repeat first|refine mv_i ?_|refine cnd_t ?_|refine cnd_f ?_|refine gd_tt ?_|refine gd_ff ?_|refine gd_tf ?_|refine gd_ft ?_|refine gd_u ?_|refine pick_t ?_|refine pick_f ?_|refine not_t ?_|refine not_f ?_|refine nil_i ?_|refine ret1 ?_|refine ret2 ?_|refine ret0 ?_|refine ret3 ?_|refine ex2_0 ?_|refine ex2_1 ?_|refine ex3_0 ?_|refine ex3_1 ?_|refine ex3_2 ?_)
  refine call_r (c70 ha) ?_
  (with_reducible repeat first|refine mv_i ?_|refine cnd_t ?_|refine cnd_f ?_|refine gd_tt ?_|refine gd_ff ?_|refine gd_tf ?_|refine gd_ft ?_|refine gd_u ?_|refine pick_t ?_|refine pick_f ?_|refine not_t ?_|refine not_f ?_|refine nil_i ?_|refine ret1 ?_|refine ret2 ?_|refine ret0 ?_|refine ret3 ?_|refine ex2_0 ?_|refine ex2_1 ?_|refine ex3_0 ?_|refine ex3_1 ?_|refine ex3_2 ?_)
  exact ⟨rfl, rfl⟩

/-! ### sets of tests as numbers -/
def elemsTo (w k : Nat) : List Int := ((List.range k).filter (w.testBit ·)).map fun i : Nat => (i : Int)
theorem elemsTo_succ (w k : Nat) : elemsTo w (k + 1) = if w.testBit k = true then elemsTo w k ++ [(k : Int)] else elemsTo w k := by
  unfold elemsTo
  rw [List.range_succ, List.filter_append]
  by_cases e : w.testBit k = true
  · rw [if_pos e]; simp [e]
  · rw [if_neg e]; simp [e]
theorem elemsTo_mem {w k : Nat} {x : Int} : x ∈ elemsTo w k ↔ 0 ≤ x ∧ x < k ∧ w.testBit x.toNat = true := by
  unfold elemsTo
  rw [List.mem_map]
  constructor
  · rintro ⟨i, hi, rfl⟩
    rw [List.mem_filter, List.mem_range] at hi
    exact ⟨by omega, by omega, by simpa using hi.2⟩
  · rintro ⟨h1, h2, h3⟩
    exact ⟨x.toNat, by rw [List.mem_filter, List.mem_range]; exact ⟨by omega, h3⟩, Int.toNat_of_nonneg h1⟩
def elems (w : Nat) : List Int := elemsTo w 12
theorem elems_len (w : Nat) : (elems w).length = ones w := by simp [elems, elemsTo, ones]
theorem elems_tests (w : Nat) : Tests (elems w) := by
  intro x hx
  have := elemsTo_mem.mp hx
  omega
theorem elemsTo_len (w k : Nat) : (elemsTo w k).length ≤ k := by
  unfold elemsTo
  rw [List.length_map]
  have := List.length_filter_le (fun x => w.testBit x) (List.range k)
  simpa using this
theorem bits_elems {w : Nat} (hw : w < 4096) : bitsOf (elems w) = w := by
  apply Nat.eq_of_testBit_eq
  intro n
  rw [bitsOf_test (nonneg (elems_tests w))]
  by_cases hn : n < 12
  · cases e : w.testBit n with
    | true => exact decide_eq_true (elemsTo_mem.mpr ⟨by omega, by omega, by simpa using e⟩)
    | false =>
      refine decide_eq_false fun hm => ?_
      have := (elemsTo_mem.mp hm).2.2
      simp [e] at this
  · have e : w.testBit n = false := Nat.testBit_lt_two_pow (Nat.lt_of_lt_of_le hw (show 2 ^ 12 ≤ 2 ^ n from Nat.pow_le_pow_right (by omega) (by omega)))
    rw [e]
    exact decide_eq_false fun hm => by have := (elemsTo_mem.mp hm).2.1; omega
theorem tests_lt12 {xs : List Int} (t : Tests xs) : bitsOf xs < 4096 := bitsOf_lt (m := 12) fun x hx => by have := t x hx; omega
theorem elems_bits {xs : List Int} (t : Tests xs) {x : Int} : x ∈ elems (bitsOf xs) ↔ x ∈ xs := by
  constructor
  · intro hx
    have := elemsTo_mem.mp hx
    rw [bitsOf_test (nonneg t), Int.toNat_of_nonneg this.1] at this
    simpa using this.2.2
  · intro hx
    have := t x hx
    exact elemsTo_mem.mpr ⟨by omega, by omega, by rw [bitsOf_test (nonneg t), Int.toNat_of_nonneg this.1]; simpa using hx⟩
theorem elems_nodup (w : Nat) : (elems w).Nodup := by
  unfold elems elemsTo
  refine List.Pairwise.map _ ?_ (List.Pairwise.filter _ List.nodup_range)
  intro a b hab e
  exact hab (by omega)
theorem asc_nodup : ∀ {xs : List Int}, Asc xs → xs.Nodup
  | [], _ => List.nodup_nil
  | x :: xs, ha => by
    rw [List.nodup_cons]
    refine ⟨fun hm => ?_, asc_nodup (xs := xs) fun k hk y hy => ?_⟩
    · have := ha 0 (by simp) x (by simpa using hm)
      simp at this
    · have := ha (k + 1) (by simpa using hk) y (by simpa using hy)
      simpa using this
theorem ones_bits {xs : List Int} (t : Tests xs) (ha : Asc xs) : ones (bitsOf xs) = xs.length := by
  rw [← elems_len]
  have h1 := nodup_sub (elems (bitsOf xs)) xs (elems_nodup _) (fun x hx => (elems_bits t).mp hx)
  have h2 := nodup_sub xs (elems (bitsOf xs)) (asc_nodup ha) (fun x hx => (elems_bits t).mpr hx)
  omega
theorem ones_bits_le {xs : List Int} (t : Tests xs) : ones (bitsOf xs) ≤ xs.length := by
  rw [← elems_len]
  exact nodup_sub (elems (bitsOf xs)) xs (elems_nodup _) (fun x hx => (elems_bits t).mp hx)
theorem hits_congr {row us bs : List Int} (h : ∀ x, x ∈ us ↔ x ∈ bs) : hits row us = hits row bs := by
  unfold hits
  congr 1
  funext x
  by_cases e : x ∈ us
  · rw [decide_eq_true e, decide_eq_true ((h x).mp e)]
  · rw [decide_eq_false e, decide_eq_false fun q => e ((h x).mpr q)]
theorem choice_congr {xss : List (List Int)} {us bs : List Int} (h : ∀ x, x ∈ us ↔ x ∈ bs) : isChoice xss us = isChoice xss bs := by
  unfold isChoice
  congr 1
  funext r
  exact hits_congr h
theorem elems_asc (w : Nat) : tErr (elems w) = 0 := by
  have hr : ∀ j, j < (elems w).length → 0 ≤ (elems w).getD j 0 ∧ (elems w).getD j 0 ≤ 11 := fun j hj => elems_tests w _ (gd_mem 0 hj)
  have hs : (elems w).Pairwise (· < ·) := by
    unfold elems elemsTo
    refine List.Pairwise.map _ ?_ (List.Pairwise.filter _ List.pairwise_lt_range)
    intro a b hab; omega
  refine tErr_none fun j hj => ?_
  unfold tErrAt
  have h1 := hr j hj
  have hin : inR ((elems w).getD j 0) 0 11 = true := decide_eq_true h1
  rw [hin, if_neg (by simp), if_neg ?_]
  rintro ⟨h0, hle⟩
  have := List.pairwise_iff_getElem.mp hs (j - 1) j (by omega) hj (by omega)
  rw [gd_at 0 hj, gd_at 0 (by omega)] at hle
  omega
end Go.Proofs.Ytkgdclcmfnhbmaa
