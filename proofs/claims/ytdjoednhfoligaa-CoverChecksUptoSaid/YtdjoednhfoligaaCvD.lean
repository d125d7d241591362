import Derived.Test.YtdjoednhfoligaaCvC
set_option linter.unusedSimpArgs false
set_option linter.unusedVariables false
set_option maxRecDepth 100000
namespace Go.Proofs.Ytdjoednhfoligaa
open Go.AM
variable {h h' h0 : Heap} {K : Value → Heap → Prop}

/-! ### products -/
theorem addu_i {t : TypeId} {a b : Nat} (hk : K (.int .u64 (((a + b) % 2 ^ 64 : Nat) : Int)) h) : vK (aBin Try.prog .add t (.int .u64 (a : Int)) (.int .u64 (b : Int))) h K := by
  refine vk_i (v := .int .u64 (((a + b) % 2 ^ 64 : Nat) : Int)) ?_ hk
  simp only [aBin, aInt, true_or, if_true]
  congr 2
theorem mulu_i {t : TypeId} {a b : Nat} (hk : K (.int .u64 (((a * b) % 2 ^ 64 : Nat) : Int)) h) : vK (aBin Try.prog .mul t (.int .u64 (a : Int)) (.int .u64 (b : Int))) h K := by
  refine vk_i (v := .int .u64 (((a * b) % 2 ^ 64 : Nat) : Int)) ?_ hk
  simp only [aBin, aInt, true_or, if_true]
  congr 2
theorem shru_i {t : TypeId} {a n : Nat} (h1 : n < 64) (hk : K (.int .u64 ((a >>> n : Nat) : Int)) h) : vK (aBin Try.prog .shr t (.int .u64 (a : Int)) (.int .u64 (n : Int))) h K :=
  shr_i (by omega) (by omega) (by simpa using hk)
theorem shr_lt {a n : Nat} (ha : a < 2 ^ 64) : a >>> n < 2 ^ 64 := by
  rw [Nat.shiftRight_eq_div_pow]; exact Nat.lt_of_le_of_lt (Nat.div_le_self _ _) ha
def mulHi (a b : Nat) : Nat :=
  let x0 := a &&& 4294967295
  let x1 := a >>> 32
  let y0 := b &&& 4294967295
  let y1 := b >>> 32
  let w0 := (x0 * y0) % 2 ^ 64
  let t := ((x1 * y0) % 2 ^ 64 + w0 >>> 32) % 2 ^ 64
  let w1 := ((t &&& 4294967295) + (x0 * y1) % 2 ^ 64) % 2 ^ 64
  (((x1 * y1) % 2 ^ 64 + t >>> 32) % 2 ^ 64 + w1 >>> 32) % 2 ^ 64
theorem mulHi_all : (List.range 64).all (fun n => Nat.beq (mulHi 1 n) 0) = true := by decide +kernel
theorem mulHi_zero {n : Nat} (hn : n < 64) : mulHi 1 n = 0 := Nat.eq_of_beq_eq_true (List.all_eq_true.mp mulHi_all n (List.mem_range.mpr hn))
theorem c110 {a b : Nat} (ha : a < 2 ^ 64) (hb : b < 2 ^ 64) : Runs Try.prog 110 [.int .u64 (a : Int), .int .u64 (b : Int)] h (.tuple #[.int .u64 (mulHi a b : Nat), .int .u64 ((a * b % 2 ^ 64 : Nat) : Int)]) h := by
  refine DetP.runs (w110 ?_)
  unfold n110
  have m64 : ∀ x : Nat, x % 2 ^ 64 < 2 ^ 64 := fun x => Nat.mod_lt _ (by omega)
  with_reducible (refine mv_i ?_; refine mv_i ?_; refine mv_i ?_)
  refine and_i (b := 4294967295) ha (by omega) ?_
  with_reducible (refine mv_i ?_; refine mv_i ?_)
  refine shru_i (n := 32) (by omega) ?_
  with_reducible (refine mv_i ?_; refine mv_i ?_)
  refine and_i (b := 4294967295) hb (by omega) ?_
  with_reducible (refine mv_i ?_; refine mv_i ?_)
  refine shru_i (n := 32) (by omega) ?_
  with_reducible (refine mv_i ?_; refine mv_i ?_; refine mv_i ?_)
  refine mulu_i ?_
  with_reducible (refine mv_i ?_; refine mv_i ?_; refine mv_i ?_)
  refine mulu_i ?_
  with_reducible (refine mv_i ?_)
  refine shru_i (n := 32) (by omega) ?_
  refine addu_i ?_
  with_reducible (refine mv_i ?_; refine mv_i ?_)
  refine and_i (b := 4294967295) (m64 _) (by omega) ?_
  with_reducible (refine mv_i ?_; refine mv_i ?_)
  refine shru_i (n := 32) (by omega) ?_
  with_reducible (refine mv_i ?_; refine mv_i ?_; refine mv_i ?_; refine mv_i ?_)
  refine mulu_i ?_
  refine addu_i ?_
  with_reducible (refine mv_i ?_; refine mv_i ?_; refine mv_i ?_)
  refine mulu_i ?_
  with_reducible (refine mv_i ?_)
  refine addu_i ?_
  with_reducible (refine mv_i ?_)
  refine shru_i (n := 32) (by omega) ?_
  refine addu_i ?_
  with_reducible (refine mv_i ?_; refine mv_i ?_; refine mv_i ?_)
  refine mulu_i ?_
  with_reducible (refine mv_i ?_; refine ret2 ?_)
  exact ⟨rfl, rfl⟩
theorem c96 {n : Nat} (hn : n < 64) : Runs Try.prog 96 [.int .u64 ((1 : Nat) : Int), .int .u64 (n : Int)] h (.tuple #[.int .u64 ((0 : Nat) : Int), .int .u64 (n : Int)]) h := by
  refine DetP.runs (w96 ?_)
  unfold n96
  with_reducible (refine mv_i ?_; refine mv_i ?_; refine cnd_f ?_; refine mv_i ?_; refine mv_i ?_)
  refine call_r (c110 (a := 1) (b := n) (by omega) (by omega)) ?_
  rw [mulHi_zero hn, Nat.one_mul, Nat.mod_eq_of_lt (by omega)]
  with_reducible (refine mv_i ?_; refine ex2_0 ?_; refine ex2_1 ?_; refine mv_i ?_; refine mv_i ?_; refine mv_i ?_; refine mv_i ?_; refine mv_i ?_; refine mv_i ?_; refine ret2 ?_)
  exact ⟨rfl, rfl⟩

/-! ### Repeat -/
theorem conv_u (x : Int) : aConvert Try.prog 3 139 (.int .i64 x) = some (.int .u64 (IntKind.u64.wrap x)) := by kernel_rfl
theorem conv_i (x : Int) : aConvert Try.prog 139 3 (.int .u64 x) = some (.int .i64 (IntKind.i64.wrap x)) := by kernel_rfl
def repC (x : Int) (n k : Nat) : List Value := List.replicate k (.int .i64 x) ++ List.replicate (n - k) (.int .i64 0)
theorem repC_len (x : Int) {n k : Nat} (hk : k ≤ n) : (repC x n k).length = n := by simp [repC]; omega
theorem setSeg_rep (x : Int) {n k j : Nat} (hj : k + j ≤ n) : setSeg (repC x n k) k (List.replicate j (.int .i64 x)) = repC x n (k + j) := by
  induction j generalizing k with
  | zero => rfl
  | succ j ih =>
    rw [List.replicate_succ, setSeg]
    have e : (repC x n k).set k (.int .i64 x) = repC x n (k + 1) := by
      unfold repC
      rw [List.set_append_right _ _ (by simp), List.length_replicate, Nat.sub_self]
      obtain ⟨d, hd⟩ : ∃ d, n - k = d + 1 := ⟨n - k - 1, by omega⟩
      rw [hd, List.replicate_succ, List.set_cons_zero, show n - (k + 1) = d by omega, List.replicate_succ', List.append_assoc]
      rfl
    rw [e, ih (by omega), show k + 1 + j = k + (j + 1) by omega]
theorem newArr_set (g : Heap) (cs cs' : List Value) (e : Nat) : (newArr g cs e).set g.length (.arr ⟨cs', e, false⟩) = newArr g cs' e := by
  simp only [newArr]
  rw [List.set_append_right _ _ (Nat.le_refl _), Nat.sub_self]
  rfl
theorem copy_rep {g : Heap} {i n k c c' : Nat} {x : Int} (hi : g[i]? = some (.arr ⟨repC x n k, 1, false⟩)) (h0 : 0 < k) (hk : k < n) :
    aCopy Try.prog 25 25 (.slice (some ⟨i, k, none⟩) (n - k) c) (.slice (some ⟨i, 0, none⟩) k c') g = some (.int .i64 ((Nat.min k (n - k) : Nat) : Int), g.set i (.arr ⟨repC x n (k + Nat.min k (n - k)), 1, false⟩)) := by
  obtain ⟨hu, hsz, _⟩ := sliceT_of t23
  have hpos : Nat.min k (n - k) ≠ 0 := by
    rcases Nat.le_total k (n - k) with q | q
    · rw [show Nat.min k (n - k) = k from Nat.min_eq_left q]; omega
    · rw [show Nat.min k (n - k) = n - k from Nat.min_eq_right q]; omega
  have hle : Nat.min k (n - k) ≤ k := Nat.min_le_left _ _
  have hle2 : Nat.min k (n - k) ≤ n - k := Nat.min_le_right _ _
  have hone : (List.replicate (Nat.min k (n - k)) (Value.int .i64 x)).all (·.oneCell') = true := by
    rw [List.all_eq_true]; intro v hv; rw [(List.mem_replicate.mp hv).2]; rfl
  have hxs : ((repC x n k).drop 0).take (Nat.min k (n - k) * 1) = List.replicate (Nat.min k (n - k)) (.int .i64 x) := by
    unfold repC
    rw [List.drop_zero, Nat.mul_one, List.take_append_of_le_length (by simpa using hle), List.take_replicate, Nat.min_eq_left hle]
  have hrl := repC_len x (show k ≤ n by omega)
  simp only [aCopy, hu, hsz]
  rw [if_neg hpos]
  simp only [aCells]
  rw [if_neg hpos, hi]
  simp only
  rw [if_pos (by omega), hxs]
  simp only [hi]
  rw [if_pos ⟨trivial, by simp; omega, hone⟩, setSeg_rep x (by omega)]
theorem c73 {a : Value} {x : Int} {n : Nat} (s : IntS h a [x]) (h0 : 0 < n) (hn : n < 64) : Runs Try.prog 73 [a, .int .i64 (n : Int)] h (.slice (some ⟨h.length, 0, none⟩) n (n + 1)) (newArr h (List.replicate n (.int .i64 x)) 1) := by
  refine DetP.runs (w73 ?_)
  unfold n73
  with_reducible (refine mv_i ?_)
  refine seq_J (fun _ h2 => h = h2) ?_ ?_
  rotate_left
  · intro k' hk'
    with_reducible (refine mv_i ?_)
    refine lss_i (fun q => by omega) (fun _ => ?_)
    with_reducible (refine cnd_f ?_)
    exact hk' _ _ rfl
  rintro _ _ rfl _
  with_reducible (refine mv_i ?_)
  refine leni_i t23 s ?_
  refine vk_i (conv_u _) ?_
  with_reducible (refine mv_i ?_)
  refine vk_i (conv_u _) ?_
  have e1 : IntKind.u64.wrap (([x].length : Nat) : Int) = ((1 : Nat) : Int) := rfl
  rw [e1, wrap_u64 (x := n) (by omega)]
  refine call_r (c96 hn) ?_
  with_reducible (refine mv_i ?_; refine ex2_0 ?_; refine ex2_1 ?_; refine mv_i ?_; refine mv_i ?_)
  refine seq_J (fun _ h2 => h = h2) ?_ ?_
  rotate_left
  · intro k' hk'
    with_reducible (refine mv_i ?_)
    refine gtr_i (fun q => by omega) (fun _ => ?_)
    with_reducible (refine mv_i ?_; refine gd_ff ?_; refine mv_i ?_; refine gd_ff ?_)
    refine gtr_i (fun q => by omega) (fun _ => ?_)
    with_reducible (refine pick_f ?_; refine cnd_f ?_)
    exact hk' _ _ rfl
  rintro _ _ rfl _
  with_reducible (refine mv_i ?_)
  refine vk_i (conv_i _) ?_
  rw [wrap_i64 ⟨by omega, by omega⟩]
  refine mk1_i t23 z3 (by omega) ⟨by omega, by omega⟩ ?_
  rw [Int.toNat_natCast]
  have s1 := s.mono (Sub.of_pre (pre_new h (List.replicate n (.int .i64 0)) 1))
  with_reducible (refine mv_i ?_; refine mv_i ?_; refine mv_i ?_)
  have hc1 : aCopy Try.prog 25 25 (.slice (some ⟨h.length, 0, none⟩) n (n + 1)) a (newArr h (List.replicate n (.int .i64 0)) 1) = some (.int .i64 ((1 : Nat) : Int), newArr h (repC x n 1) 1) := by
    obtain ⟨hu, hsz, _⟩ := sliceT_of t23
    have hset := setSeg_rep x (n := n) (k := 0) (j := 1) (by omega)
    rcases s1.2 with ⟨_, _, rfl, _, e0⟩ | ⟨i, o, c, ar, rfl, e1, e2, e3, e4⟩
    · simp at e0
    · have hm : Nat.min [x].length n = 1 := Nat.min_eq_left h0
      simp only [aCopy, hu, hsz, hm]
      rw [if_neg (by omega)]
      simp only [aCells]
      rw [if_neg (by omega), e1]
      simp only
      rw [if_pos (by simpa using e3)]
      simp only [List.length_singleton] at e4
      rw [e4]
      simp only [newArr_get]
      rw [if_pos ⟨trivial, by simp; omega, rfl⟩]
      have e5 : List.replicate n (Value.int .i64 0) = repC x n 0 := by simp [repC]
      have e6 : [x].map (Value.int .i64) = List.replicate 1 (.int .i64 x) := rfl
      rw [e5, e6, hset, newArr_set]
  refine ok_i hc1 ?_
  with_reducible (refine mv_i ?_)
  refine ⟨fun vs h2 => ∃ k : Nat, vs = [.int .i64 (k : Int)] ∧ 1 ≤ k ∧ k ≤ n ∧ newArr h (repC x n k) 1 = h2, fun vs _ => match vs with | [.int _ k] => n - k.toNat | _ => 0, ⟨1, rfl, by omega, by omega, rfl⟩, ?_⟩
  rintro _ _ _ ⟨k, e, hk1, hkn, rfl⟩
  cases e
  obtain ⟨hu, hsz, _⟩ := sliceT_of t23
  have hg := newArr_get h (repC x n k) 1
  with_reducible (refine mv_i ?_; refine mv_i ?_)
  refine vk_i (v := .int .i64 (n : Int)) (by simp only [aLen, hu]) ?_
  refine lss_i (fun hlt => ?_) (fun hge => ?_)
  · have hk2 : k < n := by omega
    with_reducible (refine cnd_t ?_; refine mv_i ?_; refine mv_i ?_; refine mv_i ?_)
    refine vk_i (v := .slice (some ⟨h.length, k, none⟩) (n - k) (n + 1 - k)) ?_ ?_
    · simp only [aSlice, hu, hsz, hg, if_true, aBoundO, aBound, capOf]
      rw [if_pos ⟨by omega, by omega⟩]
      simp
    refine ⟨by show h.length < (newArr h (repC x n k) 1).length; rw [newArr_length]; omega, ?_⟩
    with_reducible (refine mv_i ?_; refine mv_i ?_)
    refine vk_i (v := .slice (some ⟨h.length, 0, none⟩) k (n + 1)) ?_ ?_
    · have hcap : capOf n (n + 1) = n := by simp [capOf]
      simp only [aSlice, hu, hsz, hg, if_true, aBoundO, aBound, hcap]
      rw [if_pos ⟨by omega, by omega⟩]
      simp
    refine ⟨by show h.length < (newArr h (repC x n k) 1).length; rw [newArr_length]; omega, ?_⟩
    refine ok_i (copy_rep hg (by omega) hk2) ?_
    rw [newArr_set]
    refine ⟨trivial, ?_⟩
    have hmin : Nat.min k (n - k) ≤ n - k := Nat.min_le_right _ _
    have hpos : 0 < Nat.min k (n - k) := by
      rcases Nat.le_total k (n - k) with q | q
      · rw [show Nat.min k (n - k) = k from Nat.min_eq_left q]; omega
      · rw [show Nat.min k (n - k) = n - k from Nat.min_eq_right q]; omega
    generalize Nat.min k (n - k) = j at hmin hpos ⊢
    refine add_i ⟨by omega, by omega⟩ ?_
    have ec : (k : Int) + (j : Int) = ((k + j : Nat) : Int) := by omega
    rw [ec]
    with_reducible (refine mv_i ?_)
    refine ⟨⟨k + j, rfl, by omega, by omega, rfl⟩, ?_⟩
    simp only [Int.toNat_natCast]
    omega
  · have ek : k = n := by omega
    subst ek
    with_reducible (refine cnd_f ?_; refine mv_i ?_; refine mv_i ?_; refine ret1 ?_)
    refine ⟨rfl, ?_⟩
    simp [repC]
end Go.Proofs.Ytdjoednhfoligaa
