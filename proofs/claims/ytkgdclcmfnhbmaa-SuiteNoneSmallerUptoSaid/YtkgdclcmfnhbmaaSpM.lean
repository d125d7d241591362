import Derived.Test.YtkgdclcmfnhbmaaSpL
set_option linter.unusedSimpArgs false
set_option linter.unusedVariables false
set_option maxRecDepth 100000
namespace Go.Proofs.Ytkgdclcmfnhbmaa
open Go.AM
variable {h h' h0 : Heap}

/-! ### rows, ascending -/
def Asc (row : List Int) : Prop := ∀ k, k < row.length → ∀ y ∈ row.drop (k + 1), row.getD k 0 < y
theorem tErr_asc {xs : List Int} (he : tErr xs = 0) : Asc xs := by
  have hn : firstOf (tErrAt xs) xs.length = none := by
    cases hf : firstOf (tErrAt xs) xs.length with
    | none => rfl
    | some e =>
      exfalso
      unfold tErr at he
      rw [hf] at he
      obtain ⟨k, _, hk⟩ := firstOf_is hf
      unfold tErrAt at hk
      split at hk
      · cases hk; simp at he
      · split at hk
        · cases hk; simp at he
        · cases hk
  have adj : ∀ j, 0 < j → j < xs.length → xs.getD (j - 1) 0 < xs.getD j 0 := by
    intro j h0 hj
    have := firstOf_not hn j hj
    unfold tErrAt at this
    split at this
    · cases this
    · split at this
      · cases this
      · rename_i hc
        have : ¬ xs.getD j 0 ≤ xs.getD (j - 1) 0 := fun h => hc ⟨h0, h⟩
        omega
  have far : ∀ d k, k + d + 1 < xs.length → xs.getD k 0 < xs.getD (k + d + 1) 0 := by
    intro d
    induction d with
    | zero => intro k hk; have := adj (k + 1) (by omega) (by omega); simpa using this
    | succ d ih =>
      intro k hk
      have h1 := ih k (by omega)
      have h2 := adj (k + (d + 1) + 1) (by omega) (by omega)
      have e : k + (d + 1) + 1 - 1 = k + d + 1 := by omega
      rw [e] at h2
      omega
  intro k hk y hy
  obtain ⟨j, hj, rfl⟩ := mem_gd 0 hy
  rw [List.length_drop] at hj
  have : (xs.drop (k + 1)).getD j 0 = xs.getD (k + j + 1) 0 := by
    simp only [List.getD, List.getElem?_drop]
    rw [show k + 1 + j = k + j + 1 by omega]
  rw [this]
  exact far j k (by omega)
theorem drop_cons {row : List Int} {k : Nat} (hk : k < row.length) : row.drop k = row.getD k 0 :: row.drop (k + 1) := by
  rw [gd_at 0 hk]; exact List.drop_eq_getElem_cons hk
theorem low_bits {x : Int} {tl : List Int} (hn : ∀ y ∈ x :: tl, 0 ≤ y) (ha : ∀ y ∈ tl, x < y) : (bitsOf (x :: tl)).testBit x.toNat = true ∧ ∀ n, n < x.toNat → (bitsOf (x :: tl)).testBit n = false := by
  have hx := hn x (by simp)
  constructor
  · rw [bitsOf_test hn]; simp [Int.toNat_of_nonneg hx]
  · intro n hlt
    rw [bitsOf_test hn]
    have h1 : ¬ (n : Int) = x := by omega
    have h2 : ¬ (n : Int) ∈ tl := fun hm => by have := ha _ hm; omega
    simp [h1, h2]
theorem bits_next {x : Int} {tl : List Int} (hn : ∀ y ∈ x :: tl, 0 ≤ y) (ha : ∀ y ∈ tl, x < y) : bitsOf (x :: tl) &&& (bitsOf (x :: tl) - 1) = bitsOf tl := by
  obtain ⟨h1, h2⟩ := low_bits hn ha
  apply Nat.eq_of_testBit_eq
  intro n
  rw [low_and_pred h1 h2, bitsOf_test hn, bitsOf_test (fun y hy => hn y (by simp [hy]))]
  have hx := hn x (by simp)
  by_cases e : n = x.toNat
  · subst e
    have e1 : ((x.toNat : Nat) : Int) = x := Int.toNat_of_nonneg hx
    have : ¬ x ∈ tl := fun hm => by have := ha _ hm; omega
    rw [e1]
    simp [this]
  · have : ¬ (n : Int) = x := by omega
    simp [e, this]

/-! ### proofs read -/
def badAt (xss : List (List Int)) (ch : List Int) (p : Int) : Bool := !(inR p 0 ((xss.length : Int) - 1)) || hits (xss.getD p.toNat []) ch
def rdL (xss : List (List Int)) : Nat → List Int → List Int → Option (List Int)
  | _, _, [] => none
  | 0, ch, p :: pf => if badAt xss ch p = true then none else some pf
  | b + 1, ch, p :: pf => if badAt xss ch p = true then none else (xss.getD p.toNat []).foldlM (fun pf x => rdL xss b (ch ++ [x]) pf) pf
def rdTo (xss : List (List Int)) (b : Nat) (ch row : List Int) (k : Nat) (pf : List Int) : Option (List Int) := (row.take k).foldlM (fun pf x => rdL xss b (ch ++ [x]) pf) pf
theorem rdTo_succ {xss : List (List Int)} {b : Nat} {ch row pf : List Int} {k : Nat} (hk : k < row.length) : rdTo xss b ch row (k + 1) pf = (rdTo xss b ch row k pf).bind fun r => rdL xss b (ch ++ [row.getD k 0]) r := by
  unfold rdTo
  rw [take_gd 0 hk, List.foldlM_append]
  simp only [List.foldlM_cons, List.foldlM_nil]
  cases List.foldlM (fun pf x => rdL xss b (ch ++ [x]) pf) pf (row.take k) <;> simp
theorem rdTo_none {xss : List (List Int)} {b : Nat} {ch row pf : List Int} {k : Nat} (hn : rdTo xss b ch row k pf = none) : row.foldlM (fun pf x => rdL xss b (ch ++ [x]) pf) pf = none := by
  have e : row = row.take k ++ row.drop k := (List.take_append_drop k row).symm
  conv => lhs; rw [e]
  rw [List.foldlM_append]
  unfold rdTo at hn
  rw [hn]; rfl

theorem fa75_0 (i : Nat) : aFieldAddr Try.prog 75 (.pointer (some ⟨i, 0, none⟩)) 0 = some (.pointer (some ⟨i, 0, none⟩)) := by kernel_rfl
theorem fa75_1 (i : Nat) : aFieldAddr Try.prog 75 (.pointer (some ⟨i, 0, none⟩)) 1 = some (.pointer (some ⟨i, 1, none⟩)) := by kernel_rfl
theorem r65 : isPlain Try.prog 65 = true := by kernel_rfl
theorem s23 : szOf Try.prog 23 = some 1 := by kernel_rfl
def Ck (i : Nat) (h : Heap) (rv pv : Value) : Prop := h[i]? = some (.arr ⟨[rv, pv], 2, false⟩)
theorem Ck.lt {i : Nat} {rv pv : Value} (c : Ck i h rv pv) : i < h.length := (List.getElem?_eq_some_iff.mp c).1
theorem WS.keep {i : Nat} {v : Value} {ws : List Nat} {a : Arr} (s : WS h v ws) (k : KeptB i h h') (hi : h[i]? = some (.arr a)) (he : a.esz ≠ 1) : WS h' v ws := Seg.keep s k hi he
theorem IntS.keep {i : Nat} {v : Value} {ws : List Int} {a : Arr} (s : IntS h v ws) (k : KeptB i h h') (hi : h[i]? = some (.arr a)) (he : a.esz ≠ 1) : IntS h' v ws := Seg.keep s k hi he
def Read41 (xss : List (List Int)) (b : Nat) (ch pf : List Int) (i : Nat) (h : Heap) (rv v : Value) (h' : Heap) : Prop :=
  KeptB i h h' ∧ ∃ pv', Ck i h' rv pv' ∧ match rdL xss b ch pf with | none => v = .bool false | some rest => v = .bool true ∧ IntS h' pv' rest
def C41 (xss : List (List Int)) (b : Nat) : Prop := ∀ (h : Heap) (i : Nat) (rv pv : Value) (ch pf : List Int), Ck i h rv pv → WS h rv (xss.map bitsOf) → IntS h pv pf → Tests ch →
    DetP Try.prog 41 [.pointer (some ⟨i, 0, none⟩), .int .u64 (bitsOf ch : Nat), .int .i64 (b : Int)] h (Read41 xss b ch pf i h rv)
theorem rd_bad {xss : List (List Int)} {b : Nat} {ch pf : List Int} {p : Int} (hb : badAt xss ch p = true) : rdL xss b ch (p :: pf) = none := by cases b <;> simp [rdL, hb]
theorem c41step {xss : List (List Int)} (ht : ∀ xs ∈ xss, tErr xs = 0) (b : Nat) (hb : b ≤ 2 ^ 40) (ih : ∀ b', b = b' + 1 → C41 xss b') : C41 xss b := by
  intro h i rv pv ch pf ck sw sp hc
  have ltp := sp.lt
  have ltw := sw.lt
  refine w41 ?_
  unfold n41
  have fin : ∀ v h', Read41 xss b ch pf i h rv v h' → Read41 xss b ch pf i h rv v h' := fun _ _ h => h
  (with_reducible repeat first|refine mv_i ?_|refine cnd_t ?_|refine cnd_f ?_|refine gd_tt ?_|refine gd_ff ?_|refine gd_tf ?_|refine gd_ft ?_|refine gd_u ?_|refine pick_t ?_|refine pick_f ?_|refine not_t ?_|refine not_f ?_|refine nil_i ?_|refine ret1 ?_|refine ret2 ?_|refine ret0 ?_|refine ret3 ?_|refine ex2_0 ?_|refine ex2_1 ?_|refine ex3_0 ?_|refine ex3_1 ?_|refine ex3_2 ?_)
  refine vk_i (fa75_1 _) ?_
  refine ldc_i r23 ck rfl ?_
  refine ⟨seg_vb sp, ?_⟩
  (first | with_reducible refine leni_i t23 (by assumption) ?_ | with_reducible refine lenr_i t22 (by assumption) ?_ | with_reducible refine lenw_i t65 (by assumption) ?_ | with_reducible refine leni_i t94 (by assumption) ?_)
  cases pf with
  | nil =>
    refine eql_i (fun _ => ?_) (fun hne => absurd rfl hne)
    (with_reducible repeat first|refine mv_i ?_|refine cnd_t ?_|refine cnd_f ?_|refine gd_tt ?_|refine gd_ff ?_|refine gd_tf ?_|refine gd_ft ?_|refine gd_u ?_|refine pick_t ?_|refine pick_f ?_|refine not_t ?_|refine not_f ?_|refine nil_i ?_|refine ret1 ?_|refine ret2 ?_|refine ret0 ?_|refine ret3 ?_|refine ex2_0 ?_|refine ex2_1 ?_|refine ex3_0 ?_|refine ex3_1 ?_|refine ex3_2 ?_)
    exact ⟨KeptB.refl _ _, pv, ck, by cases b <;> simp [rdL]⟩
  | cons p pf' =>
    refine eql_i (fun he => by simp at he; omega) (fun _ => ?_)
    (with_reducible repeat first|refine mv_i ?_|refine cnd_t ?_|refine cnd_f ?_|refine gd_tt ?_|refine gd_ff ?_|refine gd_tf ?_|refine gd_ft ?_|refine gd_u ?_|refine pick_t ?_|refine pick_f ?_|refine not_t ?_|refine not_f ?_|refine nil_i ?_|refine ret1 ?_|refine ret2 ?_|refine ret0 ?_|refine ret3 ?_|refine ex2_0 ?_|refine ex2_1 ?_|refine ex3_0 ?_|refine ex3_1 ?_|refine ex3_2 ?_)
    refine vk_i (fa75_1 _) ?_
    (with_reducible repeat first|refine mv_i ?_|refine cnd_t ?_|refine cnd_f ?_|refine gd_tt ?_|refine gd_ff ?_|refine gd_tf ?_|refine gd_ft ?_|refine gd_u ?_|refine pick_t ?_|refine pick_f ?_|refine not_t ?_|refine not_f ?_|refine nil_i ?_|refine ret1 ?_|refine ret2 ?_|refine ret0 ?_|refine ret3 ?_|refine ex2_0 ?_|refine ex2_1 ?_|refine ex3_0 ?_|refine ex3_1 ?_|refine ex3_2 ?_)
    refine ldc_i r23 ck rfl ?_
    refine ⟨seg_vb sp, ?_⟩
    (with_reducible repeat first|refine mv_i ?_|refine cnd_t ?_|refine cnd_f ?_|refine gd_tt ?_|refine gd_ff ?_|refine gd_tf ?_|refine gd_ft ?_|refine gd_u ?_|refine pick_t ?_|refine pick_f ?_|refine not_t ?_|refine not_f ?_|refine nil_i ?_|refine ret1 ?_|refine ret2 ?_|refine ret0 ?_|refine ret3 ?_|refine ex2_0 ?_|refine ex2_1 ?_|refine ex3_0 ?_|refine ex3_1 ?_|refine ex3_2 ?_)
    refine idxi_i (k := 0) t23 sp (by simp) ?_
    (with_reducible repeat first|refine mv_i ?_|refine cnd_t ?_|refine cnd_f ?_|refine gd_tt ?_|refine gd_ff ?_|refine gd_tf ?_|refine gd_ft ?_|refine gd_u ?_|refine pick_t ?_|refine pick_f ?_|refine not_t ?_|refine not_f ?_|refine nil_i ?_|refine ret1 ?_|refine ret2 ?_|refine ret0 ?_|refine ret3 ?_|refine ex2_0 ?_|refine ex2_1 ?_|refine ex3_0 ?_|refine ex3_1 ?_|refine ex3_2 ?_)
    refine ldi_i (k := 0) t23 r3 sp (by simp) ?_
    refine ⟨trivial, ?_⟩
    (with_reducible repeat first|refine mv_i ?_|refine cnd_t ?_|refine cnd_f ?_|refine gd_tt ?_|refine gd_ff ?_|refine gd_tf ?_|refine gd_ft ?_|refine gd_u ?_|refine pick_t ?_|refine pick_f ?_|refine not_t ?_|refine not_f ?_|refine nil_i ?_|refine ret1 ?_|refine ret2 ?_|refine ret0 ?_|refine ret3 ?_|refine ex2_0 ?_|refine ex2_1 ?_|refine ex3_0 ?_|refine ex3_1 ?_|refine ex3_2 ?_)
    refine vk_i (fa75_0 _) ?_
    (with_reducible repeat first|refine mv_i ?_|refine cnd_t ?_|refine cnd_f ?_|refine gd_tt ?_|refine gd_ff ?_|refine gd_tf ?_|refine gd_ft ?_|refine gd_u ?_|refine pick_t ?_|refine pick_f ?_|refine not_t ?_|refine not_f ?_|refine nil_i ?_|refine ret1 ?_|refine ret2 ?_|refine ret0 ?_|refine ret3 ?_|refine ex2_0 ?_|refine ex2_1 ?_|refine ex3_0 ?_|refine ex3_1 ?_|refine ex3_2 ?_)
    refine ldc_i r65 ck rfl ?_
    refine ⟨seg_vb sw, ?_⟩
    (with_reducible repeat first|refine mv_i ?_|refine cnd_t ?_|refine cnd_f ?_|refine gd_tt ?_|refine gd_ff ?_|refine gd_tf ?_|refine gd_ft ?_|refine gd_u ?_|refine pick_t ?_|refine pick_f ?_|refine not_t ?_|refine not_f ?_|refine nil_i ?_|refine ret1 ?_|refine ret2 ?_|refine ret0 ?_|refine ret3 ?_|refine ex2_0 ?_|refine ex2_1 ?_|refine ex3_0 ?_|refine ex3_1 ?_|refine ex3_2 ?_)
    refine lenw_i t65 sw ?_
    (with_reducible repeat first|refine mv_i ?_|refine cnd_t ?_|refine cnd_f ?_|refine gd_tt ?_|refine gd_ff ?_|refine gd_tf ?_|refine gd_ft ?_|refine gd_u ?_|refine pick_t ?_|refine pick_f ?_|refine not_t ?_|refine not_f ?_|refine nil_i ?_|refine ret1 ?_|refine ret2 ?_|refine ret0 ?_|refine ret3 ?_|refine ex2_0 ?_|refine ex2_1 ?_|refine ex3_0 ?_|refine ex3_1 ?_|refine ex3_2 ?_)
    rw [List.length_map] at ltw ⊢
    refine sub_i ⟨by omega, by omega⟩ ?_
    (with_reducible repeat first|refine mv_i ?_|refine cnd_t ?_|refine cnd_f ?_|refine gd_tt ?_|refine gd_ff ?_|refine gd_tf ?_|refine gd_ft ?_|refine gd_u ?_|refine pick_t ?_|refine pick_f ?_|refine not_t ?_|refine not_f ?_|refine nil_i ?_|refine ret1 ?_|refine ret2 ?_|refine ret0 ?_|refine ret3 ?_|refine ex2_0 ?_|refine ex2_1 ?_|refine ex3_0 ?_|refine ex3_1 ?_|refine ex3_2 ?_)
    refine calld_r (c58 _ _ _) ⟨⟨[], by simp⟩, ?_⟩
    have e0 : (p :: pf').getD 0 0 = p := rfl
    rw [e0]
    cases hr : inR p 0 ((xss.length : Int) - 1) with
    | false =>
      (with_reducible repeat first|refine mv_i ?_|refine cnd_t ?_|refine cnd_f ?_|refine gd_tt ?_|refine gd_ff ?_|refine gd_tf ?_|refine gd_ft ?_|refine gd_u ?_|refine pick_t ?_|refine pick_f ?_|refine not_t ?_|refine not_f ?_|refine nil_i ?_|refine ret1 ?_|refine ret2 ?_|refine ret0 ?_|refine ret3 ?_|refine ex2_0 ?_|refine ex2_1 ?_|refine ex3_0 ?_|refine ex3_1 ?_|refine ex3_2 ?_)
      exact ⟨KeptB.refl _ _, pv, ck, by rw [rd_bad (by unfold badAt; rw [hr]; rfl)]⟩
    | true =>
      have hp : 0 ≤ p ∧ p ≤ (xss.length : Int) - 1 := by simpa [inR] using hr
      obtain ⟨q, rfl⟩ : ∃ q : Nat, p = (q : Int) := ⟨p.toNat, (Int.toNat_of_nonneg hp.1).symm⟩
      have hq : q < xss.length := by omega
      have hrow := ht _ (gd_mem [] hq)
      have hrt := tErr_ok hrow
      have hra := tErr_asc hrow
      (with_reducible repeat first|refine mv_i ?_|refine cnd_t ?_|refine cnd_f ?_|refine gd_tt ?_|refine gd_ff ?_|refine gd_tf ?_|refine gd_ft ?_|refine gd_u ?_|refine pick_t ?_|refine pick_f ?_|refine not_t ?_|refine not_f ?_|refine nil_i ?_|refine ret1 ?_|refine ret2 ?_|refine ret0 ?_|refine ret3 ?_|refine ex2_0 ?_|refine ex2_1 ?_|refine ex3_0 ?_|refine ex3_1 ?_|refine ex3_2 ?_)
      refine vk_i (fa75_0 _) ?_
      (with_reducible repeat first|refine mv_i ?_|refine cnd_t ?_|refine cnd_f ?_|refine gd_tt ?_|refine gd_ff ?_|refine gd_tf ?_|refine gd_ft ?_|refine gd_u ?_|refine pick_t ?_|refine pick_f ?_|refine not_t ?_|refine not_f ?_|refine nil_i ?_|refine ret1 ?_|refine ret2 ?_|refine ret0 ?_|refine ret3 ?_|refine ex2_0 ?_|refine ex2_1 ?_|refine ex3_0 ?_|refine ex3_1 ?_|refine ex3_2 ?_)
      refine ldc_i r65 ck rfl ?_
      refine ⟨seg_vb sw, ?_⟩
      (with_reducible repeat first|refine mv_i ?_|refine cnd_t ?_|refine cnd_f ?_|refine gd_tt ?_|refine gd_ff ?_|refine gd_tf ?_|refine gd_ft ?_|refine gd_u ?_|refine pick_t ?_|refine pick_f ?_|refine not_t ?_|refine not_f ?_|refine nil_i ?_|refine ret1 ?_|refine ret2 ?_|refine ret0 ?_|refine ret3 ?_|refine ex2_0 ?_|refine ex2_1 ?_|refine ex3_0 ?_|refine ex3_1 ?_|refine ex3_2 ?_)
      refine vk_i (fa75_1 _) ?_
      (with_reducible repeat first|refine mv_i ?_|refine cnd_t ?_|refine cnd_f ?_|refine gd_tt ?_|refine gd_ff ?_|refine gd_tf ?_|refine gd_ft ?_|refine gd_u ?_|refine pick_t ?_|refine pick_f ?_|refine not_t ?_|refine not_f ?_|refine nil_i ?_|refine ret1 ?_|refine ret2 ?_|refine ret0 ?_|refine ret3 ?_|refine ex2_0 ?_|refine ex2_1 ?_|refine ex3_0 ?_|refine ex3_1 ?_|refine ex3_2 ?_)
      refine ldc_i r23 ck rfl ?_
      refine ⟨seg_vb sp, ?_⟩
      (with_reducible repeat first|refine mv_i ?_|refine cnd_t ?_|refine cnd_f ?_|refine gd_tt ?_|refine gd_ff ?_|refine gd_tf ?_|refine gd_ft ?_|refine gd_u ?_|refine pick_t ?_|refine pick_f ?_|refine not_t ?_|refine not_f ?_|refine nil_i ?_|refine ret1 ?_|refine ret2 ?_|refine ret0 ?_|refine ret3 ?_|refine ex2_0 ?_|refine ex2_1 ?_|refine ex3_0 ?_|refine ex3_1 ?_|refine ex3_2 ?_)
      refine idxi_i (k := 0) t23 sp (by simp) ?_
      (with_reducible repeat first|refine mv_i ?_|refine cnd_t ?_|refine cnd_f ?_|refine gd_tt ?_|refine gd_ff ?_|refine gd_tf ?_|refine gd_ft ?_|refine gd_u ?_|refine pick_t ?_|refine pick_f ?_|refine not_t ?_|refine not_f ?_|refine nil_i ?_|refine ret1 ?_|refine ret2 ?_|refine ret0 ?_|refine ret3 ?_|refine ex2_0 ?_|refine ex2_1 ?_|refine ex3_0 ?_|refine ex3_1 ?_|refine ex3_2 ?_)
      refine ldi_i (k := 0) t23 r3 sp (by simp) ?_
      refine ⟨trivial, ?_⟩
      rw [e0]
      (with_reducible repeat first|refine mv_i ?_|refine cnd_t ?_|refine cnd_f ?_|refine gd_tt ?_|refine gd_ff ?_|refine gd_tf ?_|refine gd_ft ?_|refine gd_u ?_|refine pick_t ?_|refine pick_f ?_|refine not_t ?_|refine not_f ?_|refine nil_i ?_|refine ret1 ?_|refine ret2 ?_|refine ret0 ?_|refine ret3 ?_|refine ex2_0 ?_|refine ex2_1 ?_|refine ex3_0 ?_|refine ex3_1 ?_|refine ex3_2 ?_)
      refine idxw_i (k := q) t65 sw (by rw [List.length_map]; omega) ?_
      (with_reducible repeat first|refine mv_i ?_|refine cnd_t ?_|refine cnd_f ?_|refine gd_tt ?_|refine gd_ff ?_|refine gd_tf ?_|refine gd_ft ?_|refine gd_u ?_|refine pick_t ?_|refine pick_f ?_|refine not_t ?_|refine not_f ?_|refine nil_i ?_|refine ret1 ?_|refine ret2 ?_|refine ret0 ?_|refine ret3 ?_|refine ex2_0 ?_|refine ex2_1 ?_|refine ex3_0 ?_|refine ex3_1 ?_|refine ex3_2 ?_)
      refine ldw_i (k := q) t65 r71 sw (by rw [List.length_map]; omega) ?_
      refine ⟨trivial, ?_⟩
      rw [ws_gd hq]
      (with_reducible repeat first|refine mv_i ?_|refine cnd_t ?_|refine cnd_f ?_|refine gd_tt ?_|refine gd_ff ?_|refine gd_tf ?_|refine gd_ft ?_|refine gd_u ?_|refine pick_t ?_|refine pick_f ?_|refine not_t ?_|refine not_f ?_|refine nil_i ?_|refine ret1 ?_|refine ret2 ?_|refine ret0 ?_|refine ret3 ?_|refine ex2_0 ?_|refine ex2_1 ?_|refine ex3_0 ?_|refine ex3_1 ?_|refine ex3_2 ?_)
      refine and_i hrt.lt hc.lt ?_
      (with_reducible repeat first|refine mv_i ?_|refine cnd_t ?_|refine cnd_f ?_|refine gd_tt ?_|refine gd_ff ?_|refine gd_tf ?_|refine gd_ft ?_|refine gd_u ?_|refine pick_t ?_|refine pick_f ?_|refine not_t ?_|refine not_f ?_|refine nil_i ?_|refine ret1 ?_|refine ret2 ?_|refine ret0 ?_|refine ret3 ?_|refine ex2_0 ?_|refine ex2_1 ?_|refine ex3_0 ?_|refine ex3_1 ?_|refine ex3_2 ?_)
      refine neq_i (fun hz => ?_) (fun hz => ?_)
      · rw [bits_apart (nonneg hrt) (nonneg hc)] at hz
        have hh : hits (xss.getD q []) ch = false := by
          unfold hits; rw [List.any_eq_false]; intro x hx; simpa using hz x hx
        have hgood : badAt xss ch (q : Int) = false := by unfold badAt; rw [hr, Int.toNat_natCast, hh]; rfl
        (with_reducible repeat first|refine mv_i ?_|refine cnd_t ?_|refine cnd_f ?_|refine gd_tt ?_|refine gd_ff ?_|refine gd_tf ?_|refine gd_ft ?_|refine gd_u ?_|refine pick_t ?_|refine pick_f ?_|refine not_t ?_|refine not_f ?_|refine nil_i ?_|refine ret1 ?_|refine ret2 ?_|refine ret0 ?_|refine ret3 ?_|refine ex2_0 ?_|refine ex2_1 ?_|refine ex3_0 ?_|refine ex3_1 ?_|refine ex3_2 ?_)
        refine vk_i (fa75_0 _) ?_
        refine ldc_i r65 ck rfl ?_
        refine ⟨seg_vb sw, ?_⟩
        (with_reducible repeat first|refine mv_i ?_|refine cnd_t ?_|refine cnd_f ?_|refine gd_tt ?_|refine gd_ff ?_|refine gd_tf ?_|refine gd_ft ?_|refine gd_u ?_|refine pick_t ?_|refine pick_f ?_|refine not_t ?_|refine not_f ?_|refine nil_i ?_|refine ret1 ?_|refine ret2 ?_|refine ret0 ?_|refine ret3 ?_|refine ex2_0 ?_|refine ex2_1 ?_|refine ex3_0 ?_|refine ex3_1 ?_|refine ex3_2 ?_)
        refine vk_i (fa75_1 _) ?_
        refine ldc_i r23 ck rfl ?_
        refine ⟨seg_vb sp, ?_⟩
        refine idxi_i (k := 0) t23 sp (by simp) ?_
        refine ldi_i (k := 0) t23 r3 sp (by simp) ?_
        refine ⟨trivial, ?_⟩
        rw [e0]
        refine idxw_i (k := q) t65 sw (by rw [List.length_map]; omega) ?_
        refine ldw_i (k := q) t65 r71 sw (by rw [List.length_map]; omega) ?_
        refine ⟨trivial, ?_⟩
        rw [ws_gd hq]
        (with_reducible repeat first|refine mv_i ?_|refine cnd_t ?_|refine cnd_f ?_|refine gd_tt ?_|refine gd_ff ?_|refine gd_tf ?_|refine gd_ft ?_|refine gd_u ?_|refine pick_t ?_|refine pick_f ?_|refine not_t ?_|refine not_f ?_|refine nil_i ?_|refine ret1 ?_|refine ret2 ?_|refine ret0 ?_|refine ret3 ?_|refine ex2_0 ?_|refine ex2_1 ?_|refine ex3_0 ?_|refine ex3_1 ?_|refine ex3_2 ?_)
        refine vk_i (fa75_1 _) ?_
        refine ldc_i r23 ck rfl ?_
        refine tail_i t23 sp fun y sy => ?_
        (with_reducible repeat first|refine mv_i ?_|refine cnd_t ?_|refine cnd_f ?_|refine gd_tt ?_|refine gd_ff ?_|refine gd_tf ?_|refine gd_ft ?_|refine gd_u ?_|refine pick_t ?_|refine pick_f ?_|refine not_t ?_|refine not_f ?_|refine nil_i ?_|refine ret1 ?_|refine ret2 ?_|refine ret0 ?_|refine ret3 ?_|refine ex2_0 ?_|refine ex2_1 ?_|refine ex3_0 ?_|refine ex3_1 ?_|refine ex3_2 ?_)
        refine vk_i (fa75_1 _) ?_
        refine st_i s23 ck rfl (by simp) ?_ (Seg.one_slice sy) ?_
        · rcases sy.2 with ⟨_, _, rfl, _, _⟩ | ⟨_, _, _, _, rfl, _⟩ <;> rfl
        have hlen := ck.lt
        have hck : Ck i (h.set i (.arr { (⟨[rv, pv], 2, false⟩ : Arr) with cells := [rv, pv].set 1 y })) rv y := by
          unfold Ck; simp [hlen]
        have hkp := KeptB.set i h (.arr { (⟨[rv, pv], 2, false⟩ : Arr) with cells := [rv, pv].set 1 y })
        have sw2 := sw.keep hkp ck (by simp)
        have sy2 := sy.keep hkp ck (by simp)
        generalize (h.set i (.arr { (⟨[rv, pv], 2, false⟩ : Arr) with cells := [rv, pv].set 1 y })) = h2 at hck hkp sw2 sy2 ⊢
        (with_reducible repeat first|refine mv_i ?_|refine cnd_t ?_|refine cnd_f ?_|refine gd_tt ?_|refine gd_ff ?_|refine gd_tf ?_|refine gd_ft ?_|refine gd_u ?_|refine pick_t ?_|refine pick_f ?_|refine not_t ?_|refine not_f ?_|refine nil_i ?_|refine ret1 ?_|refine ret2 ?_|refine ret0 ?_|refine ret3 ?_|refine ex2_0 ?_|refine ex2_1 ?_|refine ex3_0 ?_|refine ex3_1 ?_|refine ex3_2 ?_)
        refine ⟨fun vs h3 => ∃ (k : Nat) (rest : List Int) (pv2 : Value), vs = [.int .u64 (bitsOf ((xss.getD q []).drop k) : Nat)] ∧ k ≤ (xss.getD q []).length ∧ KeptB i h h3 ∧ Ck i h3 rv pv2 ∧ IntS h3 pv2 rest ∧
          ((b = 0 ∧ rest = pf') ∨ ∃ b', b = b' + 1 ∧ rdTo xss b' ch (xss.getD q []) k pf' = some rest), fun vs _ => match vs with | [.int _ w] => w.toNat | _ => 0, ⟨0, pf', y, rfl, by omega, hkp, hck, sy2, ?_⟩, ?_⟩
        · cases b with
          | zero => exact .inl ⟨rfl, rfl⟩
          | succ b' => exact .inr ⟨b', rfl, rfl⟩
        rintro h3 _ _ ⟨k, rest, pv2, e, hk, kp3, ck3, sr3, hst⟩
        cases e
        (with_reducible repeat first|refine mv_i ?_|refine cnd_t ?_|refine cnd_f ?_|refine gd_tt ?_|refine gd_ff ?_|refine gd_tf ?_|refine gd_ft ?_|refine gd_u ?_|refine pick_t ?_|refine pick_f ?_|refine not_t ?_|refine not_f ?_|refine nil_i ?_|refine ret1 ?_|refine ret2 ?_|refine ret0 ?_|refine ret3 ?_|refine ex2_0 ?_|refine ex2_1 ?_|refine ex3_0 ?_|refine ex3_1 ?_|refine ex3_2 ?_)
        refine gtr_i (fun hpos => ?_) (fun hpos => ?_)
        · obtain ⟨b', rfl, hto⟩ : ∃ b', b = b' + 1 ∧ rdTo xss b' ch (xss.getD q []) k pf' = some rest := by
            rcases hst with ⟨rfl, _⟩ | h
            · omega
            · exact h
          (with_reducible repeat first|refine mv_i ?_|refine cnd_t ?_|refine cnd_f ?_|refine gd_tt ?_|refine gd_ff ?_|refine gd_tf ?_|refine gd_ft ?_|refine gd_u ?_|refine pick_t ?_|refine pick_f ?_|refine not_t ?_|refine not_f ?_|refine nil_i ?_|refine ret1 ?_|refine ret2 ?_|refine ret0 ?_|refine ret3 ?_|refine ex2_0 ?_|refine ex2_1 ?_|refine ex3_0 ?_|refine ex3_1 ?_|refine ex3_2 ?_)
          refine neq_i (fun hz0 => ?_) (fun hz0 => ?_)
          · -- all of the row has been
            have hkl : k = (xss.getD q []).length := by
              apply Classical.byContradiction
              intro hne
              have hlt : k < (xss.getD q []).length := by omega
              have hd := drop_cons hlt
              rw [hd] at hz0
              have hnn : ∀ y ∈ (xss.getD q []).getD k 0 :: (xss.getD q []).drop (k + 1), 0 ≤ y := fun y hy => by rw [← hd] at hy; exact nonneg hrt y (List.mem_of_mem_drop hy)
              have := (low_bits hnn (hra k hlt)).1
              have hz1 : bitsOf ((xss.getD q []).getD k 0 :: (xss.getD q []).drop (k + 1)) = 0 := by omega
              rw [hz1] at this
              simp at this
            (with_reducible repeat first|refine mv_i ?_|refine cnd_t ?_|refine cnd_f ?_|refine gd_tt ?_|refine gd_ff ?_|refine gd_tf ?_|refine gd_ft ?_|refine gd_u ?_|refine pick_t ?_|refine pick_f ?_|refine not_t ?_|refine not_f ?_|refine nil_i ?_|refine ret1 ?_|refine ret2 ?_|refine ret0 ?_|refine ret3 ?_|refine ex2_0 ?_|refine ex2_1 ?_|refine ex3_0 ?_|refine ex3_1 ?_|refine ex3_2 ?_)
            refine ⟨kp3, pv2, ck3, ?_⟩
            have hfull : rdL xss (b' + 1) ch ((q : Int) :: pf') = some rest := by
              simp only [rdL, hgood, Int.toNat_natCast]
              unfold rdTo at hto
              rw [hkl, List.take_of_length_le (Nat.le_refl _)] at hto
              simpa using hto
            rw [hfull]
            exact ⟨rfl, sr3⟩
          · have hlt : k < (xss.getD q []).length := by
              apply Classical.byContradiction
              intro hge
              rw [List.drop_of_length_le (by omega)] at hz0
              exact hz0 rfl
            have hd := drop_cons hlt
            have hnn : ∀ y ∈ (xss.getD q []).getD k 0 :: (xss.getD q []).drop (k + 1), 0 ≤ y := fun y hy => by rw [← hd] at hy; exact nonneg hrt y (List.mem_of_mem_drop hy)
            have hxt := hrt _ (gd_mem 0 hlt)
            have hwlt : bitsOf ((xss.getD q []).drop k) < 2 ^ 64 := Tests.lt fun x hx => hrt x (List.mem_of_mem_drop hx)
            have hwpos : 0 < bitsOf ((xss.getD q []).drop k) := by omega
            have hct : Tests (ch ++ [(xss.getD q []).getD k 0]) := by
              intro x hx
              rcases List.mem_append.mp hx with hx | hx
              · exact hc x hx
              · rw [List.mem_singleton.mp hx]; exact hxt
            have hsucc := rdTo_succ (xss := xss) (b := b') (ch := ch) (pf := pf') hlt
            rw [hto] at hsucc
            have hlow := low_bits hnn (hra k hlt)
            have hneg : bitsOf ((xss.getD q []).drop k) &&& (2 ^ 64 - bitsOf ((xss.getD q []).drop k)) = 2 ^ ((xss.getD q []).getD k 0).toNat := by
              rw [hd] at hwlt ⊢
              exact low_and_neg hwlt hlow.1 hlow.2
            have hnext : bitsOf ((xss.getD q []).drop k) &&& (bitsOf ((xss.getD q []).drop k) - 1) = bitsOf ((xss.getD q []).drop (k + 1)) := by
              rw [hd]; exact bits_next hnn (hra k hlt)
            (with_reducible repeat first|refine mv_i ?_|refine cnd_t ?_|refine cnd_f ?_|refine gd_tt ?_|refine gd_ff ?_|refine gd_tf ?_|refine gd_ft ?_|refine gd_u ?_|refine pick_t ?_|refine pick_f ?_|refine not_t ?_|refine not_f ?_|refine nil_i ?_|refine ret1 ?_|refine ret2 ?_|refine ret0 ?_|refine ret3 ?_|refine ex2_0 ?_|refine ex2_1 ?_|refine ex3_0 ?_|refine ex3_1 ?_|refine ex3_2 ?_)
            refine neg_i hwpos hwlt ?_
            refine and_i hwlt (by omega) ?_
            rw [hneg]
            refine or_i hc.lt (Nat.pow_lt_pow_right (by omega) (by omega)) ?_
            rw [← bitsOf_snoc]
            (with_reducible repeat first|refine mv_i ?_|refine cnd_t ?_|refine cnd_f ?_|refine gd_tt ?_|refine gd_ff ?_|refine gd_tf ?_|refine gd_ft ?_|refine gd_u ?_|refine pick_t ?_|refine pick_f ?_|refine not_t ?_|refine not_f ?_|refine nil_i ?_|refine ret1 ?_|refine ret2 ?_|refine ret0 ?_|refine ret3 ?_|refine ex2_0 ?_|refine ex2_1 ?_|refine ex3_0 ?_|refine ex3_1 ?_|refine ex3_2 ?_)
            refine sub_i ⟨by omega, by omega⟩ ?_
            have e1 : ((b' + 1 : Nat) : Int) - 1 = (b' : Int) := by omega
            rw [e1]
            refine call_i (ih b' rfl h3 i rv pv2 _ rest ck3 (sw.keep kp3 ck (by simp)) sr3 hct) ?_
            rintro v h4 ⟨kp4, pv3, ck4, hres⟩
            cases hrd : rdL xss b' (ch ++ [(xss.getD q []).getD k 0]) rest with
            | none =>
              rw [hrd] at hres
              simp only at hres
              subst hres
              (with_reducible repeat first|refine mv_i ?_|refine cnd_t ?_|refine cnd_f ?_|refine gd_tt ?_|refine gd_ff ?_|refine gd_tf ?_|refine gd_ft ?_|refine gd_u ?_|refine pick_t ?_|refine pick_f ?_|refine not_t ?_|refine not_f ?_|refine nil_i ?_|refine ret1 ?_|refine ret2 ?_|refine ret0 ?_|refine ret3 ?_|refine ex2_0 ?_|refine ex2_1 ?_|refine ex3_0 ?_|refine ex3_1 ?_|refine ex3_2 ?_)
              refine ⟨kp3.trans kp4, pv3, ck4, ?_⟩
              have hnone : rdL xss (b' + 1) ch ((q : Int) :: pf') = none := by
                simp only [rdL, hgood, Int.toNat_natCast]
                have : rdTo xss b' ch (xss.getD q []) (k + 1) pf' = none := by rw [hsucc]; simpa using hrd
                simpa using rdTo_none this
              rw [hnone]
            | some rest' =>
              rw [hrd] at hres
              simp only at hres
              obtain ⟨rfl, sr4⟩ := hres
              (with_reducible repeat first|refine mv_i ?_|refine cnd_t ?_|refine cnd_f ?_|refine gd_tt ?_|refine gd_ff ?_|refine gd_tf ?_|refine gd_ft ?_|refine gd_u ?_|refine pick_t ?_|refine pick_f ?_|refine not_t ?_|refine not_f ?_|refine nil_i ?_|refine ret1 ?_|refine ret2 ?_|refine ret0 ?_|refine ret3 ?_|refine ex2_0 ?_|refine ex2_1 ?_|refine ex3_0 ?_|refine ex3_1 ?_|refine ex3_2 ?_)
              refine dec_i hwpos hwlt ?_
              refine and_i hwlt (by omega) ?_
              rw [hnext]
              (with_reducible repeat first|refine mv_i ?_|refine cnd_t ?_|refine cnd_f ?_|refine gd_tt ?_|refine gd_ff ?_|refine gd_tf ?_|refine gd_ft ?_|refine gd_u ?_|refine pick_t ?_|refine pick_f ?_|refine not_t ?_|refine not_f ?_|refine nil_i ?_|refine ret1 ?_|refine ret2 ?_|refine ret0 ?_|refine ret3 ?_|refine ex2_0 ?_|refine ex2_1 ?_|refine ex3_0 ?_|refine ex3_1 ?_|refine ex3_2 ?_)
              refine ⟨⟨k + 1, rest', pv3, rfl, by omega, kp3.trans kp4, ck4, sr4, .inr ⟨b', rfl, ?_⟩⟩, ?_⟩
              · rw [hsucc]; simpa using hrd
              · have hdec : bitsOf ((xss.getD q []).drop (k + 1)) ≤ bitsOf ((xss.getD q []).drop k) - 1 := by rw [← hnext]; exact Nat.and_le_right
                simp only [Int.toNat_natCast]
                omega
        · obtain ⟨rfl, rfl⟩ : b = 0 ∧ rest = pf' := by
            rcases hst with h | ⟨b', rfl, _⟩
            · exact h
            · omega
          (with_reducible repeat first|refine mv_i ?_|refine cnd_t ?_|refine cnd_f ?_|refine gd_tt ?_|refine gd_ff ?_|refine gd_tf ?_|refine gd_ft ?_|refine gd_u ?_|refine pick_t ?_|refine pick_f ?_|refine not_t ?_|refine not_f ?_|refine nil_i ?_|refine ret1 ?_|refine ret2 ?_|refine ret0 ?_|refine ret3 ?_|refine ex2_0 ?_|refine ex2_1 ?_|refine ex3_0 ?_|refine ex3_1 ?_|refine ex3_2 ?_)
          refine ⟨kp3, pv2, ck3, ?_⟩
          have hfull : rdL xss 0 ch ((q : Int) :: rest) = some rest := by simp [rdL, hgood]
          rw [hfull]
          exact ⟨rfl, sr3⟩
      · rw [bits_apart (nonneg hrt) (nonneg hc)] at hz
        have hh : hits (xss.getD q []) ch = true := by
          cases e : hits (xss.getD q []) ch with
          | true => rfl
          | false =>
            exfalso
            unfold hits at e; rw [List.any_eq_false] at e
            exact hz fun x hx => by simpa using e x hx
        (with_reducible repeat first|refine mv_i ?_|refine cnd_t ?_|refine cnd_f ?_|refine gd_tt ?_|refine gd_ff ?_|refine gd_tf ?_|refine gd_ft ?_|refine gd_u ?_|refine pick_t ?_|refine pick_f ?_|refine not_t ?_|refine not_f ?_|refine nil_i ?_|refine ret1 ?_|refine ret2 ?_|refine ret0 ?_|refine ret3 ?_|refine ex2_0 ?_|refine ex2_1 ?_|refine ex3_0 ?_|refine ex3_1 ?_|refine ex3_2 ?_)
        exact ⟨KeptB.refl _ _, pv, ck, by rw [rd_bad (by unfold badAt; rw [Int.toNat_natCast, hh]; simp)]⟩
theorem c41 {xss : List (List Int)} (ht : ∀ xs ∈ xss, tErr xs = 0) : ∀ (b : Nat), b ≤ 2 ^ 40 → C41 xss b
  | 0, hb => c41step ht 0 hb fun b' e => by omega
  | b + 1, hb => c41step ht (b + 1) hb fun b' e => by
    obtain rfl : b' = b := by omega
    exact c41 ht b' (by omega)
end Go.Proofs.Ytkgdclcmfnhbmaa
