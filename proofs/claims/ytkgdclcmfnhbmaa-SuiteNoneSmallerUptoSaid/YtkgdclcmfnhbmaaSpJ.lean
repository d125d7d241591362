import Derived.Test.YtkgdclcmfnhbmaaSpI
set_option linter.unusedSimpArgs false
set_option linter.unusedVariables false
set_option maxRecDepth 100000
namespace Go.Proofs.Ytkgdclcmfnhbmaa
open Go.AM
variable {h h' h0 : Heap}

theorem tErr_ok {xs : List Int} (he : tErr xs = 0) : Tests xs := by
  have hn : firstOf (tErrAt xs) xs.length = none := by
    cases hf : firstOf (tErrAt xs) xs.length with
    | none => rfl
    | some e =>
      exfalso
      unfold tErr at he
      rw [hf] at he
      obtain ⟨k, _, hk⟩ := firstOf_is hf
      unfold tErrAt at hk
      split at hk
      · cases hk; simp at he
      · split at hk
        · cases hk; simp at he
        · cases hk
  intro x hx
  obtain ⟨j, hj, rfl⟩ := mem_gd 0 hx
  have := firstOf_not hn j hj
  unfold tErrAt at this
  split at this
  · cases this
  · rename_i hr
    have : inR (xs.getD j 0) 0 11 = true := by simpa using hr
    simpa [inR] using this
theorem tab_ok {xss : List (List Int)} (he : (tabErr xss).2 = 0) : xss.length ≤ 12 ∧ ∀ xs ∈ xss, xs.length ≠ 0 ∧ tErr xs = 0 := by
  unfold tabErr at he
  split at he
  · simp at he
  · rename_i hl
    refine ⟨by omega, ?_⟩
    have hn : firstOf (rowAt xss) xss.length = none := by
      cases hf : firstOf (rowAt xss) xss.length with
      | none => rfl
      | some e =>
        exfalso
        rw [hf] at he
        obtain ⟨k, _, hk⟩ := firstOf_is hf
        unfold rowAt at hk
        split at hk
        · cases hk
        · rename_i hz; cases hk; exact hz he
    intro xs hx
    obtain ⟨j, hj, rfl⟩ := mem_gd [] hx
    have := firstOf_not hn j hj
    unfold rowAt at this
    split at this
    · rename_i hz
      unfold rErr at hz
      split at hz
      · simp at hz
      · rename_i h0; exact ⟨h0, hz⟩
    · cases this
theorem tab_tests {xss : List (List Int)} (he : (tabErr xss).2 = 0) : ∀ xs ∈ xss, Tests xs := fun xs hx => tErr_ok ((tab_ok he).2 xs hx).2
theorem ws_gd {xss : List (List Int)} {k : Nat} (hk : k < xss.length) : (xss.map bitsOf).getD k 0 = bitsOf (xss.getD k []) := by simp [List.getD, hk]
theorem nonneg {xs : List Int} (t : Tests xs) : ∀ x ∈ xs, 0 ≤ x := fun x hx => (t x hx).1
theorem shr_lt {a n : Nat} (ha : a < 2 ^ 64) : a >>> n < 2 ^ 64 := by
  rw [Nat.shiftRight_eq_div_pow]; exact Nat.lt_of_le_of_lt (Nat.div_le_self _ _) ha
theorem own_cap {sz n : Nat} {v : Value} {cs : List Value} (o : Own sz h0 h v n cs) : ∃ p l, v = .slice p l 0 := by
  rcases o.2.2 with ⟨rfl, _⟩ | ⟨i, rfl, _⟩ <;> exact ⟨_, _, rfl⟩
theorem c25 {a : Value} {xss : List (List Int)} (s : RowsS h a xss) (hf : Few xss) :
    DetP Try.prog 25 [a] h fun v h' => h <+: h' ∧ ∃ l, v = .tuple #[l, .int .i64 (tabErr xss).2] ∧ IntS h' l (if (tabErr xss).2 = 0 then greedyN xss 12 else []) ∧ ∃ o n, l = .slice o n 0 := by
  have lt := hf.1
  refine w25 ?_
  unfold n25
  (with_reducible repeat first|refine mv_i ?_|refine cnd_t ?_|refine cnd_f ?_|refine gd_tt ?_|refine gd_ff ?_|refine gd_tf ?_|refine gd_ft ?_|refine gd_u ?_|refine pick_t ?_|refine pick_f ?_|refine not_t ?_|refine not_f ?_|refine nil_i ?_|refine ret1 ?_|refine ret2 ?_|refine ret0 ?_|refine ret3 ?_|refine ex2_0 ?_|refine ex2_1 ?_|refine ex3_0 ?_|refine ex3_1 ?_|refine ex3_2 ?_)
  refine call_r (c24 s) ?_
  unfold pairV
  (with_reducible repeat first|refine mv_i ?_|refine cnd_t ?_|refine cnd_f ?_|refine gd_tt ?_|refine gd_ff ?_|refine gd_tf ?_|refine gd_ft ?_|refine gd_u ?_|refine pick_t ?_|refine pick_f ?_|refine not_t ?_|refine not_f ?_|refine nil_i ?_|refine ret1 ?_|refine ret2 ?_|refine ret0 ?_|refine ret3 ?_|refine ex2_0 ?_|refine ex2_1 ?_|refine ex3_0 ?_|refine ex3_1 ?_|refine ex3_2 ?_)
  refine neq_i (fun hz => ?_) (fun hz => ?_)
  · have htt := tab_tests hz
    (with_reducible repeat first|refine mv_i ?_|refine cnd_t ?_|refine cnd_f ?_|refine gd_tt ?_|refine gd_ff ?_|refine gd_tf ?_|refine gd_ft ?_|refine gd_u ?_|refine pick_t ?_|refine pick_f ?_|refine not_t ?_|refine not_f ?_|refine nil_i ?_|refine ret1 ?_|refine ret2 ?_|refine ret0 ?_|refine ret3 ?_|refine ex2_0 ?_|refine ex2_1 ?_|refine ex3_0 ?_|refine ex3_1 ?_|refine ex3_2 ?_)
    refine call_i (c36 s hf htt) ?_
    rintro wv h1 ⟨p1, hw⟩
    (with_reducible repeat first|refine mv_i ?_|refine cnd_t ?_|refine cnd_f ?_|refine gd_tt ?_|refine gd_ff ?_|refine gd_tf ?_|refine gd_ft ?_|refine gd_u ?_|refine pick_t ?_|refine pick_f ?_|refine not_t ?_|refine not_f ?_|refine nil_i ?_|refine ret1 ?_|refine ret2 ?_|refine ret0 ?_|refine ret3 ?_|refine ex2_0 ?_|refine ex2_1 ?_|refine ex3_0 ?_|refine ex3_1 ?_|refine ex3_2 ?_)
    refine loop3 12 (fun k o c h2 => Own 1 h1 h2 o k ((greedyN xss k).map (.int .i64)) ∧ c = .int .u64 (bitsOf (greedyN xss k) : Nat)) ⟨Own.nil 1 (List.prefix_refl _), rfl⟩ ?_
    rintro k o _ h2 _ hk ⟨ow, rfl⟩
    have hgl := greedyN_length xss k
    have hgt := greedy_tests xss k (by omega)
    have hw2 := hw.mono (Sub.of_pre ow.pre)
    (with_reducible repeat first|refine mv_i ?_|refine cnd_t ?_|refine cnd_f ?_|refine gd_tt ?_|refine gd_ff ?_|refine gd_tf ?_|refine gd_ft ?_|refine gd_u ?_|refine pick_t ?_|refine pick_f ?_|refine not_t ?_|refine not_f ?_|refine nil_i ?_|refine ret1 ?_|refine ret2 ?_|refine ret0 ?_|refine ret3 ?_|refine ex2_0 ?_|refine ex2_1 ?_|refine ex3_0 ?_|refine ex3_1 ?_|refine ex3_2 ?_)
    refine lss_i (fun hlt => ?_) (fun hge => ?_)
    · (with_reducible repeat first|refine mv_i ?_|refine cnd_t ?_|refine cnd_f ?_|refine gd_tt ?_|refine gd_ff ?_|refine gd_tf ?_|refine gd_ft ?_|refine gd_u ?_|refine pick_t ?_|refine pick_f ?_|refine not_t ?_|refine not_f ?_|refine nil_i ?_|refine ret1 ?_|refine ret2 ?_|refine ret0 ?_|refine ret3 ?_|refine ex2_0 ?_|refine ex2_1 ?_|refine ex3_0 ?_|refine ex3_1 ?_|refine ex3_2 ?_)
      refine loop3 12 (fun t b m h3 => h2 = h3 ∧ b = .int .i64 (bestTo xss (greedyN xss k) t).1 ∧ m = .int .i64 (bestTo xss (greedyN xss k) t).2) ⟨rfl, rfl, rfl⟩ ?_
      rintro t _ _ _ _ ht ⟨rfl, rfl, rfl⟩
      have hbb := bestTo_bound xss (greedyN xss k) t
      (with_reducible repeat first|refine mv_i ?_|refine cnd_t ?_|refine cnd_f ?_|refine gd_tt ?_|refine gd_ff ?_|refine gd_tf ?_|refine gd_ft ?_|refine gd_u ?_|refine pick_t ?_|refine pick_f ?_|refine not_t ?_|refine not_f ?_|refine nil_i ?_|refine ret1 ?_|refine ret2 ?_|refine ret0 ?_|refine ret3 ?_|refine ex2_0 ?_|refine ex2_1 ?_|refine ex3_0 ?_|refine ex3_1 ?_|refine ex3_2 ?_)
      refine lss_i (fun hlt2 => ?_) (fun hge2 => ?_)
      · (with_reducible repeat first|refine mv_i ?_|refine cnd_t ?_|refine cnd_f ?_|refine gd_tt ?_|refine gd_ff ?_|refine gd_tf ?_|refine gd_ft ?_|refine gd_u ?_|refine pick_t ?_|refine pick_f ?_|refine not_t ?_|refine not_f ?_|refine nil_i ?_|refine ret1 ?_|refine ret2 ?_|refine ret0 ?_|refine ret3 ?_|refine ex2_0 ?_|refine ex2_1 ?_|refine ex3_0 ?_|refine ex3_1 ?_|refine ex3_2 ?_)
        refine seq_J (fun xs h4 => h2 = h4 ∧ xs = [.int .i64 (bestTo xss (greedyN xss k) (t + 1)).1, .int .i64 (bestTo xss (greedyN xss k) (t + 1)).2]) ?_ ?_
        · rintro _ _ ⟨rfl, rfl⟩ _
          (with_reducible repeat first|refine mv_i ?_|refine cnd_t ?_|refine cnd_f ?_|refine gd_tt ?_|refine gd_ff ?_|refine gd_tf ?_|refine gd_ft ?_|refine gd_u ?_|refine pick_t ?_|refine pick_f ?_|refine not_t ?_|refine not_f ?_|refine nil_i ?_|refine ret1 ?_|refine ret2 ?_|refine ret0 ?_|refine ret3 ?_|refine ex2_0 ?_|refine ex2_1 ?_|refine ex3_0 ?_|refine ex3_1 ?_|refine ex3_2 ?_)
          refine inc_i (by omega) ?_
          (with_reducible repeat first|refine mv_i ?_|refine cnd_t ?_|refine cnd_f ?_|refine gd_tt ?_|refine gd_ff ?_|refine gd_tf ?_|refine gd_ft ?_|refine gd_u ?_|refine pick_t ?_|refine pick_f ?_|refine not_t ?_|refine not_f ?_|refine nil_i ?_|refine ret1 ?_|refine ret2 ?_|refine ret0 ?_|refine ret3 ?_|refine ex2_0 ?_|refine ex2_1 ?_|refine ex3_0 ?_|refine ex3_1 ?_|refine ex3_2 ?_)
          exact next3 (by omega) ⟨rfl, rfl, rfl⟩
        · intro k' hk'
          (with_reducible repeat first|refine mv_i ?_|refine cnd_t ?_|refine cnd_f ?_|refine gd_tt ?_|refine gd_ff ?_|refine gd_tf ?_|refine gd_ft ?_|refine gd_u ?_|refine pick_t ?_|refine pick_f ?_|refine not_t ?_|refine not_f ?_|refine nil_i ?_|refine ret1 ?_|refine ret2 ?_|refine ret0 ?_|refine ret3 ?_|refine ex2_0 ?_|refine ex2_1 ?_|refine ex3_0 ?_|refine ex3_1 ?_|refine ex3_2 ?_)
          refine shr_i (by omega) (by omega) ?_
          rw [Int.toNat_natCast]
          refine and1_i (shr_lt hgt.lt) ?_
          refine eql_i (fun hb => ?_) (fun hb => ?_)
          · (with_reducible repeat first|refine mv_i ?_|refine cnd_t ?_|refine cnd_f ?_|refine gd_tt ?_|refine gd_ff ?_|refine gd_tf ?_|refine gd_ft ?_|refine gd_u ?_|refine pick_t ?_|refine pick_f ?_|refine not_t ?_|refine not_f ?_|refine nil_i ?_|refine ret1 ?_|refine ret2 ?_|refine ret0 ?_|refine ret3 ?_|refine ex2_0 ?_|refine ex2_1 ?_|refine ex3_0 ?_|refine ex3_1 ?_|refine ex3_2 ?_)
            refine hk' _ _ ⟨rfl, ?_⟩
            rw [bit_iff, bitsOf_test (nonneg hgt)] at hb
            rw [bestTo_succ]
            unfold stepB
            rw [if_neg (fun hh => hh.1 (by simpa using hb))]
          · rw [bit_iff, bitsOf_test (nonneg hgt)] at hb
            have hnot : ¬ (t : Int) ∈ greedyN xss k := by simpa using hb
            (with_reducible repeat first|refine mv_i ?_|refine cnd_t ?_|refine cnd_f ?_|refine gd_tt ?_|refine gd_ff ?_|refine gd_tf ?_|refine gd_ft ?_|refine gd_u ?_|refine pick_t ?_|refine pick_f ?_|refine not_t ?_|refine not_f ?_|refine nil_i ?_|refine ret1 ?_|refine ret2 ?_|refine ret0 ?_|refine ret3 ?_|refine ex2_0 ?_|refine ex2_1 ?_|refine ex3_0 ?_|refine ex3_1 ?_|refine ex3_2 ?_)
            refine lenw_i t65 hw2 ?_
            (with_reducible repeat first|refine mv_i ?_|refine cnd_t ?_|refine cnd_f ?_|refine gd_tt ?_|refine gd_ff ?_|refine gd_tf ?_|refine gd_ft ?_|refine gd_u ?_|refine pick_t ?_|refine pick_f ?_|refine not_t ?_|refine not_f ?_|refine nil_i ?_|refine ret1 ?_|refine ret2 ?_|refine ret0 ?_|refine ret3 ?_|refine ex2_0 ?_|refine ex2_1 ?_|refine ex3_0 ?_|refine ex3_1 ?_|refine ex3_2 ?_)
            refine loop2 (xss.map bitsOf).length (fun i c h4 => h2 = h4 ∧ c = .int .i64 (cntTo xss (greedyN xss k) t i : Nat)) ⟨rfl, rfl⟩ ?_
            rintro i _ _ _ hi ⟨rfl, rfl⟩
            rw [List.length_map] at hi
            (with_reducible repeat first|refine mv_i ?_|refine cnd_t ?_|refine cnd_f ?_|refine gd_tt ?_|refine gd_ff ?_|refine gd_tf ?_|refine gd_ft ?_|refine gd_u ?_|refine pick_t ?_|refine pick_f ?_|refine not_t ?_|refine not_f ?_|refine nil_i ?_|refine ret1 ?_|refine ret2 ?_|refine ret0 ?_|refine ret3 ?_|refine ex2_0 ?_|refine ex2_1 ?_|refine ex3_0 ?_|refine ex3_1 ?_|refine ex3_2 ?_)
            refine lss_i (fun hlt3 => ?_) (fun hge3 => ?_)
            · rw [List.length_map] at hlt3
              have hcs := cntTo_succ (out := greedyN xss k) (t := (t : Int)) (show i < xss.length by omega)
              have hcb := cntTo_le xss (greedyN xss k) t i
              have hrt := htt _ (gd_mem [] (show i < xss.length by omega))
              (with_reducible repeat first|refine mv_i ?_|refine cnd_t ?_|refine cnd_f ?_|refine gd_tt ?_|refine gd_ff ?_|refine gd_tf ?_|refine gd_ft ?_|refine gd_u ?_|refine pick_t ?_|refine pick_f ?_|refine not_t ?_|refine not_f ?_|refine nil_i ?_|refine ret1 ?_|refine ret2 ?_|refine ret0 ?_|refine ret3 ?_|refine ex2_0 ?_|refine ex2_1 ?_|refine ex3_0 ?_|refine ex3_1 ?_|refine ex3_2 ?_)
              refine seq_J (fun xs h4 => h2 = h4 ∧ xs = [.int .i64 (cntTo xss (greedyN xss k) t (i + 1) : Nat)]) ?_ ?_
              · rintro _ _ ⟨rfl, rfl⟩ _
                (with_reducible repeat first|refine mv_i ?_|refine cnd_t ?_|refine cnd_f ?_|refine gd_tt ?_|refine gd_ff ?_|refine gd_tf ?_|refine gd_ft ?_|refine gd_u ?_|refine pick_t ?_|refine pick_f ?_|refine not_t ?_|refine not_f ?_|refine nil_i ?_|refine ret1 ?_|refine ret2 ?_|refine ret0 ?_|refine ret3 ?_|refine ex2_0 ?_|refine ex2_1 ?_|refine ex3_0 ?_|refine ex3_1 ?_|refine ex3_2 ?_)
                refine inc_i (by omega) ?_
                (with_reducible repeat first|refine mv_i ?_|refine cnd_t ?_|refine cnd_f ?_|refine gd_tt ?_|refine gd_ff ?_|refine gd_tf ?_|refine gd_ft ?_|refine gd_u ?_|refine pick_t ?_|refine pick_f ?_|refine not_t ?_|refine not_f ?_|refine nil_i ?_|refine ret1 ?_|refine ret2 ?_|refine ret0 ?_|refine ret3 ?_|refine ex2_0 ?_|refine ex2_1 ?_|refine ex3_0 ?_|refine ex3_1 ?_|refine ex3_2 ?_)
                exact next2 (by rw [List.length_map]; omega) ⟨rfl, rfl⟩
              · intro k2 hk2
                (with_reducible repeat first|refine mv_i ?_|refine cnd_t ?_|refine cnd_f ?_|refine gd_tt ?_|refine gd_ff ?_|refine gd_tf ?_|refine gd_ft ?_|refine gd_u ?_|refine pick_t ?_|refine pick_f ?_|refine not_t ?_|refine not_f ?_|refine nil_i ?_|refine ret1 ?_|refine ret2 ?_|refine ret0 ?_|refine ret3 ?_|refine ex2_0 ?_|refine ex2_1 ?_|refine ex3_0 ?_|refine ex3_1 ?_|refine ex3_2 ?_)
                refine idxw_i (k := i) t65 hw2 (by rw [List.length_map]; omega) ?_
                refine ldw_i (k := i) t65 r71 hw2 (by rw [List.length_map]; omega) ?_
                rw [ws_gd (by omega)]
                (with_reducible repeat first|refine mv_i ?_|refine cnd_t ?_|refine cnd_f ?_|refine gd_tt ?_|refine gd_ff ?_|refine gd_tf ?_|refine gd_ft ?_|refine gd_u ?_|refine pick_t ?_|refine pick_f ?_|refine not_t ?_|refine not_f ?_|refine nil_i ?_|refine ret1 ?_|refine ret2 ?_|refine ret0 ?_|refine ret3 ?_|refine ex2_0 ?_|refine ex2_1 ?_|refine ex3_0 ?_|refine ex3_1 ?_|refine ex3_2 ?_)
                refine and_i hrt.lt hgt.lt ?_
                refine eql_i (fun hz2 => ?_) (fun hz2 => ?_)
                · rw [bits_apart (nonneg hrt) (nonneg hgt)] at hz2
                  have hh : hits (xss.getD i []) (greedyN xss k) = false := by
                    unfold hits; rw [List.any_eq_false]; intro x hx; simpa using hz2 x hx
                  (with_reducible repeat first|refine mv_i ?_|refine cnd_t ?_|refine cnd_f ?_|refine gd_tt ?_|refine gd_ff ?_|refine gd_tf ?_|refine gd_ft ?_|refine gd_u ?_|refine pick_t ?_|refine pick_f ?_|refine not_t ?_|refine not_f ?_|refine nil_i ?_|refine ret1 ?_|refine ret2 ?_|refine ret0 ?_|refine ret3 ?_|refine ex2_0 ?_|refine ex2_1 ?_|refine ex3_0 ?_|refine ex3_1 ?_|refine ex3_2 ?_)
                  refine shr_i (by omega) (by omega) ?_
                  rw [Int.toNat_natCast]
                  (with_reducible repeat first|refine mv_i ?_|refine cnd_t ?_|refine cnd_f ?_|refine gd_tt ?_|refine gd_ff ?_|refine gd_tf ?_|refine gd_ft ?_|refine gd_u ?_|refine pick_t ?_|refine pick_f ?_|refine not_t ?_|refine not_f ?_|refine nil_i ?_|refine ret1 ?_|refine ret2 ?_|refine ret0 ?_|refine ret3 ?_|refine ex2_0 ?_|refine ex2_1 ?_|refine ex3_0 ?_|refine ex3_1 ?_|refine ex3_2 ?_)
                  refine and1_i (shr_lt hrt.lt) ?_
                  (with_reducible repeat first|refine mv_i ?_|refine cnd_t ?_|refine cnd_f ?_|refine gd_tt ?_|refine gd_ff ?_|refine gd_tf ?_|refine gd_ft ?_|refine gd_u ?_|refine pick_t ?_|refine pick_f ?_|refine not_t ?_|refine not_f ?_|refine nil_i ?_|refine ret1 ?_|refine ret2 ?_|refine ret0 ?_|refine ret3 ?_|refine ex2_0 ?_|refine ex2_1 ?_|refine ex3_0 ?_|refine ex3_1 ?_|refine ex3_2 ?_)
                  refine eql_i (fun hb2 => ?_) (fun hb2 => ?_)
                  · rw [bit_iff, bitsOf_test (nonneg hrt)] at hb2
                    (with_reducible repeat first|refine mv_i ?_|refine cnd_t ?_|refine cnd_f ?_|refine gd_tt ?_|refine gd_ff ?_|refine gd_tf ?_|refine gd_ft ?_|refine gd_u ?_|refine pick_t ?_|refine pick_f ?_|refine not_t ?_|refine not_f ?_|refine nil_i ?_|refine ret1 ?_|refine ret2 ?_|refine ret0 ?_|refine ret3 ?_|refine ex2_0 ?_|refine ex2_1 ?_|refine ex3_0 ?_|refine ex3_1 ?_|refine ex3_2 ?_)
                    refine inc_i (by omega) ?_
                    (with_reducible repeat first|refine mv_i ?_|refine cnd_t ?_|refine cnd_f ?_|refine gd_tt ?_|refine gd_ff ?_|refine gd_tf ?_|refine gd_ft ?_|refine gd_u ?_|refine pick_t ?_|refine pick_f ?_|refine not_t ?_|refine not_f ?_|refine nil_i ?_|refine ret1 ?_|refine ret2 ?_|refine ret0 ?_|refine ret3 ?_|refine ex2_0 ?_|refine ex2_1 ?_|refine ex3_0 ?_|refine ex3_1 ?_|refine ex3_2 ?_)
                    refine hk2 _ _ ⟨rfl, ?_⟩
                    rw [hcs, hh, hb2]
                    rfl
                  · rw [bit_iff, bitsOf_test (nonneg hrt)] at hb2
                    have hb3 : decide ((t : Int) ∈ xss.getD i []) = false := by simpa using hb2
                    (with_reducible repeat first|refine mv_i ?_|refine cnd_t ?_|refine cnd_f ?_|refine gd_tt ?_|refine gd_ff ?_|refine gd_tf ?_|refine gd_ft ?_|refine gd_u ?_|refine pick_t ?_|refine pick_f ?_|refine not_t ?_|refine not_f ?_|refine nil_i ?_|refine ret1 ?_|refine ret2 ?_|refine ret0 ?_|refine ret3 ?_|refine ex2_0 ?_|refine ex2_1 ?_|refine ex3_0 ?_|refine ex3_1 ?_|refine ex3_2 ?_)
                    refine hk2 _ _ ⟨rfl, ?_⟩
                    rw [hcs, hb3]
                    rfl
                · rw [bits_apart (nonneg hrt) (nonneg hgt)] at hz2
                  have hh : hits (xss.getD i []) (greedyN xss k) = true := by
                    cases q : hits (xss.getD i []) (greedyN xss k) with
                    | true => rfl
                    | false =>
                      exfalso
                      unfold hits at q; rw [List.any_eq_false] at q
                      exact hz2 fun x hx => by simpa using q x hx
                  (with_reducible repeat first|refine mv_i ?_|refine cnd_t ?_|refine cnd_f ?_|refine gd_tt ?_|refine gd_ff ?_|refine gd_tf ?_|refine gd_ft ?_|refine gd_u ?_|refine pick_t ?_|refine pick_f ?_|refine not_t ?_|refine not_f ?_|refine nil_i ?_|refine ret1 ?_|refine ret2 ?_|refine ret0 ?_|refine ret3 ?_|refine ex2_0 ?_|refine ex2_1 ?_|refine ex3_0 ?_|refine ex3_1 ?_|refine ex3_2 ?_)
                  refine hk2 _ _ ⟨rfl, ?_⟩
                  rw [hcs, hh]
                  simp
            · rw [List.length_map] at hge3
              have ei : i = xss.length := by omega
              subst ei
              (with_reducible repeat first|refine mv_i ?_|refine cnd_t ?_|refine cnd_f ?_|refine gd_tt ?_|refine gd_ff ?_|refine gd_tf ?_|refine gd_ft ?_|refine gd_u ?_|refine pick_t ?_|refine pick_f ?_|refine not_t ?_|refine not_f ?_|refine nil_i ?_|refine ret1 ?_|refine ret2 ?_|refine ret0 ?_|refine ret3 ?_|refine ex2_0 ?_|refine ex2_1 ?_|refine ex3_0 ?_|refine ex3_1 ?_|refine ex3_2 ?_)
              refine gtr_i (fun hg => ?_) (fun hg => ?_)
              · (with_reducible repeat first|refine mv_i ?_|refine cnd_t ?_|refine cnd_f ?_|refine gd_tt ?_|refine gd_ff ?_|refine gd_tf ?_|refine gd_ft ?_|refine gd_u ?_|refine pick_t ?_|refine pick_f ?_|refine not_t ?_|refine not_f ?_|refine nil_i ?_|refine ret1 ?_|refine ret2 ?_|refine ret0 ?_|refine ret3 ?_|refine ex2_0 ?_|refine ex2_1 ?_|refine ex3_0 ?_|refine ex3_1 ?_|refine ex3_2 ?_)
                refine hk' _ _ ⟨rfl, ?_⟩
                rw [bestTo_succ]
                unfold stepB
                rw [if_pos ⟨hnot, hg⟩]
                rfl
              · (with_reducible repeat first|refine mv_i ?_|refine cnd_t ?_|refine cnd_f ?_|refine gd_tt ?_|refine gd_ff ?_|refine gd_tf ?_|refine gd_ft ?_|refine gd_u ?_|refine pick_t ?_|refine pick_f ?_|refine not_t ?_|refine not_f ?_|refine nil_i ?_|refine ret1 ?_|refine ret2 ?_|refine ret0 ?_|refine ret3 ?_|refine ex2_0 ?_|refine ex2_1 ?_|refine ex3_0 ?_|refine ex3_1 ?_|refine ex3_2 ?_)
                refine hk' _ _ ⟨rfl, ?_⟩
                rw [bestTo_succ]
                unfold stepB
                rw [if_neg (fun hh => hg hh.2)]
      · have et : t = 12 := by omega
        subst et
        have hbest := best_ok xss (out := greedyN xss k) (by omega)
        (with_reducible repeat first|refine mv_i ?_|refine cnd_t ?_|refine cnd_f ?_|refine gd_tt ?_|refine gd_ff ?_|refine gd_tf ?_|refine gd_ft ?_|refine gd_u ?_|refine pick_t ?_|refine pick_f ?_|refine not_t ?_|refine not_f ?_|refine nil_i ?_|refine ret1 ?_|refine ret2 ?_|refine ret0 ?_|refine ret3 ?_|refine ex2_0 ?_|refine ex2_1 ?_|refine ex3_0 ?_|refine ex3_1 ?_|refine ex3_2 ?_)
        refine ok_i (bs23_1 _ _) ?_
        obtain ⟨o4, _⟩ := ow.ext (pre_new h2 [.int .i64 (bestTo xss (greedyN xss k) 12).1] 1)
        refine app_i t23 o4 (Seg.new (n := 1) 2 (by simp) (by omega)) (by simp [Value.oneCell']) (by omega) ⟨by omega, by omega⟩ fun v' h' o5 _ => ?_
        refine ⟨trivial, ?_⟩
        (with_reducible repeat first|refine mv_i ?_|refine cnd_t ?_|refine cnd_f ?_|refine gd_tt ?_|refine gd_ff ?_|refine gd_tf ?_|refine gd_ft ?_|refine gd_u ?_|refine pick_t ?_|refine pick_f ?_|refine not_t ?_|refine not_f ?_|refine nil_i ?_|refine ret1 ?_|refine ret2 ?_|refine ret0 ?_|refine ret3 ?_|refine ex2_0 ?_|refine ex2_1 ?_|refine ex3_0 ?_|refine ex3_1 ?_|refine ex3_2 ?_)
        refine shl_i hbest.1 (by omega) ?_
        refine or_i hgt.lt (Nat.pow_lt_pow_right (by omega) (by omega)) ?_
        (with_reducible repeat first|refine mv_i ?_|refine cnd_t ?_|refine cnd_f ?_|refine gd_tt ?_|refine gd_ff ?_|refine gd_tf ?_|refine gd_ft ?_|refine gd_u ?_|refine pick_t ?_|refine pick_f ?_|refine not_t ?_|refine not_f ?_|refine nil_i ?_|refine ret1 ?_|refine ret2 ?_|refine ret0 ?_|refine ret3 ?_|refine ex2_0 ?_|refine ex2_1 ?_|refine ex3_0 ?_|refine ex3_1 ?_|refine ex3_2 ?_)
        refine inc_i (by omega) ?_
        (with_reducible repeat first|refine mv_i ?_|refine cnd_t ?_|refine cnd_f ?_|refine gd_tt ?_|refine gd_ff ?_|refine gd_tf ?_|refine gd_ft ?_|refine gd_u ?_|refine pick_t ?_|refine pick_f ?_|refine not_t ?_|refine not_f ?_|refine nil_i ?_|refine ret1 ?_|refine ret2 ?_|refine ret0 ?_|refine ret3 ?_|refine ex2_0 ?_|refine ex2_1 ?_|refine ex3_0 ?_|refine ex3_1 ?_|refine ex3_2 ?_)
        refine next3 (by omega) ⟨?_, ?_⟩
        · simp only [greedyN, List.map_append]
          exact o5
        · rw [greedyN, bitsOf_snoc]
    · (with_reducible repeat first|refine mv_i ?_|refine cnd_t ?_|refine cnd_f ?_|refine gd_tt ?_|refine gd_ff ?_|refine gd_tf ?_|refine gd_ft ?_|refine gd_u ?_|refine pick_t ?_|refine pick_f ?_|refine not_t ?_|refine not_f ?_|refine nil_i ?_|refine ret1 ?_|refine ret2 ?_|refine ret0 ?_|refine ret3 ?_|refine ex2_0 ?_|refine ex2_1 ?_|refine ex3_0 ?_|refine ex3_1 ?_|refine ex3_2 ?_)
      have ek : k = 12 := by omega
      subst ek
      refine ⟨p1.trans ow.pre, o, by rw [hz], ?_, own_cap ow⟩
      rw [if_pos hz]
      exact Own.ints ow hgl.symm
  · (with_reducible repeat first|refine mv_i ?_|refine cnd_t ?_|refine cnd_f ?_|refine gd_tt ?_|refine gd_ff ?_|refine gd_tf ?_|refine gd_ft ?_|refine gd_u ?_|refine pick_t ?_|refine pick_f ?_|refine not_t ?_|refine not_f ?_|refine nil_i ?_|refine ret1 ?_|refine ret2 ?_|refine ret0 ?_|refine ret3 ?_|refine ex2_0 ?_|refine ex2_1 ?_|refine ex3_0 ?_|refine ex3_1 ?_|refine ex3_2 ?_)
    refine ⟨List.prefix_refl _, _, rfl, ?_, _, _, rfl⟩
    rw [if_neg hz]
    exact Seg.nil 1 h

/-! ### awake -/
end Go.Proofs.Ytkgdclcmfnhbmaa
