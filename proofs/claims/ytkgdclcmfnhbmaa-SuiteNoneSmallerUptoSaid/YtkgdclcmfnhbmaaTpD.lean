import Derived.Test.YtkgdclcmfnhbmaaTpC
set_option linter.unusedSimpArgs false
set_option linter.unusedVariables false
set_option maxRecDepth 100000
namespace Go.Proofs.Ytkgdclcmfnhbmaa
open Go.AM
variable {h h' h0 : Heap}

/-! ### the smallest set that is a choice -/
def bestB (xss : List (List Int)) (b k : Nat) : Bool := decide (ones k < ones b) && isChoice xss (elems k)
def bestS (xss : List (List Int)) : Nat → Nat
  | 0 => 4095
  | k + 1 => if bestB xss (bestS xss k) k = true then k else bestS xss k
theorem tabOK_of {xss : List (List Int)} (he : (tabErr xss).2 = 0) : TabOK xss := by
  obtain ⟨h1, h2⟩ := tab_ok he
  exact ⟨fun xs hx => tErr_ok (h2 xs hx).2, fun xs hx => tErr_asc (h2 xs hx).2, fun xs hx => Nat.pos_of_ne_zero (h2 xs hx).1, h1⟩
theorem full_test : ∀ n, n < 12 → (4095 : Nat).testBit n = true := by decide
theorem full_choice {xss : List (List Int)} (ok : TabOK xss) : isChoice xss (elems 4095) = true := by
  unfold isChoice
  rw [List.all_eq_true]
  intro row hr
  unfold hits
  rw [List.any_eq_true]
  have hp := ok.pos row hr
  have hm : row.getD 0 0 ∈ row := gd_mem 0 hp
  have ht := ok.tests row hr _ hm
  exact ⟨_, hm, decide_eq_true (elemsTo_mem.mpr ⟨ht.1, by omega, full_test _ (by omega)⟩)⟩
theorem bestS_spec {xss : List (List Int)} (ok : TabOK xss) : ∀ k, k ≤ 4095 → isChoice xss (elems (bestS xss k)) = true ∧ bestS xss k < 4096 ∧ ∀ s, s < k → isChoice xss (elems s) = true → ones (bestS xss k) ≤ ones s
  | 0, _ => ⟨full_choice ok, by simp [bestS], fun s hs => by omega⟩
  | k + 1, hk => by
    obtain ⟨h1, h2, h3⟩ := bestS_spec ok k (by omega)
    simp only [bestS]
    by_cases hb : bestB xss (bestS xss k) k = true
    · rw [if_pos hb]
      unfold bestB at hb
      rw [Bool.and_eq_true] at hb
      have hlt := of_decide_eq_true hb.1
      refine ⟨hb.2, by omega, fun s hs hc => ?_⟩
      by_cases q : s = k
      · subst q; exact Nat.le_refl _
      · have := h3 s (by omega) hc; omega
    · rw [if_neg hb]
      refine ⟨h1, h2, fun s hs hc => ?_⟩
      by_cases q : s = k
      · subst q
        unfold bestB at hb
        rw [hc, Bool.and_true] at hb
        have := of_decide_eq_false (by simpa using hb : decide (ones s < ones (bestS xss s)) = false)
        omega
      · exact h3 s (by omega) hc
def smC (xss : List (List Int)) : List Int := elems (bestS xss 4095)
def smP (xss : List (List Int)) : List Int := if (smC xss).length = 0 then [] else prvL xss ((smC xss).length - 1) []
theorem smC_choice {xss : List (List Int)} (ok : TabOK xss) : isChoice xss (smC xss) = true := (bestS_spec ok 4095 (Nat.le_refl _)).1
theorem ones_full : ones 4095 = 12 := by decide
theorem smC_least {xss : List (List Int)} (ok : TabOK xss) {E : List Int} (ht : Tests E) (hc : isChoice xss E = true) : (smC xss).length ≤ E.length := by
  obtain ⟨h1, h2, h3⟩ := bestS_spec ok 4095 (Nat.le_refl _)
  have hl := ones_bits_le ht
  have hlt := tests_lt12 ht
  have hce : isChoice xss (elems (bitsOf E)) = true := by rw [choice_congr (fun x => elems_bits ht)]; exact hc
  unfold smC
  rw [elems_len]
  by_cases q : bitsOf E < 4095
  · exact Nat.le_trans (h3 _ q hce) hl
  · have e : bitsOf E = 4095 := by omega
    rw [e, ones_full] at hl
    exact Nat.le_trans (ones_le _) hl
theorem smC_open {xss : List (List Int)} (ok : TabOK xss) (hn : (smC xss).length ≠ 0) : OpenT xss [] ((smC xss).length - 1) := by
  intro E ht hl
  rw [List.nil_append]
  cases hc : isChoice xss E with
  | false => rfl
  | true => have := smC_least ok ht hc; omega
theorem smC_len (xss : List (List Int)) : (smC xss).length ≤ 12 := by unfold smC; rw [elems_len]; exact ones_le _
theorem smP_len {xss : List (List Int)} (ok : TabOK xss) : (smP xss).length ≤ 20000 := by
  unfold smP
  split
  · simp
  · rename_i hn
    have := smC_len xss
    exact prvL_few ok (by omega) (smC_open ok hn)
theorem sm_right {xss : List (List Int)} (ok : TabOK xss) : (smErr xss (smC xss) (smP xss)).2 = 0 := by
  have hp := smP_len ok
  have ha : tErr (smC xss) = 0 := elems_asc _
  unfold smErr
  rw [if_neg (fun q => q ha), smC_choice ok, if_neg (by simp), if_neg (by omega)]
  by_cases hn : (smC xss).length = 0
  · rw [if_pos hn]
    have : smP xss = [] := by unfold smP; rw [if_pos hn]
    rw [this]; rfl
  · rw [if_neg hn]
    have e : smP xss = prvL xss ((smC xss).length - 1) [] := by unfold smP; rw [if_neg hn]
    have := prvL_read ok.tests _ [] [] (smC_open ok hn)
    rw [List.append_nil] at this
    rw [e, this]
theorem c28 {a : Value} {xss : List (List Int)} (s : RowsS h a xss) (hf : Few xss) :
    DetP Try.prog 28 [a] h fun v h' => h <+: h' ∧ ∃ x y, v = .tuple #[x, y, .int .i64 (tabErr xss).2] ∧ IntS h' x (if (tabErr xss).2 = 0 then smC xss else []) ∧ IntS h' y (if (tabErr xss).2 = 0 then smP xss else []) := by
  refine w28 ?_
  unfold n28
  (with_reducible repeat first|refine mv_i ?_|refine cnd_t ?_|refine cnd_f ?_|refine gd_tt ?_|refine gd_ff ?_|refine gd_tf ?_|refine gd_ft ?_|refine gd_u ?_|refine pick_t ?_|refine pick_f ?_|refine not_t ?_|refine not_f ?_|refine nil_i ?_|refine ret1 ?_|refine ret2 ?_|refine ret0 ?_|refine ret3 ?_|refine ex2_0 ?_|refine ex2_1 ?_|refine ex3_0 ?_|refine ex3_1 ?_|refine ex3_2 ?_)
  refine call_r (c24 s) ?_
  unfold pairV
  (with_reducible repeat first|refine mv_i ?_|refine cnd_t ?_|refine cnd_f ?_|refine gd_tt ?_|refine gd_ff ?_|refine gd_tf ?_|refine gd_ft ?_|refine gd_u ?_|refine pick_t ?_|refine pick_f ?_|refine not_t ?_|refine not_f ?_|refine nil_i ?_|refine ret1 ?_|refine ret2 ?_|refine ret0 ?_|refine ret3 ?_|refine ex2_0 ?_|refine ex2_1 ?_|refine ex3_0 ?_|refine ex3_1 ?_|refine ex3_2 ?_)
  refine neq_i (fun hz => ?_) (fun hz => ?_)
  rotate_left
  · (with_reducible repeat first|refine mv_i ?_|refine cnd_t ?_|refine cnd_f ?_|refine gd_tt ?_|refine gd_ff ?_|refine gd_tf ?_|refine gd_ft ?_|refine gd_u ?_|refine pick_t ?_|refine pick_f ?_|refine not_t ?_|refine not_f ?_|refine nil_i ?_|refine ret1 ?_|refine ret2 ?_|refine ret0 ?_|refine ret3 ?_|refine ex2_0 ?_|refine ex2_1 ?_|refine ex3_0 ?_|refine ex3_1 ?_|refine ex3_2 ?_)
    refine ⟨List.prefix_refl _, _, _, rfl, ?_, ?_⟩
    · rw [if_neg hz]; exact Seg.nil 1 h
    · rw [if_neg hz]; exact Seg.nil 1 h
  have ok := tabOK_of hz
  have htt := tab_tests hz
  have hbs := bestS_spec ok
  (with_reducible repeat first|refine mv_i ?_|refine cnd_t ?_|refine cnd_f ?_|refine gd_tt ?_|refine gd_ff ?_|refine gd_tf ?_|refine gd_ft ?_|refine gd_u ?_|refine pick_t ?_|refine pick_f ?_|refine not_t ?_|refine not_f ?_|refine nil_i ?_|refine ret1 ?_|refine ret2 ?_|refine ret0 ?_|refine ret3 ?_|refine ex2_0 ?_|refine ex2_1 ?_|refine ex3_0 ?_|refine ex3_1 ?_|refine ex3_2 ?_)
  refine call_i (c36 s hf htt) ?_
  rintro wv h1 ⟨p1, sw⟩
  (with_reducible repeat first|refine mv_i ?_|refine cnd_t ?_|refine cnd_f ?_|refine gd_tt ?_|refine gd_ff ?_|refine gd_tf ?_|refine gd_ft ?_|refine gd_u ?_|refine pick_t ?_|refine pick_f ?_|refine not_t ?_|refine not_f ?_|refine nil_i ?_|refine ret1 ?_|refine ret2 ?_|refine ret0 ?_|refine ret3 ?_|refine ex2_0 ?_|refine ex2_1 ?_|refine ex3_0 ?_|refine ex3_1 ?_|refine ex3_2 ?_)
  refine ⟨fun vs h2 => ∃ k : Nat, vs = [.int .u64 (bestS xss k : Nat), .int .u64 (k : Int)] ∧ k ≤ 4095 ∧ h1 = h2, fun vs _ => match vs with | [_, .int _ k] => 4095 - k.toNat | _ => 0, ⟨0, rfl, by omega, rfl⟩, ?_⟩
  rintro _ _ _ _ ⟨k, e, hk, rfl⟩
  cases e
  have hbk := hbs k hk
  (with_reducible repeat first|refine mv_i ?_|refine cnd_t ?_|refine cnd_f ?_|refine gd_tt ?_|refine gd_ff ?_|refine gd_tf ?_|refine gd_ft ?_|refine gd_u ?_|refine pick_t ?_|refine pick_f ?_|refine not_t ?_|refine not_f ?_|refine nil_i ?_|refine ret1 ?_|refine ret2 ?_|refine ret0 ?_|refine ret3 ?_|refine ex2_0 ?_|refine ex2_1 ?_|refine ex3_0 ?_|refine ex3_1 ?_|refine ex3_2 ?_)
  refine lss_i (fun hlt => ?_) (fun hge => ?_)
  · (with_reducible repeat first|refine mv_i ?_|refine cnd_t ?_|refine cnd_f ?_|refine gd_tt ?_|refine gd_ff ?_|refine gd_tf ?_|refine gd_ft ?_|refine gd_u ?_|refine pick_t ?_|refine pick_f ?_|refine not_t ?_|refine not_f ?_|refine nil_i ?_|refine ret1 ?_|refine ret2 ?_|refine ret0 ?_|refine ret3 ?_|refine ex2_0 ?_|refine ex2_1 ?_|refine ex3_0 ?_|refine ex3_1 ?_|refine ex3_2 ?_)
    refine seq_J (fun xs h2 => xs = [.int .u64 (bestS xss (k + 1) : Nat)] ∧ h1 = h2) ?_ ?_
    · rintro _ _ ⟨rfl, rfl⟩ _
      (with_reducible repeat first|refine mv_i ?_|refine cnd_t ?_|refine cnd_f ?_|refine gd_tt ?_|refine gd_ff ?_|refine gd_tf ?_|refine gd_ft ?_|refine gd_u ?_|refine pick_t ?_|refine pick_f ?_|refine not_t ?_|refine not_f ?_|refine nil_i ?_|refine ret1 ?_|refine ret2 ?_|refine ret0 ?_|refine ret3 ?_|refine ex2_0 ?_|refine ex2_1 ?_|refine ex3_0 ?_|refine ex3_1 ?_|refine ex3_2 ?_)
      refine addu_i (a := k) (b := 1) ?_
      rw [Nat.mod_eq_of_lt (by omega)]
      (with_reducible repeat first|refine mv_i ?_|refine cnd_t ?_|refine cnd_f ?_|refine gd_tt ?_|refine gd_ff ?_|refine gd_tf ?_|refine gd_ft ?_|refine gd_u ?_|refine pick_t ?_|refine pick_f ?_|refine not_t ?_|refine not_f ?_|refine nil_i ?_|refine ret1 ?_|refine ret2 ?_|refine ret0 ?_|refine ret3 ?_|refine ex2_0 ?_|refine ex2_1 ?_|refine ex3_0 ?_|refine ex3_1 ?_|refine ex3_2 ?_)
      refine ⟨⟨k + 1, rfl, by omega, rfl⟩, ?_⟩
      simp only [Int.toNat_natCast]
      omega
    · intro k' hk'
      have yes : bestB xss (bestS xss k) k = true → k' [.int .u64 (k : Int)] h1 := fun e => hk' _ _ ⟨by simp only [bestS]; rw [if_pos e], rfl⟩
      have no : bestB xss (bestS xss k) k = false → k' [.int .u64 (bestS xss k : Nat)] h1 := fun e => hk' _ _ ⟨by simp only [bestS]; rw [if_neg (by rw [e]; simp)], rfl⟩
      have hk3 : k < 4096 := by omega
      (with_reducible repeat first|refine mv_i ?_|refine cnd_t ?_|refine cnd_f ?_|refine gd_tt ?_|refine gd_ff ?_|refine gd_tf ?_|refine gd_ft ?_|refine gd_u ?_|refine pick_t ?_|refine pick_f ?_|refine not_t ?_|refine not_f ?_|refine nil_i ?_|refine ret1 ?_|refine ret2 ?_|refine ret0 ?_|refine ret3 ?_|refine ex2_0 ?_|refine ex2_1 ?_|refine ex3_0 ?_|refine ex3_1 ?_|refine ex3_2 ?_)
      refine call_r (c53 hk3) ?_
      (with_reducible repeat first|refine mv_i ?_|refine cnd_t ?_|refine cnd_f ?_|refine gd_tt ?_|refine gd_ff ?_|refine gd_tf ?_|refine gd_ft ?_|refine gd_u ?_|refine pick_t ?_|refine pick_f ?_|refine not_t ?_|refine not_f ?_|refine nil_i ?_|refine ret1 ?_|refine ret2 ?_|refine ret0 ?_|refine ret3 ?_|refine ex2_0 ?_|refine ex2_1 ?_|refine ex3_0 ?_|refine ex3_1 ?_|refine ex3_2 ?_)
      refine call_r (c53 hbk.2.1) ?_
      refine lss_i (fun hl => ?_) (fun hl => ?_)
      · have c := c39 (h := h1) (ch := elems k) sw htt (elems_tests k)
        rw [bits_elems hk3] at c
        (with_reducible repeat first|refine mv_i ?_|refine cnd_t ?_|refine cnd_f ?_|refine gd_tt ?_|refine gd_ff ?_|refine gd_tf ?_|refine gd_ft ?_|refine gd_u ?_|refine pick_t ?_|refine pick_f ?_|refine not_t ?_|refine not_f ?_|refine nil_i ?_|refine ret1 ?_|refine ret2 ?_|refine ret0 ?_|refine ret3 ?_|refine ex2_0 ?_|refine ex2_1 ?_|refine ex3_0 ?_|refine ex3_1 ?_|refine ex3_2 ?_)
        refine call_r c ?_
        have ed : decide (ones k < ones (bestS xss k)) = true := decide_eq_true (by omega)
        cases hc : isChoice xss (elems k) with
        | true =>
          (with_reducible repeat first|refine mv_i ?_|refine cnd_t ?_|refine cnd_f ?_|refine gd_tt ?_|refine gd_ff ?_|refine gd_tf ?_|refine gd_ft ?_|refine gd_u ?_|refine pick_t ?_|refine pick_f ?_|refine not_t ?_|refine not_f ?_|refine nil_i ?_|refine ret1 ?_|refine ret2 ?_|refine ret0 ?_|refine ret3 ?_|refine ex2_0 ?_|refine ex2_1 ?_|refine ex3_0 ?_|refine ex3_1 ?_|refine ex3_2 ?_)
          exact yes (by unfold bestB; rw [hc, ed]; rfl)
        | false =>
          (with_reducible repeat first|refine mv_i ?_|refine cnd_t ?_|refine cnd_f ?_|refine gd_tt ?_|refine gd_ff ?_|refine gd_tf ?_|refine gd_ft ?_|refine gd_u ?_|refine pick_t ?_|refine pick_f ?_|refine not_t ?_|refine not_f ?_|refine nil_i ?_|refine ret1 ?_|refine ret2 ?_|refine ret0 ?_|refine ret3 ?_|refine ex2_0 ?_|refine ex2_1 ?_|refine ex3_0 ?_|refine ex3_1 ?_|refine ex3_2 ?_)
          exact no (by unfold bestB; rw [hc, ed]; rfl)
      · have ed : decide (ones k < ones (bestS xss k)) = false := decide_eq_false (by omega)
        (with_reducible repeat first|refine mv_i ?_|refine cnd_t ?_|refine cnd_f ?_|refine gd_tt ?_|refine gd_ff ?_|refine gd_tf ?_|refine gd_ft ?_|refine gd_u ?_|refine pick_t ?_|refine pick_f ?_|refine not_t ?_|refine not_f ?_|refine nil_i ?_|refine ret1 ?_|refine ret2 ?_|refine ret0 ?_|refine ret3 ?_|refine ex2_0 ?_|refine ex2_1 ?_|refine ex3_0 ?_|refine ex3_1 ?_|refine ex3_2 ?_)
        exact no (by unfold bestB; rw [ed]; rfl)
  · have ek : k = 4095 := by omega
    subst ek
    have hb64 : bestS xss 4095 < 2 ^ 64 := by have := hbk.2.1; omega
    (with_reducible repeat first|refine mv_i ?_|refine cnd_t ?_|refine cnd_f ?_|refine gd_tt ?_|refine gd_ff ?_|refine gd_tf ?_|refine gd_ft ?_|refine gd_u ?_|refine pick_t ?_|refine pick_f ?_|refine not_t ?_|refine not_f ?_|refine nil_i ?_|refine ret1 ?_|refine ret2 ?_|refine ret0 ?_|refine ret3 ?_|refine ex2_0 ?_|refine ex2_1 ?_|refine ex3_0 ?_|refine ex3_1 ?_|refine ex3_2 ?_)
    refine loop2 12 (fun k v h2 => Own 1 h1 h2 v (elemsTo (bestS xss 4095) k).length ((elemsTo (bestS xss 4095) k).map (.int .i64))) (Own.nil 1 (List.prefix_refl _)) ?_
    rintro k v h2 _ hk2 ow
    (with_reducible repeat first|refine mv_i ?_|refine cnd_t ?_|refine cnd_f ?_|refine gd_tt ?_|refine gd_ff ?_|refine gd_tf ?_|refine gd_ft ?_|refine gd_u ?_|refine pick_t ?_|refine pick_f ?_|refine not_t ?_|refine not_f ?_|refine nil_i ?_|refine ret1 ?_|refine ret2 ?_|refine ret0 ?_|refine ret3 ?_|refine ex2_0 ?_|refine ex2_1 ?_|refine ex3_0 ?_|refine ex3_1 ?_|refine ex3_2 ?_)
    refine lss_i (fun hlt => ?_) (fun hge2 => ?_)
    · (with_reducible repeat first|refine mv_i ?_|refine cnd_t ?_|refine cnd_f ?_|refine gd_tt ?_|refine gd_ff ?_|refine gd_tf ?_|refine gd_ft ?_|refine gd_u ?_|refine pick_t ?_|refine pick_f ?_|refine not_t ?_|refine not_f ?_|refine nil_i ?_|refine ret1 ?_|refine ret2 ?_|refine ret0 ?_|refine ret3 ?_|refine ex2_0 ?_|refine ex2_1 ?_|refine ex3_0 ?_|refine ex3_1 ?_|refine ex3_2 ?_)
      refine seq_J (fun xs h3 => ∃ z, xs = [z] ∧ Own 1 h1 h3 z (elemsTo (bestS xss 4095) (k + 1)).length ((elemsTo (bestS xss 4095) (k + 1)).map (.int .i64))) ?_ ?_
      · rintro _ h3 ⟨z, rfl, ow3⟩ _
        (with_reducible repeat first|refine mv_i ?_|refine cnd_t ?_|refine cnd_f ?_|refine gd_tt ?_|refine gd_ff ?_|refine gd_tf ?_|refine gd_ft ?_|refine gd_u ?_|refine pick_t ?_|refine pick_f ?_|refine not_t ?_|refine not_f ?_|refine nil_i ?_|refine ret1 ?_|refine ret2 ?_|refine ret0 ?_|refine ret3 ?_|refine ex2_0 ?_|refine ex2_1 ?_|refine ex3_0 ?_|refine ex3_1 ?_|refine ex3_2 ?_)
        refine inc_i (by omega) ?_
        (with_reducible repeat first|refine mv_i ?_|refine cnd_t ?_|refine cnd_f ?_|refine gd_tt ?_|refine gd_ff ?_|refine gd_tf ?_|refine gd_ft ?_|refine gd_u ?_|refine pick_t ?_|refine pick_f ?_|refine not_t ?_|refine not_f ?_|refine nil_i ?_|refine ret1 ?_|refine ret2 ?_|refine ret0 ?_|refine ret3 ?_|refine ex2_0 ?_|refine ex2_1 ?_|refine ex3_0 ?_|refine ex3_1 ?_|refine ex3_2 ?_)
        exact next2 (by omega) ow3
      · intro k' hk'
        have hsucc := elemsTo_succ (bestS xss 4095) k
        have hl := elemsTo_len (bestS xss 4095) k
        (with_reducible repeat first|refine mv_i ?_|refine cnd_t ?_|refine cnd_f ?_|refine gd_tt ?_|refine gd_ff ?_|refine gd_tf ?_|refine gd_ft ?_|refine gd_u ?_|refine pick_t ?_|refine pick_f ?_|refine not_t ?_|refine not_f ?_|refine nil_i ?_|refine ret1 ?_|refine ret2 ?_|refine ret0 ?_|refine ret3 ?_|refine ex2_0 ?_|refine ex2_1 ?_|refine ex3_0 ?_|refine ex3_1 ?_|refine ex3_2 ?_)
        refine shr_i (by omega) (by omega) ?_
        rw [Int.toNat_natCast]
        refine and1_i (shr_lt hb64) ?_
        refine eql_i (fun e => ?_) (fun e => ?_)
        · rw [if_pos ((bit_iff _ _).mp e)] at hsucc
          (with_reducible repeat first|refine mv_i ?_|refine cnd_t ?_|refine cnd_f ?_|refine gd_tt ?_|refine gd_ff ?_|refine gd_tf ?_|refine gd_ft ?_|refine gd_u ?_|refine pick_t ?_|refine pick_f ?_|refine not_t ?_|refine not_f ?_|refine nil_i ?_|refine ret1 ?_|refine ret2 ?_|refine ret0 ?_|refine ret3 ?_|refine ex2_0 ?_|refine ex2_1 ?_|refine ex3_0 ?_|refine ex3_1 ?_|refine ex3_2 ?_)
          refine ok_i (bs23_1 _ _) ?_
          obtain ⟨o6, _⟩ := ow.ext (pre_new h2 [.int .i64 (k : Int)] 1)
          refine app_i t23 o6 (Seg.new (n := 1) 2 (by simp) (by omega)) (by simp [Value.oneCell']) (by omega) ⟨by omega, by omega⟩ fun v' h' o7 _ => ?_
          (with_reducible repeat first|refine mv_i ?_|refine cnd_t ?_|refine cnd_f ?_|refine gd_tt ?_|refine gd_ff ?_|refine gd_tf ?_|refine gd_ft ?_|refine gd_u ?_|refine pick_t ?_|refine pick_f ?_|refine not_t ?_|refine not_f ?_|refine nil_i ?_|refine ret1 ?_|refine ret2 ?_|refine ret0 ?_|refine ret3 ?_|refine ex2_0 ?_|refine ex2_1 ?_|refine ex3_0 ?_|refine ex3_1 ?_|refine ex3_2 ?_)
          refine hk' _ _ ⟨_, rfl, ?_⟩
          rw [hsucc, List.length_append, List.map_append]
          exact o7
        · rw [if_neg (fun q => e ((bit_iff _ _).mpr q))] at hsucc
          (with_reducible repeat first|refine mv_i ?_|refine cnd_t ?_|refine cnd_f ?_|refine gd_tt ?_|refine gd_ff ?_|refine gd_tf ?_|refine gd_ft ?_|refine gd_u ?_|refine pick_t ?_|refine pick_f ?_|refine not_t ?_|refine not_f ?_|refine nil_i ?_|refine ret1 ?_|refine ret2 ?_|refine ret0 ?_|refine ret3 ?_|refine ex2_0 ?_|refine ex2_1 ?_|refine ex3_0 ?_|refine ex3_1 ?_|refine ex3_2 ?_)
          refine hk' _ _ ⟨_, rfl, ?_⟩
          rw [hsucc]; exact ow
    · have ek : k = 12 := by omega
      subst ek
      have sc : IntS h2 v (smC xss) := ow.seg
      have hcl := smC_len xss
      (with_reducible repeat first|refine mv_i ?_|refine cnd_t ?_|refine cnd_f ?_|refine gd_tt ?_|refine gd_ff ?_|refine gd_tf ?_|refine gd_ft ?_|refine gd_u ?_|refine pick_t ?_|refine pick_f ?_|refine not_t ?_|refine not_f ?_|refine nil_i ?_|refine ret1 ?_|refine ret2 ?_|refine ret0 ?_|refine ret3 ?_|refine ex2_0 ?_|refine ex2_1 ?_|refine ex3_0 ?_|refine ex3_1 ?_|refine ex3_2 ?_)
      refine seq_J (fun xs h3 => ∃ z, xs = [z] ∧ h2 <+: h3 ∧ IntS h3 z (smP xss)) ?_ ?_
      · rintro _ h3 ⟨z, rfl, p3, sz⟩ _
        (with_reducible repeat first|refine mv_i ?_|refine cnd_t ?_|refine cnd_f ?_|refine gd_tt ?_|refine gd_ff ?_|refine gd_tf ?_|refine gd_ft ?_|refine gd_u ?_|refine pick_t ?_|refine pick_f ?_|refine not_t ?_|refine not_f ?_|refine nil_i ?_|refine ret1 ?_|refine ret2 ?_|refine ret0 ?_|refine ret3 ?_|refine ex2_0 ?_|refine ex2_1 ?_|refine ex3_0 ?_|refine ex3_1 ?_|refine ex3_2 ?_)
        refine ⟨(p1.trans ow.pre).trans p3, v, z, by rw [hz]; rfl, ?_, ?_⟩
        · rw [if_pos hz]; exact sc.mono (Sub.of_pre p3)
        · rw [if_pos hz]; exact sz
      · intro k' hk'
        (with_reducible repeat first|refine mv_i ?_|refine cnd_t ?_|refine cnd_f ?_|refine gd_tt ?_|refine gd_ff ?_|refine gd_tf ?_|refine gd_ft ?_|refine gd_u ?_|refine pick_t ?_|refine pick_f ?_|refine not_t ?_|refine not_f ?_|refine nil_i ?_|refine ret1 ?_|refine ret2 ?_|refine ret0 ?_|refine ret3 ?_|refine ex2_0 ?_|refine ex2_1 ?_|refine ex3_0 ?_|refine ex3_1 ?_|refine ex3_2 ?_)
        refine leni_i t23 sc ?_
        refine gtr_i (fun hg => ?_) (fun hg => ?_)
        · have hn : (smC xss).length ≠ 0 := by omega
          (with_reducible repeat first|refine mv_i ?_|refine cnd_t ?_|refine cnd_f ?_|refine gd_tt ?_|refine gd_ff ?_|refine gd_tf ?_|refine gd_ft ?_|refine gd_u ?_|refine pick_t ?_|refine pick_f ?_|refine not_t ?_|refine not_f ?_|refine nil_i ?_|refine ret1 ?_|refine ret2 ?_|refine ret0 ?_|refine ret3 ?_|refine ex2_0 ?_|refine ex2_1 ?_|refine ex3_0 ?_|refine ex3_1 ?_|refine ex3_2 ?_)
          refine leni_i t23 sc ?_
          refine sub_i ⟨by omega, by omega⟩ ?_
          rw [cast_pred hn]
          have e : smP xss = prvL xss ((smC xss).length - 1) [] := by unfold smP; rw [if_neg hn]
          have hpl := smP_len ok
          rw [e] at hpl
          refine call_i (c54 ok _ (by omega) h2 h2 wv (.slice none 0 0) [] [] (sw.mono (Sub.of_pre ow.pre)) (Own.nil 1 (List.prefix_refl _)) (fun x hx => by simp at hx) (smC_open ok hn) (by simp; omega)) ?_
          rintro z h3 o3
          (with_reducible repeat first|refine mv_i ?_|refine cnd_t ?_|refine cnd_f ?_|refine gd_tt ?_|refine gd_ff ?_|refine gd_tf ?_|refine gd_ft ?_|refine gd_u ?_|refine pick_t ?_|refine pick_f ?_|refine not_t ?_|refine not_f ?_|refine nil_i ?_|refine ret1 ?_|refine ret2 ?_|refine ret0 ?_|refine ret3 ?_|refine ex2_0 ?_|refine ex2_1 ?_|refine ex3_0 ?_|refine ex3_1 ?_|refine ex3_2 ?_)
          refine hk' _ _ ⟨z, rfl, o3.pre, ?_⟩
          rw [e]
          exact o3.seg
        · (with_reducible repeat first|refine mv_i ?_|refine cnd_t ?_|refine cnd_f ?_|refine gd_tt ?_|refine gd_ff ?_|refine gd_tf ?_|refine gd_ft ?_|refine gd_u ?_|refine pick_t ?_|refine pick_f ?_|refine not_t ?_|refine not_f ?_|refine nil_i ?_|refine ret1 ?_|refine ret2 ?_|refine ret0 ?_|refine ret3 ?_|refine ex2_0 ?_|refine ex2_1 ?_|refine ex3_0 ?_|refine ex3_1 ?_|refine ex3_2 ?_)
          refine hk' _ _ ⟨_, rfl, List.prefix_refl _, ?_⟩
          have e : smP xss = [] := by unfold smP; rw [if_pos (by omega)]
          rw [e]
          exact Seg.nil 1 h2

/-! ### the law -/
theorem c6 {a : Value} {xss : List (List Int)} (s : RowsS h a xss) (hf : Few xss) : DetP Try.prog 6 [a] h fun v _ => v = .bool true := by
  refine w6 ?_
  unfold n6
  (with_reducible repeat first|refine mv_i ?_|refine cnd_t ?_|refine cnd_f ?_|refine gd_tt ?_|refine gd_ff ?_|refine gd_tf ?_|refine gd_ft ?_|refine gd_u ?_|refine pick_t ?_|refine pick_f ?_|refine not_t ?_|refine not_f ?_|refine nil_i ?_|refine ret1 ?_|refine ret2 ?_|refine ret0 ?_|refine ret3 ?_|refine ex2_0 ?_|refine ex2_1 ?_|refine ex3_0 ?_|refine ex3_1 ?_|refine ex3_2 ?_)
  refine call_r c10 ?_
  (with_reducible repeat first|refine mv_i ?_|refine cnd_t ?_|refine cnd_f ?_|refine gd_tt ?_|refine gd_ff ?_|refine gd_tf ?_|refine gd_ft ?_|refine gd_u ?_|refine pick_t ?_|refine pick_f ?_|refine not_t ?_|refine not_f ?_|refine nil_i ?_|refine ret1 ?_|refine ret2 ?_|refine ret0 ?_|refine ret3 ?_|refine ex2_0 ?_|refine ex2_1 ?_|refine ex3_0 ?_|refine ex3_1 ?_|refine ex3_2 ?_)
  refine call_i (c12 s hf) ?_
  rintro v1 h1 ⟨p1, s1, _⟩
  refine call_i (c28 s1 hf) ?_
  rintro _ h2 ⟨p2, x, y, rfl, sx, sy⟩
  have s2 := s.mono (Sub.of_pre (p1.trans p2))
  (with_reducible repeat first|refine mv_i ?_|refine cnd_t ?_|refine cnd_f ?_|refine gd_tt ?_|refine gd_ff ?_|refine gd_tf ?_|refine gd_ft ?_|refine gd_u ?_|refine pick_t ?_|refine pick_f ?_|refine not_t ?_|refine not_f ?_|refine nil_i ?_|refine ret1 ?_|refine ret2 ?_|refine ret0 ?_|refine ret3 ?_|refine ex2_0 ?_|refine ex2_1 ?_|refine ex3_0 ?_|refine ex3_1 ?_|refine ex3_2 ?_)
  refine call_r (c14 s2) ?_
  unfold pairV
  (with_reducible repeat first|refine mv_i ?_|refine cnd_t ?_|refine cnd_f ?_|refine gd_tt ?_|refine gd_ff ?_|refine gd_tf ?_|refine gd_ft ?_|refine gd_u ?_|refine pick_t ?_|refine pick_f ?_|refine not_t ?_|refine not_f ?_|refine nil_i ?_|refine ret1 ?_|refine ret2 ?_|refine ret0 ?_|refine ret3 ?_|refine ex2_0 ?_|refine ex2_1 ?_|refine ex3_0 ?_|refine ex3_1 ?_|refine ex3_2 ?_)
  refine neq_i (fun hz => ?_) (fun hz => ?_)
  · rw [if_pos hz] at sx sy
    have ok := tabOK_of hz
    have hcl := smC_len xss
    (with_reducible repeat first|refine mv_i ?_|refine cnd_t ?_|refine cnd_f ?_|refine gd_tt ?_|refine gd_ff ?_|refine gd_tf ?_|refine gd_ft ?_|refine gd_u ?_|refine pick_t ?_|refine pick_f ?_|refine not_t ?_|refine not_f ?_|refine nil_i ?_|refine ret1 ?_|refine ret2 ?_|refine ret0 ?_|refine ret3 ?_|refine ex2_0 ?_|refine ex2_1 ?_|refine ex3_0 ?_|refine ex3_1 ?_|refine ex3_2 ?_)
    refine call_i (c15 s2 hf sx sy (by omega)) ?_
    rintro _ h3 rfl
    unfold pairV
    rw [sm_right ok]
    (with_reducible repeat first|refine mv_i ?_|refine cnd_t ?_|refine cnd_f ?_|refine gd_tt ?_|refine gd_ff ?_|refine gd_tf ?_|refine gd_ft ?_|refine gd_u ?_|refine pick_t ?_|refine pick_f ?_|refine not_t ?_|refine not_f ?_|refine nil_i ?_|refine ret1 ?_|refine ret2 ?_|refine ret0 ?_|refine ret3 ?_|refine ex2_0 ?_|refine ex2_1 ?_|refine ex3_0 ?_|refine ex3_1 ?_|refine ex3_2 ?_)
    refine eql_i (fun _ => ?_) (fun q => absurd hz q)
    (with_reducible repeat first|refine mv_i ?_|refine cnd_t ?_|refine cnd_f ?_|refine gd_tt ?_|refine gd_ff ?_|refine gd_tf ?_|refine gd_ft ?_|refine gd_u ?_|refine pick_t ?_|refine pick_f ?_|refine not_t ?_|refine not_f ?_|refine nil_i ?_|refine ret1 ?_|refine ret2 ?_|refine ret0 ?_|refine ret3 ?_|refine ex2_0 ?_|refine ex2_1 ?_|refine ex3_0 ?_|refine ex3_1 ?_|refine ex3_2 ?_)
    refine eql_i (fun _ => ?_) (fun q => absurd rfl q)
    (with_reducible repeat first|refine mv_i ?_|refine cnd_t ?_|refine cnd_f ?_|refine gd_tt ?_|refine gd_ff ?_|refine gd_tf ?_|refine gd_ft ?_|refine gd_u ?_|refine pick_t ?_|refine pick_f ?_|refine not_t ?_|refine not_f ?_|refine nil_i ?_|refine ret1 ?_|refine ret2 ?_|refine ret0 ?_|refine ret3 ?_|refine ex2_0 ?_|refine ex2_1 ?_|refine ex3_0 ?_|refine ex3_1 ?_|refine ex3_2 ?_)
    rfl
  · rw [if_neg hz] at sx sy
    (with_reducible repeat first|refine mv_i ?_|refine cnd_t ?_|refine cnd_f ?_|refine gd_tt ?_|refine gd_ff ?_|refine gd_tf ?_|refine gd_ft ?_|refine gd_u ?_|refine pick_t ?_|refine pick_f ?_|refine not_t ?_|refine not_f ?_|refine nil_i ?_|refine ret1 ?_|refine ret2 ?_|refine ret0 ?_|refine ret3 ?_|refine ex2_0 ?_|refine ex2_1 ?_|refine ex3_0 ?_|refine ex3_1 ?_|refine ex3_2 ?_)
    refine eql_i (fun _ => ?_) (fun q => absurd rfl q)
    (with_reducible repeat first|refine mv_i ?_|refine cnd_t ?_|refine cnd_f ?_|refine gd_tt ?_|refine gd_ff ?_|refine gd_tf ?_|refine gd_ft ?_|refine gd_u ?_|refine pick_t ?_|refine pick_f ?_|refine not_t ?_|refine not_f ?_|refine nil_i ?_|refine ret1 ?_|refine ret2 ?_|refine ret0 ?_|refine ret3 ?_|refine ex2_0 ?_|refine ex2_1 ?_|refine ex3_0 ?_|refine ex3_1 ?_|refine ex3_2 ?_)
    refine leni_i t23 sx ?_
    (with_reducible repeat first|refine mv_i ?_|refine cnd_t ?_|refine cnd_f ?_|refine gd_tt ?_|refine gd_ff ?_|refine gd_tf ?_|refine gd_ft ?_|refine gd_u ?_|refine pick_t ?_|refine pick_f ?_|refine not_t ?_|refine not_f ?_|refine nil_i ?_|refine ret1 ?_|refine ret2 ?_|refine ret0 ?_|refine ret3 ?_|refine ex2_0 ?_|refine ex2_1 ?_|refine ex3_0 ?_|refine ex3_1 ?_|refine ex3_2 ?_)
    refine leni_i t23 sy ?_
    (with_reducible repeat first|refine mv_i ?_|refine cnd_t ?_|refine cnd_f ?_|refine gd_tt ?_|refine gd_ff ?_|refine gd_tf ?_|refine gd_ft ?_|refine gd_u ?_|refine pick_t ?_|refine pick_f ?_|refine not_t ?_|refine not_f ?_|refine nil_i ?_|refine ret1 ?_|refine ret2 ?_|refine ret0 ?_|refine ret3 ?_|refine ex2_0 ?_|refine ex2_1 ?_|refine ex3_0 ?_|refine ex3_1 ?_|refine ex3_2 ?_)
    refine add_i (show R64 ((([] : List Int).length : Int) + (([] : List Int).length : Int)) from ⟨by decide, by decide⟩) ?_
    (with_reducible repeat first|refine mv_i ?_|refine cnd_t ?_|refine cnd_f ?_|refine gd_tt ?_|refine gd_ff ?_|refine gd_tf ?_|refine gd_ft ?_|refine gd_u ?_|refine pick_t ?_|refine pick_f ?_|refine not_t ?_|refine not_f ?_|refine nil_i ?_|refine ret1 ?_|refine ret2 ?_|refine ret0 ?_|refine ret3 ?_|refine ex2_0 ?_|refine ex2_1 ?_|refine ex3_0 ?_|refine ex3_1 ?_|refine ex3_2 ?_)
    refine eql_i (fun _ => ?_) (fun q => absurd rfl q)
    (with_reducible repeat first|refine mv_i ?_|refine cnd_t ?_|refine cnd_f ?_|refine gd_tt ?_|refine gd_ff ?_|refine gd_tf ?_|refine gd_ft ?_|refine gd_u ?_|refine pick_t ?_|refine pick_f ?_|refine not_t ?_|refine not_f ?_|refine nil_i ?_|refine ret1 ?_|refine ret2 ?_|refine ret0 ?_|refine ret3 ?_|refine ex2_0 ?_|refine ex2_1 ?_|refine ex3_0 ?_|refine ex3_1 ?_|refine ex3_2 ?_)
    rfl
end Go.Proofs.Ytkgdclcmfnhbmaa
