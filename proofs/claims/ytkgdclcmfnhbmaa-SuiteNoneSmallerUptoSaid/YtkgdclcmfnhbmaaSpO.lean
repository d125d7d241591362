import Derived.Test.YtkgdclcmfnhbmaaSpN
import Derived.Test.YtkgdclcmfnhbmaaSpA
set_option linter.unusedSimpArgs false
set_option linter.unusedVariables false
set_option maxRecDepth 100000
namespace Go.Proofs.Ytkgdclcmfnhbmaa
open Go.AM
variable {h h' h0 : Heap}

theorem build75 (o o' : Option Addr) (l c l' c' : Nat) : aBuild Try.prog 75 [(0, .slice o l c), (1, .slice o' l' c')] = some (.agg #[.slice o l c, .slice o' l' c']) := by kernel_rfl
theorem box75 (x y : Value) (h : Heap) : aBox Try.prog 75 (.agg #[x, y]) h = (.pointer (some ⟨h.length, 0, none⟩), newArr h [x, y] 2) := by kernel_rfl
theorem build80 (o : Option Addr) (l c : Nat) : aBuild Try.prog 80 [(0, .slice o l c)] = some (.agg #[.slice o l c, .int .i64 0, .bool false]) := by kernel_rfl
theorem box80 (x y z : Value) (h : Heap) : aBox Try.prog 80 (.agg #[x, y, z]) h = (.pointer (some ⟨h.length, 0, none⟩), newArr h [x, y, z] 3) := by kernel_rfl

def smErr (xss : List (List Int)) (choice proof : List Int) : Int × Int :=
  if tErr choice ≠ 0 then (0, tErr choice)
  else if isChoice xss choice = false then (0, 11)
  else if 20000 < proof.length then (0, 2)
  else if choice.length = 0 then (if 0 < proof.length then (0, 10) else (0, 0))
  else match rdL xss (choice.length - 1) [] proof with | some [] => ((choice.length : Int), 0) | _ => (0, 30)
theorem cast_pred {n : Nat} (hn : n ≠ 0) : (n : Int) - 1 = ((n - 1 : Nat) : Int) := by omega
theorem c15 {a b c : Value} {xss : List (List Int)} {ch pf : List Int} (s : RowsS h a xss) (hf : Few xss) (sc : IntS h b ch) (sp : IntS h c pf) (hl : ch.length ≤ 2 ^ 40) : DetP Try.prog 15 [a, b, c] h fun v _ => v = pairV (smErr xss ch pf) := by
  have ltc := sc.lt
  have ltp := sp.lt
  refine w15 ?_
  unfold n15
  (with_reducible repeat first|refine mv_i ?_|refine cnd_t ?_|refine cnd_f ?_|refine gd_tt ?_|refine gd_ff ?_|refine gd_tf ?_|refine gd_ft ?_|refine gd_u ?_|refine pick_t ?_|refine pick_f ?_|refine not_t ?_|refine not_f ?_|refine nil_i ?_|refine ret1 ?_|refine ret2 ?_|refine ret0 ?_|refine ret3 ?_|refine ex2_0 ?_|refine ex2_1 ?_|refine ex3_0 ?_|refine ex3_1 ?_|refine ex3_2 ?_)
  refine call_r (c42 sc) ?_
  (with_reducible repeat first|refine mv_i ?_|refine cnd_t ?_|refine cnd_f ?_|refine gd_tt ?_|refine gd_ff ?_|refine gd_tf ?_|refine gd_ft ?_|refine gd_u ?_|refine pick_t ?_|refine pick_f ?_|refine not_t ?_|refine not_f ?_|refine nil_i ?_|refine ret1 ?_|refine ret2 ?_|refine ret0 ?_|refine ret3 ?_|refine ex2_0 ?_|refine ex2_1 ?_|refine ex3_0 ?_|refine ex3_1 ?_|refine ex3_2 ?_)
  refine neq_i (fun hz => ?_) (fun hz => ?_)
  · (with_reducible repeat first|refine mv_i ?_|refine cnd_t ?_|refine cnd_f ?_|refine gd_tt ?_|refine gd_ff ?_|refine gd_tf ?_|refine gd_ft ?_|refine gd_u ?_|refine pick_t ?_|refine pick_f ?_|refine not_t ?_|refine not_f ?_|refine nil_i ?_|refine ret1 ?_|refine ret2 ?_|refine ret0 ?_|refine ret3 ?_|refine ex2_0 ?_|refine ex2_1 ?_|refine ex3_0 ?_|refine ex3_1 ?_|refine ex3_2 ?_)
    refine call_r (c29 s sc) ?_
    cases hi : isChoice xss ch with
    | false =>
      (with_reducible repeat first|refine mv_i ?_|refine cnd_t ?_|refine cnd_f ?_|refine gd_tt ?_|refine gd_ff ?_|refine gd_tf ?_|refine gd_ft ?_|refine gd_u ?_|refine pick_t ?_|refine pick_f ?_|refine not_t ?_|refine not_f ?_|refine nil_i ?_|refine ret1 ?_|refine ret2 ?_|refine ret0 ?_|refine ret3 ?_|refine ex2_0 ?_|refine ex2_1 ?_|refine ex3_0 ?_|refine ex3_1 ?_|refine ex3_2 ?_)
      unfold smErr
      rw [if_neg (fun h => h hz), if_pos hi]; rfl
    | true =>
      (with_reducible repeat first|refine mv_i ?_|refine cnd_t ?_|refine cnd_f ?_|refine gd_tt ?_|refine gd_ff ?_|refine gd_tf ?_|refine gd_ft ?_|refine gd_u ?_|refine pick_t ?_|refine pick_f ?_|refine not_t ?_|refine not_f ?_|refine nil_i ?_|refine ret1 ?_|refine ret2 ?_|refine ret0 ?_|refine ret3 ?_|refine ex2_0 ?_|refine ex2_1 ?_|refine ex3_0 ?_|refine ex3_1 ?_|refine ex3_2 ?_)
      refine leni_i t23 sp ?_
      refine gtr_i (fun hg => ?_) (fun hg => ?_)
      · (with_reducible repeat first|refine mv_i ?_|refine cnd_t ?_|refine cnd_f ?_|refine gd_tt ?_|refine gd_ff ?_|refine gd_tf ?_|refine gd_ft ?_|refine gd_u ?_|refine pick_t ?_|refine pick_f ?_|refine not_t ?_|refine not_f ?_|refine nil_i ?_|refine ret1 ?_|refine ret2 ?_|refine ret0 ?_|refine ret3 ?_|refine ex2_0 ?_|refine ex2_1 ?_|refine ex3_0 ?_|refine ex3_1 ?_|refine ex3_2 ?_)
        unfold smErr
        rw [if_neg (fun h => h hz), if_neg (by rw [hi]; simp), if_pos (by omega)]; rfl
      · (with_reducible repeat first|refine mv_i ?_|refine cnd_t ?_|refine cnd_f ?_|refine gd_tt ?_|refine gd_ff ?_|refine gd_tf ?_|refine gd_ft ?_|refine gd_u ?_|refine pick_t ?_|refine pick_f ?_|refine not_t ?_|refine not_f ?_|refine nil_i ?_|refine ret1 ?_|refine ret2 ?_|refine ret0 ?_|refine ret3 ?_|refine ex2_0 ?_|refine ex2_1 ?_|refine ex3_0 ?_|refine ex3_1 ?_|refine ex3_2 ?_)
        refine leni_i t23 sc ?_
        refine eql_i (fun h0 => ?_) (fun h0 => ?_)
        · (with_reducible repeat first|refine mv_i ?_|refine cnd_t ?_|refine cnd_f ?_|refine gd_tt ?_|refine gd_ff ?_|refine gd_tf ?_|refine gd_ft ?_|refine gd_u ?_|refine pick_t ?_|refine pick_f ?_|refine not_t ?_|refine not_f ?_|refine nil_i ?_|refine ret1 ?_|refine ret2 ?_|refine ret0 ?_|refine ret3 ?_|refine ex2_0 ?_|refine ex2_1 ?_|refine ex3_0 ?_|refine ex3_1 ?_|refine ex3_2 ?_)
          refine leni_i t23 sp ?_
          refine gtr_i (fun hp => ?_) (fun hp => ?_)
          · (with_reducible repeat first|refine mv_i ?_|refine cnd_t ?_|refine cnd_f ?_|refine gd_tt ?_|refine gd_ff ?_|refine gd_tf ?_|refine gd_ft ?_|refine gd_u ?_|refine pick_t ?_|refine pick_f ?_|refine not_t ?_|refine not_f ?_|refine nil_i ?_|refine ret1 ?_|refine ret2 ?_|refine ret0 ?_|refine ret3 ?_|refine ex2_0 ?_|refine ex2_1 ?_|refine ex3_0 ?_|refine ex3_1 ?_|refine ex3_2 ?_)
            unfold smErr
            rw [if_neg (fun h => h hz), if_neg (by rw [hi]; simp), if_neg (by omega), if_pos (by omega), if_pos (by omega)]; rfl
          · (with_reducible repeat first|refine mv_i ?_|refine cnd_t ?_|refine cnd_f ?_|refine gd_tt ?_|refine gd_ff ?_|refine gd_tf ?_|refine gd_ft ?_|refine gd_u ?_|refine pick_t ?_|refine pick_f ?_|refine not_t ?_|refine not_f ?_|refine nil_i ?_|refine ret1 ?_|refine ret2 ?_|refine ret0 ?_|refine ret3 ?_|refine ex2_0 ?_|refine ex2_1 ?_|refine ex3_0 ?_|refine ex3_1 ?_|refine ex3_2 ?_)
            unfold smErr
            rw [if_neg (fun h => h hz), if_neg (by rw [hi]; simp), if_neg (by omega), if_pos (by omega), if_neg (by omega)]; rfl
        · (with_reducible repeat first|refine mv_i ?_|refine cnd_t ?_|refine cnd_f ?_|refine gd_tt ?_|refine gd_ff ?_|refine gd_tf ?_|refine gd_ft ?_|refine gd_u ?_|refine pick_t ?_|refine pick_f ?_|refine not_t ?_|refine not_f ?_|refine nil_i ?_|refine ret1 ?_|refine ret2 ?_|refine ret0 ?_|refine ret3 ?_|refine ex2_0 ?_|refine ex2_1 ?_|refine ex3_0 ?_|refine ex3_1 ?_|refine ex3_2 ?_)
          obtain ⟨o, l, cp, rfl⟩ := seg_slice sp
          refine vk_i (build80 o l cp) ?_
          rw [box80]
          refine ok_i rfl ?_
          have hp := pre_new h [.slice o l cp, .int .i64 0, .bool false] 3
          have hs := Sub.of_pre hp
          have hrk : Rk h.length (newArr h [.slice o l cp, .int .i64 0, .bool false] 3) (.slice o l cp) 0 false := newArr_get _ _ _
          (with_reducible repeat first|refine mv_i ?_|refine cnd_t ?_|refine cnd_f ?_|refine gd_tt ?_|refine gd_ff ?_|refine gd_tf ?_|refine gd_ft ?_|refine gd_u ?_|refine pick_t ?_|refine pick_f ?_|refine not_t ?_|refine not_f ?_|refine nil_i ?_|refine ret1 ?_|refine ret2 ?_|refine ret0 ?_|refine ret3 ?_|refine ex2_0 ?_|refine ex2_1 ?_|refine ex3_0 ?_|refine ex3_1 ?_|refine ex3_2 ?_)
          refine leni_i t23 sc ?_
          refine sub_i ⟨by omega, by omega⟩ ?_
          rw [cast_pred (by omega)]
          have sp2 := sp.mono hs
          refine call_i (c43 hf (ch.length - 1) (by omega) _ h.length _ a (.slice none 0 0) [] pf 0 hrk (s.mono hs) sp2 (Seg.nil 1 _) (by omega) (by simp; omega)) ?_
          rintro _ h2 ⟨kp, at_, bad, rk2, hres⟩
          have hval : smErr xss ch pf = match rdL xss (ch.length - 1) [] pf with | some [] => ((ch.length : Int), 0) | _ => (0, 30) := by
            unfold smErr
            rw [if_neg (fun h => h hz), if_neg (by rw [hi]; simp), if_neg (by omega), if_neg (by omega)]
          unfold Res43 at hres
          rw [List.drop_zero] at hres
          (with_reducible repeat first|refine mv_i ?_|refine cnd_t ?_|refine cnd_f ?_|refine gd_tt ?_|refine gd_ff ?_|refine gd_tf ?_|refine gd_ft ?_|refine gd_u ?_|refine pick_t ?_|refine pick_f ?_|refine not_t ?_|refine not_f ?_|refine nil_i ?_|refine ret1 ?_|refine ret2 ?_|refine ret0 ?_|refine ret3 ?_|refine ex2_0 ?_|refine ex2_1 ?_|refine ex3_0 ?_|refine ex3_1 ?_|refine ex3_2 ?_)
          refine vk_i (fa80_2 _) ?_
          refine ldc_i r4 rk2 rfl ?_
          cases bad with
          | true =>
            (with_reducible repeat first|refine mv_i ?_|refine cnd_t ?_|refine cnd_f ?_|refine gd_tt ?_|refine gd_ff ?_|refine gd_tf ?_|refine gd_ft ?_|refine gd_u ?_|refine pick_t ?_|refine pick_f ?_|refine not_t ?_|refine not_f ?_|refine nil_i ?_|refine ret1 ?_|refine ret2 ?_|refine ret0 ?_|refine ret3 ?_|refine ex2_0 ?_|refine ex2_1 ?_|refine ex3_0 ?_|refine ex3_1 ?_|refine ex3_2 ?_)
            have hno : rdL xss (ch.length - 1) [] pf = none := by
              cases e : rdL xss (ch.length - 1) [] pf with
              | none => rfl
              | some rest => rw [e] at hres; exact absurd hres.1 (by simp)
            rw [hval, hno]; rfl
          | false =>
            (with_reducible repeat first|refine mv_i ?_|refine cnd_t ?_|refine cnd_f ?_|refine gd_tt ?_|refine gd_ff ?_|refine gd_tf ?_|refine gd_ft ?_|refine gd_u ?_|refine pick_t ?_|refine pick_f ?_|refine not_t ?_|refine not_f ?_|refine nil_i ?_|refine ret1 ?_|refine ret2 ?_|refine ret0 ?_|refine ret3 ?_|refine ex2_0 ?_|refine ex2_1 ?_|refine ex3_0 ?_|refine ex3_1 ?_|refine ex3_2 ?_)
            refine vk_i (fa80_1 _) ?_
            (with_reducible repeat first|refine mv_i ?_|refine cnd_t ?_|refine cnd_f ?_|refine gd_tt ?_|refine gd_ff ?_|refine gd_tf ?_|refine gd_ft ?_|refine gd_u ?_|refine pick_t ?_|refine pick_f ?_|refine not_t ?_|refine not_f ?_|refine nil_i ?_|refine ret1 ?_|refine ret2 ?_|refine ret0 ?_|refine ret3 ?_|refine ex2_0 ?_|refine ex2_1 ?_|refine ex3_0 ?_|refine ex3_1 ?_|refine ex3_2 ?_)
            refine ldc_i r3 rk2 rfl ?_
            (with_reducible repeat first|refine mv_i ?_|refine cnd_t ?_|refine cnd_f ?_|refine gd_tt ?_|refine gd_ff ?_|refine gd_tf ?_|refine gd_ft ?_|refine gd_u ?_|refine pick_t ?_|refine pick_f ?_|refine not_t ?_|refine not_f ?_|refine nil_i ?_|refine ret1 ?_|refine ret2 ?_|refine ret0 ?_|refine ret3 ?_|refine ex2_0 ?_|refine ex2_1 ?_|refine ex3_0 ?_|refine ex3_1 ?_|refine ex3_2 ?_)
            have sp3 := sp2.keep kp hrk (by simp)
            refine leni_i t23 sp3 ?_
            (with_reducible repeat first|refine mv_i ?_|refine cnd_t ?_|refine cnd_f ?_|refine gd_tt ?_|refine gd_ff ?_|refine gd_tf ?_|refine gd_ft ?_|refine gd_u ?_|refine pick_t ?_|refine pick_f ?_|refine not_t ?_|refine not_f ?_|refine nil_i ?_|refine ret1 ?_|refine ret2 ?_|refine ret0 ?_|refine ret3 ?_|refine ex2_0 ?_|refine ex2_1 ?_|refine ex3_0 ?_|refine ex3_1 ?_|refine ex3_2 ?_)
            cases e : rdL xss (ch.length - 1) [] pf with
            | none => rw [e] at hres; cases hres
            | some rest =>
              rw [e] at hres
              obtain ⟨_, hle, hdrop⟩ := hres
              refine lss_i (fun hlt => ?_) (fun hlt => ?_)
              · (with_reducible repeat first|refine mv_i ?_|refine cnd_t ?_|refine cnd_f ?_|refine gd_tt ?_|refine gd_ff ?_|refine gd_tf ?_|refine gd_ft ?_|refine gd_u ?_|refine pick_t ?_|refine pick_f ?_|refine not_t ?_|refine not_f ?_|refine nil_i ?_|refine ret1 ?_|refine ret2 ?_|refine ret0 ?_|refine ret3 ?_|refine ex2_0 ?_|refine ex2_1 ?_|refine ex3_0 ?_|refine ex3_1 ?_|refine ex3_2 ?_)
                rw [hval, e]
                cases rest with
                | nil => exfalso; have := congrArg List.length hdrop; simp at this; omega
                | cons x xs => rfl
              · (with_reducible repeat first|refine mv_i ?_|refine cnd_t ?_|refine cnd_f ?_|refine gd_tt ?_|refine gd_ff ?_|refine gd_tf ?_|refine gd_ft ?_|refine gd_u ?_|refine pick_t ?_|refine pick_f ?_|refine not_t ?_|refine not_f ?_|refine nil_i ?_|refine ret1 ?_|refine ret2 ?_|refine ret0 ?_|refine ret3 ?_|refine ex2_0 ?_|refine ex2_1 ?_|refine ex3_0 ?_|refine ex3_1 ?_|refine ex3_2 ?_)
                refine leni_i t23 ((sc.mono hs).keep kp hrk (by simp)) ?_
                (with_reducible repeat first|refine mv_i ?_|refine cnd_t ?_|refine cnd_f ?_|refine gd_tt ?_|refine gd_ff ?_|refine gd_tf ?_|refine gd_ft ?_|refine gd_u ?_|refine pick_t ?_|refine pick_f ?_|refine not_t ?_|refine not_f ?_|refine nil_i ?_|refine ret1 ?_|refine ret2 ?_|refine ret0 ?_|refine ret3 ?_|refine ex2_0 ?_|refine ex2_1 ?_|refine ex3_0 ?_|refine ex3_1 ?_|refine ex3_2 ?_)
                rw [hval, e]
                cases rest with
                | nil => rfl
                | cons x xs => exfalso; have := congrArg List.length hdrop; simp at this; omega
  · (with_reducible repeat first|refine mv_i ?_|refine cnd_t ?_|refine cnd_f ?_|refine gd_tt ?_|refine gd_ff ?_|refine gd_tf ?_|refine gd_ft ?_|refine gd_u ?_|refine pick_t ?_|refine pick_f ?_|refine not_t ?_|refine not_f ?_|refine nil_i ?_|refine ret1 ?_|refine ret2 ?_|refine ret0 ?_|refine ret3 ?_|refine ex2_0 ?_|refine ex2_1 ?_|refine ex3_0 ?_|refine ex3_1 ?_|refine ex3_2 ?_)
    unfold smErr
    rw [if_pos hz]; rfl
theorem smErr_code {xss : List (List Int)} {ch pf : List Int} (hz2 : tErr ch = 0) (hz3 : ¬ (if isChoice xss ch = false then (11 : Int) else if 20000 < pf.length then 2 else if ch.length = 0 ∧ 0 < pf.length then 10 else 0) = 0) :
    smErr xss ch pf = (0, if isChoice xss ch = false then 11 else if 20000 < pf.length then 2 else if ch.length = 0 ∧ 0 < pf.length then 10 else 0) := by
  unfold smErr
  rw [if_neg (fun h => h hz2)]
  by_cases h1 : isChoice xss ch = false
  · rw [if_pos h1, if_pos h1]
  · rw [if_neg h1] at hz3
    rw [if_neg h1, if_neg h1]
    by_cases h2 : 20000 < pf.length
    · rw [if_pos h2, if_pos h2]
    · rw [if_neg h2] at hz3
      rw [if_neg h2, if_neg h2]
      by_cases h3 : ch.length = 0 ∧ 0 < pf.length
      · rw [if_pos h3, if_pos h3.1, if_pos h3.2]
      · rw [if_neg h3] at hz3; exact absurd rfl hz3
theorem c11 {a b c : Value} {xss : List (List Int)} {ch pf : List Int} (s : RowsS h a xss) (hf : Few xss) (sc : IntS h b ch) (sp : IntS h c pf) (hl : ch.length ≤ 2 ^ 40) :
    DetP Try.prog 11 [a, b, c] h fun v h' => v = pairV (if (tabErr xss).2 ≠ 0 then (0, (tabErr xss).2) else smErr xss ch pf) ∧ Sub h h' := by
  have ltc := sc.lt
  have ltp := sp.lt
  refine w11 ?_
  unfold n11
  (with_reducible repeat first|refine mv_i ?_|refine cnd_t ?_|refine cnd_f ?_|refine gd_tt ?_|refine gd_ff ?_|refine gd_tf ?_|refine gd_ft ?_|refine gd_u ?_|refine pick_t ?_|refine pick_f ?_|refine not_t ?_|refine not_f ?_|refine nil_i ?_|refine ret1 ?_|refine ret2 ?_|refine ret0 ?_|refine ret3 ?_|refine ex2_0 ?_|refine ex2_1 ?_|refine ex3_0 ?_|refine ex3_1 ?_|refine ex3_2 ?_)
  refine call_r (c24 s) ?_
  unfold pairV
  (with_reducible repeat first|refine mv_i ?_|refine cnd_t ?_|refine cnd_f ?_|refine gd_tt ?_|refine gd_ff ?_|refine gd_tf ?_|refine gd_ft ?_|refine gd_u ?_|refine pick_t ?_|refine pick_f ?_|refine not_t ?_|refine not_f ?_|refine nil_i ?_|refine ret1 ?_|refine ret2 ?_|refine ret0 ?_|refine ret3 ?_|refine ex2_0 ?_|refine ex2_1 ?_|refine ex3_0 ?_|refine ex3_1 ?_|refine ex3_2 ?_)
  refine neq_i (fun hz => ?_) (fun hz => ?_)
  · rw [if_neg (fun h => h hz)]
    have hok := tab_ok hz
    have htt := tab_tests hz
    (with_reducible repeat first|refine mv_i ?_|refine cnd_t ?_|refine cnd_f ?_|refine gd_tt ?_|refine gd_ff ?_|refine gd_tf ?_|refine gd_ft ?_|refine gd_u ?_|refine pick_t ?_|refine pick_f ?_|refine not_t ?_|refine not_f ?_|refine nil_i ?_|refine ret1 ?_|refine ret2 ?_|refine ret0 ?_|refine ret3 ?_|refine ex2_0 ?_|refine ex2_1 ?_|refine ex3_0 ?_|refine ex3_1 ?_|refine ex3_2 ?_)
    refine call_r (c35 sc) ?_
    (with_reducible repeat first|refine mv_i ?_|refine cnd_t ?_|refine cnd_f ?_|refine gd_tt ?_|refine gd_ff ?_|refine gd_tf ?_|refine gd_ft ?_|refine gd_u ?_|refine pick_t ?_|refine pick_f ?_|refine not_t ?_|refine not_f ?_|refine nil_i ?_|refine ret1 ?_|refine ret2 ?_|refine ret0 ?_|refine ret3 ?_|refine ex2_0 ?_|refine ex2_1 ?_|refine ex3_0 ?_|refine ex3_1 ?_|refine ex3_2 ?_)
    refine neq_i (fun hz2 => ?_) (fun hz2 => ?_)
    · have hct := tErr_ok hz2
      (with_reducible repeat first|refine mv_i ?_|refine cnd_t ?_|refine cnd_f ?_|refine gd_tt ?_|refine gd_ff ?_|refine gd_tf ?_|refine gd_ft ?_|refine gd_u ?_|refine pick_t ?_|refine pick_f ?_|refine not_t ?_|refine not_f ?_|refine nil_i ?_|refine ret1 ?_|refine ret2 ?_|refine ret0 ?_|refine ret3 ?_|refine ex2_0 ?_|refine ex2_1 ?_|refine ex3_0 ?_|refine ex3_1 ?_|refine ex3_2 ?_)
      refine call_i (c36 s hf htt) ?_
      rintro wv h1 ⟨p1, sw⟩
      have sc1 := sc.mono (Sub.of_pre p1)
      have sp1 := sp.mono (Sub.of_pre p1)
      (with_reducible repeat first|refine mv_i ?_|refine cnd_t ?_|refine cnd_f ?_|refine gd_tt ?_|refine gd_ff ?_|refine gd_tf ?_|refine gd_ft ?_|refine gd_u ?_|refine pick_t ?_|refine pick_f ?_|refine not_t ?_|refine not_f ?_|refine nil_i ?_|refine ret1 ?_|refine ret2 ?_|refine ret0 ?_|refine ret3 ?_|refine ex2_0 ?_|refine ex2_1 ?_|refine ex3_0 ?_|refine ex3_1 ?_|refine ex3_2 ?_)
      refine call_r (c40 sc1 hct) ?_
      refine call_r (c39 sw htt hct) ?_
      refine call_r (c38 _ _) ?_
      (with_reducible repeat first|refine mv_i ?_|refine cnd_t ?_|refine cnd_f ?_|refine gd_tt ?_|refine gd_ff ?_|refine gd_tf ?_|refine gd_ft ?_|refine gd_u ?_|refine pick_t ?_|refine pick_f ?_|refine not_t ?_|refine not_f ?_|refine nil_i ?_|refine ret1 ?_|refine ret2 ?_|refine ret0 ?_|refine ret3 ?_|refine ex2_0 ?_|refine ex2_1 ?_|refine ex3_0 ?_|refine ex3_1 ?_|refine ex3_2 ?_)
      refine leni_i t23 sp1 ?_
      refine leq_b ?_
      refine call_r (c38 _ _) ?_
      (with_reducible repeat first|refine mv_i ?_|refine cnd_t ?_|refine cnd_f ?_|refine gd_tt ?_|refine gd_ff ?_|refine gd_tf ?_|refine gd_ft ?_|refine gd_u ?_|refine pick_t ?_|refine pick_f ?_|refine not_t ?_|refine not_f ?_|refine nil_i ?_|refine ret1 ?_|refine ret2 ?_|refine ret0 ?_|refine ret3 ?_|refine ex2_0 ?_|refine ex2_1 ?_|refine ex3_0 ?_|refine ex3_1 ?_|refine ex3_2 ?_)
      refine leni_i t23 sc1 ?_
      have tail : ∀ (b : Bool), b = decide (0 < ch.length ∨ pf.length = 0) → ∀ (K : Value → Heap → Prop), (∀ h2, h1 <+: h2 →
          K (.int .i64 (if isChoice xss ch = false then 11 else if 20000 < pf.length then 2 else if ch.length = 0 ∧ 0 < pf.length then 10 else 0)) h2) →
          callK Try.prog (some (38, [.bool b, .int .i64 10])) h1 fun v46 h => okK (aBuildSlice Try.prog 94 3 [(0, .int .i64 (if isChoice xss ch = true then 0 else 11)), (1, .int .i64 (if decide ((pf.length : Int) ≤ 20000) = true then 0 else 2)), (2, v46)] h) fun v47 h =>
            callK Try.prog (some (37, [v47])) h K := by
        intro b hb K hK
        refine call_r (c38 _ _) ?_
        refine ok_i (bs94_3 _ _ _ _) ?_
        refine call_r (c37 (xs := [_, _, _]) (Seg.new 4 (by rfl) (by simp))) ?_
        rw [or3]
        have := hK _ (pre_new h1 [.int .i64 (if isChoice xss ch = true then 0 else 11), .int .i64 (if decide ((pf.length : Int) ≤ 20000) = true then 0 else 2), .int .i64 (if b = true then 0 else 10)] 1)
        have ev : (if (if isChoice xss ch = true then (0 : Int) else 11) = 0 then (if (if decide ((pf.length : Int) ≤ 20000) = true then (0 : Int) else 2) = 0 then (if b = true then (0 : Int) else 10) else (if decide ((pf.length : Int) ≤ 20000) = true then 0 else 2)) else (if isChoice xss ch = true then 0 else 11)) =
            (if isChoice xss ch = false then 11 else if 20000 < pf.length then 2 else if ch.length = 0 ∧ 0 < pf.length then 10 else 0) := by
          cases isChoice xss ch with
          | false => simp
          | true =>
            by_cases hp : 20000 < pf.length
            · have : ¬ (pf.length : Int) ≤ 20000 := by omega
              simp [hp, this]
            · have h2 : (pf.length : Int) ≤ 20000 := by omega
              subst hb
              rw [decide_eq_true h2]
              by_cases hq : 0 < ch.length ∨ pf.length = 0
              · have h3 : ¬ (ch.length = 0 ∧ 0 < pf.length) := by omega
                rw [decide_eq_true hq]
                simp only [if_true, Bool.true_eq_false, if_false]
                rw [if_neg hp, if_neg h3]
              · have h3 : ch.length = 0 ∧ 0 < pf.length := by omega
                rw [decide_eq_false hq]
                simp only [if_true, Bool.true_eq_false, Bool.false_eq_true, if_false]
                rw [if_neg hp, if_pos h3]
        rw [ev]
        exact this
      refine gtr_i (fun h0 => ?_) (fun h0 => ?_)
      · (with_reducible repeat first|refine mv_i ?_|refine cnd_t ?_|refine cnd_f ?_|refine gd_tt ?_|refine gd_ff ?_|refine gd_tf ?_|refine gd_ft ?_|refine gd_u ?_|refine pick_t ?_|refine pick_f ?_|refine not_t ?_|refine not_f ?_|refine nil_i ?_|refine ret1 ?_|refine ret2 ?_|refine ret0 ?_|refine ret3 ?_|refine ex2_0 ?_|refine ex2_1 ?_|refine ex3_0 ?_|refine ex3_1 ?_|refine ex3_2 ?_)
        refine tail true (by rw [eq_comm, decide_eq_true_eq]; omega) _ ?_
        intro h2 p2
        (with_reducible repeat first|refine mv_i ?_|refine cnd_t ?_|refine cnd_f ?_|refine gd_tt ?_|refine gd_ff ?_|refine gd_tf ?_|refine gd_ft ?_|refine gd_u ?_|refine pick_t ?_|refine pick_f ?_|refine not_t ?_|refine not_f ?_|refine nil_i ?_|refine ret1 ?_|refine ret2 ?_|refine ret0 ?_|refine ret3 ?_|refine ex2_0 ?_|refine ex2_1 ?_|refine ex3_0 ?_|refine ex3_1 ?_|refine ex3_2 ?_)
        refine neq_i (fun hz3 => ?_) (fun hz3 => ?_)
        · have hi : isChoice xss ch = true := by
            cases e : isChoice xss ch with
            | true => rfl
            | false => rw [e] at hz3; exact absurd hz3 (by simp)
          rw [hi] at hz3
          simp only [Bool.true_eq_false, if_false] at hz3
          have hg : ¬ 20000 < pf.length := fun hg => by rw [if_pos hg] at hz3; omega
          rw [if_neg hg] at hz3
          have hx : ¬ (ch.length = 0 ∧ 0 < pf.length) := fun hx => by rw [if_pos hx] at hz3; omega
          have sc2 := sc1.mono (Sub.of_pre p2)
          have sp2 := sp1.mono (Sub.of_pre p2)
          have sw2 := sw.mono (Sub.of_pre p2)
          (with_reducible repeat first|refine mv_i ?_|refine cnd_t ?_|refine cnd_f ?_|refine gd_tt ?_|refine gd_ff ?_|refine gd_tf ?_|refine gd_ft ?_|refine gd_u ?_|refine pick_t ?_|refine pick_f ?_|refine not_t ?_|refine not_f ?_|refine nil_i ?_|refine ret1 ?_|refine ret2 ?_|refine ret0 ?_|refine ret3 ?_|refine ex2_0 ?_|refine ex2_1 ?_|refine ex3_0 ?_|refine ex3_1 ?_|refine ex3_2 ?_)
          refine leni_i t23 sc2 ?_
          refine eql_i (fun hl0 => ?_) (fun hl0 => ?_)
          · (with_reducible repeat first|refine mv_i ?_|refine cnd_t ?_|refine cnd_f ?_|refine gd_tt ?_|refine gd_ff ?_|refine gd_tf ?_|refine gd_ft ?_|refine gd_u ?_|refine pick_t ?_|refine pick_f ?_|refine not_t ?_|refine not_f ?_|refine nil_i ?_|refine ret1 ?_|refine ret2 ?_|refine ret0 ?_|refine ret3 ?_|refine ex2_0 ?_|refine ex2_1 ?_|refine ex3_0 ?_|refine ex3_1 ?_|refine ex3_2 ?_)
            unfold smErr
            rw [if_neg (fun h => h hz2), if_neg (by rw [hi]; simp), if_neg hg, if_pos (by omega), if_neg (by omega)]
            exact ⟨rfl, Sub.of_pre (p1.trans p2)⟩
          · have hval : smErr xss ch pf = match rdL xss (ch.length - 1) [] pf with | some [] => ((ch.length : Int), 0) | _ => (0, 30) := by
              unfold smErr
              rw [if_neg (fun h => h hz2), if_neg (by rw [hi]; simp), if_neg hg, if_neg (by omega)]
            rw [hval]
            obtain ⟨o, l, cp, rfl⟩ := seg_slice sp2
            obtain ⟨o', l', cp', rfl⟩ := seg_slice sw2
            (with_reducible repeat first|refine mv_i ?_|refine cnd_t ?_|refine cnd_f ?_|refine gd_tt ?_|refine gd_ff ?_|refine gd_tf ?_|refine gd_ft ?_|refine gd_u ?_|refine pick_t ?_|refine pick_f ?_|refine not_t ?_|refine not_f ?_|refine nil_i ?_|refine ret1 ?_|refine ret2 ?_|refine ret0 ?_|refine ret3 ?_|refine ex2_0 ?_|refine ex2_1 ?_|refine ex3_0 ?_|refine ex3_1 ?_|refine ex3_2 ?_)
            refine vk_i (build75 o' o l' cp' l cp) ?_
            rw [box75]
            refine ok_i rfl ?_
            have hp := pre_new h2 [.slice o' l' cp', .slice o l cp] 2
            have hs := Sub.of_pre hp
            have hck : Ck h2.length (newArr h2 [.slice o' l' cp', .slice o l cp] 2) (.slice o' l' cp') (.slice o l cp) := newArr_get _ _ _
            have sc3 := sc2.mono hs
            (with_reducible repeat first|refine mv_i ?_|refine cnd_t ?_|refine cnd_f ?_|refine gd_tt ?_|refine gd_ff ?_|refine gd_tf ?_|refine gd_ft ?_|refine gd_u ?_|refine pick_t ?_|refine pick_f ?_|refine not_t ?_|refine not_f ?_|refine nil_i ?_|refine ret1 ?_|refine ret2 ?_|refine ret0 ?_|refine ret3 ?_|refine ex2_0 ?_|refine ex2_1 ?_|refine ex3_0 ?_|refine ex3_1 ?_|refine ex3_2 ?_)
            refine leni_i t23 sc3 ?_
            refine sub_i ⟨by omega, by omega⟩ ?_
            rw [cast_pred (by omega)]
            refine call_i (c41 (fun xs hx => (hok.2 xs hx).2) (ch.length - 1) (by omega) _ h2.length _ _ [] pf hck (sw2.mono hs) (sp2.mono hs) (fun x hx => by cases hx)) ?_
            rintro v h3 ⟨kp, pv', ck3, hres⟩
            have hsub : Sub h h3 := kp.sub (Sub.of_pre ((p1.trans p2).trans hp)) (p1.trans p2).length_le
            cases e : rdL xss (ch.length - 1) [] pf with
            | none =>
              rw [e] at hres
              simp only at hres
              subst hres
              (with_reducible repeat first|refine mv_i ?_|refine cnd_t ?_|refine cnd_f ?_|refine gd_tt ?_|refine gd_ff ?_|refine gd_tf ?_|refine gd_ft ?_|refine gd_u ?_|refine pick_t ?_|refine pick_f ?_|refine not_t ?_|refine not_f ?_|refine nil_i ?_|refine ret1 ?_|refine ret2 ?_|refine ret0 ?_|refine ret3 ?_|refine ex2_0 ?_|refine ex2_1 ?_|refine ex3_0 ?_|refine ex3_1 ?_|refine ex3_2 ?_)
              exact ⟨rfl, hsub⟩
            | some rest =>
              rw [e] at hres
              simp only at hres
              obtain ⟨rfl, sr⟩ := hres
              (with_reducible repeat first|refine mv_i ?_|refine cnd_t ?_|refine cnd_f ?_|refine gd_tt ?_|refine gd_ff ?_|refine gd_tf ?_|refine gd_ft ?_|refine gd_u ?_|refine pick_t ?_|refine pick_f ?_|refine not_t ?_|refine not_f ?_|refine nil_i ?_|refine ret1 ?_|refine ret2 ?_|refine ret0 ?_|refine ret3 ?_|refine ex2_0 ?_|refine ex2_1 ?_|refine ex3_0 ?_|refine ex3_1 ?_|refine ex3_2 ?_)
              refine vk_i (fa75_1 _) ?_
              (with_reducible repeat first|refine mv_i ?_|refine cnd_t ?_|refine cnd_f ?_|refine gd_tt ?_|refine gd_ff ?_|refine gd_tf ?_|refine gd_ft ?_|refine gd_u ?_|refine pick_t ?_|refine pick_f ?_|refine not_t ?_|refine not_f ?_|refine nil_i ?_|refine ret1 ?_|refine ret2 ?_|refine ret0 ?_|refine ret3 ?_|refine ex2_0 ?_|refine ex2_1 ?_|refine ex3_0 ?_|refine ex3_1 ?_|refine ex3_2 ?_)
              refine ldc_i r23 ck3 rfl ?_
              (with_reducible repeat first|refine mv_i ?_|refine cnd_t ?_|refine cnd_f ?_|refine gd_tt ?_|refine gd_ff ?_|refine gd_tf ?_|refine gd_ft ?_|refine gd_u ?_|refine pick_t ?_|refine pick_f ?_|refine not_t ?_|refine not_f ?_|refine nil_i ?_|refine ret1 ?_|refine ret2 ?_|refine ret0 ?_|refine ret3 ?_|refine ex2_0 ?_|refine ex2_1 ?_|refine ex3_0 ?_|refine ex3_1 ?_|refine ex3_2 ?_)
              refine leni_i t23 sr ?_
              (with_reducible repeat first|refine mv_i ?_|refine cnd_t ?_|refine cnd_f ?_|refine gd_tt ?_|refine gd_ff ?_|refine gd_tf ?_|refine gd_ft ?_|refine gd_u ?_|refine pick_t ?_|refine pick_f ?_|refine not_t ?_|refine not_f ?_|refine nil_i ?_|refine ret1 ?_|refine ret2 ?_|refine ret0 ?_|refine ret3 ?_|refine ex2_0 ?_|refine ex2_1 ?_|refine ex3_0 ?_|refine ex3_1 ?_|refine ex3_2 ?_)
              refine gtr_i (fun hr => ?_) (fun hr => ?_)
              · (with_reducible repeat first|refine mv_i ?_|refine cnd_t ?_|refine cnd_f ?_|refine gd_tt ?_|refine gd_ff ?_|refine gd_tf ?_|refine gd_ft ?_|refine gd_u ?_|refine pick_t ?_|refine pick_f ?_|refine not_t ?_|refine not_f ?_|refine nil_i ?_|refine ret1 ?_|refine ret2 ?_|refine ret0 ?_|refine ret3 ?_|refine ex2_0 ?_|refine ex2_1 ?_|refine ex3_0 ?_|refine ex3_1 ?_|refine ex3_2 ?_)
                cases rest with
                | nil => simp at hr
                | cons x xs => exact ⟨rfl, hsub⟩
              · (with_reducible repeat first|refine mv_i ?_|refine cnd_t ?_|refine cnd_f ?_|refine gd_tt ?_|refine gd_ff ?_|refine gd_tf ?_|refine gd_ft ?_|refine gd_u ?_|refine pick_t ?_|refine pick_f ?_|refine not_t ?_|refine not_f ?_|refine nil_i ?_|refine ret1 ?_|refine ret2 ?_|refine ret0 ?_|refine ret3 ?_|refine ex2_0 ?_|refine ex2_1 ?_|refine ex3_0 ?_|refine ex3_1 ?_|refine ex3_2 ?_)
                refine leni_i t23 (sc3.keep kp hck (by simp)) ?_
                (with_reducible repeat first|refine mv_i ?_|refine cnd_t ?_|refine cnd_f ?_|refine gd_tt ?_|refine gd_ff ?_|refine gd_tf ?_|refine gd_ft ?_|refine gd_u ?_|refine pick_t ?_|refine pick_f ?_|refine not_t ?_|refine not_f ?_|refine nil_i ?_|refine ret1 ?_|refine ret2 ?_|refine ret0 ?_|refine ret3 ?_|refine ex2_0 ?_|refine ex2_1 ?_|refine ex3_0 ?_|refine ex3_1 ?_|refine ex3_2 ?_)
                cases rest with
                | nil => exact ⟨rfl, hsub⟩
                | cons x xs => exact absurd hr (by simp)
        · (with_reducible repeat first|refine mv_i ?_|refine cnd_t ?_|refine cnd_f ?_|refine gd_tt ?_|refine gd_ff ?_|refine gd_tf ?_|refine gd_ft ?_|refine gd_u ?_|refine pick_t ?_|refine pick_f ?_|refine not_t ?_|refine not_f ?_|refine nil_i ?_|refine ret1 ?_|refine ret2 ?_|refine ret0 ?_|refine ret3 ?_|refine ex2_0 ?_|refine ex2_1 ?_|refine ex3_0 ?_|refine ex3_1 ?_|refine ex3_2 ?_)
          rw [smErr_code hz2 hz3]
          exact ⟨rfl, Sub.of_pre (p1.trans p2)⟩
      · (with_reducible repeat first|refine mv_i ?_|refine cnd_t ?_|refine cnd_f ?_|refine gd_tt ?_|refine gd_ff ?_|refine gd_tf ?_|refine gd_ft ?_|refine gd_u ?_|refine pick_t ?_|refine pick_f ?_|refine not_t ?_|refine not_f ?_|refine nil_i ?_|refine ret1 ?_|refine ret2 ?_|refine ret0 ?_|refine ret3 ?_|refine ex2_0 ?_|refine ex2_1 ?_|refine ex3_0 ?_|refine ex3_1 ?_|refine ex3_2 ?_)
        refine leni_i t23 sp1 ?_
        (with_reducible repeat first|refine mv_i ?_|refine cnd_t ?_|refine cnd_f ?_|refine gd_tt ?_|refine gd_ff ?_|refine gd_tf ?_|refine gd_ft ?_|refine gd_u ?_|refine pick_t ?_|refine pick_f ?_|refine not_t ?_|refine not_f ?_|refine nil_i ?_|refine ret1 ?_|refine ret2 ?_|refine ret0 ?_|refine ret3 ?_|refine ex2_0 ?_|refine ex2_1 ?_|refine ex3_0 ?_|refine ex3_1 ?_|refine ex3_2 ?_)
        refine eql_i (fun h00 => ?_) (fun h00 => ?_)
        · (with_reducible repeat first|refine mv_i ?_|refine cnd_t ?_|refine cnd_f ?_|refine gd_tt ?_|refine gd_ff ?_|refine gd_tf ?_|refine gd_ft ?_|refine gd_u ?_|refine pick_t ?_|refine pick_f ?_|refine not_t ?_|refine not_f ?_|refine nil_i ?_|refine ret1 ?_|refine ret2 ?_|refine ret0 ?_|refine ret3 ?_|refine ex2_0 ?_|refine ex2_1 ?_|refine ex3_0 ?_|refine ex3_1 ?_|refine ex3_2 ?_)
          refine tail true (by rw [eq_comm, decide_eq_true_eq]; omega) _ ?_
          intro h2 p2
          (with_reducible repeat first|refine mv_i ?_|refine cnd_t ?_|refine cnd_f ?_|refine gd_tt ?_|refine gd_ff ?_|refine gd_tf ?_|refine gd_ft ?_|refine gd_u ?_|refine pick_t ?_|refine pick_f ?_|refine not_t ?_|refine not_f ?_|refine nil_i ?_|refine ret1 ?_|refine ret2 ?_|refine ret0 ?_|refine ret3 ?_|refine ex2_0 ?_|refine ex2_1 ?_|refine ex3_0 ?_|refine ex3_1 ?_|refine ex3_2 ?_)
          refine neq_i (fun hz3 => ?_) (fun hz3 => ?_)
          · have hi : isChoice xss ch = true := by
              cases e : isChoice xss ch with
              | true => rfl
              | false => rw [e] at hz3; exact absurd hz3 (by simp)
            rw [hi] at hz3
            simp only [Bool.true_eq_false, if_false] at hz3
            have hg : ¬ 20000 < pf.length := fun hg => by rw [if_pos hg] at hz3; omega
            rw [if_neg hg] at hz3
            have hx : ¬ (ch.length = 0 ∧ 0 < pf.length) := fun hx => by rw [if_pos hx] at hz3; omega
            have sc2 := sc1.mono (Sub.of_pre p2)
            have sp2 := sp1.mono (Sub.of_pre p2)
            have sw2 := sw.mono (Sub.of_pre p2)
            (with_reducible repeat first|refine mv_i ?_|refine cnd_t ?_|refine cnd_f ?_|refine gd_tt ?_|refine gd_ff ?_|refine gd_tf ?_|refine gd_ft ?_|refine gd_u ?_|refine pick_t ?_|refine pick_f ?_|refine not_t ?_|refine not_f ?_|refine nil_i ?_|refine ret1 ?_|refine ret2 ?_|refine ret0 ?_|refine ret3 ?_|refine ex2_0 ?_|refine ex2_1 ?_|refine ex3_0 ?_|refine ex3_1 ?_|refine ex3_2 ?_)
            refine leni_i t23 sc2 ?_
            refine eql_i (fun hl0 => ?_) (fun hl0 => ?_)
            · (with_reducible repeat first|refine mv_i ?_|refine cnd_t ?_|refine cnd_f ?_|refine gd_tt ?_|refine gd_ff ?_|refine gd_tf ?_|refine gd_ft ?_|refine gd_u ?_|refine pick_t ?_|refine pick_f ?_|refine not_t ?_|refine not_f ?_|refine nil_i ?_|refine ret1 ?_|refine ret2 ?_|refine ret0 ?_|refine ret3 ?_|refine ex2_0 ?_|refine ex2_1 ?_|refine ex3_0 ?_|refine ex3_1 ?_|refine ex3_2 ?_)
              unfold smErr
              rw [if_neg (fun h => h hz2), if_neg (by rw [hi]; simp), if_neg hg, if_pos (by omega), if_neg (by omega)]
              exact ⟨rfl, Sub.of_pre (p1.trans p2)⟩
            · have hval : smErr xss ch pf = match rdL xss (ch.length - 1) [] pf with | some [] => ((ch.length : Int), 0) | _ => (0, 30) := by
                unfold smErr
                rw [if_neg (fun h => h hz2), if_neg (by rw [hi]; simp), if_neg hg, if_neg (by omega)]
              rw [hval]
              obtain ⟨o, l, cp, rfl⟩ := seg_slice sp2
              obtain ⟨o', l', cp', rfl⟩ := seg_slice sw2
              (with_reducible repeat first|refine mv_i ?_|refine cnd_t ?_|refine cnd_f ?_|refine gd_tt ?_|refine gd_ff ?_|refine gd_tf ?_|refine gd_ft ?_|refine gd_u ?_|refine pick_t ?_|refine pick_f ?_|refine not_t ?_|refine not_f ?_|refine nil_i ?_|refine ret1 ?_|refine ret2 ?_|refine ret0 ?_|refine ret3 ?_|refine ex2_0 ?_|refine ex2_1 ?_|refine ex3_0 ?_|refine ex3_1 ?_|refine ex3_2 ?_)
              refine vk_i (build75 o' o l' cp' l cp) ?_
              rw [box75]
              refine ok_i rfl ?_
              have hp := pre_new h2 [.slice o' l' cp', .slice o l cp] 2
              have hs := Sub.of_pre hp
              have hck : Ck h2.length (newArr h2 [.slice o' l' cp', .slice o l cp] 2) (.slice o' l' cp') (.slice o l cp) := newArr_get _ _ _
              have sc3 := sc2.mono hs
              (with_reducible repeat first|refine mv_i ?_|refine cnd_t ?_|refine cnd_f ?_|refine gd_tt ?_|refine gd_ff ?_|refine gd_tf ?_|refine gd_ft ?_|refine gd_u ?_|refine pick_t ?_|refine pick_f ?_|refine not_t ?_|refine not_f ?_|refine nil_i ?_|refine ret1 ?_|refine ret2 ?_|refine ret0 ?_|refine ret3 ?_|refine ex2_0 ?_|refine ex2_1 ?_|refine ex3_0 ?_|refine ex3_1 ?_|refine ex3_2 ?_)
              refine leni_i t23 sc3 ?_
              refine sub_i ⟨by omega, by omega⟩ ?_
              rw [cast_pred (by omega)]
              refine call_i (c41 (fun xs hx => (hok.2 xs hx).2) (ch.length - 1) (by omega) _ h2.length _ _ [] pf hck (sw2.mono hs) (sp2.mono hs) (fun x hx => by cases hx)) ?_
              rintro v h3 ⟨kp, pv', ck3, hres⟩
              have hsub : Sub h h3 := kp.sub (Sub.of_pre ((p1.trans p2).trans hp)) (p1.trans p2).length_le
              cases e : rdL xss (ch.length - 1) [] pf with
              | none =>
                rw [e] at hres
                simp only at hres
                subst hres
                (with_reducible repeat first|refine mv_i ?_|refine cnd_t ?_|refine cnd_f ?_|refine gd_tt ?_|refine gd_ff ?_|refine gd_tf ?_|refine gd_ft ?_|refine gd_u ?_|refine pick_t ?_|refine pick_f ?_|refine not_t ?_|refine not_f ?_|refine nil_i ?_|refine ret1 ?_|refine ret2 ?_|refine ret0 ?_|refine ret3 ?_|refine ex2_0 ?_|refine ex2_1 ?_|refine ex3_0 ?_|refine ex3_1 ?_|refine ex3_2 ?_)
                exact ⟨rfl, hsub⟩
              | some rest =>
                rw [e] at hres
                simp only at hres
                obtain ⟨rfl, sr⟩ := hres
                (with_reducible repeat first|refine mv_i ?_|refine cnd_t ?_|refine cnd_f ?_|refine gd_tt ?_|refine gd_ff ?_|refine gd_tf ?_|refine gd_ft ?_|refine gd_u ?_|refine pick_t ?_|refine pick_f ?_|refine not_t ?_|refine not_f ?_|refine nil_i ?_|refine ret1 ?_|refine ret2 ?_|refine ret0 ?_|refine ret3 ?_|refine ex2_0 ?_|refine ex2_1 ?_|refine ex3_0 ?_|refine ex3_1 ?_|refine ex3_2 ?_)
                refine vk_i (fa75_1 _) ?_
                (with_reducible repeat first|refine mv_i ?_|refine cnd_t ?_|refine cnd_f ?_|refine gd_tt ?_|refine gd_ff ?_|refine gd_tf ?_|refine gd_ft ?_|refine gd_u ?_|refine pick_t ?_|refine pick_f ?_|refine not_t ?_|refine not_f ?_|refine nil_i ?_|refine ret1 ?_|refine ret2 ?_|refine ret0 ?_|refine ret3 ?_|refine ex2_0 ?_|refine ex2_1 ?_|refine ex3_0 ?_|refine ex3_1 ?_|refine ex3_2 ?_)
                refine ldc_i r23 ck3 rfl ?_
                (with_reducible repeat first|refine mv_i ?_|refine cnd_t ?_|refine cnd_f ?_|refine gd_tt ?_|refine gd_ff ?_|refine gd_tf ?_|refine gd_ft ?_|refine gd_u ?_|refine pick_t ?_|refine pick_f ?_|refine not_t ?_|refine not_f ?_|refine nil_i ?_|refine ret1 ?_|refine ret2 ?_|refine ret0 ?_|refine ret3 ?_|refine ex2_0 ?_|refine ex2_1 ?_|refine ex3_0 ?_|refine ex3_1 ?_|refine ex3_2 ?_)
                refine leni_i t23 sr ?_
                (with_reducible repeat first|refine mv_i ?_|refine cnd_t ?_|refine cnd_f ?_|refine gd_tt ?_|refine gd_ff ?_|refine gd_tf ?_|refine gd_ft ?_|refine gd_u ?_|refine pick_t ?_|refine pick_f ?_|refine not_t ?_|refine not_f ?_|refine nil_i ?_|refine ret1 ?_|refine ret2 ?_|refine ret0 ?_|refine ret3 ?_|refine ex2_0 ?_|refine ex2_1 ?_|refine ex3_0 ?_|refine ex3_1 ?_|refine ex3_2 ?_)
                refine gtr_i (fun hr => ?_) (fun hr => ?_)
                · (with_reducible repeat first|refine mv_i ?_|refine cnd_t ?_|refine cnd_f ?_|refine gd_tt ?_|refine gd_ff ?_|refine gd_tf ?_|refine gd_ft ?_|refine gd_u ?_|refine pick_t ?_|refine pick_f ?_|refine not_t ?_|refine not_f ?_|refine nil_i ?_|refine ret1 ?_|refine ret2 ?_|refine ret0 ?_|refine ret3 ?_|refine ex2_0 ?_|refine ex2_1 ?_|refine ex3_0 ?_|refine ex3_1 ?_|refine ex3_2 ?_)
                  cases rest with
                  | nil => simp at hr
                  | cons x xs => exact ⟨rfl, hsub⟩
                · (with_reducible repeat first|refine mv_i ?_|refine cnd_t ?_|refine cnd_f ?_|refine gd_tt ?_|refine gd_ff ?_|refine gd_tf ?_|refine gd_ft ?_|refine gd_u ?_|refine pick_t ?_|refine pick_f ?_|refine not_t ?_|refine not_f ?_|refine nil_i ?_|refine ret1 ?_|refine ret2 ?_|refine ret0 ?_|refine ret3 ?_|refine ex2_0 ?_|refine ex2_1 ?_|refine ex3_0 ?_|refine ex3_1 ?_|refine ex3_2 ?_)
                  refine leni_i t23 (sc3.keep kp hck (by simp)) ?_
                  (with_reducible repeat first|refine mv_i ?_|refine cnd_t ?_|refine cnd_f ?_|refine gd_tt ?_|refine gd_ff ?_|refine gd_tf ?_|refine gd_ft ?_|refine gd_u ?_|refine pick_t ?_|refine pick_f ?_|refine not_t ?_|refine not_f ?_|refine nil_i ?_|refine ret1 ?_|refine ret2 ?_|refine ret0 ?_|refine ret3 ?_|refine ex2_0 ?_|refine ex2_1 ?_|refine ex3_0 ?_|refine ex3_1 ?_|refine ex3_2 ?_)
                  cases rest with
                  | nil => exact ⟨rfl, hsub⟩
                  | cons x xs => exact absurd hr (by simp)
          · (with_reducible repeat first|refine mv_i ?_|refine cnd_t ?_|refine cnd_f ?_|refine gd_tt ?_|refine gd_ff ?_|refine gd_tf ?_|refine gd_ft ?_|refine gd_u ?_|refine pick_t ?_|refine pick_f ?_|refine not_t ?_|refine not_f ?_|refine nil_i ?_|refine ret1 ?_|refine ret2 ?_|refine ret0 ?_|refine ret3 ?_|refine ex2_0 ?_|refine ex2_1 ?_|refine ex3_0 ?_|refine ex3_1 ?_|refine ex3_2 ?_)
            rw [smErr_code hz2 hz3]
            exact ⟨rfl, Sub.of_pre (p1.trans p2)⟩
        · (with_reducible repeat first|refine mv_i ?_|refine cnd_t ?_|refine cnd_f ?_|refine gd_tt ?_|refine gd_ff ?_|refine gd_tf ?_|refine gd_ft ?_|refine gd_u ?_|refine pick_t ?_|refine pick_f ?_|refine not_t ?_|refine not_f ?_|refine nil_i ?_|refine ret1 ?_|refine ret2 ?_|refine ret0 ?_|refine ret3 ?_|refine ex2_0 ?_|refine ex2_1 ?_|refine ex3_0 ?_|refine ex3_1 ?_|refine ex3_2 ?_)
          refine tail false (by rw [eq_comm, decide_eq_false_iff_not]; omega) _ ?_
          intro h2 p2
          (with_reducible repeat first|refine mv_i ?_|refine cnd_t ?_|refine cnd_f ?_|refine gd_tt ?_|refine gd_ff ?_|refine gd_tf ?_|refine gd_ft ?_|refine gd_u ?_|refine pick_t ?_|refine pick_f ?_|refine not_t ?_|refine not_f ?_|refine nil_i ?_|refine ret1 ?_|refine ret2 ?_|refine ret0 ?_|refine ret3 ?_|refine ex2_0 ?_|refine ex2_1 ?_|refine ex3_0 ?_|refine ex3_1 ?_|refine ex3_2 ?_)
          refine neq_i (fun hz3 => ?_) (fun hz3 => ?_)
          · have hi : isChoice xss ch = true := by
              cases e : isChoice xss ch with
              | true => rfl
              | false => rw [e] at hz3; exact absurd hz3 (by simp)
            rw [hi] at hz3
            simp only [Bool.true_eq_false, if_false] at hz3
            have hg : ¬ 20000 < pf.length := fun hg => by rw [if_pos hg] at hz3; omega
            rw [if_neg hg] at hz3
            have hx : ¬ (ch.length = 0 ∧ 0 < pf.length) := fun hx => by rw [if_pos hx] at hz3; omega
            have sc2 := sc1.mono (Sub.of_pre p2)
            have sp2 := sp1.mono (Sub.of_pre p2)
            have sw2 := sw.mono (Sub.of_pre p2)
            (with_reducible repeat first|refine mv_i ?_|refine cnd_t ?_|refine cnd_f ?_|refine gd_tt ?_|refine gd_ff ?_|refine gd_tf ?_|refine gd_ft ?_|refine gd_u ?_|refine pick_t ?_|refine pick_f ?_|refine not_t ?_|refine not_f ?_|refine nil_i ?_|refine ret1 ?_|refine ret2 ?_|refine ret0 ?_|refine ret3 ?_|refine ex2_0 ?_|refine ex2_1 ?_|refine ex3_0 ?_|refine ex3_1 ?_|refine ex3_2 ?_)
            refine leni_i t23 sc2 ?_
            refine eql_i (fun hl0 => ?_) (fun hl0 => ?_)
            · (with_reducible repeat first|refine mv_i ?_|refine cnd_t ?_|refine cnd_f ?_|refine gd_tt ?_|refine gd_ff ?_|refine gd_tf ?_|refine gd_ft ?_|refine gd_u ?_|refine pick_t ?_|refine pick_f ?_|refine not_t ?_|refine not_f ?_|refine nil_i ?_|refine ret1 ?_|refine ret2 ?_|refine ret0 ?_|refine ret3 ?_|refine ex2_0 ?_|refine ex2_1 ?_|refine ex3_0 ?_|refine ex3_1 ?_|refine ex3_2 ?_)
              unfold smErr
              rw [if_neg (fun h => h hz2), if_neg (by rw [hi]; simp), if_neg hg, if_pos (by omega), if_neg (by omega)]
              exact ⟨rfl, Sub.of_pre (p1.trans p2)⟩
            · have hval : smErr xss ch pf = match rdL xss (ch.length - 1) [] pf with | some [] => ((ch.length : Int), 0) | _ => (0, 30) := by
                unfold smErr
                rw [if_neg (fun h => h hz2), if_neg (by rw [hi]; simp), if_neg hg, if_neg (by omega)]
              rw [hval]
              obtain ⟨o, l, cp, rfl⟩ := seg_slice sp2
              obtain ⟨o', l', cp', rfl⟩ := seg_slice sw2
              (with_reducible repeat first|refine mv_i ?_|refine cnd_t ?_|refine cnd_f ?_|refine gd_tt ?_|refine gd_ff ?_|refine gd_tf ?_|refine gd_ft ?_|refine gd_u ?_|refine pick_t ?_|refine pick_f ?_|refine not_t ?_|refine not_f ?_|refine nil_i ?_|refine ret1 ?_|refine ret2 ?_|refine ret0 ?_|refine ret3 ?_|refine ex2_0 ?_|refine ex2_1 ?_|refine ex3_0 ?_|refine ex3_1 ?_|refine ex3_2 ?_)
              refine vk_i (build75 o' o l' cp' l cp) ?_
              rw [box75]
              refine ok_i rfl ?_
              have hp := pre_new h2 [.slice o' l' cp', .slice o l cp] 2
              have hs := Sub.of_pre hp
              have hck : Ck h2.length (newArr h2 [.slice o' l' cp', .slice o l cp] 2) (.slice o' l' cp') (.slice o l cp) := newArr_get _ _ _
              have sc3 := sc2.mono hs
              (with_reducible repeat first|refine mv_i ?_|refine cnd_t ?_|refine cnd_f ?_|refine gd_tt ?_|refine gd_ff ?_|refine gd_tf ?_|refine gd_ft ?_|refine gd_u ?_|refine pick_t ?_|refine pick_f ?_|refine not_t ?_|refine not_f ?_|refine nil_i ?_|refine ret1 ?_|refine ret2 ?_|refine ret0 ?_|refine ret3 ?_|refine ex2_0 ?_|refine ex2_1 ?_|refine ex3_0 ?_|refine ex3_1 ?_|refine ex3_2 ?_)
              refine leni_i t23 sc3 ?_
              refine sub_i ⟨by omega, by omega⟩ ?_
              rw [cast_pred (by omega)]
              refine call_i (c41 (fun xs hx => (hok.2 xs hx).2) (ch.length - 1) (by omega) _ h2.length _ _ [] pf hck (sw2.mono hs) (sp2.mono hs) (fun x hx => by cases hx)) ?_
              rintro v h3 ⟨kp, pv', ck3, hres⟩
              have hsub : Sub h h3 := kp.sub (Sub.of_pre ((p1.trans p2).trans hp)) (p1.trans p2).length_le
              cases e : rdL xss (ch.length - 1) [] pf with
              | none =>
                rw [e] at hres
                simp only at hres
                subst hres
                (with_reducible repeat first|refine mv_i ?_|refine cnd_t ?_|refine cnd_f ?_|refine gd_tt ?_|refine gd_ff ?_|refine gd_tf ?_|refine gd_ft ?_|refine gd_u ?_|refine pick_t ?_|refine pick_f ?_|refine not_t ?_|refine not_f ?_|refine nil_i ?_|refine ret1 ?_|refine ret2 ?_|refine ret0 ?_|refine ret3 ?_|refine ex2_0 ?_|refine ex2_1 ?_|refine ex3_0 ?_|refine ex3_1 ?_|refine ex3_2 ?_)
                exact ⟨rfl, hsub⟩
              | some rest =>
                rw [e] at hres
                simp only at hres
                obtain ⟨rfl, sr⟩ := hres
                (with_reducible repeat first|refine mv_i ?_|refine cnd_t ?_|refine cnd_f ?_|refine gd_tt ?_|refine gd_ff ?_|refine gd_tf ?_|refine gd_ft ?_|refine gd_u ?_|refine pick_t ?_|refine pick_f ?_|refine not_t ?_|refine not_f ?_|refine nil_i ?_|refine ret1 ?_|refine ret2 ?_|refine ret0 ?_|refine ret3 ?_|refine ex2_0 ?_|refine ex2_1 ?_|refine ex3_0 ?_|refine ex3_1 ?_|refine ex3_2 ?_)
                refine vk_i (fa75_1 _) ?_
                (with_reducible repeat first|refine mv_i ?_|refine cnd_t ?_|refine cnd_f ?_|refine gd_tt ?_|refine gd_ff ?_|refine gd_tf ?_|refine gd_ft ?_|refine gd_u ?_|refine pick_t ?_|refine pick_f ?_|refine not_t ?_|refine not_f ?_|refine nil_i ?_|refine ret1 ?_|refine ret2 ?_|refine ret0 ?_|refine ret3 ?_|refine ex2_0 ?_|refine ex2_1 ?_|refine ex3_0 ?_|refine ex3_1 ?_|refine ex3_2 ?_)
                refine ldc_i r23 ck3 rfl ?_
                (with_reducible repeat first|refine mv_i ?_|refine cnd_t ?_|refine cnd_f ?_|refine gd_tt ?_|refine gd_ff ?_|refine gd_tf ?_|refine gd_ft ?_|refine gd_u ?_|refine pick_t ?_|refine pick_f ?_|refine not_t ?_|refine not_f ?_|refine nil_i ?_|refine ret1 ?_|refine ret2 ?_|refine ret0 ?_|refine ret3 ?_|refine ex2_0 ?_|refine ex2_1 ?_|refine ex3_0 ?_|refine ex3_1 ?_|refine ex3_2 ?_)
                refine leni_i t23 sr ?_
                (with_reducible repeat first|refine mv_i ?_|refine cnd_t ?_|refine cnd_f ?_|refine gd_tt ?_|refine gd_ff ?_|refine gd_tf ?_|refine gd_ft ?_|refine gd_u ?_|refine pick_t ?_|refine pick_f ?_|refine not_t ?_|refine not_f ?_|refine nil_i ?_|refine ret1 ?_|refine ret2 ?_|refine ret0 ?_|refine ret3 ?_|refine ex2_0 ?_|refine ex2_1 ?_|refine ex3_0 ?_|refine ex3_1 ?_|refine ex3_2 ?_)
                refine gtr_i (fun hr => ?_) (fun hr => ?_)
                · (with_reducible repeat first|refine mv_i ?_|refine cnd_t ?_|refine cnd_f ?_|refine gd_tt ?_|refine gd_ff ?_|refine gd_tf ?_|refine gd_ft ?_|refine gd_u ?_|refine pick_t ?_|refine pick_f ?_|refine not_t ?_|refine not_f ?_|refine nil_i ?_|refine ret1 ?_|refine ret2 ?_|refine ret0 ?_|refine ret3 ?_|refine ex2_0 ?_|refine ex2_1 ?_|refine ex3_0 ?_|refine ex3_1 ?_|refine ex3_2 ?_)
                  cases rest with
                  | nil => simp at hr
                  | cons x xs => exact ⟨rfl, hsub⟩
                · (with_reducible repeat first|refine mv_i ?_|refine cnd_t ?_|refine cnd_f ?_|refine gd_tt ?_|refine gd_ff ?_|refine gd_tf ?_|refine gd_ft ?_|refine gd_u ?_|refine pick_t ?_|refine pick_f ?_|refine not_t ?_|refine not_f ?_|refine nil_i ?_|refine ret1 ?_|refine ret2 ?_|refine ret0 ?_|refine ret3 ?_|refine ex2_0 ?_|refine ex2_1 ?_|refine ex3_0 ?_|refine ex3_1 ?_|refine ex3_2 ?_)
                  refine leni_i t23 (sc3.keep kp hck (by simp)) ?_
                  (with_reducible repeat first|refine mv_i ?_|refine cnd_t ?_|refine cnd_f ?_|refine gd_tt ?_|refine gd_ff ?_|refine gd_tf ?_|refine gd_ft ?_|refine gd_u ?_|refine pick_t ?_|refine pick_f ?_|refine not_t ?_|refine not_f ?_|refine nil_i ?_|refine ret1 ?_|refine ret2 ?_|refine ret0 ?_|refine ret3 ?_|refine ex2_0 ?_|refine ex2_1 ?_|refine ex3_0 ?_|refine ex3_1 ?_|refine ex3_2 ?_)
                  cases rest with
                  | nil => exact ⟨rfl, hsub⟩
                  | cons x xs => exact absurd hr (by simp)
          · (with_reducible repeat first|refine mv_i ?_|refine cnd_t ?_|refine cnd_f ?_|refine gd_tt ?_|refine gd_ff ?_|refine gd_tf ?_|refine gd_ft ?_|refine gd_u ?_|refine pick_t ?_|refine pick_f ?_|refine not_t ?_|refine not_f ?_|refine nil_i ?_|refine ret1 ?_|refine ret2 ?_|refine ret0 ?_|refine ret3 ?_|refine ex2_0 ?_|refine ex2_1 ?_|refine ex3_0 ?_|refine ex3_1 ?_|refine ex3_2 ?_)
            rw [smErr_code hz2 hz3]
            exact ⟨rfl, Sub.of_pre (p1.trans p2)⟩
    · (with_reducible repeat first|refine mv_i ?_|refine cnd_t ?_|refine cnd_f ?_|refine gd_tt ?_|refine gd_ff ?_|refine gd_tf ?_|refine gd_ft ?_|refine gd_u ?_|refine pick_t ?_|refine pick_f ?_|refine not_t ?_|refine not_f ?_|refine nil_i ?_|refine ret1 ?_|refine ret2 ?_|refine ret0 ?_|refine ret3 ?_|refine ex2_0 ?_|refine ex2_1 ?_|refine ex3_0 ?_|refine ex3_1 ?_|refine ex3_2 ?_)
      unfold smErr
      rw [if_pos hz2]
      exact ⟨rfl, Sub.refl _⟩
  · rw [if_pos hz]
    (with_reducible repeat first|refine mv_i ?_|refine cnd_t ?_|refine cnd_f ?_|refine gd_tt ?_|refine gd_ff ?_|refine gd_tf ?_|refine gd_ft ?_|refine gd_u ?_|refine pick_t ?_|refine pick_f ?_|refine not_t ?_|refine not_f ?_|refine nil_i ?_|refine ret1 ?_|refine ret2 ?_|refine ret0 ?_|refine ret3 ?_|refine ex2_0 ?_|refine ex2_1 ?_|refine ex3_0 ?_|refine ex3_1 ?_|refine ex3_2 ?_)
    exact ⟨rfl, Sub.refl _⟩
end Go.Proofs.Ytkgdclcmfnhbmaa
