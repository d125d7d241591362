import Derived.Test.YtkgdclcmfnhbmaaMcI
set_option linter.unusedSimpArgs false
set_option linter.unusedVariables false
set_option maxRecDepth 100000
namespace Go.Proofs.Ytkgdclcmfnhbmaa
open Go.AM
variable {h h' h0 : Heap}

theorem or1 (a b : Int) : orOf [a, b] = if a = 0 then b else a := or2 a b
theorem cCode2 (m1 m2 : Mac) (ws : List (List Int)) : cCode m1 [m1, m2] ws = pCode m1 m2 ws := by
  have eh : cHead m1 [m1, m2] = (mErr m1).2 := by
    unfold cHead
    rw [or2]
    by_cases e : (mErr m1).2 = 0
    · rw [if_pos e, e]; simp
    · rw [if_neg e]
  unfold cCode pCode code4
  rw [eh]
  by_cases e1 : (mErr m1).2 = 0
  · rw [if_neg (fun q => q e1), if_pos e1]
    have ca1 : cAt m1 m1 = 0 := by unfold cAt; rw [or2, if_pos e1]; simp
    have el : List.range 2 = [0, 1] := rfl
    have g0 : [m1, m2].getD 0 dmac = m1 := rfl
    have g1 : [m1, m2].getD 1 dmac = m2 := rfl
    simp only [cFirst, firstOf, List.length_cons, List.length_nil, el, List.findSome?_cons, List.findSome?_nil, g0, g1]
    rw [ca1]
    unfold cAt
    rw [or2]
    by_cases e2 : (mErr m2).2 = 0
    · rw [if_pos e2, if_pos e2]
      by_cases e3 : m1.inputs = m2.inputs
      · rw [decide_eq_true e3, if_pos e3]; rfl
      · rw [decide_eq_false e3, if_neg e3]; rfl
    · rw [if_neg e2, if_neg e2]
      have : nz (mErr m2).2 = some (mErr m2).2 := by unfold nz; rw [if_neg e2]
      rw [this]; rfl
  · rw [if_pos e1, if_neg e1]
theorem caught_self (m : Mac) (ws : List (List Int)) : caughtN m m ws ws.length = [] := by
  unfold caughtN
  have : (List.range ws.length).filter (difB m m ws) = [] := by
    rw [List.filter_eq_nil_iff]
    intro i _
    unfold difB
    simp
  rw [this]; rfl
theorem bs22_2 (o : Option Addr) (l c : Nat) (h : Heap) : aBuildSlice Try.prog 22 2 [(0, .slice none 0 0), (1, .slice o l c)] h = some (.slice (some ⟨h.length, 0, none⟩) 2 3, newArr h [.slice none 0 0, .slice o l c] 1) := by kernel_rfl
theorem or3_z {a b c : Int} (h : orOf [a, b] = 0) : orOf [a, b] = orOf [a, b, 0] ∧ orOf [a, b, c] = c := by
  rw [or2] at h ⊢; rw [or3, or3]
  by_cases q : a = 0
  · rw [if_pos q] at h
    simp [q, h]
  · rw [if_neg q] at h; exact absurd h q
theorem or3_n {a b c : Int} (h : ¬ orOf [a, b] = 0) : orOf [a, b] = orOf [a, b, c] := by
  rw [or2] at h ⊢; rw [or3]
  by_cases q : a = 0
  · rw [if_pos q] at h
    simp [q, h]
  · simp [q]
theorem code4_z {a b c d : Int} (h : orOf [a, b, c] = 0) : code4 a b c d = d := by
  rw [or3] at h; unfold code4
  by_cases q : a = 0
  · rw [if_pos q] at h
    by_cases q2 : b = 0
    · rw [if_pos q2] at h; simp [q, q2, h]
    · rw [if_neg q2] at h; exact absurd h q2
  · rw [if_neg q] at h; exact absurd h q
theorem code4_n {a b c d : Int} (h : ¬ orOf [a, b, c] = 0) : orOf [a, b, c] = code4 a b c d := by
  rw [or3] at h ⊢; unfold code4
  by_cases q : a = 0
  · by_cases q2 : b = 0
    · rw [if_pos q, if_pos q2] at h; simp [q, q2, h]
    · simp [q, q2]
  · simp [q]
theorem c4 {a b c : Value} {m1 m2 : Mac} {ws : List (List Int)} (s1 : MacV h a m1) (s2 : MacV h b m2) (sw : RowsS h c ws) (hf : Few ws) (hl1 : m1.steps.length ≤ 2 ^ 40) (hl2 : m2.steps.length ≤ 2 ^ 40) :
    DetP Try.prog 4 [a, b, c] h fun v _ => v = .bool true := by
  have lt := sw.lt
  refine w4 ?_
  unfold n4
  obtain ⟨o, l, cc, rfl, ss1⟩ := s1
  obtain ⟨o', l', cc', rfl, ss2⟩ := s2
  rw [box36]
  refine ok_i rfl ?_
  have p1 := pre_new h [.int .i64 m1.states, .int .i64 m1.inputs, .int .i64 m1.outputs, .int .i64 m1.start, .slice o l cc] 5
  have hb1 := newArr_get h [.int .i64 m1.states, .int .i64 m1.inputs, .int .i64 m1.outputs, .int .i64 m1.start, .slice o l cc] 5
  generalize newArr h [.int .i64 m1.states, .int .i64 m1.inputs, .int .i64 m1.outputs, .int .i64 m1.start, .slice o l cc] 5 = g1 at p1 hb1 ⊢
  rw [box36]
  refine ok_i rfl ?_
  have p2 := pre_new g1 [.int .i64 m2.states, .int .i64 m2.inputs, .int .i64 m2.outputs, .int .i64 m2.start, .slice o' l' cc'] 5
  have hb2 := newArr_get g1 [.int .i64 m2.states, .int .i64 m2.inputs, .int .i64 m2.outputs, .int .i64 m2.start, .slice o' l' cc'] 5
  have hb12 := (Sub.of_pre p2).2 _ _ hb1
  generalize newArr g1 [.int .i64 m2.states, .int .i64 m2.inputs, .int .i64 m2.outputs, .int .i64 m2.start, .slice o' l' cc'] 5 = g2 at p2 hb2 hb12 ⊢
  have p12 := p1.trans p2
  have ssa := ss1.mono (Sub.of_pre p12)
  have ssb := ss2.mono (Sub.of_pre p12)
  have sw2 := sw.mono (Sub.of_pre p12)
  generalize hi1 : h.length = i1 at hb12 ⊢
  generalize hi2 : g1.length = i2 at hb2 ⊢
  (with_reducible repeat first|refine mv_i ?_|refine cnd_t ?_|refine cnd_f ?_|refine gd_tt ?_|refine gd_ff ?_|refine gd_tf ?_|refine gd_ft ?_|refine gd_u ?_|refine pick_t ?_|refine pick_f ?_|refine not_t ?_|refine not_f ?_|refine nil_i ?_|refine ret1 ?_|refine ret2 ?_|refine ret0 ?_|refine ret3 ?_|refine ex2_0 ?_|refine ex2_1 ?_|refine ex3_0 ?_|refine ex3_1 ?_|refine ex3_2 ?_)
  refine call_r c10 ?_
  (with_reducible repeat first|refine mv_i ?_|refine cnd_t ?_|refine cnd_f ?_|refine gd_tt ?_|refine gd_ff ?_|refine gd_tf ?_|refine gd_ft ?_|refine gd_u ?_|refine pick_t ?_|refine pick_f ?_|refine not_t ?_|refine not_f ?_|refine nil_i ?_|refine ret1 ?_|refine ret2 ?_|refine ret0 ?_|refine ret3 ?_|refine ex2_0 ?_|refine ex2_1 ?_|refine ex3_0 ?_|refine ex3_1 ?_|refine ex3_2 ?_)
  refine lenr_i t22 sw2 ?_
  refine gtr_i (fun hg => ?_) (fun hg => ?_)
  · (with_reducible repeat first|refine mv_i ?_|refine cnd_t ?_|refine cnd_f ?_|refine gd_tt ?_|refine gd_ff ?_|refine gd_tf ?_|refine gd_ft ?_|refine gd_u ?_|refine pick_t ?_|refine pick_f ?_|refine not_t ?_|refine not_f ?_|refine nil_i ?_|refine ret1 ?_|refine ret2 ?_|refine ret0 ?_|refine ret3 ?_|refine ex2_0 ?_|refine ex2_1 ?_|refine ex3_0 ?_|refine ex3_1 ?_|refine ex3_2 ?_)
    refine lenr_i t22 sw2 ?_
    (with_reducible repeat first|refine mv_i ?_|refine cnd_t ?_|refine cnd_f ?_|refine gd_tt ?_|refine gd_ff ?_|refine gd_tf ?_|refine gd_ft ?_|refine gd_u ?_|refine pick_t ?_|refine pick_f ?_|refine not_t ?_|refine not_f ?_|refine nil_i ?_|refine ret1 ?_|refine ret2 ?_|refine ret0 ?_|refine ret3 ?_|refine ex2_0 ?_|refine ex2_1 ?_|refine ex3_0 ?_|refine ex3_1 ?_|refine ex3_2 ?_)
    refine leq_i (fun hg2 => ?_) (fun hg2 => ?_)
    · (with_reducible repeat first|refine mv_i ?_|refine cnd_t ?_|refine cnd_f ?_|refine gd_tt ?_|refine gd_ff ?_|refine gd_tf ?_|refine gd_ft ?_|refine gd_u ?_|refine pick_t ?_|refine pick_f ?_|refine not_t ?_|refine not_f ?_|refine nil_i ?_|refine ret1 ?_|refine ret2 ?_|refine ret0 ?_|refine ret3 ?_|refine ex2_0 ?_|refine ex2_1 ?_|refine ex3_0 ?_|refine ex3_1 ?_|refine ex3_2 ?_)
      rfl
    · (with_reducible repeat first|refine mv_i ?_|refine cnd_t ?_|refine cnd_f ?_|refine gd_tt ?_|refine gd_ff ?_|refine gd_tf ?_|refine gd_ft ?_|refine gd_u ?_|refine pick_t ?_|refine pick_f ?_|refine not_t ?_|refine not_f ?_|refine nil_i ?_|refine ret1 ?_|refine ret2 ?_|refine ret0 ?_|refine ret3 ?_|refine ex2_0 ?_|refine ex2_1 ?_|refine ex3_0 ?_|refine ex3_1 ?_|refine ex3_2 ?_)
      refine vk_i (ld36 hb12) ?_
      refine call_r (c16 (macv_of ssa)) ?_
      (with_reducible repeat first|refine mv_i ?_|refine cnd_t ?_|refine cnd_f ?_|refine gd_tt ?_|refine gd_ff ?_|refine gd_tf ?_|refine gd_ft ?_|refine gd_u ?_|refine pick_t ?_|refine pick_f ?_|refine not_t ?_|refine not_f ?_|refine nil_i ?_|refine ret1 ?_|refine ret2 ?_|refine ret0 ?_|refine ret3 ?_|refine ex2_0 ?_|refine ex2_1 ?_|refine ex3_0 ?_|refine ex3_1 ?_|refine ex3_2 ?_)
      refine seq_J (fun xs h2 => xs = [.int .i64 (orOf [(mErr m1).2, (mErr m2).2])] ∧ g2 = h2) ?_ ?_
      rotate_left
      · intro k' hk'
        (with_reducible repeat first|refine mv_i ?_|refine cnd_t ?_|refine cnd_f ?_|refine gd_tt ?_|refine gd_ff ?_|refine gd_tf ?_|refine gd_ft ?_|refine gd_u ?_|refine pick_t ?_|refine pick_f ?_|refine not_t ?_|refine not_f ?_|refine nil_i ?_|refine ret1 ?_|refine ret2 ?_|refine ret0 ?_|refine ret3 ?_|refine ex2_0 ?_|refine ex2_1 ?_|refine ex3_0 ?_|refine ex3_1 ?_|refine ex3_2 ?_)
        refine eql_i (fun e => ?_) (fun e => ?_)
        · (with_reducible repeat first|refine mv_i ?_|refine cnd_t ?_|refine cnd_f ?_|refine gd_tt ?_|refine gd_ff ?_|refine gd_tf ?_|refine gd_ft ?_|refine gd_u ?_|refine pick_t ?_|refine pick_f ?_|refine not_t ?_|refine not_f ?_|refine nil_i ?_|refine ret1 ?_|refine ret2 ?_|refine ret0 ?_|refine ret3 ?_|refine ex2_0 ?_|refine ex2_1 ?_|refine ex3_0 ?_|refine ex3_1 ?_|refine ex3_2 ?_)
          refine vk_i (ld36 hb2) ?_
          refine call_r (c16 (macv_of ssb)) ?_
          (with_reducible repeat first|refine mv_i ?_|refine cnd_t ?_|refine cnd_f ?_|refine gd_tt ?_|refine gd_ff ?_|refine gd_tf ?_|refine gd_ft ?_|refine gd_u ?_|refine pick_t ?_|refine pick_f ?_|refine not_t ?_|refine not_f ?_|refine nil_i ?_|refine ret1 ?_|refine ret2 ?_|refine ret0 ?_|refine ret3 ?_|refine ex2_0 ?_|refine ex2_1 ?_|refine ex3_0 ?_|refine ex3_1 ?_|refine ex3_2 ?_)
          exact hk' _ _ ⟨by rw [or2, if_pos e], rfl⟩
        · (with_reducible repeat first|refine mv_i ?_|refine cnd_t ?_|refine cnd_f ?_|refine gd_tt ?_|refine gd_ff ?_|refine gd_tf ?_|refine gd_ft ?_|refine gd_u ?_|refine pick_t ?_|refine pick_f ?_|refine not_t ?_|refine not_f ?_|refine nil_i ?_|refine ret1 ?_|refine ret2 ?_|refine ret0 ?_|refine ret3 ?_|refine ex2_0 ?_|refine ex2_1 ?_|refine ex3_0 ?_|refine ex3_1 ?_|refine ex3_2 ?_)
          exact hk' _ _ ⟨by rw [or2, if_neg e], rfl⟩
      rintro _ _ ⟨rfl, rfl⟩ _
      (with_reducible repeat first|refine mv_i ?_|refine cnd_t ?_|refine cnd_f ?_|refine gd_tt ?_|refine gd_ff ?_|refine gd_tf ?_|refine gd_ft ?_|refine gd_u ?_|refine pick_t ?_|refine pick_f ?_|refine not_t ?_|refine not_f ?_|refine nil_i ?_|refine ret1 ?_|refine ret2 ?_|refine ret0 ?_|refine ret3 ?_|refine ex2_0 ?_|refine ex2_1 ?_|refine ex3_0 ?_|refine ex3_1 ?_|refine ex3_2 ?_)
      refine seq_J (fun xs h2 => xs = [.int .i64 (orOf [(mErr m1).2, (mErr m2).2, if m1.inputs = m2.inputs then 0 else 6])] ∧ g2 = h2) ?_ ?_
      rotate_left
      · intro k' hk'
        (with_reducible repeat first|refine mv_i ?_|refine cnd_t ?_|refine cnd_f ?_|refine gd_tt ?_|refine gd_ff ?_|refine gd_tf ?_|refine gd_ft ?_|refine gd_u ?_|refine pick_t ?_|refine pick_f ?_|refine not_t ?_|refine not_f ?_|refine nil_i ?_|refine ret1 ?_|refine ret2 ?_|refine ret0 ?_|refine ret3 ?_|refine ex2_0 ?_|refine ex2_1 ?_|refine ex3_0 ?_|refine ex3_1 ?_|refine ex3_2 ?_)
        refine eql_i (fun e => ?_) (fun e => ?_)
        · (with_reducible repeat first|refine mv_i ?_|refine cnd_t ?_|refine cnd_f ?_|refine gd_tt ?_|refine gd_ff ?_|refine gd_tf ?_|refine gd_ft ?_|refine gd_u ?_|refine pick_t ?_|refine pick_f ?_|refine not_t ?_|refine not_f ?_|refine nil_i ?_|refine ret1 ?_|refine ret2 ?_|refine ret0 ?_|refine ret3 ?_|refine ex2_0 ?_|refine ex2_1 ?_|refine ex3_0 ?_|refine ex3_1 ?_|refine ex3_2 ?_|refine vk_i (fa36_0 _) ?_|refine vk_i (fa36_1 _) ?_|refine vk_i (fa36_2 _) ?_|refine vk_i (fa36_3 _) ?_|refine vk_i (fa36_4 _) ?_|refine vk_i (fa63_0 _) ?_|refine vk_i (fa63_1 _) ?_|refine vk_i (fa63_2 _) ?_|refine vk_i (fa63_3 _) ?_|refine ld4_0 r3 (by assumption) ?_|refine ld4_1 r3 (by assumption) ?_|refine ld4_2 r3 (by assumption) ?_|refine ld4_3 r3 (by assumption) ?_|refine ld5_0 r3 (by assumption) ?_|refine ld5_1 r3 (by assumption) ?_|refine ld5_2 r3 (by assumption) ?_|refine ld5_3 r3 (by assumption) ?_|refine ld5_4 r34 (by assumption) ?_|refine fae_i st63 (by assumption) (by omega) (by omega) ?_|refine ldf_i st63 (by assumption) (by omega) (by omega) dst ?_|refine ⟨vbi _ _, ?_⟩)
          refine neq_i (fun e3 => ?_) (fun e3 => ?_)
          · (with_reducible repeat first|refine mv_i ?_|refine cnd_t ?_|refine cnd_f ?_|refine gd_tt ?_|refine gd_ff ?_|refine gd_tf ?_|refine gd_ft ?_|refine gd_u ?_|refine pick_t ?_|refine pick_f ?_|refine not_t ?_|refine not_f ?_|refine nil_i ?_|refine ret1 ?_|refine ret2 ?_|refine ret0 ?_|refine ret3 ?_|refine ex2_0 ?_|refine ex2_1 ?_|refine ex3_0 ?_|refine ex3_1 ?_|refine ex3_2 ?_)
            refine hk' _ _ ⟨?_, rfl⟩
            rw [if_pos e3]
            exact congrArg (fun z => [Value.int .i64 z]) (or3_z (c := 0) e).1
          · (with_reducible repeat first|refine mv_i ?_|refine cnd_t ?_|refine cnd_f ?_|refine gd_tt ?_|refine gd_ff ?_|refine gd_tf ?_|refine gd_ft ?_|refine gd_u ?_|refine pick_t ?_|refine pick_f ?_|refine not_t ?_|refine not_f ?_|refine nil_i ?_|refine ret1 ?_|refine ret2 ?_|refine ret0 ?_|refine ret3 ?_|refine ex2_0 ?_|refine ex2_1 ?_|refine ex3_0 ?_|refine ex3_1 ?_|refine ex3_2 ?_)
            refine hk' _ _ ⟨?_, rfl⟩
            rw [if_neg e3]
            exact congrArg (fun z => [Value.int .i64 z]) (or3_z (c := 6) e).2.symm
        · (with_reducible repeat first|refine mv_i ?_|refine cnd_t ?_|refine cnd_f ?_|refine gd_tt ?_|refine gd_ff ?_|refine gd_tf ?_|refine gd_ft ?_|refine gd_u ?_|refine pick_t ?_|refine pick_f ?_|refine not_t ?_|refine not_f ?_|refine nil_i ?_|refine ret1 ?_|refine ret2 ?_|refine ret0 ?_|refine ret3 ?_|refine ex2_0 ?_|refine ex2_1 ?_|refine ex3_0 ?_|refine ex3_1 ?_|refine ex3_2 ?_)
          exact hk' _ _ ⟨congrArg (fun z => [Value.int .i64 z]) (or3_n e), rfl⟩
      rintro _ _ ⟨rfl, rfl⟩ _
      (with_reducible repeat first|refine mv_i ?_|refine cnd_t ?_|refine cnd_f ?_|refine gd_tt ?_|refine gd_ff ?_|refine gd_tf ?_|refine gd_ft ?_|refine gd_u ?_|refine pick_t ?_|refine pick_f ?_|refine not_t ?_|refine not_f ?_|refine nil_i ?_|refine ret1 ?_|refine ret2 ?_|refine ret0 ?_|refine ret3 ?_|refine ex2_0 ?_|refine ex2_1 ?_|refine ex3_0 ?_|refine ex3_1 ?_|refine ex3_2 ?_)
      refine seq_J (fun xs h2 => xs = [.int .i64 (pCode m1 m2 ws)] ∧ g2 = h2) ?_ ?_
      rotate_left
      · intro k' hk'
        (with_reducible repeat first|refine mv_i ?_|refine cnd_t ?_|refine cnd_f ?_|refine gd_tt ?_|refine gd_ff ?_|refine gd_tf ?_|refine gd_ft ?_|refine gd_u ?_|refine pick_t ?_|refine pick_f ?_|refine not_t ?_|refine not_f ?_|refine nil_i ?_|refine ret1 ?_|refine ret2 ?_|refine ret0 ?_|refine ret3 ?_|refine ex2_0 ?_|refine ex2_1 ?_|refine ex3_0 ?_|refine ex3_1 ?_|refine ex3_2 ?_)
        refine eql_i (fun e => ?_) (fun e => ?_)
        · (with_reducible repeat first|refine mv_i ?_|refine cnd_t ?_|refine cnd_f ?_|refine gd_tt ?_|refine gd_ff ?_|refine gd_tf ?_|refine gd_ft ?_|refine gd_u ?_|refine pick_t ?_|refine pick_f ?_|refine not_t ?_|refine not_f ?_|refine nil_i ?_|refine ret1 ?_|refine ret2 ?_|refine ret0 ?_|refine ret3 ?_|refine ex2_0 ?_|refine ex2_1 ?_|refine ex3_0 ?_|refine ex3_1 ?_|refine ex3_2 ?_|refine vk_i (fa36_0 _) ?_|refine vk_i (fa36_1 _) ?_|refine vk_i (fa36_2 _) ?_|refine vk_i (fa36_3 _) ?_|refine vk_i (fa36_4 _) ?_|refine vk_i (fa63_0 _) ?_|refine vk_i (fa63_1 _) ?_|refine vk_i (fa63_2 _) ?_|refine vk_i (fa63_3 _) ?_|refine ld4_0 r3 (by assumption) ?_|refine ld4_1 r3 (by assumption) ?_|refine ld4_2 r3 (by assumption) ?_|refine ld4_3 r3 (by assumption) ?_|refine ld5_0 r3 (by assumption) ?_|refine ld5_1 r3 (by assumption) ?_|refine ld5_2 r3 (by assumption) ?_|refine ld5_3 r3 (by assumption) ?_|refine ld5_4 r34 (by assumption) ?_|refine fae_i st63 (by assumption) (by omega) (by omega) ?_|refine ldf_i st63 (by assumption) (by omega) (by omega) dst ?_|refine ⟨vbi _ _, ?_⟩)
          refine call_r (c17 sw2) ?_
          (with_reducible repeat first|refine mv_i ?_|refine cnd_t ?_|refine cnd_f ?_|refine gd_tt ?_|refine gd_ff ?_|refine gd_tf ?_|refine gd_ft ?_|refine gd_u ?_|refine pick_t ?_|refine pick_f ?_|refine not_t ?_|refine not_f ?_|refine nil_i ?_|refine ret1 ?_|refine ret2 ?_|refine ret0 ?_|refine ret3 ?_|refine ex2_0 ?_|refine ex2_1 ?_|refine ex3_0 ?_|refine ex3_1 ?_|refine ex3_2 ?_)
          exact hk' _ _ ⟨congrArg (fun z => [Value.int .i64 z]) (code4_z e).symm, rfl⟩
        · (with_reducible repeat first|refine mv_i ?_|refine cnd_t ?_|refine cnd_f ?_|refine gd_tt ?_|refine gd_ff ?_|refine gd_tf ?_|refine gd_ft ?_|refine gd_u ?_|refine pick_t ?_|refine pick_f ?_|refine not_t ?_|refine not_f ?_|refine nil_i ?_|refine ret1 ?_|refine ret2 ?_|refine ret0 ?_|refine ret3 ?_|refine ex2_0 ?_|refine ex2_1 ?_|refine ex3_0 ?_|refine ex3_1 ?_|refine ex3_2 ?_)
          exact hk' _ _ ⟨congrArg (fun z => [Value.int .i64 z]) (code4_n e), rfl⟩
      rintro _ _ ⟨rfl, rfl⟩ _
      (with_reducible repeat first|refine mv_i ?_|refine cnd_t ?_|refine cnd_f ?_|refine gd_tt ?_|refine gd_ff ?_|refine gd_tf ?_|refine gd_ft ?_|refine gd_u ?_|refine pick_t ?_|refine pick_f ?_|refine not_t ?_|refine not_f ?_|refine nil_i ?_|refine ret1 ?_|refine ret2 ?_|refine ret0 ?_|refine ret3 ?_|refine ex2_0 ?_|refine ex2_1 ?_|refine ex3_0 ?_|refine ex3_1 ?_|refine ex3_2 ?_)
      refine vk_i (ld36 hb12) ?_
      refine ⟨vb_mac ssa, ?_⟩
      refine calld_i (c19 (macv_of ssa) hl1) ?_
      rintro w3 g3 ⟨p3, M3⟩
      refine ⟨⟨p3.choose, p3.choose_spec.symm⟩, ?_⟩
      (with_reducible repeat first|refine mv_i ?_|refine cnd_t ?_|refine cnd_f ?_|refine gd_tt ?_|refine gd_ff ?_|refine gd_tf ?_|refine gd_ft ?_|refine gd_u ?_|refine pick_t ?_|refine pick_f ?_|refine not_t ?_|refine not_f ?_|refine nil_i ?_|refine ret1 ?_|refine ret2 ?_|refine ret0 ?_|refine ret3 ?_|refine ex2_0 ?_|refine ex2_1 ?_|refine ex3_0 ?_|refine ex3_1 ?_|refine ex3_2 ?_)
      refine vk_i (ld36 ((Sub.of_pre p3).2 _ _ hb2)) ?_
      refine ⟨vb_mac (ssb.mono (Sub.of_pre p3)), ?_⟩
      refine calld_i (c19 (macv_of (ssb.mono (Sub.of_pre p3))) hl2) ?_
      rintro w4 g4 ⟨p4, M4⟩
      refine ⟨⟨p4.choose, p4.choose_spec.symm⟩, ?_⟩
      (with_reducible repeat first|refine mv_i ?_|refine cnd_t ?_|refine cnd_f ?_|refine gd_tt ?_|refine gd_ff ?_|refine gd_tf ?_|refine gd_ft ?_|refine gd_u ?_|refine pick_t ?_|refine pick_f ?_|refine not_t ?_|refine not_f ?_|refine nil_i ?_|refine ret1 ?_|refine ret2 ?_|refine ret0 ?_|refine ret3 ?_|refine ex2_0 ?_|refine ex2_1 ?_|refine ex3_0 ?_|refine ex3_1 ?_|refine ex3_2 ?_)
      refine calld_i (c12 (sw2.mono (Sub.of_pre (p3.trans p4))) hf) ?_
      rintro w5 g5 ⟨p5, R5, _⟩
      refine ⟨⟨p5.choose, p5.choose_spec.symm⟩, ?_⟩
      refine calld_r (c18 (M3.mono (Sub.of_pre (p4.trans p5))) (M4.mono (Sub.of_pre p5)) R5) ⟨⟨[], by simp⟩, ?_⟩
      unfold pairV
      have q5 := p3.trans (p4.trans p5)
      (with_reducible repeat first|refine mv_i ?_|refine cnd_t ?_|refine cnd_f ?_|refine gd_tt ?_|refine gd_ff ?_|refine gd_tf ?_|refine gd_ft ?_|refine gd_u ?_|refine pick_t ?_|refine pick_f ?_|refine not_t ?_|refine not_f ?_|refine nil_i ?_|refine ret1 ?_|refine ret2 ?_|refine ret0 ?_|refine ret3 ?_|refine ex2_0 ?_|refine ex2_1 ?_|refine ex3_0 ?_|refine ex3_1 ?_|refine ex3_2 ?_)
      refine vk_i (ld36 ((Sub.of_pre q5).2 _ _ hb12)) ?_
      refine ⟨vb_mac (ssa.mono (Sub.of_pre q5)), ?_⟩
      refine calld_i (c19 (macv_of (ssa.mono (Sub.of_pre q5))) hl1) ?_
      rintro w6 g6 ⟨p6, M6⟩
      refine ⟨⟨p6.choose, p6.choose_spec.symm⟩, ?_⟩
      have q6 := q5.trans p6
      (with_reducible repeat first|refine mv_i ?_|refine cnd_t ?_|refine cnd_f ?_|refine gd_tt ?_|refine gd_ff ?_|refine gd_tf ?_|refine gd_ft ?_|refine gd_u ?_|refine pick_t ?_|refine pick_f ?_|refine not_t ?_|refine not_f ?_|refine nil_i ?_|refine ret1 ?_|refine ret2 ?_|refine ret0 ?_|refine ret3 ?_|refine ex2_0 ?_|refine ex2_1 ?_|refine ex3_0 ?_|refine ex3_1 ?_|refine ex3_2 ?_)
      refine vk_i (ld36 ((Sub.of_pre q6).2 _ _ hb12)) ?_
      refine ⟨vb_mac (ssa.mono (Sub.of_pre q6)), ?_⟩
      refine calld_i (c19 (macv_of (ssa.mono (Sub.of_pre q6))) hl1) ?_
      rintro w7 g7 ⟨p7, M7⟩
      refine ⟨⟨p7.choose, p7.choose_spec.symm⟩, ?_⟩
      have q7 := q6.trans p7
      (with_reducible repeat first|refine mv_i ?_|refine cnd_t ?_|refine cnd_f ?_|refine gd_tt ?_|refine gd_ff ?_|refine gd_tf ?_|refine gd_ft ?_|refine gd_u ?_|refine pick_t ?_|refine pick_f ?_|refine not_t ?_|refine not_f ?_|refine nil_i ?_|refine ret1 ?_|refine ret2 ?_|refine ret0 ?_|refine ret3 ?_|refine ex2_0 ?_|refine ex2_1 ?_|refine ex3_0 ?_|refine ex3_1 ?_|refine ex3_2 ?_)
      refine vk_i (ld36 ((Sub.of_pre q7).2 _ _ hb2)) ?_
      refine ⟨vb_mac (ssb.mono (Sub.of_pre q7)), ?_⟩
      refine calld_i (c19 (macv_of (ssb.mono (Sub.of_pre q7))) hl2) ?_
      rintro w8 g8 ⟨p8, M8⟩
      refine ⟨⟨p8.choose, p8.choose_spec.symm⟩, ?_⟩
      have q8 := q7.trans p8
      obtain ⟨o7, l7, c7, rfl, S7⟩ := M7
      obtain ⟨o8, l8, c8, rfl, S8⟩ := M8
      (with_reducible repeat first|refine mv_i ?_|refine cnd_t ?_|refine cnd_f ?_|refine gd_tt ?_|refine gd_ff ?_|refine gd_tf ?_|refine gd_ft ?_|refine gd_u ?_|refine pick_t ?_|refine pick_f ?_|refine not_t ?_|refine not_f ?_|refine nil_i ?_|refine ret1 ?_|refine ret2 ?_|refine ret0 ?_|refine ret3 ?_|refine ex2_0 ?_|refine ex2_1 ?_|refine ex3_0 ?_|refine ex3_1 ?_|refine ex3_2 ?_)
      refine ok_i (bs43_2 _) ?_
      have MS := macs2 (S7.mono (Sub.of_pre p8)) S8
      have p9 := pre_new g8 (macC m1 (.slice o7 l7 c7) ++ macC m2 (.slice o8 l8 c8)) 5
      generalize hi8 : g8.length = i8 at MS ⊢
      generalize newArr g8 (macC m1 (.slice o7 l7 c7) ++ macC m2 (.slice o8 l8 c8)) 5 = g9 at MS p9 ⊢
      have q9 := q8.trans p9
      (with_reducible repeat first|refine mv_i ?_|refine cnd_t ?_|refine cnd_f ?_|refine gd_tt ?_|refine gd_ff ?_|refine gd_tf ?_|refine gd_ft ?_|refine gd_u ?_|refine pick_t ?_|refine pick_f ?_|refine not_t ?_|refine not_f ?_|refine nil_i ?_|refine ret1 ?_|refine ret2 ?_|refine ret0 ?_|refine ret3 ?_|refine ex2_0 ?_|refine ex2_1 ?_|refine ex3_0 ?_|refine ex3_1 ?_|refine ex3_2 ?_)
      refine calld_i (c12 (sw2.mono (Sub.of_pre q9)) hf) ?_
      rintro w10 g10 ⟨p10, R10, o10, l10, e10⟩
      refine ⟨⟨p10.choose, p10.choose_spec.symm⟩, ?_⟩
      refine calld_i (c20 (M6.mono (Sub.of_pre (p7.trans (p8.trans (p9.trans p10))))) (MS.mono (Sub.of_pre p10)) R10 e10) ?_
      rintro _ g11 ⟨p11, x, rfl, RX⟩
      refine ⟨⟨p11.choose, p11.choose_spec.symm⟩, ?_⟩
      have q11 := q9.trans (p10.trans p11)
      rw [cCode2]
      unfold caughtR at RX
      rw [cCode2] at RX
      (with_reducible repeat first|refine mv_i ?_|refine cnd_t ?_|refine cnd_f ?_|refine gd_tt ?_|refine gd_ff ?_|refine gd_tf ?_|refine gd_ft ?_|refine gd_u ?_|refine pick_t ?_|refine pick_f ?_|refine not_t ?_|refine not_f ?_|refine nil_i ?_|refine ret1 ?_|refine ret2 ?_|refine ret0 ?_|refine ret3 ?_|refine ex2_0 ?_|refine ex2_1 ?_|refine ex3_0 ?_|refine ex3_1 ?_|refine ex3_2 ?_)
      refine neq_i (fun hz => ?_) (fun hz => ?_)
      · have gd := good_of hz
        rw [if_pos hz] at RX
        have hpr : pRes m1 m2 ws = ((passN m1 m2 ws : Int), if passN m1 m2 ws = ws.length then 0 else 29) := by unfold pRes; rw [if_pos hz]
        rw [hpr, hz]
        have hple := pass_le m1 m2 ws
        have sw11 := sw2.mono (Sub.of_pre q11)
        (with_reducible repeat first|refine mv_i ?_|refine cnd_t ?_|refine cnd_f ?_|refine gd_tt ?_|refine gd_ff ?_|refine gd_tf ?_|refine gd_ft ?_|refine gd_u ?_|refine pick_t ?_|refine pick_f ?_|refine not_t ?_|refine not_f ?_|refine nil_i ?_|refine ret1 ?_|refine ret2 ?_|refine ret0 ?_|refine ret3 ?_|refine ex2_0 ?_|refine ex2_1 ?_|refine ex3_0 ?_|refine ex3_1 ?_|refine ex3_2 ?_)
        refine vk_i (ld36 ((Sub.of_pre q11).2 _ _ hb12)) ?_
        refine vk_i (ld36 ((Sub.of_pre q11).2 _ _ hb2)) ?_
        (with_reducible repeat first|refine mv_i ?_|refine cnd_t ?_|refine cnd_f ?_|refine gd_tt ?_|refine gd_ff ?_|refine gd_tf ?_|refine gd_ft ?_|refine gd_u ?_|refine pick_t ?_|refine pick_f ?_|refine not_t ?_|refine not_f ?_|refine nil_i ?_|refine ret1 ?_|refine ret2 ?_|refine ret0 ?_|refine ret3 ?_|refine ex2_0 ?_|refine ex2_1 ?_|refine ex3_0 ?_|refine ex3_1 ?_|refine ex3_2 ?_)
        refine call_r (c21 (macv_of (ssa.mono (Sub.of_pre q11))) (macv_of (ssb.mono (Sub.of_pre q11))) sw11 hf.2) ?_
        (with_reducible repeat first|refine mv_i ?_|refine cnd_t ?_|refine cnd_f ?_|refine gd_tt ?_|refine gd_ff ?_|refine gd_tf ?_|refine gd_ft ?_|refine gd_u ?_|refine pick_t ?_|refine pick_f ?_|refine not_t ?_|refine not_f ?_|refine nil_i ?_|refine ret1 ?_|refine ret2 ?_|refine ret0 ?_|refine ret3 ?_|refine ex2_0 ?_|refine ex2_1 ?_|refine ex3_0 ?_|refine ex3_1 ?_|refine ex3_2 ?_)
        refine neq_i (fun _ => ?_) (fun q => absurd rfl q)
        (with_reducible repeat first|refine mv_i ?_|refine cnd_t ?_|refine cnd_f ?_|refine gd_tt ?_|refine gd_ff ?_|refine gd_tf ?_|refine gd_ft ?_|refine gd_u ?_|refine pick_t ?_|refine pick_f ?_|refine not_t ?_|refine not_f ?_|refine nil_i ?_|refine ret1 ?_|refine ret2 ?_|refine ret0 ?_|refine ret3 ?_|refine ex2_0 ?_|refine ex2_1 ?_|refine ex3_0 ?_|refine ex3_1 ?_|refine ex3_2 ?_)
        by_cases e : passN m1 m2 ws = ws.length
        · rw [if_pos e]
          refine eql_i (fun _ => ?_) (fun q => absurd rfl q)
          (with_reducible repeat first|refine mv_i ?_|refine cnd_t ?_|refine cnd_f ?_|refine gd_tt ?_|refine gd_ff ?_|refine gd_tf ?_|refine gd_ft ?_|refine gd_u ?_|refine pick_t ?_|refine pick_f ?_|refine not_t ?_|refine not_f ?_|refine nil_i ?_|refine ret1 ?_|refine ret2 ?_|refine ret0 ?_|refine ret3 ?_|refine ex2_0 ?_|refine ex2_1 ?_|refine ex3_0 ?_|refine ex3_1 ?_|refine ex3_2 ?_)
          refine lenr_i t22 sw11 ?_
          (with_reducible repeat first|refine mv_i ?_|refine cnd_t ?_|refine cnd_f ?_|refine gd_tt ?_|refine gd_ff ?_|refine gd_tf ?_|refine gd_ft ?_|refine gd_u ?_|refine pick_t ?_|refine pick_f ?_|refine not_t ?_|refine not_f ?_|refine nil_i ?_|refine ret1 ?_|refine ret2 ?_|refine ret0 ?_|refine ret3 ?_|refine ex2_0 ?_|refine ex2_1 ?_|refine ex3_0 ?_|refine ex3_1 ?_|refine ex3_2 ?_)
          refine lss_i (fun q => by omega) (fun _ => ?_)
          (with_reducible repeat first|refine mv_i ?_|refine cnd_t ?_|refine cnd_f ?_|refine gd_tt ?_|refine gd_ff ?_|refine gd_tf ?_|refine gd_ft ?_|refine gd_u ?_|refine pick_t ?_|refine pick_f ?_|refine not_t ?_|refine not_f ?_|refine nil_i ?_|refine ret1 ?_|refine ret2 ?_|refine ret0 ?_|refine ret3 ?_|refine ex2_0 ?_|refine ex2_1 ?_|refine ex3_0 ?_|refine ex3_1 ?_|refine ex3_2 ?_)
          refine neq_i (fun _ => ?_) (fun q => absurd rfl q)
          (with_reducible repeat first|refine mv_i ?_|refine cnd_t ?_|refine cnd_f ?_|refine gd_tt ?_|refine gd_ff ?_|refine gd_tf ?_|refine gd_ft ?_|refine gd_u ?_|refine pick_t ?_|refine pick_f ?_|refine not_t ?_|refine not_f ?_|refine nil_i ?_|refine ret1 ?_|refine ret2 ?_|refine ret0 ?_|refine ret3 ?_|refine ex2_0 ?_|refine ex2_1 ?_|refine ex3_0 ?_|refine ex3_1 ?_|refine ex3_2 ?_)
          refine loop2 ws.length (fun k v h2 => Own 1 g11 h2 v (caughtN m1 m2 ws k).length ((caughtN m1 m2 ws k).map (.int .i64))) (Own.nil 1 (List.prefix_refl _)) ?_
          rintro k v gL _ hk ow
          have qL := q11.trans ow.pre
          have swL := sw2.mono (Sub.of_pre qL)
          have ssaL := ssa.mono (Sub.of_pre qL)
          have ssbL := ssb.mono (Sub.of_pre qL)
          (with_reducible repeat first|refine mv_i ?_|refine cnd_t ?_|refine cnd_f ?_|refine gd_tt ?_|refine gd_ff ?_|refine gd_tf ?_|refine gd_ft ?_|refine gd_u ?_|refine pick_t ?_|refine pick_f ?_|refine not_t ?_|refine not_f ?_|refine nil_i ?_|refine ret1 ?_|refine ret2 ?_|refine ret0 ?_|refine ret3 ?_|refine ex2_0 ?_|refine ex2_1 ?_|refine ex3_0 ?_|refine ex3_1 ?_|refine ex3_2 ?_)
          refine lenr_i t22 swL ?_
          refine lss_i (fun hlt => ?_) (fun hge => ?_)
          · have hk2 : k < ws.length := by omega
            (with_reducible repeat first|refine mv_i ?_|refine cnd_t ?_|refine cnd_f ?_|refine gd_tt ?_|refine gd_ff ?_|refine gd_tf ?_|refine gd_ft ?_|refine gd_u ?_|refine pick_t ?_|refine pick_f ?_|refine not_t ?_|refine not_f ?_|refine nil_i ?_|refine ret1 ?_|refine ret2 ?_|refine ret0 ?_|refine ret3 ?_|refine ex2_0 ?_|refine ex2_1 ?_|refine ex3_0 ?_|refine ex3_1 ?_|refine ex3_2 ?_)
            refine seq_J (fun xs h6 => ∃ z, xs = [z] ∧ Own 1 g11 h6 z (caughtN m1 m2 ws (k + 1)).length ((caughtN m1 m2 ws (k + 1)).map (.int .i64))) ?_ ?_
            · rintro _ h6 ⟨z, rfl, ow6⟩ _
              (with_reducible repeat first|refine mv_i ?_|refine cnd_t ?_|refine cnd_f ?_|refine gd_tt ?_|refine gd_ff ?_|refine gd_tf ?_|refine gd_ft ?_|refine gd_u ?_|refine pick_t ?_|refine pick_f ?_|refine not_t ?_|refine not_f ?_|refine nil_i ?_|refine ret1 ?_|refine ret2 ?_|refine ret0 ?_|refine ret3 ?_|refine ex2_0 ?_|refine ex2_1 ?_|refine ex3_0 ?_|refine ex3_1 ?_|refine ex3_2 ?_)
              refine inc_i (by omega) ?_
              (with_reducible repeat first|refine mv_i ?_|refine cnd_t ?_|refine cnd_f ?_|refine gd_tt ?_|refine gd_ff ?_|refine gd_tf ?_|refine gd_ft ?_|refine gd_u ?_|refine pick_t ?_|refine pick_f ?_|refine not_t ?_|refine not_f ?_|refine nil_i ?_|refine ret1 ?_|refine ret2 ?_|refine ret0 ?_|refine ret3 ?_|refine ex2_0 ?_|refine ex2_1 ?_|refine ex3_0 ?_|refine ex3_1 ?_|refine ex3_2 ?_)
              exact next2 hk2 ow6
            · intro k' hk'
              refine vk_i (ld36 ((Sub.of_pre qL).2 _ _ hb12)) ?_
              refine ⟨vb_mac ssaL, ?_⟩
              refine vk_i (ld36 ((Sub.of_pre qL).2 _ _ hb2)) ?_
              refine ⟨vb_mac ssbL, ?_⟩
              (with_reducible repeat first|refine mv_i ?_|refine cnd_t ?_|refine cnd_f ?_|refine gd_tt ?_|refine gd_ff ?_|refine gd_tf ?_|refine gd_ft ?_|refine gd_u ?_|refine pick_t ?_|refine pick_f ?_|refine not_t ?_|refine not_f ?_|refine nil_i ?_|refine ret1 ?_|refine ret2 ?_|refine ret0 ?_|refine ret3 ?_|refine ex2_0 ?_|refine ex2_1 ?_|refine ex3_0 ?_|refine ex3_1 ?_|refine ex3_2 ?_)
              refine idxr_i (k := k) t22 swL hk2 ?_
              refine ldr_i (k := k) t22 r23 swL hk2 fun r hr => ?_
              refine ⟨seg_vb hr, ?_⟩
              refine call_r (c22 (macv_of ssaL) (macv_of ssbL) hr (hf.2 _ (gd_mem [] hk2))) ?_
              have hsucc := caughtN_succ m1 m2 ws k
              have hl := caughtN_len m1 m2 ws k
              have hfw := hf.1
              have edb : (!decide (outsOf m1 m1.start (ws.getD k []) = outsOf m2 m2.start (ws.getD k []))) = difB m1 m2 ws k := rfl
              rw [edb]
              by_cases hd : difB m1 m2 ws k = true
              · rw [if_pos hd] at hsucc
                rw [hd]
                (with_reducible repeat first|refine mv_i ?_|refine cnd_t ?_|refine cnd_f ?_|refine gd_tt ?_|refine gd_ff ?_|refine gd_tf ?_|refine gd_ft ?_|refine gd_u ?_|refine pick_t ?_|refine pick_f ?_|refine not_t ?_|refine not_f ?_|refine nil_i ?_|refine ret1 ?_|refine ret2 ?_|refine ret0 ?_|refine ret3 ?_|refine ex2_0 ?_|refine ex2_1 ?_|refine ex3_0 ?_|refine ex3_1 ?_|refine ex3_2 ?_)
                refine ok_i (bs23_1 _ _) ?_
                obtain ⟨o6, _⟩ := ow.ext (pre_new gL [.int .i64 (k : Int)] 1)
                refine app_i t23 o6 (Seg.new (n := 1) 2 (by simp) (by omega)) (by simp [Value.oneCell']) (by omega) ⟨by omega, by omega⟩ fun v' h' o7 _ => ?_
                (with_reducible repeat first|refine mv_i ?_|refine cnd_t ?_|refine cnd_f ?_|refine gd_tt ?_|refine gd_ff ?_|refine gd_tf ?_|refine gd_ft ?_|refine gd_u ?_|refine pick_t ?_|refine pick_f ?_|refine not_t ?_|refine not_f ?_|refine nil_i ?_|refine ret1 ?_|refine ret2 ?_|refine ret0 ?_|refine ret3 ?_|refine ex2_0 ?_|refine ex2_1 ?_|refine ex3_0 ?_|refine ex3_1 ?_|refine ex3_2 ?_)
                refine hk' _ _ ⟨_, rfl, ?_⟩
                rw [hsucc, List.length_append, List.map_append]
                exact o7
              · rw [if_neg hd] at hsucc
                rw [Bool.not_eq_true] at hd
                rw [hd]
                (with_reducible repeat first|refine mv_i ?_|refine cnd_t ?_|refine cnd_f ?_|refine gd_tt ?_|refine gd_ff ?_|refine gd_tf ?_|refine gd_ft ?_|refine gd_u ?_|refine pick_t ?_|refine pick_f ?_|refine not_t ?_|refine not_f ?_|refine nil_i ?_|refine ret1 ?_|refine ret2 ?_|refine ret0 ?_|refine ret3 ?_|refine ex2_0 ?_|refine ex2_1 ?_|refine ex3_0 ?_|refine ex3_1 ?_|refine ex3_2 ?_)
                refine hk' _ _ ⟨_, rfl, ?_⟩
                rw [hsucc]
                exact ow
          · have ek : k = ws.length := by omega
            subst ek
            (with_reducible repeat first|refine mv_i ?_|refine cnd_t ?_|refine cnd_f ?_|refine gd_tt ?_|refine gd_ff ?_|refine gd_tf ?_|refine gd_ft ?_|refine gd_u ?_|refine pick_t ?_|refine pick_f ?_|refine not_t ?_|refine not_f ?_|refine nil_i ?_|refine ret1 ?_|refine ret2 ?_|refine ret0 ?_|refine ret3 ?_|refine ex2_0 ?_|refine ex2_1 ?_|refine ex3_0 ?_|refine ex3_1 ?_|refine ex3_2 ?_)
            refine eql_i (fun _ => ?_) (fun q => absurd rfl q)
            (with_reducible repeat first|refine mv_i ?_|refine cnd_t ?_|refine cnd_f ?_|refine gd_tt ?_|refine gd_ff ?_|refine gd_tf ?_|refine gd_ft ?_|refine gd_u ?_|refine pick_t ?_|refine pick_f ?_|refine not_t ?_|refine not_f ?_|refine nil_i ?_|refine ret1 ?_|refine ret2 ?_|refine ret0 ?_|refine ret3 ?_|refine ex2_0 ?_|refine ex2_1 ?_|refine ex3_0 ?_|refine ex3_1 ?_|refine ex3_2 ?_)
            have sg : IntS gL v (caughtN m1 m2 ws ws.length) := ow.seg
            obtain ⟨ov, lv, cv, rfl⟩ := seg_slice sg
            refine ok_i (bs22_2 _ _ _ _) ?_
            have RN : RowsS (newArr gL [.slice none 0 0, .slice ov lv cv] 1) (.slice (some ⟨gL.length, 0, none⟩) 2 3) [[], caughtN m1 m2 ws ws.length] := by
              refine ⟨[.slice none 0 0, .slice ov lv cv], rfl, Seg.new 3 (by rfl) (by simp), fun j hj => ?_⟩
              have hj' : j = 0 ∨ j = 1 := by simp at hj; omega
              rcases hj' with rfl | rfl
              · exact Seg.nil 1 _
              · exact sg.mono (Sub.of_pre (pre_new _ _ _))
            (with_reducible repeat first|refine mv_i ?_|refine cnd_t ?_|refine cnd_f ?_|refine gd_tt ?_|refine gd_ff ?_|refine gd_tf ?_|refine gd_ft ?_|refine gd_u ?_|refine pick_t ?_|refine pick_f ?_|refine not_t ?_|refine not_f ?_|refine nil_i ?_|refine ret1 ?_|refine ret2 ?_|refine ret0 ?_|refine ret3 ?_|refine ex2_0 ?_|refine ex2_1 ?_|refine ex3_0 ?_|refine ex3_1 ?_|refine ex3_2 ?_)
            refine call_r (c23 (RX.mono (Sub.of_pre (ow.pre.trans (pre_new _ _ _)))) RN) ?_
            rw [decide_eq_true (by simp [caught_self])]
            (with_reducible repeat first|refine mv_i ?_|refine cnd_t ?_|refine cnd_f ?_|refine gd_tt ?_|refine gd_ff ?_|refine gd_tf ?_|refine gd_ft ?_|refine gd_u ?_|refine pick_t ?_|refine pick_f ?_|refine not_t ?_|refine not_f ?_|refine nil_i ?_|refine ret1 ?_|refine ret2 ?_|refine ret0 ?_|refine ret3 ?_|refine ex2_0 ?_|refine ex2_1 ?_|refine ex3_0 ?_|refine ex3_1 ?_|refine ex3_2 ?_)
            rfl
        · rw [if_neg e]
          refine eql_i (fun q => absurd q (by omega)) (fun _ => ?_)
          (with_reducible repeat first|refine mv_i ?_|refine cnd_t ?_|refine cnd_f ?_|refine gd_tt ?_|refine gd_ff ?_|refine gd_tf ?_|refine gd_ft ?_|refine gd_u ?_|refine pick_t ?_|refine pick_f ?_|refine not_t ?_|refine not_f ?_|refine nil_i ?_|refine ret1 ?_|refine ret2 ?_|refine ret0 ?_|refine ret3 ?_|refine ex2_0 ?_|refine ex2_1 ?_|refine ex3_0 ?_|refine ex3_1 ?_|refine ex3_2 ?_)
          refine neq_i (fun q => absurd q (by omega)) (fun _ => ?_)
          (with_reducible repeat first|refine mv_i ?_|refine cnd_t ?_|refine cnd_f ?_|refine gd_tt ?_|refine gd_ff ?_|refine gd_tf ?_|refine gd_ft ?_|refine gd_u ?_|refine pick_t ?_|refine pick_f ?_|refine not_t ?_|refine not_f ?_|refine nil_i ?_|refine ret1 ?_|refine ret2 ?_|refine ret0 ?_|refine ret3 ?_|refine ex2_0 ?_|refine ex2_1 ?_|refine ex3_0 ?_|refine ex3_1 ?_|refine ex3_2 ?_)
          refine neq_i (fun _ => ?_) (fun q => absurd rfl q)
          (with_reducible repeat first|refine mv_i ?_|refine cnd_t ?_|refine cnd_f ?_|refine gd_tt ?_|refine gd_ff ?_|refine gd_tf ?_|refine gd_ft ?_|refine gd_u ?_|refine pick_t ?_|refine pick_f ?_|refine not_t ?_|refine not_f ?_|refine nil_i ?_|refine ret1 ?_|refine ret2 ?_|refine ret0 ?_|refine ret3 ?_|refine ex2_0 ?_|refine ex2_1 ?_|refine ex3_0 ?_|refine ex3_1 ?_|refine ex3_2 ?_)
          refine lenr_i t22 sw11 ?_
          (with_reducible repeat first|refine mv_i ?_|refine cnd_t ?_|refine cnd_f ?_|refine gd_tt ?_|refine gd_ff ?_|refine gd_tf ?_|refine gd_ft ?_|refine gd_u ?_|refine pick_t ?_|refine pick_f ?_|refine not_t ?_|refine not_f ?_|refine nil_i ?_|refine ret1 ?_|refine ret2 ?_|refine ret0 ?_|refine ret3 ?_|refine ex2_0 ?_|refine ex2_1 ?_|refine ex3_0 ?_|refine ex3_1 ?_|refine ex3_2 ?_)
          refine eql_i (fun q => absurd q (by omega)) (fun _ => ?_)
          (with_reducible repeat first|refine mv_i ?_|refine cnd_t ?_|refine cnd_f ?_|refine gd_tt ?_|refine gd_ff ?_|refine gd_tf ?_|refine gd_ft ?_|refine gd_u ?_|refine pick_t ?_|refine pick_f ?_|refine not_t ?_|refine not_f ?_|refine nil_i ?_|refine ret1 ?_|refine ret2 ?_|refine ret0 ?_|refine ret3 ?_|refine ex2_0 ?_|refine ex2_1 ?_|refine ex3_0 ?_|refine ex3_1 ?_|refine ex3_2 ?_)
          refine loop2 ws.length (fun k v h2 => Own 1 g11 h2 v (caughtN m1 m2 ws k).length ((caughtN m1 m2 ws k).map (.int .i64))) (Own.nil 1 (List.prefix_refl _)) ?_
          rintro k v gL _ hk ow
          have qL := q11.trans ow.pre
          have swL := sw2.mono (Sub.of_pre qL)
          have ssaL := ssa.mono (Sub.of_pre qL)
          have ssbL := ssb.mono (Sub.of_pre qL)
          (with_reducible repeat first|refine mv_i ?_|refine cnd_t ?_|refine cnd_f ?_|refine gd_tt ?_|refine gd_ff ?_|refine gd_tf ?_|refine gd_ft ?_|refine gd_u ?_|refine pick_t ?_|refine pick_f ?_|refine not_t ?_|refine not_f ?_|refine nil_i ?_|refine ret1 ?_|refine ret2 ?_|refine ret0 ?_|refine ret3 ?_|refine ex2_0 ?_|refine ex2_1 ?_|refine ex3_0 ?_|refine ex3_1 ?_|refine ex3_2 ?_)
          refine lenr_i t22 swL ?_
          refine lss_i (fun hlt => ?_) (fun hge => ?_)
          · have hk2 : k < ws.length := by omega
            (with_reducible repeat first|refine mv_i ?_|refine cnd_t ?_|refine cnd_f ?_|refine gd_tt ?_|refine gd_ff ?_|refine gd_tf ?_|refine gd_ft ?_|refine gd_u ?_|refine pick_t ?_|refine pick_f ?_|refine not_t ?_|refine not_f ?_|refine nil_i ?_|refine ret1 ?_|refine ret2 ?_|refine ret0 ?_|refine ret3 ?_|refine ex2_0 ?_|refine ex2_1 ?_|refine ex3_0 ?_|refine ex3_1 ?_|refine ex3_2 ?_)
            refine seq_J (fun xs h6 => ∃ z, xs = [z] ∧ Own 1 g11 h6 z (caughtN m1 m2 ws (k + 1)).length ((caughtN m1 m2 ws (k + 1)).map (.int .i64))) ?_ ?_
            · rintro _ h6 ⟨z, rfl, ow6⟩ _
              (with_reducible repeat first|refine mv_i ?_|refine cnd_t ?_|refine cnd_f ?_|refine gd_tt ?_|refine gd_ff ?_|refine gd_tf ?_|refine gd_ft ?_|refine gd_u ?_|refine pick_t ?_|refine pick_f ?_|refine not_t ?_|refine not_f ?_|refine nil_i ?_|refine ret1 ?_|refine ret2 ?_|refine ret0 ?_|refine ret3 ?_|refine ex2_0 ?_|refine ex2_1 ?_|refine ex3_0 ?_|refine ex3_1 ?_|refine ex3_2 ?_)
              refine inc_i (by omega) ?_
              (with_reducible repeat first|refine mv_i ?_|refine cnd_t ?_|refine cnd_f ?_|refine gd_tt ?_|refine gd_ff ?_|refine gd_tf ?_|refine gd_ft ?_|refine gd_u ?_|refine pick_t ?_|refine pick_f ?_|refine not_t ?_|refine not_f ?_|refine nil_i ?_|refine ret1 ?_|refine ret2 ?_|refine ret0 ?_|refine ret3 ?_|refine ex2_0 ?_|refine ex2_1 ?_|refine ex3_0 ?_|refine ex3_1 ?_|refine ex3_2 ?_)
              exact next2 hk2 ow6
            · intro k' hk'
              refine vk_i (ld36 ((Sub.of_pre qL).2 _ _ hb12)) ?_
              refine ⟨vb_mac ssaL, ?_⟩
              refine vk_i (ld36 ((Sub.of_pre qL).2 _ _ hb2)) ?_
              refine ⟨vb_mac ssbL, ?_⟩
              (with_reducible repeat first|refine mv_i ?_|refine cnd_t ?_|refine cnd_f ?_|refine gd_tt ?_|refine gd_ff ?_|refine gd_tf ?_|refine gd_ft ?_|refine gd_u ?_|refine pick_t ?_|refine pick_f ?_|refine not_t ?_|refine not_f ?_|refine nil_i ?_|refine ret1 ?_|refine ret2 ?_|refine ret0 ?_|refine ret3 ?_|refine ex2_0 ?_|refine ex2_1 ?_|refine ex3_0 ?_|refine ex3_1 ?_|refine ex3_2 ?_)
              refine idxr_i (k := k) t22 swL hk2 ?_
              refine ldr_i (k := k) t22 r23 swL hk2 fun r hr => ?_
              refine ⟨seg_vb hr, ?_⟩
              refine call_r (c22 (macv_of ssaL) (macv_of ssbL) hr (hf.2 _ (gd_mem [] hk2))) ?_
              have hsucc := caughtN_succ m1 m2 ws k
              have hl := caughtN_len m1 m2 ws k
              have hfw := hf.1
              have edb : (!decide (outsOf m1 m1.start (ws.getD k []) = outsOf m2 m2.start (ws.getD k []))) = difB m1 m2 ws k := rfl
              rw [edb]
              by_cases hd : difB m1 m2 ws k = true
              · rw [if_pos hd] at hsucc
                rw [hd]
                (with_reducible repeat first|refine mv_i ?_|refine cnd_t ?_|refine cnd_f ?_|refine gd_tt ?_|refine gd_ff ?_|refine gd_tf ?_|refine gd_ft ?_|refine gd_u ?_|refine pick_t ?_|refine pick_f ?_|refine not_t ?_|refine not_f ?_|refine nil_i ?_|refine ret1 ?_|refine ret2 ?_|refine ret0 ?_|refine ret3 ?_|refine ex2_0 ?_|refine ex2_1 ?_|refine ex3_0 ?_|refine ex3_1 ?_|refine ex3_2 ?_)
                refine ok_i (bs23_1 _ _) ?_
                obtain ⟨o6, _⟩ := ow.ext (pre_new gL [.int .i64 (k : Int)] 1)
                refine app_i t23 o6 (Seg.new (n := 1) 2 (by simp) (by omega)) (by simp [Value.oneCell']) (by omega) ⟨by omega, by omega⟩ fun v' h' o7 _ => ?_
                (with_reducible repeat first|refine mv_i ?_|refine cnd_t ?_|refine cnd_f ?_|refine gd_tt ?_|refine gd_ff ?_|refine gd_tf ?_|refine gd_ft ?_|refine gd_u ?_|refine pick_t ?_|refine pick_f ?_|refine not_t ?_|refine not_f ?_|refine nil_i ?_|refine ret1 ?_|refine ret2 ?_|refine ret0 ?_|refine ret3 ?_|refine ex2_0 ?_|refine ex2_1 ?_|refine ex3_0 ?_|refine ex3_1 ?_|refine ex3_2 ?_)
                refine hk' _ _ ⟨_, rfl, ?_⟩
                rw [hsucc, List.length_append, List.map_append]
                exact o7
              · rw [if_neg hd] at hsucc
                rw [Bool.not_eq_true] at hd
                rw [hd]
                (with_reducible repeat first|refine mv_i ?_|refine cnd_t ?_|refine cnd_f ?_|refine gd_tt ?_|refine gd_ff ?_|refine gd_tf ?_|refine gd_ft ?_|refine gd_u ?_|refine pick_t ?_|refine pick_f ?_|refine not_t ?_|refine not_f ?_|refine nil_i ?_|refine ret1 ?_|refine ret2 ?_|refine ret0 ?_|refine ret3 ?_|refine ex2_0 ?_|refine ex2_1 ?_|refine ex3_0 ?_|refine ex3_1 ?_|refine ex3_2 ?_)
                refine hk' _ _ ⟨_, rfl, ?_⟩
                rw [hsucc]
                exact ow
          · have ek : k = ws.length := by omega
            subst ek
            (with_reducible repeat first|refine mv_i ?_|refine cnd_t ?_|refine cnd_f ?_|refine gd_tt ?_|refine gd_ff ?_|refine gd_tf ?_|refine gd_ft ?_|refine gd_u ?_|refine pick_t ?_|refine pick_f ?_|refine not_t ?_|refine not_f ?_|refine nil_i ?_|refine ret1 ?_|refine ret2 ?_|refine ret0 ?_|refine ret3 ?_|refine ex2_0 ?_|refine ex2_1 ?_|refine ex3_0 ?_|refine ex3_1 ?_|refine ex3_2 ?_)
            refine eql_i (fun _ => ?_) (fun q => absurd rfl q)
            (with_reducible repeat first|refine mv_i ?_|refine cnd_t ?_|refine cnd_f ?_|refine gd_tt ?_|refine gd_ff ?_|refine gd_tf ?_|refine gd_ft ?_|refine gd_u ?_|refine pick_t ?_|refine pick_f ?_|refine not_t ?_|refine not_f ?_|refine nil_i ?_|refine ret1 ?_|refine ret2 ?_|refine ret0 ?_|refine ret3 ?_|refine ex2_0 ?_|refine ex2_1 ?_|refine ex3_0 ?_|refine ex3_1 ?_|refine ex3_2 ?_)
            have sg : IntS gL v (caughtN m1 m2 ws ws.length) := ow.seg
            obtain ⟨ov, lv, cv, rfl⟩ := seg_slice sg
            refine ok_i (bs22_2 _ _ _ _) ?_
            have RN : RowsS (newArr gL [.slice none 0 0, .slice ov lv cv] 1) (.slice (some ⟨gL.length, 0, none⟩) 2 3) [[], caughtN m1 m2 ws ws.length] := by
              refine ⟨[.slice none 0 0, .slice ov lv cv], rfl, Seg.new 3 (by rfl) (by simp), fun j hj => ?_⟩
              have hj' : j = 0 ∨ j = 1 := by simp at hj; omega
              rcases hj' with rfl | rfl
              · exact Seg.nil 1 _
              · exact sg.mono (Sub.of_pre (pre_new _ _ _))
            (with_reducible repeat first|refine mv_i ?_|refine cnd_t ?_|refine cnd_f ?_|refine gd_tt ?_|refine gd_ff ?_|refine gd_tf ?_|refine gd_ft ?_|refine gd_u ?_|refine pick_t ?_|refine pick_f ?_|refine not_t ?_|refine not_f ?_|refine nil_i ?_|refine ret1 ?_|refine ret2 ?_|refine ret0 ?_|refine ret3 ?_|refine ex2_0 ?_|refine ex2_1 ?_|refine ex3_0 ?_|refine ex3_1 ?_|refine ex3_2 ?_)
            refine call_r (c23 (RX.mono (Sub.of_pre (ow.pre.trans (pre_new _ _ _)))) RN) ?_
            rw [decide_eq_true (by simp [caught_self])]
            (with_reducible repeat first|refine mv_i ?_|refine cnd_t ?_|refine cnd_f ?_|refine gd_tt ?_|refine gd_ff ?_|refine gd_tf ?_|refine gd_ft ?_|refine gd_u ?_|refine pick_t ?_|refine pick_f ?_|refine not_t ?_|refine not_f ?_|refine nil_i ?_|refine ret1 ?_|refine ret2 ?_|refine ret0 ?_|refine ret3 ?_|refine ex2_0 ?_|refine ex2_1 ?_|refine ex3_0 ?_|refine ex3_1 ?_|refine ex3_2 ?_)
            rfl
      · rw [if_neg hz] at RX
        have hpr : pRes m1 m2 ws = (0, pCode m1 m2 ws) := by unfold pRes; rw [if_neg hz]
        rw [hpr]
        (with_reducible repeat first|refine mv_i ?_|refine cnd_t ?_|refine cnd_f ?_|refine gd_tt ?_|refine gd_ff ?_|refine gd_tf ?_|refine gd_ft ?_|refine gd_u ?_|refine pick_t ?_|refine pick_f ?_|refine not_t ?_|refine not_f ?_|refine nil_i ?_|refine ret1 ?_|refine ret2 ?_|refine ret0 ?_|refine ret3 ?_|refine ex2_0 ?_|refine ex2_1 ?_|refine ex3_0 ?_|refine ex3_1 ?_|refine ex3_2 ?_)
        refine eql_i (fun _ => ?_) (fun q => absurd rfl q)
        (with_reducible repeat first|refine mv_i ?_|refine cnd_t ?_|refine cnd_f ?_|refine gd_tt ?_|refine gd_ff ?_|refine gd_tf ?_|refine gd_ft ?_|refine gd_u ?_|refine pick_t ?_|refine pick_f ?_|refine not_t ?_|refine not_f ?_|refine nil_i ?_|refine ret1 ?_|refine ret2 ?_|refine ret0 ?_|refine ret3 ?_|refine ex2_0 ?_|refine ex2_1 ?_|refine ex3_0 ?_|refine ex3_1 ?_|refine ex3_2 ?_)
        refine eql_i (fun _ => ?_) (fun q => absurd rfl q)
        (with_reducible repeat first|refine mv_i ?_|refine cnd_t ?_|refine cnd_f ?_|refine gd_tt ?_|refine gd_ff ?_|refine gd_tf ?_|refine gd_ft ?_|refine gd_u ?_|refine pick_t ?_|refine pick_f ?_|refine not_t ?_|refine not_f ?_|refine nil_i ?_|refine ret1 ?_|refine ret2 ?_|refine ret0 ?_|refine ret3 ?_|refine ex2_0 ?_|refine ex2_1 ?_|refine ex3_0 ?_|refine ex3_1 ?_|refine ex3_2 ?_)
        refine eql_i (fun _ => ?_) (fun q => absurd rfl q)
        (with_reducible repeat first|refine mv_i ?_|refine cnd_t ?_|refine cnd_f ?_|refine gd_tt ?_|refine gd_ff ?_|refine gd_tf ?_|refine gd_ft ?_|refine gd_u ?_|refine pick_t ?_|refine pick_f ?_|refine not_t ?_|refine not_f ?_|refine nil_i ?_|refine ret1 ?_|refine ret2 ?_|refine ret0 ?_|refine ret3 ?_|refine ex2_0 ?_|refine ex2_1 ?_|refine ex3_0 ?_|refine ex3_1 ?_|refine ex3_2 ?_)
        refine lenr_i t22 RX ?_
        (with_reducible repeat first|refine mv_i ?_|refine cnd_t ?_|refine cnd_f ?_|refine gd_tt ?_|refine gd_ff ?_|refine gd_tf ?_|refine gd_ft ?_|refine gd_u ?_|refine pick_t ?_|refine pick_f ?_|refine not_t ?_|refine not_f ?_|refine nil_i ?_|refine ret1 ?_|refine ret2 ?_|refine ret0 ?_|refine ret3 ?_|refine ex2_0 ?_|refine ex2_1 ?_|refine ex3_0 ?_|refine ex3_1 ?_|refine ex3_2 ?_)
        refine eql_i (fun _ => ?_) (fun q => absurd rfl q)
        (with_reducible repeat first|refine mv_i ?_|refine cnd_t ?_|refine cnd_f ?_|refine gd_tt ?_|refine gd_ff ?_|refine gd_tf ?_|refine gd_ft ?_|refine gd_u ?_|refine pick_t ?_|refine pick_f ?_|refine not_t ?_|refine not_f ?_|refine nil_i ?_|refine ret1 ?_|refine ret2 ?_|refine ret0 ?_|refine ret3 ?_|refine ex2_0 ?_|refine ex2_1 ?_|refine ex3_0 ?_|refine ex3_1 ?_|refine ex3_2 ?_)
        rfl
  · (with_reducible repeat first|refine mv_i ?_|refine cnd_t ?_|refine cnd_f ?_|refine gd_tt ?_|refine gd_ff ?_|refine gd_tf ?_|refine gd_ft ?_|refine gd_u ?_|refine pick_t ?_|refine pick_f ?_|refine not_t ?_|refine not_f ?_|refine nil_i ?_|refine ret1 ?_|refine ret2 ?_|refine ret0 ?_|refine ret3 ?_|refine ex2_0 ?_|refine ex2_1 ?_|refine ex3_0 ?_|refine ex3_1 ?_|refine ex3_2 ?_)
    refine vk_i (ld36 hb12) ?_
    refine call_r (c16 (macv_of ssa)) ?_
    (with_reducible repeat first|refine mv_i ?_|refine cnd_t ?_|refine cnd_f ?_|refine gd_tt ?_|refine gd_ff ?_|refine gd_tf ?_|refine gd_ft ?_|refine gd_u ?_|refine pick_t ?_|refine pick_f ?_|refine not_t ?_|refine not_f ?_|refine nil_i ?_|refine ret1 ?_|refine ret2 ?_|refine ret0 ?_|refine ret3 ?_|refine ex2_0 ?_|refine ex2_1 ?_|refine ex3_0 ?_|refine ex3_1 ?_|refine ex3_2 ?_)
    refine seq_J (fun xs h2 => xs = [.int .i64 (orOf [(mErr m1).2, (mErr m2).2])] ∧ g2 = h2) ?_ ?_
    rotate_left
    · intro k' hk'
      (with_reducible repeat first|refine mv_i ?_|refine cnd_t ?_|refine cnd_f ?_|refine gd_tt ?_|refine gd_ff ?_|refine gd_tf ?_|refine gd_ft ?_|refine gd_u ?_|refine pick_t ?_|refine pick_f ?_|refine not_t ?_|refine not_f ?_|refine nil_i ?_|refine ret1 ?_|refine ret2 ?_|refine ret0 ?_|refine ret3 ?_|refine ex2_0 ?_|refine ex2_1 ?_|refine ex3_0 ?_|refine ex3_1 ?_|refine ex3_2 ?_)
      refine eql_i (fun e => ?_) (fun e => ?_)
      · (with_reducible repeat first|refine mv_i ?_|refine cnd_t ?_|refine cnd_f ?_|refine gd_tt ?_|refine gd_ff ?_|refine gd_tf ?_|refine gd_ft ?_|refine gd_u ?_|refine pick_t ?_|refine pick_f ?_|refine not_t ?_|refine not_f ?_|refine nil_i ?_|refine ret1 ?_|refine ret2 ?_|refine ret0 ?_|refine ret3 ?_|refine ex2_0 ?_|refine ex2_1 ?_|refine ex3_0 ?_|refine ex3_1 ?_|refine ex3_2 ?_)
        refine vk_i (ld36 hb2) ?_
        refine call_r (c16 (macv_of ssb)) ?_
        (with_reducible repeat first|refine mv_i ?_|refine cnd_t ?_|refine cnd_f ?_|refine gd_tt ?_|refine gd_ff ?_|refine gd_tf ?_|refine gd_ft ?_|refine gd_u ?_|refine pick_t ?_|refine pick_f ?_|refine not_t ?_|refine not_f ?_|refine nil_i ?_|refine ret1 ?_|refine ret2 ?_|refine ret0 ?_|refine ret3 ?_|refine ex2_0 ?_|refine ex2_1 ?_|refine ex3_0 ?_|refine ex3_1 ?_|refine ex3_2 ?_)
        exact hk' _ _ ⟨by rw [or2, if_pos e], rfl⟩
      · (with_reducible repeat first|refine mv_i ?_|refine cnd_t ?_|refine cnd_f ?_|refine gd_tt ?_|refine gd_ff ?_|refine gd_tf ?_|refine gd_ft ?_|refine gd_u ?_|refine pick_t ?_|refine pick_f ?_|refine not_t ?_|refine not_f ?_|refine nil_i ?_|refine ret1 ?_|refine ret2 ?_|refine ret0 ?_|refine ret3 ?_|refine ex2_0 ?_|refine ex2_1 ?_|refine ex3_0 ?_|refine ex3_1 ?_|refine ex3_2 ?_)
        exact hk' _ _ ⟨by rw [or2, if_neg e], rfl⟩
    rintro _ _ ⟨rfl, rfl⟩ _
    (with_reducible repeat first|refine mv_i ?_|refine cnd_t ?_|refine cnd_f ?_|refine gd_tt ?_|refine gd_ff ?_|refine gd_tf ?_|refine gd_ft ?_|refine gd_u ?_|refine pick_t ?_|refine pick_f ?_|refine not_t ?_|refine not_f ?_|refine nil_i ?_|refine ret1 ?_|refine ret2 ?_|refine ret0 ?_|refine ret3 ?_|refine ex2_0 ?_|refine ex2_1 ?_|refine ex3_0 ?_|refine ex3_1 ?_|refine ex3_2 ?_)
    refine seq_J (fun xs h2 => xs = [.int .i64 (orOf [(mErr m1).2, (mErr m2).2, if m1.inputs = m2.inputs then 0 else 6])] ∧ g2 = h2) ?_ ?_
    rotate_left
    · intro k' hk'
      (with_reducible repeat first|refine mv_i ?_|refine cnd_t ?_|refine cnd_f ?_|refine gd_tt ?_|refine gd_ff ?_|refine gd_tf ?_|refine gd_ft ?_|refine gd_u ?_|refine pick_t ?_|refine pick_f ?_|refine not_t ?_|refine not_f ?_|refine nil_i ?_|refine ret1 ?_|refine ret2 ?_|refine ret0 ?_|refine ret3 ?_|refine ex2_0 ?_|refine ex2_1 ?_|refine ex3_0 ?_|refine ex3_1 ?_|refine ex3_2 ?_)
      refine eql_i (fun e => ?_) (fun e => ?_)
      · (with_reducible repeat first|refine mv_i ?_|refine cnd_t ?_|refine cnd_f ?_|refine gd_tt ?_|refine gd_ff ?_|refine gd_tf ?_|refine gd_ft ?_|refine gd_u ?_|refine pick_t ?_|refine pick_f ?_|refine not_t ?_|refine not_f ?_|refine nil_i ?_|refine ret1 ?_|refine ret2 ?_|refine ret0 ?_|refine ret3 ?_|refine ex2_0 ?_|refine ex2_1 ?_|refine ex3_0 ?_|refine ex3_1 ?_|refine ex3_2 ?_|refine vk_i (fa36_0 _) ?_|refine vk_i (fa36_1 _) ?_|refine vk_i (fa36_2 _) ?_|refine vk_i (fa36_3 _) ?_|refine vk_i (fa36_4 _) ?_|refine vk_i (fa63_0 _) ?_|refine vk_i (fa63_1 _) ?_|refine vk_i (fa63_2 _) ?_|refine vk_i (fa63_3 _) ?_|refine ld4_0 r3 (by assumption) ?_|refine ld4_1 r3 (by assumption) ?_|refine ld4_2 r3 (by assumption) ?_|refine ld4_3 r3 (by assumption) ?_|refine ld5_0 r3 (by assumption) ?_|refine ld5_1 r3 (by assumption) ?_|refine ld5_2 r3 (by assumption) ?_|refine ld5_3 r3 (by assumption) ?_|refine ld5_4 r34 (by assumption) ?_|refine fae_i st63 (by assumption) (by omega) (by omega) ?_|refine ldf_i st63 (by assumption) (by omega) (by omega) dst ?_|refine ⟨vbi _ _, ?_⟩)
        refine neq_i (fun e3 => ?_) (fun e3 => ?_)
        · (with_reducible repeat first|refine mv_i ?_|refine cnd_t ?_|refine cnd_f ?_|refine gd_tt ?_|refine gd_ff ?_|refine gd_tf ?_|refine gd_ft ?_|refine gd_u ?_|refine pick_t ?_|refine pick_f ?_|refine not_t ?_|refine not_f ?_|refine nil_i ?_|refine ret1 ?_|refine ret2 ?_|refine ret0 ?_|refine ret3 ?_|refine ex2_0 ?_|refine ex2_1 ?_|refine ex3_0 ?_|refine ex3_1 ?_|refine ex3_2 ?_)
          refine hk' _ _ ⟨?_, rfl⟩
          rw [if_pos e3]
          exact congrArg (fun z => [Value.int .i64 z]) (or3_z (c := 0) e).1
        · (with_reducible repeat first|refine mv_i ?_|refine cnd_t ?_|refine cnd_f ?_|refine gd_tt ?_|refine gd_ff ?_|refine gd_tf ?_|refine gd_ft ?_|refine gd_u ?_|refine pick_t ?_|refine pick_f ?_|refine not_t ?_|refine not_f ?_|refine nil_i ?_|refine ret1 ?_|refine ret2 ?_|refine ret0 ?_|refine ret3 ?_|refine ex2_0 ?_|refine ex2_1 ?_|refine ex3_0 ?_|refine ex3_1 ?_|refine ex3_2 ?_)
          refine hk' _ _ ⟨?_, rfl⟩
          rw [if_neg e3]
          exact congrArg (fun z => [Value.int .i64 z]) (or3_z (c := 6) e).2.symm
      · (with_reducible repeat first|refine mv_i ?_|refine cnd_t ?_|refine cnd_f ?_|refine gd_tt ?_|refine gd_ff ?_|refine gd_tf ?_|refine gd_ft ?_|refine gd_u ?_|refine pick_t ?_|refine pick_f ?_|refine not_t ?_|refine not_f ?_|refine nil_i ?_|refine ret1 ?_|refine ret2 ?_|refine ret0 ?_|refine ret3 ?_|refine ex2_0 ?_|refine ex2_1 ?_|refine ex3_0 ?_|refine ex3_1 ?_|refine ex3_2 ?_)
        exact hk' _ _ ⟨congrArg (fun z => [Value.int .i64 z]) (or3_n e), rfl⟩
    rintro _ _ ⟨rfl, rfl⟩ _
    (with_reducible repeat first|refine mv_i ?_|refine cnd_t ?_|refine cnd_f ?_|refine gd_tt ?_|refine gd_ff ?_|refine gd_tf ?_|refine gd_ft ?_|refine gd_u ?_|refine pick_t ?_|refine pick_f ?_|refine not_t ?_|refine not_f ?_|refine nil_i ?_|refine ret1 ?_|refine ret2 ?_|refine ret0 ?_|refine ret3 ?_|refine ex2_0 ?_|refine ex2_1 ?_|refine ex3_0 ?_|refine ex3_1 ?_|refine ex3_2 ?_)
    refine seq_J (fun xs h2 => xs = [.int .i64 (pCode m1 m2 ws)] ∧ g2 = h2) ?_ ?_
    rotate_left
    · intro k' hk'
      (with_reducible repeat first|refine mv_i ?_|refine cnd_t ?_|refine cnd_f ?_|refine gd_tt ?_|refine gd_ff ?_|refine gd_tf ?_|refine gd_ft ?_|refine gd_u ?_|refine pick_t ?_|refine pick_f ?_|refine not_t ?_|refine not_f ?_|refine nil_i ?_|refine ret1 ?_|refine ret2 ?_|refine ret0 ?_|refine ret3 ?_|refine ex2_0 ?_|refine ex2_1 ?_|refine ex3_0 ?_|refine ex3_1 ?_|refine ex3_2 ?_)
      refine eql_i (fun e => ?_) (fun e => ?_)
      · (with_reducible repeat first|refine mv_i ?_|refine cnd_t ?_|refine cnd_f ?_|refine gd_tt ?_|refine gd_ff ?_|refine gd_tf ?_|refine gd_ft ?_|refine gd_u ?_|refine pick_t ?_|refine pick_f ?_|refine not_t ?_|refine not_f ?_|refine nil_i ?_|refine ret1 ?_|refine ret2 ?_|refine ret0 ?_|refine ret3 ?_|refine ex2_0 ?_|refine ex2_1 ?_|refine ex3_0 ?_|refine ex3_1 ?_|refine ex3_2 ?_|refine vk_i (fa36_0 _) ?_|refine vk_i (fa36_1 _) ?_|refine vk_i (fa36_2 _) ?_|refine vk_i (fa36_3 _) ?_|refine vk_i (fa36_4 _) ?_|refine vk_i (fa63_0 _) ?_|refine vk_i (fa63_1 _) ?_|refine vk_i (fa63_2 _) ?_|refine vk_i (fa63_3 _) ?_|refine ld4_0 r3 (by assumption) ?_|refine ld4_1 r3 (by assumption) ?_|refine ld4_2 r3 (by assumption) ?_|refine ld4_3 r3 (by assumption) ?_|refine ld5_0 r3 (by assumption) ?_|refine ld5_1 r3 (by assumption) ?_|refine ld5_2 r3 (by assumption) ?_|refine ld5_3 r3 (by assumption) ?_|refine ld5_4 r34 (by assumption) ?_|refine fae_i st63 (by assumption) (by omega) (by omega) ?_|refine ldf_i st63 (by assumption) (by omega) (by omega) dst ?_|refine ⟨vbi _ _, ?_⟩)
        refine call_r (c17 sw2) ?_
        (with_reducible repeat first|refine mv_i ?_|refine cnd_t ?_|refine cnd_f ?_|refine gd_tt ?_|refine gd_ff ?_|refine gd_tf ?_|refine gd_ft ?_|refine gd_u ?_|refine pick_t ?_|refine pick_f ?_|refine not_t ?_|refine not_f ?_|refine nil_i ?_|refine ret1 ?_|refine ret2 ?_|refine ret0 ?_|refine ret3 ?_|refine ex2_0 ?_|refine ex2_1 ?_|refine ex3_0 ?_|refine ex3_1 ?_|refine ex3_2 ?_)
        exact hk' _ _ ⟨congrArg (fun z => [Value.int .i64 z]) (code4_z e).symm, rfl⟩
      · (with_reducible repeat first|refine mv_i ?_|refine cnd_t ?_|refine cnd_f ?_|refine gd_tt ?_|refine gd_ff ?_|refine gd_tf ?_|refine gd_ft ?_|refine gd_u ?_|refine pick_t ?_|refine pick_f ?_|refine not_t ?_|refine not_f ?_|refine nil_i ?_|refine ret1 ?_|refine ret2 ?_|refine ret0 ?_|refine ret3 ?_|refine ex2_0 ?_|refine ex2_1 ?_|refine ex3_0 ?_|refine ex3_1 ?_|refine ex3_2 ?_)
        exact hk' _ _ ⟨congrArg (fun z => [Value.int .i64 z]) (code4_n e), rfl⟩
    rintro _ _ ⟨rfl, rfl⟩ _
    (with_reducible repeat first|refine mv_i ?_|refine cnd_t ?_|refine cnd_f ?_|refine gd_tt ?_|refine gd_ff ?_|refine gd_tf ?_|refine gd_ft ?_|refine gd_u ?_|refine pick_t ?_|refine pick_f ?_|refine not_t ?_|refine not_f ?_|refine nil_i ?_|refine ret1 ?_|refine ret2 ?_|refine ret0 ?_|refine ret3 ?_|refine ex2_0 ?_|refine ex2_1 ?_|refine ex3_0 ?_|refine ex3_1 ?_|refine ex3_2 ?_)
    refine vk_i (ld36 hb12) ?_
    refine ⟨vb_mac ssa, ?_⟩
    refine calld_i (c19 (macv_of ssa) hl1) ?_
    rintro w3 g3 ⟨p3, M3⟩
    refine ⟨⟨p3.choose, p3.choose_spec.symm⟩, ?_⟩
    (with_reducible repeat first|refine mv_i ?_|refine cnd_t ?_|refine cnd_f ?_|refine gd_tt ?_|refine gd_ff ?_|refine gd_tf ?_|refine gd_ft ?_|refine gd_u ?_|refine pick_t ?_|refine pick_f ?_|refine not_t ?_|refine not_f ?_|refine nil_i ?_|refine ret1 ?_|refine ret2 ?_|refine ret0 ?_|refine ret3 ?_|refine ex2_0 ?_|refine ex2_1 ?_|refine ex3_0 ?_|refine ex3_1 ?_|refine ex3_2 ?_)
    refine vk_i (ld36 ((Sub.of_pre p3).2 _ _ hb2)) ?_
    refine ⟨vb_mac (ssb.mono (Sub.of_pre p3)), ?_⟩
    refine calld_i (c19 (macv_of (ssb.mono (Sub.of_pre p3))) hl2) ?_
    rintro w4 g4 ⟨p4, M4⟩
    refine ⟨⟨p4.choose, p4.choose_spec.symm⟩, ?_⟩
    (with_reducible repeat first|refine mv_i ?_|refine cnd_t ?_|refine cnd_f ?_|refine gd_tt ?_|refine gd_ff ?_|refine gd_tf ?_|refine gd_ft ?_|refine gd_u ?_|refine pick_t ?_|refine pick_f ?_|refine not_t ?_|refine not_f ?_|refine nil_i ?_|refine ret1 ?_|refine ret2 ?_|refine ret0 ?_|refine ret3 ?_|refine ex2_0 ?_|refine ex2_1 ?_|refine ex3_0 ?_|refine ex3_1 ?_|refine ex3_2 ?_)
    refine calld_i (c12 (sw2.mono (Sub.of_pre (p3.trans p4))) hf) ?_
    rintro w5 g5 ⟨p5, R5, _⟩
    refine ⟨⟨p5.choose, p5.choose_spec.symm⟩, ?_⟩
    refine calld_r (c18 (M3.mono (Sub.of_pre (p4.trans p5))) (M4.mono (Sub.of_pre p5)) R5) ⟨⟨[], by simp⟩, ?_⟩
    unfold pairV
    have q5 := p3.trans (p4.trans p5)
    (with_reducible repeat first|refine mv_i ?_|refine cnd_t ?_|refine cnd_f ?_|refine gd_tt ?_|refine gd_ff ?_|refine gd_tf ?_|refine gd_ft ?_|refine gd_u ?_|refine pick_t ?_|refine pick_f ?_|refine not_t ?_|refine not_f ?_|refine nil_i ?_|refine ret1 ?_|refine ret2 ?_|refine ret0 ?_|refine ret3 ?_|refine ex2_0 ?_|refine ex2_1 ?_|refine ex3_0 ?_|refine ex3_1 ?_|refine ex3_2 ?_)
    refine vk_i (ld36 ((Sub.of_pre q5).2 _ _ hb12)) ?_
    refine ⟨vb_mac (ssa.mono (Sub.of_pre q5)), ?_⟩
    refine calld_i (c19 (macv_of (ssa.mono (Sub.of_pre q5))) hl1) ?_
    rintro w6 g6 ⟨p6, M6⟩
    refine ⟨⟨p6.choose, p6.choose_spec.symm⟩, ?_⟩
    have q6 := q5.trans p6
    (with_reducible repeat first|refine mv_i ?_|refine cnd_t ?_|refine cnd_f ?_|refine gd_tt ?_|refine gd_ff ?_|refine gd_tf ?_|refine gd_ft ?_|refine gd_u ?_|refine pick_t ?_|refine pick_f ?_|refine not_t ?_|refine not_f ?_|refine nil_i ?_|refine ret1 ?_|refine ret2 ?_|refine ret0 ?_|refine ret3 ?_|refine ex2_0 ?_|refine ex2_1 ?_|refine ex3_0 ?_|refine ex3_1 ?_|refine ex3_2 ?_)
    refine vk_i (ld36 ((Sub.of_pre q6).2 _ _ hb12)) ?_
    refine ⟨vb_mac (ssa.mono (Sub.of_pre q6)), ?_⟩
    refine calld_i (c19 (macv_of (ssa.mono (Sub.of_pre q6))) hl1) ?_
    rintro w7 g7 ⟨p7, M7⟩
    refine ⟨⟨p7.choose, p7.choose_spec.symm⟩, ?_⟩
    have q7 := q6.trans p7
    (with_reducible repeat first|refine mv_i ?_|refine cnd_t ?_|refine cnd_f ?_|refine gd_tt ?_|refine gd_ff ?_|refine gd_tf ?_|refine gd_ft ?_|refine gd_u ?_|refine pick_t ?_|refine pick_f ?_|refine not_t ?_|refine not_f ?_|refine nil_i ?_|refine ret1 ?_|refine ret2 ?_|refine ret0 ?_|refine ret3 ?_|refine ex2_0 ?_|refine ex2_1 ?_|refine ex3_0 ?_|refine ex3_1 ?_|refine ex3_2 ?_)
    refine vk_i (ld36 ((Sub.of_pre q7).2 _ _ hb2)) ?_
    refine ⟨vb_mac (ssb.mono (Sub.of_pre q7)), ?_⟩
    refine calld_i (c19 (macv_of (ssb.mono (Sub.of_pre q7))) hl2) ?_
    rintro w8 g8 ⟨p8, M8⟩
    refine ⟨⟨p8.choose, p8.choose_spec.symm⟩, ?_⟩
    have q8 := q7.trans p8
    obtain ⟨o7, l7, c7, rfl, S7⟩ := M7
    obtain ⟨o8, l8, c8, rfl, S8⟩ := M8
    (with_reducible repeat first|refine mv_i ?_|refine cnd_t ?_|refine cnd_f ?_|refine gd_tt ?_|refine gd_ff ?_|refine gd_tf ?_|refine gd_ft ?_|refine gd_u ?_|refine pick_t ?_|refine pick_f ?_|refine not_t ?_|refine not_f ?_|refine nil_i ?_|refine ret1 ?_|refine ret2 ?_|refine ret0 ?_|refine ret3 ?_|refine ex2_0 ?_|refine ex2_1 ?_|refine ex3_0 ?_|refine ex3_1 ?_|refine ex3_2 ?_)
    refine ok_i (bs43_2 _) ?_
    have MS := macs2 (S7.mono (Sub.of_pre p8)) S8
    have p9 := pre_new g8 (macC m1 (.slice o7 l7 c7) ++ macC m2 (.slice o8 l8 c8)) 5
    generalize hi8 : g8.length = i8 at MS ⊢
    generalize newArr g8 (macC m1 (.slice o7 l7 c7) ++ macC m2 (.slice o8 l8 c8)) 5 = g9 at MS p9 ⊢
    have q9 := q8.trans p9
    (with_reducible repeat first|refine mv_i ?_|refine cnd_t ?_|refine cnd_f ?_|refine gd_tt ?_|refine gd_ff ?_|refine gd_tf ?_|refine gd_ft ?_|refine gd_u ?_|refine pick_t ?_|refine pick_f ?_|refine not_t ?_|refine not_f ?_|refine nil_i ?_|refine ret1 ?_|refine ret2 ?_|refine ret0 ?_|refine ret3 ?_|refine ex2_0 ?_|refine ex2_1 ?_|refine ex3_0 ?_|refine ex3_1 ?_|refine ex3_2 ?_)
    refine calld_i (c12 (sw2.mono (Sub.of_pre q9)) hf) ?_
    rintro w10 g10 ⟨p10, R10, o10, l10, e10⟩
    refine ⟨⟨p10.choose, p10.choose_spec.symm⟩, ?_⟩
    refine calld_i (c20 (M6.mono (Sub.of_pre (p7.trans (p8.trans (p9.trans p10))))) (MS.mono (Sub.of_pre p10)) R10 e10) ?_
    rintro _ g11 ⟨p11, x, rfl, RX⟩
    refine ⟨⟨p11.choose, p11.choose_spec.symm⟩, ?_⟩
    have q11 := q9.trans (p10.trans p11)
    rw [cCode2]
    unfold caughtR at RX
    rw [cCode2] at RX
    (with_reducible repeat first|refine mv_i ?_|refine cnd_t ?_|refine cnd_f ?_|refine gd_tt ?_|refine gd_ff ?_|refine gd_tf ?_|refine gd_ft ?_|refine gd_u ?_|refine pick_t ?_|refine pick_f ?_|refine not_t ?_|refine not_f ?_|refine nil_i ?_|refine ret1 ?_|refine ret2 ?_|refine ret0 ?_|refine ret3 ?_|refine ex2_0 ?_|refine ex2_1 ?_|refine ex3_0 ?_|refine ex3_1 ?_|refine ex3_2 ?_)
    refine neq_i (fun hz => ?_) (fun hz => ?_)
    · have gd := good_of hz
      rw [if_pos hz] at RX
      have hpr : pRes m1 m2 ws = ((passN m1 m2 ws : Int), if passN m1 m2 ws = ws.length then 0 else 29) := by unfold pRes; rw [if_pos hz]
      rw [hpr, hz]
      have hple := pass_le m1 m2 ws
      have sw11 := sw2.mono (Sub.of_pre q11)
      (with_reducible repeat first|refine mv_i ?_|refine cnd_t ?_|refine cnd_f ?_|refine gd_tt ?_|refine gd_ff ?_|refine gd_tf ?_|refine gd_ft ?_|refine gd_u ?_|refine pick_t ?_|refine pick_f ?_|refine not_t ?_|refine not_f ?_|refine nil_i ?_|refine ret1 ?_|refine ret2 ?_|refine ret0 ?_|refine ret3 ?_|refine ex2_0 ?_|refine ex2_1 ?_|refine ex3_0 ?_|refine ex3_1 ?_|refine ex3_2 ?_)
      refine vk_i (ld36 ((Sub.of_pre q11).2 _ _ hb12)) ?_
      refine vk_i (ld36 ((Sub.of_pre q11).2 _ _ hb2)) ?_
      (with_reducible repeat first|refine mv_i ?_|refine cnd_t ?_|refine cnd_f ?_|refine gd_tt ?_|refine gd_ff ?_|refine gd_tf ?_|refine gd_ft ?_|refine gd_u ?_|refine pick_t ?_|refine pick_f ?_|refine not_t ?_|refine not_f ?_|refine nil_i ?_|refine ret1 ?_|refine ret2 ?_|refine ret0 ?_|refine ret3 ?_|refine ex2_0 ?_|refine ex2_1 ?_|refine ex3_0 ?_|refine ex3_1 ?_|refine ex3_2 ?_)
      refine call_r (c21 (macv_of (ssa.mono (Sub.of_pre q11))) (macv_of (ssb.mono (Sub.of_pre q11))) sw11 hf.2) ?_
      (with_reducible repeat first|refine mv_i ?_|refine cnd_t ?_|refine cnd_f ?_|refine gd_tt ?_|refine gd_ff ?_|refine gd_tf ?_|refine gd_ft ?_|refine gd_u ?_|refine pick_t ?_|refine pick_f ?_|refine not_t ?_|refine not_f ?_|refine nil_i ?_|refine ret1 ?_|refine ret2 ?_|refine ret0 ?_|refine ret3 ?_|refine ex2_0 ?_|refine ex2_1 ?_|refine ex3_0 ?_|refine ex3_1 ?_|refine ex3_2 ?_)
      refine neq_i (fun _ => ?_) (fun q => absurd rfl q)
      (with_reducible repeat first|refine mv_i ?_|refine cnd_t ?_|refine cnd_f ?_|refine gd_tt ?_|refine gd_ff ?_|refine gd_tf ?_|refine gd_ft ?_|refine gd_u ?_|refine pick_t ?_|refine pick_f ?_|refine not_t ?_|refine not_f ?_|refine nil_i ?_|refine ret1 ?_|refine ret2 ?_|refine ret0 ?_|refine ret3 ?_|refine ex2_0 ?_|refine ex2_1 ?_|refine ex3_0 ?_|refine ex3_1 ?_|refine ex3_2 ?_)
      by_cases e : passN m1 m2 ws = ws.length
      · rw [if_pos e]
        refine eql_i (fun _ => ?_) (fun q => absurd rfl q)
        (with_reducible repeat first|refine mv_i ?_|refine cnd_t ?_|refine cnd_f ?_|refine gd_tt ?_|refine gd_ff ?_|refine gd_tf ?_|refine gd_ft ?_|refine gd_u ?_|refine pick_t ?_|refine pick_f ?_|refine not_t ?_|refine not_f ?_|refine nil_i ?_|refine ret1 ?_|refine ret2 ?_|refine ret0 ?_|refine ret3 ?_|refine ex2_0 ?_|refine ex2_1 ?_|refine ex3_0 ?_|refine ex3_1 ?_|refine ex3_2 ?_)
        refine lenr_i t22 sw11 ?_
        (with_reducible repeat first|refine mv_i ?_|refine cnd_t ?_|refine cnd_f ?_|refine gd_tt ?_|refine gd_ff ?_|refine gd_tf ?_|refine gd_ft ?_|refine gd_u ?_|refine pick_t ?_|refine pick_f ?_|refine not_t ?_|refine not_f ?_|refine nil_i ?_|refine ret1 ?_|refine ret2 ?_|refine ret0 ?_|refine ret3 ?_|refine ex2_0 ?_|refine ex2_1 ?_|refine ex3_0 ?_|refine ex3_1 ?_|refine ex3_2 ?_)
        refine lss_i (fun q => by omega) (fun _ => ?_)
        (with_reducible repeat first|refine mv_i ?_|refine cnd_t ?_|refine cnd_f ?_|refine gd_tt ?_|refine gd_ff ?_|refine gd_tf ?_|refine gd_ft ?_|refine gd_u ?_|refine pick_t ?_|refine pick_f ?_|refine not_t ?_|refine not_f ?_|refine nil_i ?_|refine ret1 ?_|refine ret2 ?_|refine ret0 ?_|refine ret3 ?_|refine ex2_0 ?_|refine ex2_1 ?_|refine ex3_0 ?_|refine ex3_1 ?_|refine ex3_2 ?_)
        refine neq_i (fun _ => ?_) (fun q => absurd rfl q)
        (with_reducible repeat first|refine mv_i ?_|refine cnd_t ?_|refine cnd_f ?_|refine gd_tt ?_|refine gd_ff ?_|refine gd_tf ?_|refine gd_ft ?_|refine gd_u ?_|refine pick_t ?_|refine pick_f ?_|refine not_t ?_|refine not_f ?_|refine nil_i ?_|refine ret1 ?_|refine ret2 ?_|refine ret0 ?_|refine ret3 ?_|refine ex2_0 ?_|refine ex2_1 ?_|refine ex3_0 ?_|refine ex3_1 ?_|refine ex3_2 ?_)
        refine loop2 ws.length (fun k v h2 => Own 1 g11 h2 v (caughtN m1 m2 ws k).length ((caughtN m1 m2 ws k).map (.int .i64))) (Own.nil 1 (List.prefix_refl _)) ?_
        rintro k v gL _ hk ow
        have qL := q11.trans ow.pre
        have swL := sw2.mono (Sub.of_pre qL)
        have ssaL := ssa.mono (Sub.of_pre qL)
        have ssbL := ssb.mono (Sub.of_pre qL)
        (with_reducible repeat first|refine mv_i ?_|refine cnd_t ?_|refine cnd_f ?_|refine gd_tt ?_|refine gd_ff ?_|refine gd_tf ?_|refine gd_ft ?_|refine gd_u ?_|refine pick_t ?_|refine pick_f ?_|refine not_t ?_|refine not_f ?_|refine nil_i ?_|refine ret1 ?_|refine ret2 ?_|refine ret0 ?_|refine ret3 ?_|refine ex2_0 ?_|refine ex2_1 ?_|refine ex3_0 ?_|refine ex3_1 ?_|refine ex3_2 ?_)
        refine lenr_i t22 swL ?_
        refine lss_i (fun hlt => ?_) (fun hge => ?_)
        · have hk2 : k < ws.length := by omega
          (with_reducible repeat first|refine mv_i ?_|refine cnd_t ?_|refine cnd_f ?_|refine gd_tt ?_|refine gd_ff ?_|refine gd_tf ?_|refine gd_ft ?_|refine gd_u ?_|refine pick_t ?_|refine pick_f ?_|refine not_t ?_|refine not_f ?_|refine nil_i ?_|refine ret1 ?_|refine ret2 ?_|refine ret0 ?_|refine ret3 ?_|refine ex2_0 ?_|refine ex2_1 ?_|refine ex3_0 ?_|refine ex3_1 ?_|refine ex3_2 ?_)
          refine seq_J (fun xs h6 => ∃ z, xs = [z] ∧ Own 1 g11 h6 z (caughtN m1 m2 ws (k + 1)).length ((caughtN m1 m2 ws (k + 1)).map (.int .i64))) ?_ ?_
          · rintro _ h6 ⟨z, rfl, ow6⟩ _
            (with_reducible repeat first|refine mv_i ?_|refine cnd_t ?_|refine cnd_f ?_|refine gd_tt ?_|refine gd_ff ?_|refine gd_tf ?_|refine gd_ft ?_|refine gd_u ?_|refine pick_t ?_|refine pick_f ?_|refine not_t ?_|refine not_f ?_|refine nil_i ?_|refine ret1 ?_|refine ret2 ?_|refine ret0 ?_|refine ret3 ?_|refine ex2_0 ?_|refine ex2_1 ?_|refine ex3_0 ?_|refine ex3_1 ?_|refine ex3_2 ?_)
            refine inc_i (by omega) ?_
            (with_reducible repeat first|refine mv_i ?_|refine cnd_t ?_|refine cnd_f ?_|refine gd_tt ?_|refine gd_ff ?_|refine gd_tf ?_|refine gd_ft ?_|refine gd_u ?_|refine pick_t ?_|refine pick_f ?_|refine not_t ?_|refine not_f ?_|refine nil_i ?_|refine ret1 ?_|refine ret2 ?_|refine ret0 ?_|refine ret3 ?_|refine ex2_0 ?_|refine ex2_1 ?_|refine ex3_0 ?_|refine ex3_1 ?_|refine ex3_2 ?_)
            exact next2 hk2 ow6
          · intro k' hk'
            refine vk_i (ld36 ((Sub.of_pre qL).2 _ _ hb12)) ?_
            refine ⟨vb_mac ssaL, ?_⟩
            refine vk_i (ld36 ((Sub.of_pre qL).2 _ _ hb2)) ?_
            refine ⟨vb_mac ssbL, ?_⟩
            (with_reducible repeat first|refine mv_i ?_|refine cnd_t ?_|refine cnd_f ?_|refine gd_tt ?_|refine gd_ff ?_|refine gd_tf ?_|refine gd_ft ?_|refine gd_u ?_|refine pick_t ?_|refine pick_f ?_|refine not_t ?_|refine not_f ?_|refine nil_i ?_|refine ret1 ?_|refine ret2 ?_|refine ret0 ?_|refine ret3 ?_|refine ex2_0 ?_|refine ex2_1 ?_|refine ex3_0 ?_|refine ex3_1 ?_|refine ex3_2 ?_)
            refine idxr_i (k := k) t22 swL hk2 ?_
            refine ldr_i (k := k) t22 r23 swL hk2 fun r hr => ?_
            refine ⟨seg_vb hr, ?_⟩
            refine call_r (c22 (macv_of ssaL) (macv_of ssbL) hr (hf.2 _ (gd_mem [] hk2))) ?_
            have hsucc := caughtN_succ m1 m2 ws k
            have hl := caughtN_len m1 m2 ws k
            have hfw := hf.1
            have edb : (!decide (outsOf m1 m1.start (ws.getD k []) = outsOf m2 m2.start (ws.getD k []))) = difB m1 m2 ws k := rfl
            rw [edb]
            by_cases hd : difB m1 m2 ws k = true
            · rw [if_pos hd] at hsucc
              rw [hd]
              (with_reducible repeat first|refine mv_i ?_|refine cnd_t ?_|refine cnd_f ?_|refine gd_tt ?_|refine gd_ff ?_|refine gd_tf ?_|refine gd_ft ?_|refine gd_u ?_|refine pick_t ?_|refine pick_f ?_|refine not_t ?_|refine not_f ?_|refine nil_i ?_|refine ret1 ?_|refine ret2 ?_|refine ret0 ?_|refine ret3 ?_|refine ex2_0 ?_|refine ex2_1 ?_|refine ex3_0 ?_|refine ex3_1 ?_|refine ex3_2 ?_)
              refine ok_i (bs23_1 _ _) ?_
              obtain ⟨o6, _⟩ := ow.ext (pre_new gL [.int .i64 (k : Int)] 1)
              refine app_i t23 o6 (Seg.new (n := 1) 2 (by simp) (by omega)) (by simp [Value.oneCell']) (by omega) ⟨by omega, by omega⟩ fun v' h' o7 _ => ?_
              (with_reducible repeat first|refine mv_i ?_|refine cnd_t ?_|refine cnd_f ?_|refine gd_tt ?_|refine gd_ff ?_|refine gd_tf ?_|refine gd_ft ?_|refine gd_u ?_|refine pick_t ?_|refine pick_f ?_|refine not_t ?_|refine not_f ?_|refine nil_i ?_|refine ret1 ?_|refine ret2 ?_|refine ret0 ?_|refine ret3 ?_|refine ex2_0 ?_|refine ex2_1 ?_|refine ex3_0 ?_|refine ex3_1 ?_|refine ex3_2 ?_)
              refine hk' _ _ ⟨_, rfl, ?_⟩
              rw [hsucc, List.length_append, List.map_append]
              exact o7
            · rw [if_neg hd] at hsucc
              rw [Bool.not_eq_true] at hd
              rw [hd]
              (with_reducible repeat first|refine mv_i ?_|refine cnd_t ?_|refine cnd_f ?_|refine gd_tt ?_|refine gd_ff ?_|refine gd_tf ?_|refine gd_ft ?_|refine gd_u ?_|refine pick_t ?_|refine pick_f ?_|refine not_t ?_|refine not_f ?_|refine nil_i ?_|refine ret1 ?_|refine ret2 ?_|refine ret0 ?_|refine ret3 ?_|refine ex2_0 ?_|refine ex2_1 ?_|refine ex3_0 ?_|refine ex3_1 ?_|refine ex3_2 ?_)
              refine hk' _ _ ⟨_, rfl, ?_⟩
              rw [hsucc]
              exact ow
        · have ek : k = ws.length := by omega
          subst ek
          (with_reducible repeat first|refine mv_i ?_|refine cnd_t ?_|refine cnd_f ?_|refine gd_tt ?_|refine gd_ff ?_|refine gd_tf ?_|refine gd_ft ?_|refine gd_u ?_|refine pick_t ?_|refine pick_f ?_|refine not_t ?_|refine not_f ?_|refine nil_i ?_|refine ret1 ?_|refine ret2 ?_|refine ret0 ?_|refine ret3 ?_|refine ex2_0 ?_|refine ex2_1 ?_|refine ex3_0 ?_|refine ex3_1 ?_|refine ex3_2 ?_)
          refine eql_i (fun _ => ?_) (fun q => absurd rfl q)
          (with_reducible repeat first|refine mv_i ?_|refine cnd_t ?_|refine cnd_f ?_|refine gd_tt ?_|refine gd_ff ?_|refine gd_tf ?_|refine gd_ft ?_|refine gd_u ?_|refine pick_t ?_|refine pick_f ?_|refine not_t ?_|refine not_f ?_|refine nil_i ?_|refine ret1 ?_|refine ret2 ?_|refine ret0 ?_|refine ret3 ?_|refine ex2_0 ?_|refine ex2_1 ?_|refine ex3_0 ?_|refine ex3_1 ?_|refine ex3_2 ?_)
          have sg : IntS gL v (caughtN m1 m2 ws ws.length) := ow.seg
          obtain ⟨ov, lv, cv, rfl⟩ := seg_slice sg
          refine ok_i (bs22_2 _ _ _ _) ?_
          have RN : RowsS (newArr gL [.slice none 0 0, .slice ov lv cv] 1) (.slice (some ⟨gL.length, 0, none⟩) 2 3) [[], caughtN m1 m2 ws ws.length] := by
            refine ⟨[.slice none 0 0, .slice ov lv cv], rfl, Seg.new 3 (by rfl) (by simp), fun j hj => ?_⟩
            have hj' : j = 0 ∨ j = 1 := by simp at hj; omega
            rcases hj' with rfl | rfl
            · exact Seg.nil 1 _
            · exact sg.mono (Sub.of_pre (pre_new _ _ _))
          (with_reducible repeat first|refine mv_i ?_|refine cnd_t ?_|refine cnd_f ?_|refine gd_tt ?_|refine gd_ff ?_|refine gd_tf ?_|refine gd_ft ?_|refine gd_u ?_|refine pick_t ?_|refine pick_f ?_|refine not_t ?_|refine not_f ?_|refine nil_i ?_|refine ret1 ?_|refine ret2 ?_|refine ret0 ?_|refine ret3 ?_|refine ex2_0 ?_|refine ex2_1 ?_|refine ex3_0 ?_|refine ex3_1 ?_|refine ex3_2 ?_)
          refine call_r (c23 (RX.mono (Sub.of_pre (ow.pre.trans (pre_new _ _ _)))) RN) ?_
          rw [decide_eq_true (by simp [caught_self])]
          (with_reducible repeat first|refine mv_i ?_|refine cnd_t ?_|refine cnd_f ?_|refine gd_tt ?_|refine gd_ff ?_|refine gd_tf ?_|refine gd_ft ?_|refine gd_u ?_|refine pick_t ?_|refine pick_f ?_|refine not_t ?_|refine not_f ?_|refine nil_i ?_|refine ret1 ?_|refine ret2 ?_|refine ret0 ?_|refine ret3 ?_|refine ex2_0 ?_|refine ex2_1 ?_|refine ex3_0 ?_|refine ex3_1 ?_|refine ex3_2 ?_)
          rfl
      · rw [if_neg e]
        refine eql_i (fun q => absurd q (by omega)) (fun _ => ?_)
        (with_reducible repeat first|refine mv_i ?_|refine cnd_t ?_|refine cnd_f ?_|refine gd_tt ?_|refine gd_ff ?_|refine gd_tf ?_|refine gd_ft ?_|refine gd_u ?_|refine pick_t ?_|refine pick_f ?_|refine not_t ?_|refine not_f ?_|refine nil_i ?_|refine ret1 ?_|refine ret2 ?_|refine ret0 ?_|refine ret3 ?_|refine ex2_0 ?_|refine ex2_1 ?_|refine ex3_0 ?_|refine ex3_1 ?_|refine ex3_2 ?_)
        refine neq_i (fun q => absurd q (by omega)) (fun _ => ?_)
        (with_reducible repeat first|refine mv_i ?_|refine cnd_t ?_|refine cnd_f ?_|refine gd_tt ?_|refine gd_ff ?_|refine gd_tf ?_|refine gd_ft ?_|refine gd_u ?_|refine pick_t ?_|refine pick_f ?_|refine not_t ?_|refine not_f ?_|refine nil_i ?_|refine ret1 ?_|refine ret2 ?_|refine ret0 ?_|refine ret3 ?_|refine ex2_0 ?_|refine ex2_1 ?_|refine ex3_0 ?_|refine ex3_1 ?_|refine ex3_2 ?_)
        refine neq_i (fun _ => ?_) (fun q => absurd rfl q)
        (with_reducible repeat first|refine mv_i ?_|refine cnd_t ?_|refine cnd_f ?_|refine gd_tt ?_|refine gd_ff ?_|refine gd_tf ?_|refine gd_ft ?_|refine gd_u ?_|refine pick_t ?_|refine pick_f ?_|refine not_t ?_|refine not_f ?_|refine nil_i ?_|refine ret1 ?_|refine ret2 ?_|refine ret0 ?_|refine ret3 ?_|refine ex2_0 ?_|refine ex2_1 ?_|refine ex3_0 ?_|refine ex3_1 ?_|refine ex3_2 ?_)
        refine lenr_i t22 sw11 ?_
        (with_reducible repeat first|refine mv_i ?_|refine cnd_t ?_|refine cnd_f ?_|refine gd_tt ?_|refine gd_ff ?_|refine gd_tf ?_|refine gd_ft ?_|refine gd_u ?_|refine pick_t ?_|refine pick_f ?_|refine not_t ?_|refine not_f ?_|refine nil_i ?_|refine ret1 ?_|refine ret2 ?_|refine ret0 ?_|refine ret3 ?_|refine ex2_0 ?_|refine ex2_1 ?_|refine ex3_0 ?_|refine ex3_1 ?_|refine ex3_2 ?_)
        refine eql_i (fun q => absurd q (by omega)) (fun _ => ?_)
        (with_reducible repeat first|refine mv_i ?_|refine cnd_t ?_|refine cnd_f ?_|refine gd_tt ?_|refine gd_ff ?_|refine gd_tf ?_|refine gd_ft ?_|refine gd_u ?_|refine pick_t ?_|refine pick_f ?_|refine not_t ?_|refine not_f ?_|refine nil_i ?_|refine ret1 ?_|refine ret2 ?_|refine ret0 ?_|refine ret3 ?_|refine ex2_0 ?_|refine ex2_1 ?_|refine ex3_0 ?_|refine ex3_1 ?_|refine ex3_2 ?_)
        refine loop2 ws.length (fun k v h2 => Own 1 g11 h2 v (caughtN m1 m2 ws k).length ((caughtN m1 m2 ws k).map (.int .i64))) (Own.nil 1 (List.prefix_refl _)) ?_
        rintro k v gL _ hk ow
        have qL := q11.trans ow.pre
        have swL := sw2.mono (Sub.of_pre qL)
        have ssaL := ssa.mono (Sub.of_pre qL)
        have ssbL := ssb.mono (Sub.of_pre qL)
        (with_reducible repeat first|refine mv_i ?_|refine cnd_t ?_|refine cnd_f ?_|refine gd_tt ?_|refine gd_ff ?_|refine gd_tf ?_|refine gd_ft ?_|refine gd_u ?_|refine pick_t ?_|refine pick_f ?_|refine not_t ?_|refine not_f ?_|refine nil_i ?_|refine ret1 ?_|refine ret2 ?_|refine ret0 ?_|refine ret3 ?_|refine ex2_0 ?_|refine ex2_1 ?_|refine ex3_0 ?_|refine ex3_1 ?_|refine ex3_2 ?_)
        refine lenr_i t22 swL ?_
        refine lss_i (fun hlt => ?_) (fun hge => ?_)
        · have hk2 : k < ws.length := by omega
          (with_reducible repeat first|refine mv_i ?_|refine cnd_t ?_|refine cnd_f ?_|refine gd_tt ?_|refine gd_ff ?_|refine gd_tf ?_|refine gd_ft ?_|refine gd_u ?_|refine pick_t ?_|refine pick_f ?_|refine not_t ?_|refine not_f ?_|refine nil_i ?_|refine ret1 ?_|refine ret2 ?_|refine ret0 ?_|refine ret3 ?_|refine ex2_0 ?_|refine ex2_1 ?_|refine ex3_0 ?_|refine ex3_1 ?_|refine ex3_2 ?_)
          refine seq_J (fun xs h6 => ∃ z, xs = [z] ∧ Own 1 g11 h6 z (caughtN m1 m2 ws (k + 1)).length ((caughtN m1 m2 ws (k + 1)).map (.int .i64))) ?_ ?_
          · rintro _ h6 ⟨z, rfl, ow6⟩ _
            (with_reducible repeat first|refine mv_i ?_|refine cnd_t ?_|refine cnd_f ?_|refine gd_tt ?_|refine gd_ff ?_|refine gd_tf ?_|refine gd_ft ?_|refine gd_u ?_|refine pick_t ?_|refine pick_f ?_|refine not_t ?_|refine not_f ?_|refine nil_i ?_|refine ret1 ?_|refine ret2 ?_|refine ret0 ?_|refine ret3 ?_|refine ex2_0 ?_|refine ex2_1 ?_|refine ex3_0 ?_|refine ex3_1 ?_|refine ex3_2 ?_)
            refine inc_i (by omega) ?_
            (with_reducible repeat first|refine mv_i ?_|refine cnd_t ?_|refine cnd_f ?_|refine gd_tt ?_|refine gd_ff ?_|refine gd_tf ?_|refine gd_ft ?_|refine gd_u ?_|refine pick_t ?_|refine pick_f ?_|refine not_t ?_|refine not_f ?_|refine nil_i ?_|refine ret1 ?_|refine ret2 ?_|refine ret0 ?_|refine ret3 ?_|refine ex2_0 ?_|refine ex2_1 ?_|refine ex3_0 ?_|refine ex3_1 ?_|refine ex3_2 ?_)
            exact next2 hk2 ow6
          · intro k' hk'
            refine vk_i (ld36 ((Sub.of_pre qL).2 _ _ hb12)) ?_
            refine ⟨vb_mac ssaL, ?_⟩
            refine vk_i (ld36 ((Sub.of_pre qL).2 _ _ hb2)) ?_
            refine ⟨vb_mac ssbL, ?_⟩
            (with_reducible repeat first|refine mv_i ?_|refine cnd_t ?_|refine cnd_f ?_|refine gd_tt ?_|refine gd_ff ?_|refine gd_tf ?_|refine gd_ft ?_|refine gd_u ?_|refine pick_t ?_|refine pick_f ?_|refine not_t ?_|refine not_f ?_|refine nil_i ?_|refine ret1 ?_|refine ret2 ?_|refine ret0 ?_|refine ret3 ?_|refine ex2_0 ?_|refine ex2_1 ?_|refine ex3_0 ?_|refine ex3_1 ?_|refine ex3_2 ?_)
            refine idxr_i (k := k) t22 swL hk2 ?_
            refine ldr_i (k := k) t22 r23 swL hk2 fun r hr => ?_
            refine ⟨seg_vb hr, ?_⟩
            refine call_r (c22 (macv_of ssaL) (macv_of ssbL) hr (hf.2 _ (gd_mem [] hk2))) ?_
            have hsucc := caughtN_succ m1 m2 ws k
            have hl := caughtN_len m1 m2 ws k
            have hfw := hf.1
            have edb : (!decide (outsOf m1 m1.start (ws.getD k []) = outsOf m2 m2.start (ws.getD k []))) = difB m1 m2 ws k := rfl
            rw [edb]
            by_cases hd : difB m1 m2 ws k = true
            · rw [if_pos hd] at hsucc
              rw [hd]
              (with_reducible repeat first|refine mv_i ?_|refine cnd_t ?_|refine cnd_f ?_|refine gd_tt ?_|refine gd_ff ?_|refine gd_tf ?_|refine gd_ft ?_|refine gd_u ?_|refine pick_t ?_|refine pick_f ?_|refine not_t ?_|refine not_f ?_|refine nil_i ?_|refine ret1 ?_|refine ret2 ?_|refine ret0 ?_|refine ret3 ?_|refine ex2_0 ?_|refine ex2_1 ?_|refine ex3_0 ?_|refine ex3_1 ?_|refine ex3_2 ?_)
              refine ok_i (bs23_1 _ _) ?_
              obtain ⟨o6, _⟩ := ow.ext (pre_new gL [.int .i64 (k : Int)] 1)
              refine app_i t23 o6 (Seg.new (n := 1) 2 (by simp) (by omega)) (by simp [Value.oneCell']) (by omega) ⟨by omega, by omega⟩ fun v' h' o7 _ => ?_
              (with_reducible repeat first|refine mv_i ?_|refine cnd_t ?_|refine cnd_f ?_|refine gd_tt ?_|refine gd_ff ?_|refine gd_tf ?_|refine gd_ft ?_|refine gd_u ?_|refine pick_t ?_|refine pick_f ?_|refine not_t ?_|refine not_f ?_|refine nil_i ?_|refine ret1 ?_|refine ret2 ?_|refine ret0 ?_|refine ret3 ?_|refine ex2_0 ?_|refine ex2_1 ?_|refine ex3_0 ?_|refine ex3_1 ?_|refine ex3_2 ?_)
              refine hk' _ _ ⟨_, rfl, ?_⟩
              rw [hsucc, List.length_append, List.map_append]
              exact o7
            · rw [if_neg hd] at hsucc
              rw [Bool.not_eq_true] at hd
              rw [hd]
              (with_reducible repeat first|refine mv_i ?_|refine cnd_t ?_|refine cnd_f ?_|refine gd_tt ?_|refine gd_ff ?_|refine gd_tf ?_|refine gd_ft ?_|refine gd_u ?_|refine pick_t ?_|refine pick_f ?_|refine not_t ?_|refine not_f ?_|refine nil_i ?_|refine ret1 ?_|refine ret2 ?_|refine ret0 ?_|refine ret3 ?_|refine ex2_0 ?_|refine ex2_1 ?_|refine ex3_0 ?_|refine ex3_1 ?_|refine ex3_2 ?_)
              refine hk' _ _ ⟨_, rfl, ?_⟩
              rw [hsucc]
              exact ow
        · have ek : k = ws.length := by omega
          subst ek
          (with_reducible repeat first|refine mv_i ?_|refine cnd_t ?_|refine cnd_f ?_|refine gd_tt ?_|refine gd_ff ?_|refine gd_tf ?_|refine gd_ft ?_|refine gd_u ?_|refine pick_t ?_|refine pick_f ?_|refine not_t ?_|refine not_f ?_|refine nil_i ?_|refine ret1 ?_|refine ret2 ?_|refine ret0 ?_|refine ret3 ?_|refine ex2_0 ?_|refine ex2_1 ?_|refine ex3_0 ?_|refine ex3_1 ?_|refine ex3_2 ?_)
          refine eql_i (fun _ => ?_) (fun q => absurd rfl q)
          (with_reducible repeat first|refine mv_i ?_|refine cnd_t ?_|refine cnd_f ?_|refine gd_tt ?_|refine gd_ff ?_|refine gd_tf ?_|refine gd_ft ?_|refine gd_u ?_|refine pick_t ?_|refine pick_f ?_|refine not_t ?_|refine not_f ?_|refine nil_i ?_|refine ret1 ?_|refine ret2 ?_|refine ret0 ?_|refine ret3 ?_|refine ex2_0 ?_|refine ex2_1 ?_|refine ex3_0 ?_|refine ex3_1 ?_|refine ex3_2 ?_)
          have sg : IntS gL v (caughtN m1 m2 ws ws.length) := ow.seg
          obtain ⟨ov, lv, cv, rfl⟩ := seg_slice sg
          refine ok_i (bs22_2 _ _ _ _) ?_
          have RN : RowsS (newArr gL [.slice none 0 0, .slice ov lv cv] 1) (.slice (some ⟨gL.length, 0, none⟩) 2 3) [[], caughtN m1 m2 ws ws.length] := by
            refine ⟨[.slice none 0 0, .slice ov lv cv], rfl, Seg.new 3 (by rfl) (by simp), fun j hj => ?_⟩
            have hj' : j = 0 ∨ j = 1 := by simp at hj; omega
            rcases hj' with rfl | rfl
            · exact Seg.nil 1 _
            · exact sg.mono (Sub.of_pre (pre_new _ _ _))
          (with_reducible repeat first|refine mv_i ?_|refine cnd_t ?_|refine cnd_f ?_|refine gd_tt ?_|refine gd_ff ?_|refine gd_tf ?_|refine gd_ft ?_|refine gd_u ?_|refine pick_t ?_|refine pick_f ?_|refine not_t ?_|refine not_f ?_|refine nil_i ?_|refine ret1 ?_|refine ret2 ?_|refine ret0 ?_|refine ret3 ?_|refine ex2_0 ?_|refine ex2_1 ?_|refine ex3_0 ?_|refine ex3_1 ?_|refine ex3_2 ?_)
          refine call_r (c23 (RX.mono (Sub.of_pre (ow.pre.trans (pre_new _ _ _)))) RN) ?_
          rw [decide_eq_true (by simp [caught_self])]
          (with_reducible repeat first|refine mv_i ?_|refine cnd_t ?_|refine cnd_f ?_|refine gd_tt ?_|refine gd_ff ?_|refine gd_tf ?_|refine gd_ft ?_|refine gd_u ?_|refine pick_t ?_|refine pick_f ?_|refine not_t ?_|refine not_f ?_|refine nil_i ?_|refine ret1 ?_|refine ret2 ?_|refine ret0 ?_|refine ret3 ?_|refine ex2_0 ?_|refine ex2_1 ?_|refine ex3_0 ?_|refine ex3_1 ?_|refine ex3_2 ?_)
          rfl
    · rw [if_neg hz] at RX
      have hpr : pRes m1 m2 ws = (0, pCode m1 m2 ws) := by unfold pRes; rw [if_neg hz]
      rw [hpr]
      (with_reducible repeat first|refine mv_i ?_|refine cnd_t ?_|refine cnd_f ?_|refine gd_tt ?_|refine gd_ff ?_|refine gd_tf ?_|refine gd_ft ?_|refine gd_u ?_|refine pick_t ?_|refine pick_f ?_|refine not_t ?_|refine not_f ?_|refine nil_i ?_|refine ret1 ?_|refine ret2 ?_|refine ret0 ?_|refine ret3 ?_|refine ex2_0 ?_|refine ex2_1 ?_|refine ex3_0 ?_|refine ex3_1 ?_|refine ex3_2 ?_)
      refine eql_i (fun _ => ?_) (fun q => absurd rfl q)
      (with_reducible repeat first|refine mv_i ?_|refine cnd_t ?_|refine cnd_f ?_|refine gd_tt ?_|refine gd_ff ?_|refine gd_tf ?_|refine gd_ft ?_|refine gd_u ?_|refine pick_t ?_|refine pick_f ?_|refine not_t ?_|refine not_f ?_|refine nil_i ?_|refine ret1 ?_|refine ret2 ?_|refine ret0 ?_|refine ret3 ?_|refine ex2_0 ?_|refine ex2_1 ?_|refine ex3_0 ?_|refine ex3_1 ?_|refine ex3_2 ?_)
      refine eql_i (fun _ => ?_) (fun q => absurd rfl q)
      (with_reducible repeat first|refine mv_i ?_|refine cnd_t ?_|refine cnd_f ?_|refine gd_tt ?_|refine gd_ff ?_|refine gd_tf ?_|refine gd_ft ?_|refine gd_u ?_|refine pick_t ?_|refine pick_f ?_|refine not_t ?_|refine not_f ?_|refine nil_i ?_|refine ret1 ?_|refine ret2 ?_|refine ret0 ?_|refine ret3 ?_|refine ex2_0 ?_|refine ex2_1 ?_|refine ex3_0 ?_|refine ex3_1 ?_|refine ex3_2 ?_)
      refine eql_i (fun _ => ?_) (fun q => absurd rfl q)
      (with_reducible repeat first|refine mv_i ?_|refine cnd_t ?_|refine cnd_f ?_|refine gd_tt ?_|refine gd_ff ?_|refine gd_tf ?_|refine gd_ft ?_|refine gd_u ?_|refine pick_t ?_|refine pick_f ?_|refine not_t ?_|refine not_f ?_|refine nil_i ?_|refine ret1 ?_|refine ret2 ?_|refine ret0 ?_|refine ret3 ?_|refine ex2_0 ?_|refine ex2_1 ?_|refine ex3_0 ?_|refine ex3_1 ?_|refine ex3_2 ?_)
      refine lenr_i t22 RX ?_
      (with_reducible repeat first|refine mv_i ?_|refine cnd_t ?_|refine cnd_f ?_|refine gd_tt ?_|refine gd_ff ?_|refine gd_tf ?_|refine gd_ft ?_|refine gd_u ?_|refine pick_t ?_|refine pick_f ?_|refine not_t ?_|refine not_f ?_|refine nil_i ?_|refine ret1 ?_|refine ret2 ?_|refine ret0 ?_|refine ret3 ?_|refine ex2_0 ?_|refine ex2_1 ?_|refine ex3_0 ?_|refine ex3_1 ?_|refine ex3_2 ?_)
      refine eql_i (fun _ => ?_) (fun q => absurd rfl q)
      (with_reducible repeat first|refine mv_i ?_|refine cnd_t ?_|refine cnd_f ?_|refine gd_tt ?_|refine gd_ff ?_|refine gd_tf ?_|refine gd_ft ?_|refine gd_u ?_|refine pick_t ?_|refine pick_f ?_|refine not_t ?_|refine not_f ?_|refine nil_i ?_|refine ret1 ?_|refine ret2 ?_|refine ret0 ?_|refine ret3 ?_|refine ex2_0 ?_|refine ex2_1 ?_|refine ex3_0 ?_|refine ex3_1 ?_|refine ex3_2 ?_)
      rfl
end Go.Proofs.Ytkgdclcmfnhbmaa
