import Derived.Test.YtdjoednhfoligaaCvN
import Derived.Test.YtdjoednhfoligaaCvA
set_option linter.unusedSimpArgs false
set_option linter.unusedVariables false
set_option maxRecDepth 100000
namespace Go.Proofs.Ytdjoednhfoligaa
open Go.AM
variable {h h' h0 h1 : Heap} {K : Value → Heap → Prop} {m : Mac}

theorem lennil {t e by_ : Nat} (ht : sliceT Try.prog t e 1 by_ = true) (hk : K (.int .i64 0) h) : vK (aLen Try.prog t (.slice none 0 0)) h K := leni_i (h1 := h) (xs := []) ht (Seg.nil _ _) hk
theorem c4 {a : Value} {step : Int} (s : MacV h a m) (hl : m.steps.length ≤ 2 ^ 40) : Runs Try.prog 4 [a, .int .i64 step] h (.bool true) h := by
  refine DetP.forget rfl ?_
  refine w4 ?_
  unfold n4
  obtain ⟨o, l, c, rfl, ss0⟩ := s
  rw [box36]
  refine ok_i rfl ?_
  have p1 := pre_new h [.int .i64 m.states, .int .i64 m.inputs, .int .i64 m.outputs, .int .i64 m.start, .slice o l c] 5
  have hb1 := newArr_get h [.int .i64 m.states, .int .i64 m.inputs, .int .i64 m.outputs, .int .i64 m.start, .slice o l c] 5
  have ss := ss0.mono (Sub.of_pre p1)
  generalize hg1 : newArr h [.int .i64 m.states, .int .i64 m.inputs, .int .i64 m.outputs, .int .i64 m.start, .slice o l c] 5 = g1 at p1 hb1 ss ⊢
  have mv1 : MacV g1 (.agg #[.int .i64 m.states, .int .i64 m.inputs, .int .i64 m.outputs, .int .i64 m.start, .slice o l c]) m := macv_of ss
  with_reducible (refine mv_i ?_)
  refine call_r c14 ?_
  with_reducible (refine not_t ?_; refine cnd_f ?_)
  refine vk_i (ld36 hb1) ?_
  refine call_i (c16 mv1 hl) ?_
  rintro x g2 ⟨p2, mx⟩
  have hb2 := (Sub.of_pre p2).2 _ _ hb1
  have ss2 := ss.mono (Sub.of_pre p2)
  with_reducible (refine mv_i ?_)
  refine call_i (c21 mx) ?_
  rintro y g3 ⟨p3, hy⟩
  have hb3 := (Sub.of_pre p3).2 _ _ hb2
  have ss3 := ss2.mono (Sub.of_pre p3)
  by_cases hz : stepE m step = 0
  · have hed : (mErr m).2 = 0 ∧ inR step 0 (pm m.steps.length) = true := by
      unfold stepE at hz
      rw [or2] at hz
      split at hz
      · rename_i h1
        split at hz
        · rename_i h2; exact ⟨h1, h2⟩
        · cases hz
      · exact absurd hz (by assumption)
    obtain ⟨he1, he2⟩ := hed
    have r := right_of he1
    obtain ⟨b1, b2, b3, b4, b5, b6⟩ := r.bounds
    have hfew := r.few
    have hsl : m.steps.length ≤ 320 := by
      have : m.states * m.inputs ≤ 40 * 8 := Int.mul_le_mul b2 b4 (by omega) (by omega)
      omega
    obtain ⟨hs0, hs1⟩ := inR_idx (by omega) (by omega) he2
    rw [if_neg (by simp [hz])] at hy
    obtain ⟨z, rfl, qz⟩ := hy
    have sz := qz.self
    with_reducible (refine mv_i ?_; refine ex2_0 ?_; refine ex2_1 ?_; refine mv_i ?_; refine mv_i ?_)
    refine vk_i (ld36 hb3) ?_
    refine call_r (c18 (macv_of ss3)) ?_
    rw [he1]
    with_reducible (refine mv_i ?_)
    refine seq_J (fun xs h4 => xs = [.int .i64 0] ∧ h4 = g3) ?_ ?_
    · rintro _ _ ⟨rfl, rfl⟩ _
      show mvK _ _ _
      with_reducible (refine mv_i ?_)
      refine neq_i (fun _ => ?_) (fun hc => absurd rfl hc)
      with_reducible (refine cnd_f ?_; refine mv_i ?_)
      refine eql_i (fun _ => ?_) (fun hc => absurd rfl hc)
      with_reducible (refine mv_i ?_; refine gd_tt ?_; refine mv_i ?_; refine gd_tt ?_)
      refine vk_i (ld36 hb3) ?_
      with_reducible (refine gd_tt ?_; refine mv_i ?_; refine gd_tt ?_)
      refine call_i (c24 (macv_of ss3) r hs0 hs1) ?_
      rintro w g4 ⟨p4, q4⟩
      with_reducible (refine gd_tt ?_)
      refine call_r (c23 (sz.mono (Sub.of_pre p4)) q4.self) ?_
      rw [decide_eq_true rfl]
      with_reducible (refine pick_t ?_; refine mv_i ?_; refine ret1 ?_)
      exact ⟨rfl, p1.trans (p2.trans (p3.trans p4))⟩
    intro k' hk'
    with_reducible (refine mv_i ?_)
    refine eql_i (fun _ => ?_) (fun hc => absurd rfl hc)
    with_reducible (refine mv_i ?_; refine gd_tt ?_; refine mv_i ?_; refine gd_tt ?_; refine vk_i (fa36_4 _) ?_; refine gd_tt ?_; refine ld5_4 r34 (by assumption) ?_; refine gd_tt ?_; refine lenst t34 (by assumption) ?_; refine gd_tt ?_)
    refine subw_i ?_
    with_reducible (refine gd_tt ?_)
    refine call_r (c22 _ _ _) ?_
    rw [he2]
    with_reducible (refine gd_tt ?_; refine not_t ?_; refine pick_t ?_; refine cnd_f ?_)
    exact hk' _ _ ⟨rfl, rfl⟩
  · rw [if_pos hz] at hy
    subst hy
    have hsE : stepE m step = if (mErr m).2 = 0 then (if inR step 0 (pm m.steps.length) then 0 else 3) else (mErr m).2 := by unfold stepE; rw [or2]
    with_reducible (refine mv_i ?_; refine ex2_0 ?_; refine ex2_1 ?_; refine mv_i ?_; refine mv_i ?_)
    refine vk_i (ld36 hb3) ?_
    refine call_r (c18 (macv_of ss3)) ?_
    with_reducible (refine mv_i ?_)
    refine seq_J (fun xs h4 => xs = [.int .i64 (stepE m step)] ∧ h4 = g3) ?_ ?_
    · rintro _ _ ⟨rfl, rfl⟩ _
      show mvK _ _ _
      with_reducible (refine mv_i ?_)
      refine neq_i (fun hc => absurd hc hz) (fun _ => ?_)
      with_reducible (refine cnd_t ?_; refine mv_i ?_; refine mv_i ?_)
      refine eql_i (fun _ => ?_) (fun hc => absurd rfl hc)
      with_reducible (refine mv_i ?_; refine gd_tt ?_; refine mv_i ?_; refine gd_tt ?_)
      refine lennil t23 ?_
      with_reducible (refine gd_tt ?_)
      refine eql_i (fun _ => ?_) (fun hc => absurd rfl hc)
      with_reducible (refine pick_t ?_; refine mv_i ?_; refine ret1 ?_)
      exact ⟨rfl, p1.trans (p2.trans p3)⟩
    intro k' hk'
    with_reducible (refine mv_i ?_)
    refine eql_i (fun he1 => ?_) (fun he1 => ?_)
    · rw [if_pos he1] at hsE
      with_reducible (refine mv_i ?_; refine gd_tt ?_; refine mv_i ?_; refine gd_tt ?_; refine vk_i (fa36_4 _) ?_; refine gd_tt ?_; refine ld5_4 r34 (by assumption) ?_; refine gd_tt ?_; refine lenst t34 (by assumption) ?_; refine gd_tt ?_)
      refine subw_i ?_
      with_reducible (refine gd_tt ?_)
      refine call_r (c22 _ _ _) ?_
      cases he2 : inR step 0 (pm m.steps.length) with
      | true => rw [he2, if_pos rfl] at hsE; exact absurd hsE hz
      | false =>
        rw [he2, if_neg (by simp)] at hsE
        with_reducible (refine gd_tt ?_; refine not_f ?_; refine pick_t ?_; refine cnd_t ?_; refine mv_i ?_)
        refine hk' _ _ ⟨by rw [hsE], rfl⟩
    · rw [if_neg he1] at hsE
      with_reducible (refine mv_i ?_; refine gd_ft ?_; refine gd_ft ?_; refine gd_ft ?_; refine gd_ft ?_; refine gd_ft ?_; refine gd_ft ?_; refine gd_ft ?_; refine pick_f ?_; refine cnd_f ?_)
      refine hk' _ _ ⟨by rw [hsE], rfl⟩
theorem marked_steps : markedL ((List.range m.steps.length).map fun k => (rchB m m.start).getD (m.steps.getD k dst).fr.toNat false) = leav m (rchB m m.start) := by
  unfold markedL leav
  rw [List.length_map, List.length_range]
  refine idxs_congr fun k hk => ?_
  simp [List.getD, hk]
theorem c5 {a b : Value} {ws : List (List Int)} (s : MacV h a m) (sw : RowsS h b ws) (hl : m.steps.length ≤ 2 ^ 40) (hf : Few ws) : Runs Try.prog 5 [a, b] h (.bool true) h := by
  have ltw := sw.lt
  refine DetP.forget rfl ?_
  refine w5 ?_
  unfold n5
  obtain ⟨o, l, c, rfl, ss0⟩ := s
  rw [box36]
  refine ok_i rfl ?_
  have p1 := pre_new h [.int .i64 m.states, .int .i64 m.inputs, .int .i64 m.outputs, .int .i64 m.start, .slice o l c] 5
  have hb1 := newArr_get h [.int .i64 m.states, .int .i64 m.inputs, .int .i64 m.outputs, .int .i64 m.start, .slice o l c] 5
  have ss := ss0.mono (Sub.of_pre p1)
  generalize hg1 : newArr h [.int .i64 m.states, .int .i64 m.inputs, .int .i64 m.outputs, .int .i64 m.start, .slice o l c] 5 = g1 at p1 hb1 ss ⊢
  have mv1 : MacV g1 (.agg #[.int .i64 m.states, .int .i64 m.inputs, .int .i64 m.outputs, .int .i64 m.start, .slice o l c]) m := macv_of ss
  have sw1 := sw.mono (Sub.of_pre p1)
  with_reducible (refine mv_i ?_)
  refine call_r c14 ?_
  with_reducible (refine not_t ?_; refine cnd_f ?_; refine mv_i ?_)
  refine loop1 ws.length (fun k h2 => g1 = h2) rfl ?_
  rintro k _ _ hk rfl
  with_reducible (refine mv_i ?_; refine mv_i ?_; refine lenr_i t22 (by assumption) ?_)
  refine lss_i (fun hlt => ?_) (fun hge => ?_)
  · have hkl : k < ws.length := by omega
    have nx : upI (fun k h2 => g1 = h2) ws.length [.int .i64 ((k + 1 : Nat) : Int)] g1 ∧ upμ ws.length [.int .i64 ((k + 1 : Nat) : Int)] g1 < upμ ws.length [.int .i64 (k : Int)] g1 := next1 hkl rfl
    have fin : Value.bool true = Value.bool true ∧ h <+: g1 := ⟨rfl, p1⟩
    with_reducible (refine cnd_t ?_; refine mv_i ?_; refine lenr_i t22 (by assumption) ?_)
    refine gtr_i (fun h1 => ?_) (fun h1 => ?_)
    · with_reducible (refine mv_i ?_; refine gd_tt ?_; refine mv_i ?_; refine gd_tt ?_; refine lenr_i t22 (by assumption) ?_; refine gd_tt ?_)
      refine leq_i (fun h2 => ?_) (fun h2 => ?_)
      · with_reducible (refine pick_t ?_; refine mv_i ?_; refine gd_tf ?_; refine gd_tf ?_; refine gd_tf ?_; refine gd_tf ?_; refine gd_tf ?_; refine gd_tf ?_; refine gd_tf ?_; refine gd_u ?_; refine gd_u ?_; refine gd_u ?_; refine gd_u ?_; refine gd_u ?_; refine gd_u ?_; refine gd_tf ?_; refine pick_t ?_; refine cnd_t ?_; refine mv_i ?_; refine ret1 ?_)
        exact fin
      · with_reducible (refine pick_t ?_; refine mv_i ?_; refine gd_ff ?_; refine mv_i ?_; refine gd_ff ?_; refine mv_i ?_; refine gd_ff ?_; refine idxr_i t22 (by assumption) (by omega) ?_; refine gd_ff ?_)
        refine ldr_i t22 r23 sw1 (by omega) fun row srow => ?_
        with_reducible (refine gd_ff ?_; refine leni_i t23 (by assumption) ?_; refine gd_ff ?_)
        refine gtr_i (fun h3 => ?_) (fun h3 => ?_)
        · with_reducible (refine gd_ff ?_; refine mv_i ?_; refine gd_tt ?_; refine mv_i ?_; refine gd_tt ?_; refine mv_i ?_; refine gd_tt ?_; refine idxr_i t22 (by assumption) (by omega) ?_; refine gd_tt ?_)
          refine ldr_i t22 r23 sw1 (by omega) fun row srow => ?_
          with_reducible (refine gd_tt ?_; refine leni_i t23 (by assumption) ?_; refine gd_tt ?_)
          refine leq_i (fun h4 => ?_) (fun h4 => ?_) <;> (with_reducible repeat first|refine mv_i ?_|refine cnd_t ?_|refine cnd_f ?_|refine gd_tt ?_|refine gd_ff ?_|refine gd_tf ?_|refine gd_ft ?_|refine gd_u ?_|refine pick_t ?_|refine pick_f ?_|refine not_t ?_|refine not_f ?_|refine nil_i ?_|refine ret1 ?_|refine ret2 ?_|refine ret0 ?_|refine ret3 ?_|refine ex2_0 ?_|refine ex2_1 ?_|refine ex3_0 ?_|refine ex3_1 ?_|refine ex3_2 ?_|refine vk_i (fa36_0 _) ?_|refine vk_i (fa36_1 _) ?_|refine vk_i (fa36_2 _) ?_|refine vk_i (fa36_3 _) ?_|refine vk_i (fa36_4 _) ?_|refine vk_i (fa63_0 _) ?_|refine vk_i (fa63_1 _) ?_|refine vk_i (fa63_2 _) ?_|refine vk_i (fa63_3 _) ?_|refine ld4_0 r3 (by assumption) ?_|refine ld4_1 r3 (by assumption) ?_|refine ld4_2 r3 (by assumption) ?_|refine ld4_3 r3 (by assumption) ?_|refine ld5_0 r3 (by assumption) ?_|refine ld5_1 r3 (by assumption) ?_|refine ld5_2 r3 (by assumption) ?_|refine ld5_3 r3 (by assumption) ?_|refine ld5_4 r34 (by assumption) ?_|refine fae_i st63 (by assumption) (by omega) (by omega) ?_|refine ⟨vbi _ _, ?_⟩|refine leni_i t23 (by assumption) ?_|refine lenr_i t22 (by assumption) ?_|refine lenb_i t48 (by assumption) ?_|refine lenst t34 (by assumption) ?_|refine idxi_i t23 (by assumption) (by omega) ?_|refine idxr_i t22 (by assumption) (by omega) ?_|refine idxb_i t48 (by assumption) (by omega) ?_|refine idxst t34 (by assumption) (by omega) ?_|refine ldi_i t23 r3 (by assumption) (by omega) ?_|refine ldb_i t48 r4 (by assumption) (by omega) ?_|refine idxzi t23 (by assumption) (by omega) (by omega) ?_|refine idxzr t22 (by assumption) (by omega) (by omega) ?_|refine idxzb t48 (by assumption) (by omega) (by omega) ?_|refine idxzst t34 (by assumption) (by omega) (by omega) ?_|refine inc_i (by omega) ?_|refine ldfr dst st63 (by assumption) (by omega) ?_|refine ldinp dst st63 (by assumption) (by omega) ?_|refine ldout dst st63 (by assumption) (by omega) ?_|refine ldto dst st63 (by assumption) (by omega) ?_|refine ⟨vbb _ _, ?_⟩|refine ⟨trivial, ?_⟩|refine ⟨⟨[], (List.append_nil _).symm⟩, ?_⟩|refine vk_i (fa92_0 _) ?_|refine vk_i (fa92_1 _) ?_|refine vk_i (fa92_2 _) ?_|refine ldgr r3 (by assumption) rfl ?_|refine ldgr r45 (by assumption) rfl ?_|refine ldgr r34 (by assumption) rfl ?_|refine ⟨VB_of_seg (by assumption), ?_⟩|refine ⟨VB_of_ints (by assumption), ?_⟩|refine ⟨VB_of_rows (by assumption), ?_⟩|refine ⟨VB_of_steps (by assumption), ?_⟩) <;> first | exact fin | exact nx
        · with_reducible (refine gd_ff ?_; refine mv_i ?_; refine gd_ft ?_; refine gd_ft ?_; refine gd_ft ?_; refine gd_ft ?_; refine gd_ft ?_; refine gd_ft ?_; refine gd_ff ?_; refine pick_f ?_; refine pick_f ?_; refine cnd_f ?_; refine mv_i ?_; refine inc_i (by omega) ?_; refine mv_i ?_)
          exact nx
    · with_reducible (refine mv_i ?_; refine gd_ft ?_; refine gd_ft ?_; refine gd_ft ?_; refine pick_f ?_; refine mv_i ?_; refine gd_ff ?_; refine mv_i ?_; refine gd_ff ?_; refine mv_i ?_; refine gd_ff ?_; refine idxr_i t22 (by assumption) (by omega) ?_; refine gd_ff ?_)
      refine ldr_i t22 r23 sw1 (by omega) fun row srow => ?_
      with_reducible (refine gd_ff ?_; refine leni_i t23 (by assumption) ?_; refine gd_ff ?_)
      refine gtr_i (fun h3 => ?_) (fun h3 => ?_)
      · with_reducible (refine gd_ff ?_; refine mv_i ?_; refine gd_tt ?_; refine mv_i ?_; refine gd_tt ?_; refine mv_i ?_; refine gd_tt ?_; refine idxr_i t22 (by assumption) (by omega) ?_; refine gd_tt ?_)
        refine ldr_i t22 r23 sw1 (by omega) fun row srow => ?_
        with_reducible (refine gd_tt ?_; refine leni_i t23 (by assumption) ?_; refine gd_tt ?_)
        refine leq_i (fun h4 => ?_) (fun h4 => ?_) <;> (with_reducible repeat first|refine mv_i ?_|refine cnd_t ?_|refine cnd_f ?_|refine gd_tt ?_|refine gd_ff ?_|refine gd_tf ?_|refine gd_ft ?_|refine gd_u ?_|refine pick_t ?_|refine pick_f ?_|refine not_t ?_|refine not_f ?_|refine nil_i ?_|refine ret1 ?_|refine ret2 ?_|refine ret0 ?_|refine ret3 ?_|refine ex2_0 ?_|refine ex2_1 ?_|refine ex3_0 ?_|refine ex3_1 ?_|refine ex3_2 ?_|refine vk_i (fa36_0 _) ?_|refine vk_i (fa36_1 _) ?_|refine vk_i (fa36_2 _) ?_|refine vk_i (fa36_3 _) ?_|refine vk_i (fa36_4 _) ?_|refine vk_i (fa63_0 _) ?_|refine vk_i (fa63_1 _) ?_|refine vk_i (fa63_2 _) ?_|refine vk_i (fa63_3 _) ?_|refine ld4_0 r3 (by assumption) ?_|refine ld4_1 r3 (by assumption) ?_|refine ld4_2 r3 (by assumption) ?_|refine ld4_3 r3 (by assumption) ?_|refine ld5_0 r3 (by assumption) ?_|refine ld5_1 r3 (by assumption) ?_|refine ld5_2 r3 (by assumption) ?_|refine ld5_3 r3 (by assumption) ?_|refine ld5_4 r34 (by assumption) ?_|refine fae_i st63 (by assumption) (by omega) (by omega) ?_|refine ⟨vbi _ _, ?_⟩|refine leni_i t23 (by assumption) ?_|refine lenr_i t22 (by assumption) ?_|refine lenb_i t48 (by assumption) ?_|refine lenst t34 (by assumption) ?_|refine idxi_i t23 (by assumption) (by omega) ?_|refine idxr_i t22 (by assumption) (by omega) ?_|refine idxb_i t48 (by assumption) (by omega) ?_|refine idxst t34 (by assumption) (by omega) ?_|refine ldi_i t23 r3 (by assumption) (by omega) ?_|refine ldb_i t48 r4 (by assumption) (by omega) ?_|refine idxzi t23 (by assumption) (by omega) (by omega) ?_|refine idxzr t22 (by assumption) (by omega) (by omega) ?_|refine idxzb t48 (by assumption) (by omega) (by omega) ?_|refine idxzst t34 (by assumption) (by omega) (by omega) ?_|refine inc_i (by omega) ?_|refine ldfr dst st63 (by assumption) (by omega) ?_|refine ldinp dst st63 (by assumption) (by omega) ?_|refine ldout dst st63 (by assumption) (by omega) ?_|refine ldto dst st63 (by assumption) (by omega) ?_|refine ⟨vbb _ _, ?_⟩|refine ⟨trivial, ?_⟩|refine ⟨⟨[], (List.append_nil _).symm⟩, ?_⟩|refine vk_i (fa92_0 _) ?_|refine vk_i (fa92_1 _) ?_|refine vk_i (fa92_2 _) ?_|refine ldgr r3 (by assumption) rfl ?_|refine ldgr r45 (by assumption) rfl ?_|refine ldgr r34 (by assumption) rfl ?_|refine ⟨VB_of_seg (by assumption), ?_⟩|refine ⟨VB_of_ints (by assumption), ?_⟩|refine ⟨VB_of_rows (by assumption), ?_⟩|refine ⟨VB_of_steps (by assumption), ?_⟩) <;> first | exact fin | exact nx
      · with_reducible (refine gd_ff ?_; refine mv_i ?_; refine gd_ft ?_; refine gd_ft ?_; refine gd_ft ?_; refine gd_ft ?_; refine gd_ft ?_; refine gd_ft ?_; refine gd_ff ?_; refine pick_f ?_; refine pick_f ?_; refine cnd_f ?_; refine mv_i ?_; refine inc_i (by omega) ?_; refine mv_i ?_)
        exact nx
  · with_reducible (refine cnd_f ?_)
    refine vk_i (ld36 hb1) ?_
    refine call_r (c18 mv1) ?_
    with_reducible (refine mv_i ?_)
    refine vk_i (ld36 hb1) ?_
    refine call_i (c16 mv1 hl) ?_
    rintro x g2 ⟨p2, mx⟩
    refine call_i (c25 mx) ?_
    rintro y g3 ⟨p3, hy⟩
    have hb3 := (Sub.of_pre (p2.trans p3)).2 _ _ hb1
    have ss3 := ss.mono (Sub.of_pre (p2.trans p3))
    have sw3 := sw1.mono (Sub.of_pre (p2.trans p3))
    have m3 := macv_of (m := m) ss3
    by_cases hz : (mErr m).2 = 0
    · have r := right_of hz
      obtain ⟨b1, b2, b3, b4, b5, b6⟩ := r.bounds
      have hfew := r.few
      have hsl : m.steps.length ≤ 320 := by
        have : m.states * m.inputs ≤ 40 * 8 := Int.mul_le_mul b2 b4 (by omega) (by omega)
        omega
      rw [if_neg (by simp [hz])] at hy
      obtain ⟨z1, z2, rfl, qz⟩ := hy
      rw [hz]
      with_reducible (refine mv_i ?_; refine ex3_0 ?_; refine ex3_1 ?_; refine ex3_2 ?_; refine mv_i ?_; refine mv_i ?_; refine mv_i ?_; refine mv_i ?_; refine mv_i ?_)
      refine neq_i (fun _ => ?_) (fun hc => absurd rfl hc)
      with_reducible (refine mv_i ?_; refine gd_ff ?_; refine mv_i ?_; refine gd_ff ?_)
      refine neq_i (fun _ => ?_) (fun hc => absurd rfl hc)
      with_reducible (refine gd_ff ?_; refine mv_i ?_; refine gd_ft ?_; refine gd_ft ?_; refine gd_ft ?_; refine gd_ft ?_; refine gd_ft ?_; refine gd_ft ?_; refine gd_ff ?_; refine pick_f ?_; refine pick_f ?_; refine cnd_f ?_)
      refine seq_J (fun xs h4 => xs = [.int .i64 (wsE ws m.inputs)] ∧ g3 <+: h4) ?_ ?_
      · rintro _ g4 ⟨rfl, p4⟩ _
        have hb4 := (Sub.of_pre p4).2 _ _ hb3
        have ss4 := ss3.mono (Sub.of_pre p4)
        show vK _ _ _
        refine vk_i (ld36 hb4) ?_
        refine call_i (c16 (macv_of ss4) hl) ?_
        rintro x2 g5 ⟨p5, mx2⟩
        with_reducible (refine mv_i ?_)
        refine call_i (c30 (sw3.mono (Sub.of_pre (p4.trans p5))) hf) ?_
        rintro x3 g6 ⟨p6, sx3, _⟩
        refine call_i (c29 (mx2.mono (Sub.of_pre p6)) sx3) ?_
        rintro x4 g7 ⟨p7, h7⟩
        have hb7 := (Sub.of_pre (p5.trans (p6.trans p7))).2 _ _ hb4
        have ss7 := ss4.mono (Sub.of_pre (p5.trans (p6.trans p7)))
        have sw7 := sw3.mono (Sub.of_pre (p4.trans (p5.trans (p6.trans p7))))
        have pall := p1.trans (p2.trans (p3.trans (p4.trans (p5.trans (p6.trans p7)))))
        rw [hz, or2, if_pos rfl] at h7
        by_cases hw : wsE ws m.inputs = 0
        · rw [if_neg (by simp [hw])] at h7
          obtain ⟨z, rfl, q7⟩ := h7
          with_reducible (refine mv_i ?_; refine ex2_0 ?_; refine ex2_1 ?_; refine mv_i ?_; refine mv_i ?_; refine mv_i ?_)
          refine neq_i (fun _ => ?_) (fun hc => absurd hw hc)
          with_reducible (refine cnd_f ?_; refine mv_i ?_)
          refine eql_i (fun _ => ?_) (fun hc => absurd rfl hc)
          with_reducible (refine mv_i ?_; refine gd_tt ?_; refine mv_i ?_; refine gd_tt ?_)
          refine vk_i (ld36 hb7) ?_
          with_reducible (refine gd_tt ?_; refine mv_i ?_; refine gd_tt ?_)
          refine call_i (c31 (macv_of ss7) r sw7 hw) ?_
          rintro w g8 ⟨p8, q8⟩
          with_reducible (refine gd_tt ?_)
          refine call_r (c23 (q7.self.mono (Sub.of_pre p8)) q8.self) ?_
          rw [decide_eq_true rfl]
          with_reducible (refine pick_t ?_; refine mv_i ?_; refine ret1 ?_)
          exact ⟨rfl, pall.trans p8⟩
        · rw [if_pos hw] at h7
          subst h7
          with_reducible (refine mv_i ?_; refine ex2_0 ?_; refine ex2_1 ?_; refine mv_i ?_; refine mv_i ?_; refine mv_i ?_)
          refine neq_i (fun hc => absurd hc hw) (fun _ => ?_)
          with_reducible (refine cnd_t ?_; refine mv_i ?_; refine mv_i ?_)
          refine eql_i (fun _ => ?_) (fun hc => absurd rfl hc)
          with_reducible (refine mv_i ?_; refine gd_tt ?_; refine mv_i ?_; refine gd_tt ?_)
          refine lennil t23 ?_
          with_reducible (refine gd_tt ?_)
          refine eql_i (fun _ => ?_) (fun hc => absurd rfl hc)
          with_reducible (refine pick_t ?_; refine mv_i ?_; refine ret1 ?_)
          exact ⟨rfl, pall⟩
      intro k' hk'
      with_reducible (refine mv_i ?_)
      refine eql_i (fun _ => ?_) (fun hc => absurd rfl hc)
      with_reducible (refine cnd_t ?_)
      refine vk_i (ld36 hb3) ?_
      refine call_i (c26 m3 r) ?_
      rintro _ g4 ⟨p4, w1, w2, rfl, q4⟩
      have q4s := q4.self
      with_reducible (refine mv_i ?_; refine ex2_0 ?_; refine ex2_1 ?_; refine mv_i ?_; refine mv_i ?_; refine mv_i ?_; refine mv_i ?_)
      refine call_i (c27 q4s.1 (by rw [rchB_len]; omega)) ?_
      rintro w3 g5 ⟨p5, q5⟩
      have qzs := qz.self
      refine call_r (c23 (qzs.1.mono (Sub.of_pre (p4.trans p5))) q5.self) ?_
      rw [decide_eq_true rfl]
      with_reducible (refine not_t ?_; refine mv_i ?_; refine gd_ff ?_; refine mv_i ?_; refine gd_ff ?_; refine mv_i ?_; refine gd_ff ?_)
      refine call_i (c27 (q4s.2.mono (Sub.of_pre p5)) (by simp; omega)) ?_
      rintro w4 g6 ⟨p6, q6⟩
      rw [marked_steps] at q6
      with_reducible (refine gd_ff ?_)
      refine call_r (c23 (qzs.2.mono (Sub.of_pre (p4.trans (p5.trans p6)))) q6.self) ?_
      rw [decide_eq_true rfl]
      with_reducible (refine gd_ff ?_; refine not_t ?_; refine pick_f ?_; refine cnd_f ?_)
      have pz := p4.trans (p5.trans p6)
      have hb6 := (Sub.of_pre pz).2 _ _ hb3
      have ss6 := ss3.mono (Sub.of_pre pz)
      refine vk_i (ld36 hb6) ?_
      with_reducible (refine mv_i ?_)
      refine call_r (c28 (macv_of ss6) (sw3.mono (Sub.of_pre pz))) ?_
      with_reducible (refine mv_i ?_)
      exact hk' _ _ ⟨rfl, pz⟩
    · rw [if_pos hz] at hy
      subst hy
      with_reducible (refine mv_i ?_; refine ex3_0 ?_; refine ex3_1 ?_; refine ex3_2 ?_; refine mv_i ?_; refine mv_i ?_; refine mv_i ?_; refine mv_i ?_; refine mv_i ?_)
      refine neq_i (fun _ => ?_) (fun hc => absurd rfl hc)
      with_reducible (refine mv_i ?_; refine gd_ff ?_; refine mv_i ?_; refine gd_ff ?_)
      refine neq_i (fun hc => absurd hc hz) (fun _ => ?_)
      with_reducible (refine gd_ff ?_; refine mv_i ?_; refine gd_tt ?_; refine mv_i ?_; refine gd_tt ?_)
      refine lennil t23 ?_
      with_reducible (refine gd_tt ?_; refine mv_i ?_; refine gd_tt ?_)
      refine lennil t23 ?_
      with_reducible (refine gd_tt ?_)
      refine add_i ⟨by omega, by omega⟩ ?_
      with_reducible (refine gd_tt ?_)
      refine gtr_i (fun hc => by omega) (fun _ => ?_)
      with_reducible (refine gd_ff ?_; refine pick_t ?_; refine pick_f ?_; refine cnd_f ?_)
      refine seq_J (fun xs h4 => xs = [.int .i64 (mErr m).2] ∧ h4 = g3) ?_ ?_
      · rintro _ _ ⟨rfl, rfl⟩ _
        show vK _ _ _
        refine vk_i (ld36 hb3) ?_
        refine call_i (c16 m3 hl) ?_
        rintro x2 g5 ⟨p5, mx2⟩
        with_reducible (refine mv_i ?_)
        refine call_i (c30 (sw3.mono (Sub.of_pre p5)) hf) ?_
        rintro x3 g6 ⟨p6, sx3, _⟩
        refine call_i (c29 (mx2.mono (Sub.of_pre p6)) sx3) ?_
        rintro x4 g7 ⟨p7, h7⟩
        have pall := p1.trans (p2.trans (p3.trans (p5.trans (p6.trans p7))))
        rw [or2, if_neg hz, if_pos hz] at h7
        subst h7
        with_reducible (refine mv_i ?_; refine ex2_0 ?_; refine ex2_1 ?_; refine mv_i ?_; refine mv_i ?_; refine mv_i ?_)
        refine neq_i (fun hc => absurd hc hz) (fun _ => ?_)
        with_reducible (refine cnd_t ?_; refine mv_i ?_; refine mv_i ?_)
        refine eql_i (fun _ => ?_) (fun hc => absurd rfl hc)
        with_reducible (refine mv_i ?_; refine gd_tt ?_; refine mv_i ?_; refine gd_tt ?_)
        refine lennil t23 ?_
        with_reducible (refine gd_tt ?_)
        refine eql_i (fun _ => ?_) (fun hc => absurd rfl hc)
        with_reducible (refine pick_t ?_; refine mv_i ?_; refine ret1 ?_)
        exact ⟨rfl, pall⟩
      intro k' hk'
      with_reducible (refine mv_i ?_)
      refine eql_i (fun hc => absurd hc hz) (fun _ => ?_)
      with_reducible (refine cnd_f ?_)
      exact hk' _ _ ⟨rfl, rfl⟩
end Go.Proofs.Ytdjoednhfoligaa
