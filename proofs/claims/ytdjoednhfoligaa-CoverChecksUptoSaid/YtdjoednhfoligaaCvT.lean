import Derived.Test.YtdjoednhfoligaaCvS
set_option linter.unusedSimpArgs false
set_option linter.unusedVariables false
set_option maxRecDepth 100000
namespace Go.Proofs.Ytdjoednhfoligaa
open Go.AM
variable {h h' h0 h1 : Heap} {K : Value → Heap → Prop} {m : Mac}

theorem orE_law (m : Mac) (pr w : List Int) : (mErr m).2 ≠ 0 → orOf [(mErr m).2, prErr m pr, wErr w m.inputs 1200] = (mErr m).2 := fun hz => by rw [or3, if_neg hz]
set_option maxHeartbeats 1000000 in
theorem c3 {a b : Value} {o1 o2 : Option Addr} {l1 k1 l2 k2 : Nat} {pr w ps : List Int} (s : MacV h a m) (sp : IntS h b pr) (sw : IntS h (.slice o1 l1 k1) w) (sq : IntS h (.slice o2 l2 k2) ps) (hl : m.steps.length ≤ 2 ^ 40) (hf : pr.length ≤ 2 ^ 40 ∧ w.length ≤ 2 ^ 40 ∧ ps.length ≤ 2 ^ 40) :
    Runs Try.prog 3 [a, b, .agg #[.slice o1 l1 k1, .slice o2 l2 k2]] h (.bool true) h := by
  refine DetP.forget rfl ?_
  refine w3 ?_
  unfold n3
  obtain ⟨o, l, c, rfl, ss0⟩ := s
  rw [box36]
  refine ok_i rfl ?_
  have p1 := pre_new h [.int .i64 m.states, .int .i64 m.inputs, .int .i64 m.outputs, .int .i64 m.start, .slice o l c] 5
  have hb1 := newArr_get h [.int .i64 m.states, .int .i64 m.inputs, .int .i64 m.outputs, .int .i64 m.start, .slice o l c] 5
  have ss := ss0.mono (Sub.of_pre p1)
  generalize hg1 : newArr h [.int .i64 m.states, .int .i64 m.inputs, .int .i64 m.outputs, .int .i64 m.start, .slice o l c] 5 = g1 at p1 hb1 ss ⊢
  have sp1 := sp.mono (Sub.of_pre p1)
  have sw1 := sw.mono (Sub.of_pre p1)
  have sq1 := sq.mono (Sub.of_pre p1)
  rw [box27]
  refine ok_i rfl ?_
  have p2 := pre_new g1 [.slice o1 l1 k1, .slice o2 l2 k2] 2
  have hr2 := newArr_get g1 [.slice o1 l1 k1, .slice o2 l2 k2] 2
  have hb2 := (Sub.of_pre p2).2 _ _ hb1
  generalize hgi : g1.length = ri at hr2 ⊢
  generalize newArr g1 [.slice o1 l1 k1, .slice o2 l2 k2] 2 = g2 at p2 hr2 hb2 ⊢
  have ss2 := ss.mono (Sub.of_pre p2)
  have sp2 := sp1.mono (Sub.of_pre p2)
  have sw2 := sw1.mono (Sub.of_pre p2)
  have sq2 := sq1.mono (Sub.of_pre p2)
  have m2 := macv_of (m := m) ss2
  with_reducible (refine mv_i ?_)
  refine call_r c14 ?_
  with_reducible (refine not_t ?_; refine cnd_f ?_)
  refine vk_i (ld36 hb2) ?_
  refine ⟨vb_mac ss2, ?_⟩
  refine calld_i (c16 m2 hl) ?_
  rintro x g3 ⟨p3, mx⟩
  refine ⟨p3.imp fun t ht => ht.symm, ?_⟩
  with_reducible (refine mv_i ?_)
  refine calld_r (c17 (sp2.mono (Sub.of_pre p3)) hf.1) ⟨(ownH_pre _ _).imp fun t ht => ht.symm, ?_⟩
  have q4 := (own_only g3 (xs := pr) (by omega)).self
  have p4 := ownH_pre g3 pr
  generalize ownV g3 pr = v4 at q4 ⊢
  generalize ownH g3 pr = g4 at q4 p4 ⊢
  have hr4 := (Sub.of_pre (p3.trans p4)).2 _ _ hr2
  have sw4 := sw2.mono (Sub.of_pre (p3.trans p4))
  with_reducible (refine vk_i (fa27_0 _) ?_; refine ld2_0 r23 (by assumption) ?_; refine ⟨VB_of_ints (by assumption), ?_⟩)
  refine calld_r (c17 sw4 hf.2.1) ⟨(ownH_pre _ _).imp fun t ht => ht.symm, ?_⟩
  have q5 := (own_only g4 (xs := w) (by omega)).self
  have p5 := ownH_pre g4 w
  obtain ⟨o5, l5, k5, e5⟩ := ownV_slice g4 w
  rw [e5] at q5 ⊢
  generalize ownH g4 w = g5 at q5 p5 ⊢
  have hr5 := (Sub.of_pre p5).2 _ _ hr4
  have sq5 := sq2.mono (Sub.of_pre (p3.trans (p4.trans p5)))
  with_reducible (refine vk_i (fa27_1 _) ?_; refine ld2_1 r23 (by assumption) ?_; refine ⟨VB_of_ints (by assumption), ?_⟩)
  refine calld_r (c17 sq5 hf.2.2) ⟨(ownH_pre _ _).imp fun t ht => ht.symm, ?_⟩
  have q6 := (own_only g5 (xs := ps) (by omega)).self
  have p6 := ownH_pre g5 ps
  obtain ⟨o6, l6, k6, e6⟩ := ownV_slice g5 ps
  rw [e6] at q6 ⊢
  generalize ownH g5 ps = g6 at q6 p6 ⊢
  refine vk_i (build27 _ _ _ _ _ _) ?_
  refine calld_i (c15 (mx.mono (Sub.of_pre (p4.trans (p5.trans p6)))) (q4.mono (Sub.of_pre (p5.trans p6))) (q5.mono (Sub.of_pre p6)) q6) ?_
  rintro y g7 ⟨p7, hy⟩
  refine ⟨p7.imp fun t ht => ht.symm, ?_⟩
  have pz := p3.trans (p4.trans (p5.trans (p6.trans p7)))
  have hb7 := (Sub.of_pre pz).2 _ _ hb2
  have hr7 := (Sub.of_pre pz).2 _ _ hr2
  have ss7 := ss2.mono (Sub.of_pre pz)
  have sp7 := sp2.mono (Sub.of_pre pz)
  have sw7 := sw2.mono (Sub.of_pre pz)
  have sq7 := sq2.mono (Sub.of_pre pz)
  have m7 := macv_of (m := m) ss7
  have pall := p1.trans (p2.trans pz)
  obtain ⟨P, E, hPE, hz1, hz2, hz3⟩ : ∃ P E : Int, y = .tuple #[.int .i64 P, .int .i64 E] ∧ ((mErr m).2 ≠ 0 → P = 0 ∧ E = (mErr m).2) ∧ ((mErr m).2 = 0 → prErr m pr ≠ 0 → P = 0 ∧ E = prErr m pr) ∧ ((mErr m).2 = 0 → prErr m pr = 0 → P = rndP m pr w ps ∧ E = rndE m pr w ps) := by
    rw [or3] at hy
    by_cases h1 : (mErr m).2 = 0
    · rw [if_pos h1] at hy
      by_cases h2 : prErr m pr = 0
      · rw [if_pos h2] at hy
        by_cases h3 : wErr w m.inputs 1200 = 0
        · rw [if_neg (by simp [h3])] at hy
          exact ⟨_, _, hy, fun hc => absurd h1 hc, fun _ hc => absurd h2 hc, fun _ _ => ⟨rfl, rfl⟩⟩
        · rw [if_pos h3] at hy
          have e0 : rndE m pr w ps = wErr w m.inputs 1200 := by unfold rndE; rw [if_pos h3]
          have e1 : rndP m pr w ps = 0 := by unfold rndP; rw [e0, if_neg h3]
          exact ⟨_, _, hy, fun hc => absurd h1 hc, fun _ hc => absurd h2 hc, fun _ _ => ⟨e1.symm, e0.symm⟩⟩
      · rw [if_neg h2, if_pos h2] at hy
        exact ⟨_, _, hy, fun hc => absurd h1 hc, fun _ _ => ⟨rfl, rfl⟩, fun _ hc => absurd hc h2⟩
    · rw [if_neg h1, if_pos h1] at hy
      exact ⟨_, _, hy, fun _ => ⟨rfl, rfl⟩, fun hc => absurd hc h1, fun hc => absurd hc h1⟩
  subst hPE
  with_reducible (refine mv_i ?_; refine ex2_0 ?_; refine ex2_1 ?_; refine mv_i ?_; refine mv_i ?_)
  refine vk_i (ld36 hb7) ?_
  refine call_r (c18 m7) ?_
  with_reducible (refine mv_i ?_)
  refine seq_J (fun xs h8 => g7 = h8 ∧ xs = [.int .i64 (if (mErr m).2 = 0 then prErr m pr else (mErr m).2)]) ?_ ?_
  · rintro _ _ ⟨rfl, rfl⟩ _
    show mvK _ _ _
    with_reducible (refine mv_i ?_)
    by_cases h1 : (mErr m).2 = 0
    · rw [if_pos h1]
      have r := right_of h1
      by_cases h2 : prErr m pr = 0
      · obtain ⟨rfl, rfl⟩ := hz3 h1 h2
        refine seq_J (fun xs h8 => g7 <+: h8 ∧ xs = [.int .i64 (rndE m pr w ps), .int .i64 (rndP m pr w ps)]) ?_ ?_
        · rintro _ h8 ⟨p8, rfl⟩ _
          show mvK _ _ _
          have pfin := pall.trans p8
          with_reducible (refine mv_i ?_; refine mv_i ?_)
          refine eql_i (fun _ => ?_) (fun hc => absurd rfl hc)
          with_reducible (refine mv_i ?_; refine gd_tt ?_; refine mv_i ?_; refine gd_tt ?_; refine mv_i ?_; refine gd_tt ?_)
          refine eql_i (fun _ => ?_) (fun hc => absurd rfl hc)
          with_reducible (refine pick_t ?_; refine mv_i ?_; refine ret1 ?_)
          exact ⟨rfl, pfin⟩
        intro k' hk'
        with_reducible (refine mv_i ?_)
        refine eql_i (fun _ => ?_) (fun hc => absurd h2 hc)
        with_reducible (refine cnd_t ?_)
        refine vk_i (ld36 hb7) ?_
        with_reducible (refine mv_i ?_)
        refine vk_i (ld27 hr7) ?_
        refine call_i (c20 m7 r sp7 h2 sw7 sq7) ?_
        rintro _ g8 ⟨p8, rfl⟩
        with_reducible (refine mv_i ?_; refine ex2_0 ?_; refine ex2_1 ?_; refine mv_i ?_; refine mv_i ?_)
        exact hk' _ _ ⟨p8, rfl⟩
      · obtain ⟨rfl, rfl⟩ := hz2 h1 h2
        have pfin := pall
        refine seq_J (fun xs h8 => g7 = h8 ∧ xs = [.int .i64 (prErr m pr), .int .i64 0]) ?_ ?_
        · rintro _ _ ⟨rfl, rfl⟩ _
          show mvK _ _ _
          with_reducible (refine mv_i ?_; refine mv_i ?_)
          refine eql_i (fun _ => ?_) (fun hc => absurd rfl hc)
          with_reducible (refine mv_i ?_; refine gd_tt ?_; refine mv_i ?_; refine gd_tt ?_; refine mv_i ?_; refine gd_tt ?_)
          refine eql_i (fun _ => ?_) (fun hc => absurd rfl hc)
          with_reducible (refine pick_t ?_; refine mv_i ?_; refine ret1 ?_)
          exact ⟨rfl, pfin⟩
        intro k' hk'
        with_reducible (refine mv_i ?_)
        refine eql_i (fun hc => absurd hc h2) (fun _ => ?_)
        with_reducible (refine cnd_f ?_)
        exact hk' _ _ ⟨rfl, rfl⟩
    · rw [if_neg h1]
      obtain ⟨rfl, rfl⟩ := hz1 h1
      have pfin := pall
      refine seq_J (fun xs h8 => g7 = h8 ∧ xs = [.int .i64 (mErr m).2, .int .i64 0]) ?_ ?_
      · rintro _ _ ⟨rfl, rfl⟩ _
        show mvK _ _ _
        with_reducible (refine mv_i ?_; refine mv_i ?_)
        refine eql_i (fun _ => ?_) (fun hc => absurd rfl hc)
        with_reducible (refine mv_i ?_; refine gd_tt ?_; refine mv_i ?_; refine gd_tt ?_; refine mv_i ?_; refine gd_tt ?_)
        refine eql_i (fun _ => ?_) (fun hc => absurd rfl hc)
        with_reducible (refine pick_t ?_; refine mv_i ?_; refine ret1 ?_)
        exact ⟨rfl, pfin⟩
      intro k' hk'
      with_reducible (refine mv_i ?_)
      refine eql_i (fun hc => absurd hc h1) (fun _ => ?_)
      with_reducible (refine cnd_f ?_)
      exact hk' _ _ ⟨rfl, rfl⟩
  intro k' hk'
  with_reducible (refine mv_i ?_)
  refine eql_i (fun h1 => ?_) (fun h1 => ?_)
  · with_reducible (refine cnd_t ?_)
    refine vk_i (ld36 hb7) ?_
    with_reducible (refine mv_i ?_)
    refine call_r (c19 m7 sp7) ?_
    with_reducible (refine mv_i ?_)
    exact hk' _ _ ⟨rfl, by rw [if_pos h1]⟩
  · with_reducible (refine cnd_f ?_)
    exact hk' _ _ ⟨rfl, by rw [if_neg h1]⟩
end Go.Proofs.Ytdjoednhfoligaa
