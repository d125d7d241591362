import Derived.Test.YtdjoednhfoligaaCvM
set_option linter.unusedSimpArgs false
set_option linter.unusedVariables false
set_option maxRecDepth 100000
namespace Go.Proofs.Ytdjoednhfoligaa
open Go.AM
variable {h h' h0 h1 : Heap} {K : Value → Heap → Prop} {m : Mac}
variable {N : Nat → Option Nat} {C : Nat → List Value}

theorem inR_idx {z n : Int} (hn : 0 ≤ n) (hl : n ≤ 2 ^ 40) (hz : inR z 0 (pm n) = true) : 0 ≤ z ∧ z < n := by
  by_cases q : n = 0
  · subst q
    have e : pm 0 = -1 := by decide
    rw [e] at hz
    unfold inR at hz
    simp only [decide_eq_true_eq] at hz
    omega
  · rw [pm_eq (by omega) hl] at hz
    unfold inR at hz
    simp only [decide_eq_true_eq] at hz
    omega
/-- The answer about a step. -/
noncomputable def aftL (m : Mac) (step : Int) : List Int := if (rchB m m.start).getD (m.steps.getD step.toNat dst).fr.toNat false = true then leav m (rchB m (m.steps.getD step.toNat dst).to) else []
def stepE (m : Mac) (step : Int) : Int := orOf [(mErr m).2, if inR step 0 (pm m.steps.length) then 0 else 3]
theorem c21 {a : Value} {step : Int} (s : MacV h a m) :
    DetP Try.prog 21 [a, .int .i64 step] h fun v h' => h <+: h' ∧ if stepE m step ≠ 0 then v = .tuple #[.slice none 0 0, .int .i64 (stepE m step)] else ∃ x, v = .tuple #[x, .int .i64 0] ∧ Only h h' fun g => IntS g x (aftL m step) := by
  refine w21 ?_
  unfold n21
  obtain ⟨o, l, c, rfl, ss0⟩ := s
  rw [box36]
  refine ok_i rfl ?_
  have p1 := pre_new h [.int .i64 m.states, .int .i64 m.inputs, .int .i64 m.outputs, .int .i64 m.start, .slice o l c] 5
  have hb1 := newArr_get h [.int .i64 m.states, .int .i64 m.inputs, .int .i64 m.outputs, .int .i64 m.start, .slice o l c] 5
  have ss := ss0.mono (Sub.of_pre p1)
  generalize hg1 : newArr h [.int .i64 m.states, .int .i64 m.inputs, .int .i64 m.outputs, .int .i64 m.start, .slice o l c] 5 = g1 at p1 hb1 ss ⊢
  have mv1 : MacV g1 (.agg #[.int .i64 m.states, .int .i64 m.inputs, .int .i64 m.outputs, .int .i64 m.start, .slice o l c]) m := macv_of ss
  with_reducible (refine mv_i ?_; refine mv_i ?_)
  refine vk_i (ld36 hb1) ?_
  refine ⟨vb_mac ss, ?_⟩
  refine calld_r (c51 mv1) ⟨⟨[], by simp⟩, ?_⟩
  with_reducible (refine mv_i ?_; refine vk_i (fa36_4 _) ?_; refine ld5_4 r34 (by assumption) ?_; refine ⟨VB_of_steps (by assumption), ?_⟩; refine lenst t34 (by assumption) ?_)
  refine subw_i ?_
  refine calld_r (c59 _ _ _) ⟨⟨[], by simp⟩, ?_⟩
  refine calld_r (c61 _ _) ⟨⟨[], by simp⟩, ?_⟩
  refine ok_i (bs94_2 _ _ _) ?_
  have p2 := pre_new g1 [.int .i64 (mErr m).2, .int .i64 (if inR step 0 (pm m.steps.length) = true then 0 else 3)] 1
  have sx : IntS (newArr g1 [.int .i64 (mErr m).2, .int .i64 (if inR step 0 (pm m.steps.length) = true then 0 else 3)] 1) (.slice (some ⟨g1.length, 0, none⟩) 2 3) [(mErr m).2, if inR step 0 (pm m.steps.length) = true then 0 else 3] := Seg.new 3 (by rfl) (by simp)
  generalize newArr g1 [.int .i64 (mErr m).2, .int .i64 (if inR step 0 (pm m.steps.length) = true then 0 else 3)] 1 = g2 at p2 sx ⊢
  refine calld_r (c50 sx) ⟨⟨[], by simp⟩, ?_⟩
  have he : orOf [(mErr m).2, if inR step 0 (pm m.steps.length) = true then 0 else 3] = stepE m step := rfl
  rw [he]
  have hed : stepE m step = 0 → (mErr m).2 = 0 ∧ inR step 0 (pm m.steps.length) = true := by
    intro hz
    unfold stepE at hz
    rw [or2] at hz
    split at hz
    · rename_i h1
      split at hz
      · rename_i h2; exact ⟨h1, h2⟩
      · cases hz
    · exact absurd hz (by assumption)
  generalize stepE m step = e at hed
  with_reducible (refine mv_i ?_; refine mv_i ?_)
  refine neq_i (fun hz => ?_) (fun hz => ?_)
  · obtain ⟨he1, he2⟩ := hed hz
    have r := right_of he1
    obtain ⟨b1, b2, b3, b4, b5, b6⟩ := r.bounds
    have hfew := r.few
    have hsl : m.steps.length ≤ 320 := by
      have : m.states * m.inputs ≤ 40 * 8 := Int.mul_le_mul b2 b4 (by omega) (by omega)
      omega
    obtain ⟨hs0, hs1⟩ := inR_idx (by omega) (by omega) he2
    have hb2 := (Sub.of_pre p2).2 _ _ hb1
    with_reducible (refine cnd_f ?_)
    refine vk_i (ld36 hb2) ?_
    refine call_i (c54 (mv1.mono (Sub.of_pre p2)) r) ?_
    rintro _ g3 ⟨p3, gi, st, by_, fr, rfl, sst, og⟩
    have gr : Graph gi g3 m st by_ fr := og.self (sst.mono (Sub.of_pre p3))
    have hb3 := (Sub.of_pre p3).2 _ _ hb2
    have ss3 := ss.mono (Sub.of_pre (p2.trans p3))
    with_reducible (refine mv_i ?_; refine mv_i ?_; refine mv_i ?_; refine nil_i ?_; refine vk_i (fa92_0 _) ?_; refine vk_i (fa36_3 _) ?_; refine ldgr r3 (by assumption) rfl ?_; refine ⟨vbi _ _, ?_⟩)
    refine calld_i (c64 gr r b5 b6) ?_
    rintro v g4 ⟨p4, q4⟩
    refine ⟨p4.imp fun t ht => ht.symm, ?_⟩
    have hb4 := (Sub.of_pre p4).2 _ _ hb3
    have ss4 := ss3.mono (Sub.of_pre p4)
    have sb := q4.self
    have hlb := rchB_len (m := m) m.start
    have hst := r.st (show step.toNat < m.steps.length by omega)
    with_reducible (refine vk_i (fa36_4 _) ?_; refine ld5_4 r34 (by assumption) ?_; refine ⟨VB_of_steps (by assumption), ?_⟩; refine mv_i ?_; refine idxzst t34 (by assumption) (by omega) (by omega) ?_; refine fae_i st63 (by assumption) (by omega) (by omega) ?_; refine ldfr dst st63 (by assumption) (by omega) ?_; refine ⟨vbi _ _, ?_⟩; refine idxzb t48 (by assumption) (by omega) (by omega) ?_; refine ldb_i t48 r4 (by assumption) (by omega) ?_; refine ⟨vbb _ _, ?_⟩)
    rcases hb : (rchB m m.start).getD (m.steps.getD step.toNat dst).fr.toNat false with _ | _
    · with_reducible (refine not_f ?_; refine cnd_t ?_; refine mv_i ?_; refine mv_i ?_; refine ret2 ?_)
      refine ⟨p1.trans (p2.trans (p3.trans p4)), ?_⟩
      rw [if_neg (by simp [hz])]
      refine ⟨_, rfl, fun g _ => ?_⟩
      unfold aftL
      rw [hb, if_neg (by simp)]
      exact Seg.nil _ _
    · with_reducible (refine not_t ?_; refine cnd_f ?_; refine mv_i ?_; refine mv_i ?_; refine vk_i (fa36_4 _) ?_; refine ld5_4 r34 (by assumption) ?_; refine mv_i ?_; refine idxzst t34 (by assumption) (by omega) (by omega) ?_; refine fae_i st63 (by assumption) (by omega) (by omega) ?_; refine ldto dst st63 (by assumption) (by omega) ?_)
      refine call_i (c64 (gr.mono (Sub.of_pre p4)) r hst.2.2.1 hst.2.2.2.1) ?_
      rintro w g5 ⟨p5, q5⟩
      refine call_i (c65 (gr.mono (Sub.of_pre (p4.trans p5))) r q5.self (rchB_len _)) ?_
      rintro z g6 ⟨p6, q6⟩
      with_reducible (refine mv_i ?_; refine mv_i ?_; refine ret2 ?_)
      refine ⟨p1.trans (p2.trans (p3.trans (p4.trans (p5.trans p6)))), ?_⟩
      rw [if_neg (by simp [hz])]
      refine ⟨_, rfl, ?_⟩
      unfold aftL
      rw [hb, if_pos rfl]
      exact Only.from (p1.trans (p2.trans (p3.trans (p4.trans p5)))) q6
  · with_reducible (refine cnd_t ?_; refine mv_i ?_; refine mv_i ?_; refine mv_i ?_; refine ret2 ?_)
    exact ⟨p1.trans p2, by rw [if_pos hz]⟩
/-- States found so far: those reached from one, in a list. -/
theorem c24 {a : Value} {step : Int} (s : MacV h a m) (r : Right m) (hs0 : 0 ≤ step) (hs1 : step < m.steps.length) :
    DetP Try.prog 24 [a, .int .i64 step] h fun v h' => h <+: h' ∧ Only h h' fun g => IntS g v (aftL m step) := by
  obtain ⟨b1, b2, b3, b4, b5, b6⟩ := r.bounds
  have hfew := r.few
  have hsl : m.steps.length ≤ 320 := by
    have : m.states * m.inputs ≤ 40 * 8 := Int.mul_le_mul b2 b4 (by omega) (by omega)
    omega
  refine w24 ?_
  unfold n24
  obtain ⟨o, l, c, rfl, ss0⟩ := s
  rw [box36]
  refine ok_i rfl ?_
  have p1 := pre_new h [.int .i64 m.states, .int .i64 m.inputs, .int .i64 m.outputs, .int .i64 m.start, .slice o l c] 5
  have hb1 := newArr_get h [.int .i64 m.states, .int .i64 m.inputs, .int .i64 m.outputs, .int .i64 m.start, .slice o l c] 5
  have ss := ss0.mono (Sub.of_pre p1)
  generalize hg1 : newArr h [.int .i64 m.states, .int .i64 m.inputs, .int .i64 m.outputs, .int .i64 m.start, .slice o l c] 5 = g1 at p1 hb1 ss ⊢
  have mv1 : MacV g1 (.agg #[.int .i64 m.states, .int .i64 m.inputs, .int .i64 m.outputs, .int .i64 m.start, .slice o l c]) m := macv_of ss
  with_reducible (refine mv_i ?_)
  refine vk_i (ld36 hb1) ?_
  refine call_i (c26 mv1 r) ?_
  rintro _ g2 ⟨p2, x, y, rfl, q2⟩
  have hb2 := (Sub.of_pre p2).2 _ _ hb1
  have ss2 := ss.mono (Sub.of_pre p2)
  have sy := q2.self.2
  have hst := r.st (show step.toNat < m.steps.length by omega)
  have hml : ((List.range m.steps.length).map fun k => (rchB m m.start).getD (m.steps.getD k dst).fr.toNat false).length = m.steps.length := by simp
  have hmg : ((List.range m.steps.length).map fun k => (rchB m m.start).getD (m.steps.getD k dst).fr.toNat false).getD step.toNat false = (rchB m m.start).getD (m.steps.getD step.toNat dst).fr.toNat false := by
    simp [List.getD, show step.toNat < m.steps.length by omega]
  with_reducible (refine mv_i ?_; refine ex2_0 ?_; refine ex2_1 ?_; refine mv_i ?_; refine mv_i ?_; refine mv_i ?_; refine mv_i ?_; refine idxzb t48 (by assumption) (by omega) (by omega) ?_; refine ldb_i t48 r4 (by assumption) (by omega) ?_)
  rw [hmg]
  unfold aftL
  rcases hb : (rchB m m.start).getD (m.steps.getD step.toNat dst).fr.toNat false with _ | _
  · with_reducible (refine not_f ?_; refine cnd_t ?_; refine mv_i ?_; refine ret1 ?_)
    exact ⟨p1.trans p2, fun g _ => Seg.nil _ _⟩
  · rw [if_pos rfl]
    generalize hz : (m.steps.getD step.toNat dst).to = f at hst
    obtain ⟨_, _, f0, f1, _, _⟩ := hst
    have hfto : ∀ K : Value → Heap → Prop, K (.int .i64 f) g2 → K (.int .i64 (m.steps.getD step.toNat dst).to) g2 := fun K hk => by rw [hz]; exact hk
    with_reducible (refine not_t ?_; refine cnd_f ?_; refine vk_i (fa36_4 _) ?_; refine ld5_4 r34 (by assumption) ?_; refine mv_i ?_; refine idxzst t34 (by assumption) (by omega) (by omega) ?_; refine fae_i st63 (by assumption) (by omega) (by omega) ?_; refine ldto dst st63 (by assumption) (by omega) ?_)
    rw [hz]
    refine ok_i (bs23_1 _ _) ?_
    have o0 := (Owns.start (fun _ => []) oneE (List.prefix_refl g2)).add 0 [.int .i64 f] 1 rfl
    have l0 : LS (upN (fun _ => none) 0 (some g2.length)) (upN (fun _ => []) 0 [Value.int .i64 f]) 0 (.slice (some ⟨g2.length, 0, none⟩) 1 2) ([f].map (.int .i64)) := by
      have := LS.whole (N := upN (fun _ => none) 0 (some g2.length)) (C := upN (fun _ => []) 0 [Value.int .i64 f]) (c := 2) (l := 0) (k := 1) (upN_self _ _ _) (by rw [upN_self]; rfl)
      rw [upN_self] at this
      exact this
    generalize upN (fun _ => []) 0 [Value.int .i64 f] = C0 at o0 l0
    generalize upN (fun _ => none) 0 (some g2.length) = N0 at o0 l0
    generalize (Value.slice (some ⟨g2.length, 0, none⟩) 1 2) = ov at l0 ⊢
    generalize newArr g2 [.int .i64 f] 1 = g3 at o0 ⊢
    with_reducible (refine mv_i ?_; refine mv_i ?_)
    refine loop2 m.states.toNat (fun i v h2 => ∃ N C, ∃ q : List Int, Owns g2 h2 N C oneE ∧ LS N C 0 v (q.map (.int .i64)) ∧ q.Nodup ∧ (∀ x ∈ q, 0 ≤ x ∧ x < m.states ∧ Rch m.steps f x) ∧ f ∈ q ∧ i ≤ q.length ∧ q.length ≤ m.states.toNat ∧ ∀ j, j < i → ∀ k, k < m.steps.length → (m.steps.getD k dst).fr = q.getD j 0 → (m.steps.getD k dst).to ∈ q)
      ⟨N0, C0, [f], o0, l0, by simp, fun x hx => by rw [List.mem_singleton] at hx; subst hx; exact ⟨f0, f1, .refl⟩, by simp, Nat.zero_le _, by simp; omega, fun j hj => by omega⟩ ?_
    rintro i v h3 _ hi ⟨N, C, q, o1, l1, nd, hq, hfq, hiq, hql, dn⟩
    have si := l1.ints o1 rfl (by omega)
    with_reducible (refine mv_i ?_; refine mv_i ?_; refine leni_i t23 (by assumption) ?_)
    refine lss_i (fun hlt => ?_) (fun hge => ?_)
    · have hiq2 : i < q.length := by omega
      obtain ⟨x0, x1, xr⟩ := hq _ (gd_mem 0 hiq2)
      generalize hx : q.getD i 0 = x at x0 x1 xr
      with_reducible (refine cnd_t ?_; refine mv_i ?_)
      refine loop2 m.steps.length (fun n v h2 => ∃ N C, ∃ q : List Int, Owns g2 h2 N C oneE ∧ LS N C 0 v (q.map (.int .i64)) ∧ q.Nodup ∧ (∀ x ∈ q, 0 ≤ x ∧ x < m.states ∧ Rch m.steps f x) ∧ f ∈ q ∧ i < q.length ∧ q.length ≤ m.states.toNat ∧ q.getD i 0 = x ∧ (∀ j, j < i → ∀ k, k < m.steps.length → (m.steps.getD k dst).fr = q.getD j 0 → (m.steps.getD k dst).to ∈ q) ∧ ∀ k, k < n → (m.steps.getD k dst).fr = x → (m.steps.getD k dst).to ∈ q)
        ⟨N, C, q, o1, l1, nd, hq, hfq, hiq2, hql, hx, dn, fun k hk => by omega⟩ ?_
      clear si dn hx hiq2 hlt hql hiq hfq hq nd l1 o1
      rintro n v h4 _ hn ⟨N, C, q, o1, l1, nd, hq, hfq, hiq, hql, hx, dn, dx⟩
      have si := l1.ints o1 rfl (by omega)
      have hb4 := o1.sub.2 _ _ hb2
      have ss4 := ss2.mono o1.sub
      with_reducible (refine mv_i ?_; refine vk_i (fa36_4 _) ?_; refine ld5_4 r34 (by assumption) ?_; refine lenst t34 (by assumption) ?_)
      refine lss_i (fun hltn => ?_) (fun hge => ?_)
      · have hnl : n < m.steps.length := by omega
        have hst := r.st hnl
        refine cnd_t ?_
        refine seq_J (fun xs h5 => ∃ v, xs = [v] ∧ upI2 (fun n v h2 => ∃ N C, ∃ q : List Int, Owns g2 h2 N C oneE ∧ LS N C 0 v (q.map (.int .i64)) ∧ q.Nodup ∧ (∀ x ∈ q, 0 ≤ x ∧ x < m.states ∧ Rch m.steps f x) ∧ f ∈ q ∧ i < q.length ∧ q.length ≤ m.states.toNat ∧ q.getD i 0 = x ∧ (∀ j, j < i → ∀ k, k < m.steps.length → (m.steps.getD k dst).fr = q.getD j 0 → (m.steps.getD k dst).to ∈ q) ∧ ∀ k, k < n → (m.steps.getD k dst).fr = x → (m.steps.getD k dst).to ∈ q) m.steps.length [v, .int .i64 ((n + 1 : Nat) : Int)] h5) ?_ ?_
        · rintro _ h5 ⟨v, rfl, hv⟩ _
          show mvK _ h5 _
          with_reducible (refine mv_i ?_; refine inc_i (by omega) ?_; refine mv_i ?_)
          exact ⟨hv, by simp only [upμ]; omega⟩
        intro k' hk'
        have hsame : ¬ ((m.steps.getD n dst).fr = x ∧ ¬ (m.steps.getD n dst).to ∈ q) → k' [v] h4 := by
          intro hno
          refine hk' _ _ ⟨v, rfl, n + 1, v, rfl, hnl, N, C, q, o1, l1, nd, hq, hfq, hiq, hql, hx, dn, fun k hk hf => ?_⟩
          by_cases e : k = n
          · subst e
            exact Classical.byContradiction fun hc => hno ⟨hf, hc⟩
          · exact dx k (by omega) hf
        with_reducible (refine vk_i (fa36_4 _) ?_; refine ld5_4 r34 (by assumption) ?_; refine ⟨VB_of_steps (by assumption), ?_⟩; refine mv_i ?_; refine idxst t34 (by assumption) (by omega) ?_; refine fae_i st63 (by assumption) (by omega) (by omega) ?_; refine ldfr dst st63 (by assumption) (by omega) ?_; refine ⟨vbi _ _, ?_⟩; refine mv_i ?_; refine mv_i ?_; refine idxi_i t23 (by assumption) (by omega) ?_; refine ldi_i t23 r3 (by assumption) (by omega) ?_; refine ⟨vbi _ _, ?_⟩)
        rw [hx]
        refine eql_i (fun heq => ?_) (fun hne => ?_)
        · with_reducible (refine mv_i ?_; refine gd_tt ?_; refine mv_i ?_; refine gd_tt ?_; refine vk_i (fa36_4 _) ?_; refine gd_tt ?_; refine ld5_4 r34 (by assumption) ?_; refine ⟨VB_of_steps (by assumption), ?_⟩; refine gd_tt ?_; refine mv_i ?_; refine gd_tt ?_; refine idxst t34 (by assumption) (by omega) ?_; refine gd_tt ?_; refine fae_i st63 (by assumption) (by omega) (by omega) ?_; refine gd_tt ?_; refine ldto dst st63 (by assumption) (by omega) ?_; refine ⟨vbi _ _, ?_⟩; refine gd_tt ?_)
          refine calld_r (c47 si) ⟨⟨[], by simp⟩, ?_⟩
          by_cases hin : (m.steps.getD n dst).to ∈ q
          · rw [decide_eq_true hin]
            with_reducible (refine gd_tt ?_; refine not_t ?_; refine pick_t ?_; refine cnd_f ?_)
            exact hsame fun hc => hc.2 hin
          · rw [decide_eq_false hin]
            have hlen : q.length + 1 ≤ m.states.toNat := by
              have := nodup_sub (q ++ [(m.steps.getD n dst).to]) ((List.range m.states.toNat).map fun s : Nat => (s : Int)) (List.nodup_append.mpr ⟨nd, by simp, fun a ha b hb => by rw [List.mem_singleton] at hb; subst hb; rintro rfl; exact hin ha⟩) fun y hy => by
                have hy2 : 0 ≤ y ∧ y < m.states := by
                  rcases List.mem_append.mp hy with hy | hy
                  · exact ⟨(hq y hy).1, (hq y hy).2.1⟩
                  · rw [List.mem_singleton] at hy; subst hy; exact ⟨hst.2.2.1, hst.2.2.2.1⟩
                exact List.mem_map.mpr ⟨y.toNat, List.mem_range.mpr (by omega), Int.toNat_of_nonneg hy2.1⟩
              simpa using this
            with_reducible (refine gd_tt ?_; refine not_f ?_; refine pick_t ?_; refine cnd_t ?_; refine mv_i ?_; refine vk_i (fa36_4 _) ?_; refine ld5_4 r34 (by assumption) ?_; refine mv_i ?_; refine idxst t34 (by assumption) (by omega) ?_; refine fae_i st63 (by assumption) (by omega) (by omega) ?_; refine ldto dst st63 (by assumption) (by omega) ?_)
            refine ok_i (bs23_1 _ _) ?_
            have o2 := o1.ext (pre_new h4 [.int .i64 (m.steps.getD n dst).to] 1)
            refine lapp t23 o2 l1 rfl (Seg.new (n := 1) 2 (by simp) (by omega)) (by simp [Value.oneCell']) (by omega) (by rw [List.length_map]; omega) fun h6 v6 o3 l3 _ _ _ => ?_
            with_reducible (refine mv_i ?_)
            have hxr : Rch m.steps f (m.steps.getD n dst).to := .step (by rw [heq, ← hx]; exact (hq _ (gd_mem 0 hiq)).2.2) hnl
            refine hk' _ _ ⟨v6, rfl, n + 1, v6, rfl, hnl, _, _, q ++ [(m.steps.getD n dst).to], o3, by simpa using l3, List.nodup_append.mpr ⟨nd, by simp, fun a ha b hb => by rw [List.mem_singleton] at hb; subst hb; rintro rfl; exact hin ha⟩, fun y hy => ?_, by simp [hfq], by simp; omega, by simpa using hlen, ?_, fun j hj k hk hf => ?_, fun k hk hf => ?_⟩
            · rcases List.mem_append.mp hy with hy | hy
              · exact hq y hy
              · rw [List.mem_singleton] at hy; subst hy; exact ⟨hst.2.2.1, hst.2.2.2.1, hxr⟩
            · rw [gd_app hiq]; exact hx
            · rw [gd_app (by omega)] at hf
              exact List.mem_append_left _ (dn j hj k hk hf)
            · by_cases e : k = n
              · subst e; simp
              · exact List.mem_append_left _ (dx k (by omega) hf)
        · with_reducible (refine mv_i ?_; refine gd_ft ?_; refine gd_ft ?_; refine gd_ft ?_; refine gd_ft ?_; refine gd_ft ?_; refine gd_ft ?_; refine gd_ft ?_; refine gd_ft ?_; refine gd_ft ?_; refine pick_f ?_; refine cnd_f ?_)
          exact hsame fun hc => hne hc.1
      · have en : n = m.steps.length := by omega
        subst en
        with_reducible (refine cnd_f ?_; refine mv_i ?_; refine inc_i (by omega) ?_; refine mv_i ?_)
        refine next2 (by omega) ⟨N, C, q, o1, l1, nd, hq, hfq, by omega, hql, fun j hj k hk hf => ?_⟩
        by_cases e : j = i
        · subst e; rw [hx] at hf; exact dx k hk hf
        · exact dn j (by omega) k hk hf
    · have ei : i = q.length := by omega
      have hcl : ∀ z : Int, z ∈ q ↔ Rch m.steps f z := by
        intro z
        refine ⟨fun hz => (hq z hz).2.2, fun hR => ?_⟩
        refine Rch.closed (Q := fun z => z ∈ q) hfq (fun k hk hz => ?_) hR
        obtain ⟨j, hj, he⟩ := mem_gd 0 hz
        exact dn j (by omega) k hk he.symm
      have p3 := o1.pre
      have hb3 := o1.sub.2 _ _ hb2
      have ss3 := ss2.mono o1.sub
      clear dn l1 o1
      have hlv : leav m (rchB m f) = idxs (fun k => decide ((m.steps.getD k dst).fr ∈ q)) m.steps.length := by
        unfold leav
        refine idxs_congr fun k hk => ?_
        have hst := r.st hk
        rw [rchB_at (by omega), Int.toNat_of_nonneg hst.1]
        exact decide_eq_decide.mpr (hcl _).symm
      rw [hlv]
      with_reducible (refine cnd_f ?_; refine mv_i ?_; refine mv_i ?_)
      refine loop2 m.steps.length (fun k v h2 => Own 1 h3 h2 v (idxs (fun k => decide ((m.steps.getD k dst).fr ∈ q)) k).length ((idxs (fun k => decide ((m.steps.getD k dst).fr ∈ q)) k).map (.int .i64))) (Own.nil 1 (List.prefix_refl _)) ?_
      rintro k w h4 _ hk ow
      have hb4 := (Sub.of_pre ow.pre).2 _ _ hb3
      have ss4 := ss3.mono (Sub.of_pre ow.pre)
      have si4 := si.mono (Sub.of_pre ow.pre)
      have hll := idxs_len (fun k => decide ((m.steps.getD k dst).fr ∈ q)) k
      have hsc := idxs_succ (fun k => decide ((m.steps.getD k dst).fr ∈ q)) k
      with_reducible (refine mv_i ?_; refine vk_i (fa36_4 _) ?_; refine ld5_4 r34 (by assumption) ?_; refine lenst t34 (by assumption) ?_)
      refine lss_i (fun hlt => ?_) (fun hge => ?_)
      · have hk2 : k < m.steps.length := by omega
        refine cnd_t ?_
        refine seq_J (fun xs h4 => ∃ v, xs = [v] ∧ Own 1 h3 h4 v (idxs (fun k => decide ((m.steps.getD k dst).fr ∈ q)) (k + 1)).length ((idxs (fun k => decide ((m.steps.getD k dst).fr ∈ q)) (k + 1)).map (.int .i64))) ?_ ?_
        · rintro _ h4 ⟨v, rfl, ow⟩ _
          show mvK _ h4 _
          with_reducible (refine mv_i ?_; refine inc_i (by omega) ?_; refine mv_i ?_)
          exact next2 hk2 ow
        intro k' hk'
        with_reducible (refine mv_i ?_; refine vk_i (fa36_4 _) ?_; refine ld5_4 r34 (by assumption) ?_; refine mv_i ?_; refine idxst t34 (by assumption) (by omega) ?_; refine fae_i st63 (by assumption) (by omega) (by omega) ?_; refine ldfr dst st63 (by assumption) (by omega) ?_)
        refine call_r (c47 si4) ?_
        by_cases hb : (m.steps.getD k dst).fr ∈ q
        · rw [decide_eq_true hb]
          rw [if_pos (decide_eq_true hb)] at hsc
          with_reducible (refine cnd_t ?_; refine mv_i ?_; refine mv_i ?_)
          refine ok_i (bs23_1 _ _) ?_
          obtain ⟨o4, _⟩ := ow.ext (pre_new h4 [.int .i64 (k : Int)] 1)
          refine app_i t23 o4 (Seg.new (n := 1) 2 (by simp) (by omega)) (by simp [Value.oneCell']) (by omega) ⟨by omega, by omega⟩ fun v' h' o5 _ => ?_
          with_reducible (refine mv_i ?_)
          exact hk' _ _ ⟨v', rfl, by rw [hsc]; simpa using o5⟩
        · rw [decide_eq_false hb]
          rw [if_neg (by rw [decide_eq_false hb]; simp)] at hsc
          with_reducible (refine cnd_f ?_)
          exact hk' _ _ ⟨w, rfl, by rw [hsc]; exact ow⟩
      · have ek : k = m.steps.length := by omega
        subst ek
        with_reducible (refine cnd_f ?_; refine mv_i ?_; refine mv_i ?_; refine ret1 ?_)
        exact ⟨p1.trans (p2.trans (p3.trans ow.pre)), Only.from (p1.trans (p2.trans p3)) ow.only⟩
end Go.Proofs.Ytdjoednhfoligaa
