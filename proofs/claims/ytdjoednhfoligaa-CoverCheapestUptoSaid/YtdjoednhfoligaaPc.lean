import Derived.Test.YtdjoednhfoligaaPb
set_option linter.unusedSimpArgs false
set_option linter.unusedVariables false
set_option maxRecDepth 100000
namespace Go.Proofs.Ytdjoednhfoligaa
open Go.AM
variable {h h' h0 h1 : Heap} {K : Value → Heap → Prop} {m : Mac}
variable {N : Nat → Option Nat} {C : Nat → List Value}

theorem inR_idx {z n : Int} (hn : 0 ≤ n) (hl : n ≤ 2 ^ 40) (hz : inR z 0 (pm n) = true) : 0 ≤ z ∧ z < n := by
  by_cases q : n = 0
  · subst q
    have e : pm 0 = -1 := by decide
    rw [e] at hz
    unfold inR at hz
    simp only [decide_eq_true_eq] at hz
    omega
  · rw [pm_eq (by omega) hl] at hz
    unfold inR at hz
    simp only [decide_eq_true_eq] at hz
    omega
/-- The answer about a step. -/
noncomputable def aftL (m : Mac) (step : Int) : List Int := if (rchB m m.start).getD (m.steps.getD step.toNat dst).fr.toNat false = true then leav m (rchB m (m.steps.getD step.toNat dst).to) else []
def stepE (m : Mac) (step : Int) : Int := orOf [(mErr m).2, if inR step 0 (pm m.steps.length) then 0 else 3]
theorem c21 {a : Value} {step : Int} (s : MacV h a m) :
    DetP Try.prog 21 [a, .int .i64 step] h fun v h' => h <+: h' ∧ if stepE m step ≠ 0 then v = .tuple #[.slice none 0 0, .int .i64 (stepE m step)] else ∃ x, v = .tuple #[x, .int .i64 0] ∧ Only h h' fun g => IntS g x (aftL m step) := by
  refine w21 ?_
  unfold n21
  obtain ⟨o, l, c, rfl, ss0⟩ := s
  rw [box36]
  refine ok_i rfl ?_
  have p1 := pre_new h [.int .i64 m.states, .int .i64 m.inputs, .int .i64 m.outputs, .int .i64 m.start, .slice o l c] 5
  have hb1 := newArr_get h [.int .i64 m.states, .int .i64 m.inputs, .int .i64 m.outputs, .int .i64 m.start, .slice o l c] 5
  have ss := ss0.mono (Sub.of_pre p1)
  generalize hg1 : newArr h [.int .i64 m.states, .int .i64 m.inputs, .int .i64 m.outputs, .int .i64 m.start, .slice o l c] 5 = g1 at p1 hb1 ss ⊢
  have mv1 : MacV g1 (.agg #[.int .i64 m.states, .int .i64 m.inputs, .int .i64 m.outputs, .int .i64 m.start, .slice o l c]) m := macv_of ss
  with_reducible (refine mv_i ?_; refine mv_i ?_)
  refine vk_i (ld36 hb1) ?_
  refine ⟨vb_mac ss, ?_⟩
  refine calld_r (c51 mv1) ⟨⟨[], by simp⟩, ?_⟩
  with_reducible (refine mv_i ?_; refine vk_i (fa36_4 _) ?_; refine ld5_4 r34 (by assumption) ?_; refine ⟨VB_of_steps (by assumption), ?_⟩; refine lenst t34 (by assumption) ?_)
  refine subw_i ?_
  refine calld_r (c59 _ _ _) ⟨⟨[], by simp⟩, ?_⟩
  refine calld_r (c61 _ _) ⟨⟨[], by simp⟩, ?_⟩
  refine ok_i (bs94_2 _ _ _) ?_
  have p2 := pre_new g1 [.int .i64 (mErr m).2, .int .i64 (if inR step 0 (pm m.steps.length) = true then 0 else 3)] 1
  have sx : IntS (newArr g1 [.int .i64 (mErr m).2, .int .i64 (if inR step 0 (pm m.steps.length) = true then 0 else 3)] 1) (.slice (some ⟨g1.length, 0, none⟩) 2 3) [(mErr m).2, if inR step 0 (pm m.steps.length) = true then 0 else 3] := Seg.new 3 (by rfl) (by simp)
  generalize newArr g1 [.int .i64 (mErr m).2, .int .i64 (if inR step 0 (pm m.steps.length) = true then 0 else 3)] 1 = g2 at p2 sx ⊢
  refine calld_r (c50 sx) ⟨⟨[], by simp⟩, ?_⟩
  have he : orOf [(mErr m).2, if inR step 0 (pm m.steps.length) = true then 0 else 3] = stepE m step := rfl
  rw [he]
  have hed : stepE m step = 0 → (mErr m).2 = 0 ∧ inR step 0 (pm m.steps.length) = true := by
    intro hz
    unfold stepE at hz
    rw [or2] at hz
    split at hz
    · rename_i h1
      split at hz
      · rename_i h2; exact ⟨h1, h2⟩
      · cases hz
    · exact absurd hz (by assumption)
  generalize stepE m step = e at hed
  with_reducible (refine mv_i ?_; refine mv_i ?_)
  refine neq_i (fun hz => ?_) (fun hz => ?_)
  · obtain ⟨he1, he2⟩ := hed hz
    have r := right_of he1
    obtain ⟨b1, b2, b3, b4, b5, b6⟩ := r.bounds
    have hfew := r.few
    have hsl : m.steps.length ≤ 320 := by
      have : m.states * m.inputs ≤ 40 * 8 := Int.mul_le_mul b2 b4 (by omega) (by omega)
      omega
    obtain ⟨hs0, hs1⟩ := inR_idx (by omega) (by omega) he2
    have hb2 := (Sub.of_pre p2).2 _ _ hb1
    with_reducible (refine cnd_f ?_)
    refine vk_i (ld36 hb2) ?_
    refine call_i (c54 (mv1.mono (Sub.of_pre p2)) r) ?_
    rintro _ g3 ⟨p3, gi, st, by_, fr, rfl, sst, og⟩
    have gr : Graph gi g3 m st by_ fr := og.self (sst.mono (Sub.of_pre p3))
    have hb3 := (Sub.of_pre p3).2 _ _ hb2
    have ss3 := ss.mono (Sub.of_pre (p2.trans p3))
    with_reducible (refine mv_i ?_; refine mv_i ?_; refine mv_i ?_; refine nil_i ?_; refine vk_i (fa92_0 _) ?_; refine vk_i (fa36_3 _) ?_; refine ldgr r3 (by assumption) rfl ?_; refine ⟨vbi _ _, ?_⟩)
    refine calld_i (c64 gr r b5 b6) ?_
    rintro v g4 ⟨p4, q4⟩
    refine ⟨p4.imp fun t ht => ht.symm, ?_⟩
    have hb4 := (Sub.of_pre p4).2 _ _ hb3
    have ss4 := ss3.mono (Sub.of_pre p4)
    have sb := q4.self
    have hlb := rchB_len (m := m) m.start
    have hst := r.st (show step.toNat < m.steps.length by omega)
    with_reducible (refine vk_i (fa36_4 _) ?_; refine ld5_4 r34 (by assumption) ?_; refine ⟨VB_of_steps (by assumption), ?_⟩; refine mv_i ?_; refine idxzst t34 (by assumption) (by omega) (by omega) ?_; refine fae_i st63 (by assumption) (by omega) (by omega) ?_; refine ldfr dst st63 (by assumption) (by omega) ?_; refine ⟨vbi _ _, ?_⟩; refine idxzb t48 (by assumption) (by omega) (by omega) ?_; refine ldb_i t48 r4 (by assumption) (by omega) ?_; refine ⟨vbb _ _, ?_⟩)
    rcases hb : (rchB m m.start).getD (m.steps.getD step.toNat dst).fr.toNat false with _ | _
    · with_reducible (refine not_f ?_; refine cnd_t ?_; refine mv_i ?_; refine mv_i ?_; refine ret2 ?_)
      refine ⟨p1.trans (p2.trans (p3.trans p4)), ?_⟩
      rw [if_neg (by simp [hz])]
      refine ⟨_, rfl, fun g _ => ?_⟩
      unfold aftL
      rw [hb, if_neg (by simp)]
      exact Seg.nil _ _
    · with_reducible (refine not_t ?_; refine cnd_f ?_; refine mv_i ?_; refine mv_i ?_; refine vk_i (fa36_4 _) ?_; refine ld5_4 r34 (by assumption) ?_; refine mv_i ?_; refine idxzst t34 (by assumption) (by omega) (by omega) ?_; refine fae_i st63 (by assumption) (by omega) (by omega) ?_; refine ldto dst st63 (by assumption) (by omega) ?_)
      refine call_i (c64 (gr.mono (Sub.of_pre p4)) r hst.2.2.1 hst.2.2.2.1) ?_
      rintro w g5 ⟨p5, q5⟩
      refine call_i (c65 (gr.mono (Sub.of_pre (p4.trans p5))) r q5.self (rchB_len _)) ?_
      rintro z g6 ⟨p6, q6⟩
      with_reducible (refine mv_i ?_; refine mv_i ?_; refine ret2 ?_)
      refine ⟨p1.trans (p2.trans (p3.trans (p4.trans (p5.trans p6)))), ?_⟩
      rw [if_neg (by simp [hz])]
      refine ⟨_, rfl, ?_⟩
      unfold aftL
      rw [hb, if_pos rfl]
      exact Only.from (p1.trans (p2.trans (p3.trans (p4.trans p5)))) q6
  · with_reducible (refine cnd_t ?_; refine mv_i ?_; refine mv_i ?_; refine mv_i ?_; refine ret2 ?_)
    exact ⟨p1.trans p2, by rw [if_pos hz]⟩
/-- States found so far: those reached from one, in a list. -/
theorem c24 {a : Value} {step : Int} (s : MacV h a m) (r : Right m) (hs0 : 0 ≤ step) (hs1 : step < m.steps.length) :
    DetP Try.prog 24 [a, .int .i64 step] h fun v h' => h <+: h' ∧ Only h h' fun g => IntS g v (aftL m step) := by
  obtain ⟨b1, b2, b3, b4, b5, b6⟩ := r.bounds
  have hfew := r.few
  have hsl : m.steps.length ≤ 320 := by
    have : m.states * m.inputs ≤ 40 * 8 := Int.mul_le_mul b2 b4 (by omega) (by omega)
    omega
  refine w24 ?_
  unfold n24
  obtain ⟨o, l, c, rfl, ss0⟩ := s
  rw [box36]
  refine ok_i rfl ?_
  have p1 := pre_new h [.int .i64 m.states, .int .i64 m.inputs, .int .i64 m.outputs, .int .i64 m.start, .slice o l c] 5
  have hb1 := newArr_get h [.int .i64 m.states, .int .i64 m.inputs, .int .i64 m.outputs, .int .i64 m.start, .slice o l c] 5
  have ss := ss0.mono (Sub.of_pre p1)
  generalize hg1 : newArr h [.int .i64 m.states, .int .i64 m.inputs, .int .i64 m.outputs, .int .i64 m.start, .slice o l c] 5 = g1 at p1 hb1 ss ⊢
  have mv1 : MacV g1 (.agg #[.int .i64 m.states, .int .i64 m.inputs, .int .i64 m.outputs, .int .i64 m.start, .slice o l c]) m := macv_of ss
  with_reducible (refine mv_i ?_)
  refine vk_i (ld36 hb1) ?_
  refine call_i (c26 mv1 r) ?_
  rintro _ g2 ⟨p2, x, y, rfl, q2⟩
  have hb2 := (Sub.of_pre p2).2 _ _ hb1
  have ss2 := ss.mono (Sub.of_pre p2)
  have sy := q2.self.2
  have hst := r.st (show step.toNat < m.steps.length by omega)
  have hml : ((List.range m.steps.length).map fun k => (rchB m m.start).getD (m.steps.getD k dst).fr.toNat false).length = m.steps.length := by simp
  have hmg : ((List.range m.steps.length).map fun k => (rchB m m.start).getD (m.steps.getD k dst).fr.toNat false).getD step.toNat false = (rchB m m.start).getD (m.steps.getD step.toNat dst).fr.toNat false := by
    simp [List.getD, show step.toNat < m.steps.length by omega]
  with_reducible (refine mv_i ?_; refine ex2_0 ?_; refine ex2_1 ?_; refine mv_i ?_; refine mv_i ?_; refine mv_i ?_; refine mv_i ?_; refine idxzb t48 (by assumption) (by omega) (by omega) ?_; refine ldb_i t48 r4 (by assumption) (by omega) ?_)
  rw [hmg]
  unfold aftL
  rcases hb : (rchB m m.start).getD (m.steps.getD step.toNat dst).fr.toNat false with _ | _
  · with_reducible (refine not_f ?_; refine cnd_t ?_; refine mv_i ?_; refine ret1 ?_)
    exact ⟨p1.trans p2, fun g _ => Seg.nil _ _⟩
  · rw [if_pos rfl]
    generalize hz : (m.steps.getD step.toNat dst).to = f at hst
    obtain ⟨_, _, f0, f1, _, _⟩ := hst
    have hfto : ∀ K : Value → Heap → Prop, K (.int .i64 f) g2 → K (.int .i64 (m.steps.getD step.toNat dst).to) g2 := fun K hk => by rw [hz]; exact hk
    with_reducible (refine not_t ?_; refine cnd_f ?_; refine vk_i (fa36_4 _) ?_; refine ld5_4 r34 (by assumption) ?_; refine mv_i ?_; refine idxzst t34 (by assumption) (by omega) (by omega) ?_; refine fae_i st63 (by assumption) (by omega) (by omega) ?_; refine ldto dst st63 (by assumption) (by omega) ?_)
    rw [hz]
    refine ok_i (bs23_1 _ _) ?_
    have o0 := (Owns.start (fun _ => []) oneE (List.prefix_refl g2)).add 0 [.int .i64 f] 1 rfl
    have l0 : LS (upN (fun _ => none) 0 (some g2.length)) (upN (fun _ => []) 0 [Value.int .i64 f]) 0 (.slice (some ⟨g2.length, 0, none⟩) 1 2) ([f].map (.int .i64)) := by
      have := LS.whole (N := upN (fun _ => none) 0 (some g2.length)) (C := upN (fun _ => []) 0 [Value.int .i64 f]) (c := 2) (l := 0) (k := 1) (upN_self _ _ _) (by rw [upN_self]; rfl)
      rw [upN_self] at this
      exact this
    generalize upN (fun _ => []) 0 [Value.int .i64 f] = C0 at o0 l0
    generalize upN (fun _ => none) 0 (some g2.length) = N0 at o0 l0
    generalize (Value.slice (some ⟨g2.length, 0, none⟩) 1 2) = ov at l0 ⊢
    generalize newArr g2 [.int .i64 f] 1 = g3 at o0 ⊢
    with_reducible (refine mv_i ?_; refine mv_i ?_)
    refine loop2 m.states.toNat (fun i v h2 => ∃ N C, ∃ q : List Int, Owns g2 h2 N C oneE ∧ LS N C 0 v (q.map (.int .i64)) ∧ q.Nodup ∧ (∀ x ∈ q, 0 ≤ x ∧ x < m.states ∧ Rch m.steps f x) ∧ f ∈ q ∧ i ≤ q.length ∧ q.length ≤ m.states.toNat ∧ ∀ j, j < i → ∀ k, k < m.steps.length → (m.steps.getD k dst).fr = q.getD j 0 → (m.steps.getD k dst).to ∈ q)
      ⟨N0, C0, [f], o0, l0, by simp, fun x hx => by rw [List.mem_singleton] at hx; subst hx; exact ⟨f0, f1, .refl⟩, by simp, Nat.zero_le _, by simp; omega, fun j hj => by omega⟩ ?_
    rintro i v h3 _ hi ⟨N, C, q, o1, l1, nd, hq, hfq, hiq, hql, dn⟩
    have si := l1.ints o1 rfl (by omega)
    with_reducible (refine mv_i ?_; refine mv_i ?_; refine leni_i t23 (by assumption) ?_)
    refine lss_i (fun hlt => ?_) (fun hge => ?_)
    · have hiq2 : i < q.length := by omega
      obtain ⟨x0, x1, xr⟩ := hq _ (gd_mem 0 hiq2)
      generalize hx : q.getD i 0 = x at x0 x1 xr
      with_reducible (refine cnd_t ?_; refine mv_i ?_)
      refine loop2 m.steps.length (fun n v h2 => ∃ N C, ∃ q : List Int, Owns g2 h2 N C oneE ∧ LS N C 0 v (q.map (.int .i64)) ∧ q.Nodup ∧ (∀ x ∈ q, 0 ≤ x ∧ x < m.states ∧ Rch m.steps f x) ∧ f ∈ q ∧ i < q.length ∧ q.length ≤ m.states.toNat ∧ q.getD i 0 = x ∧ (∀ j, j < i → ∀ k, k < m.steps.length → (m.steps.getD k dst).fr = q.getD j 0 → (m.steps.getD k dst).to ∈ q) ∧ ∀ k, k < n → (m.steps.getD k dst).fr = x → (m.steps.getD k dst).to ∈ q)
        ⟨N, C, q, o1, l1, nd, hq, hfq, hiq2, hql, hx, dn, fun k hk => by omega⟩ ?_
      clear si dn hx hiq2 hlt hql hiq hfq hq nd l1 o1
      rintro n v h4 _ hn ⟨N, C, q, o1, l1, nd, hq, hfq, hiq, hql, hx, dn, dx⟩
      have si := l1.ints o1 rfl (by omega)
      have hb4 := o1.sub.2 _ _ hb2
      have ss4 := ss2.mono o1.sub
      with_reducible (refine mv_i ?_; refine vk_i (fa36_4 _) ?_; refine ld5_4 r34 (by assumption) ?_; refine lenst t34 (by assumption) ?_)
      refine lss_i (fun hltn => ?_) (fun hge => ?_)
      · have hnl : n < m.steps.length := by omega
        have hst := r.st hnl
        refine cnd_t ?_
        refine seq_J (fun xs h5 => ∃ v, xs = [v] ∧ upI2 (fun n v h2 => ∃ N C, ∃ q : List Int, Owns g2 h2 N C oneE ∧ LS N C 0 v (q.map (.int .i64)) ∧ q.Nodup ∧ (∀ x ∈ q, 0 ≤ x ∧ x < m.states ∧ Rch m.steps f x) ∧ f ∈ q ∧ i < q.length ∧ q.length ≤ m.states.toNat ∧ q.getD i 0 = x ∧ (∀ j, j < i → ∀ k, k < m.steps.length → (m.steps.getD k dst).fr = q.getD j 0 → (m.steps.getD k dst).to ∈ q) ∧ ∀ k, k < n → (m.steps.getD k dst).fr = x → (m.steps.getD k dst).to ∈ q) m.steps.length [v, .int .i64 ((n + 1 : Nat) : Int)] h5) ?_ ?_
        · rintro _ h5 ⟨v, rfl, hv⟩ _
          show mvK _ h5 _
          with_reducible (refine mv_i ?_; refine inc_i (by omega) ?_; refine mv_i ?_)
          exact ⟨hv, by simp only [upμ]; omega⟩
        intro k' hk'
        have hsame : ¬ ((m.steps.getD n dst).fr = x ∧ ¬ (m.steps.getD n dst).to ∈ q) → k' [v] h4 := by
          intro hno
          refine hk' _ _ ⟨v, rfl, n + 1, v, rfl, hnl, N, C, q, o1, l1, nd, hq, hfq, hiq, hql, hx, dn, fun k hk hf => ?_⟩
          by_cases e : k = n
          · subst e
            exact Classical.byContradiction fun hc => hno ⟨hf, hc⟩
          · exact dx k (by omega) hf
        with_reducible (refine vk_i (fa36_4 _) ?_; refine ld5_4 r34 (by assumption) ?_; refine ⟨VB_of_steps (by assumption), ?_⟩; refine mv_i ?_; refine idxst t34 (by assumption) (by omega) ?_; refine fae_i st63 (by assumption) (by omega) (by omega) ?_; refine ldfr dst st63 (by assumption) (by omega) ?_; refine ⟨vbi _ _, ?_⟩; refine mv_i ?_; refine mv_i ?_; refine idxi_i t23 (by assumption) (by omega) ?_; refine ldi_i t23 r3 (by assumption) (by omega) ?_; refine ⟨vbi _ _, ?_⟩)
        rw [hx]
        refine eql_i (fun heq => ?_) (fun hne => ?_)
        · with_reducible (refine mv_i ?_; refine gd_tt ?_; refine mv_i ?_; refine gd_tt ?_; refine vk_i (fa36_4 _) ?_; refine gd_tt ?_; refine ld5_4 r34 (by assumption) ?_; refine ⟨VB_of_steps (by assumption), ?_⟩; refine gd_tt ?_; refine mv_i ?_; refine gd_tt ?_; refine idxst t34 (by assumption) (by omega) ?_; refine gd_tt ?_; refine fae_i st63 (by assumption) (by omega) (by omega) ?_; refine gd_tt ?_; refine ldto dst st63 (by assumption) (by omega) ?_; refine ⟨vbi _ _, ?_⟩; refine gd_tt ?_)
          refine calld_r (c47 si) ⟨⟨[], by simp⟩, ?_⟩
          by_cases hin : (m.steps.getD n dst).to ∈ q
          · rw [decide_eq_true hin]
            with_reducible (refine gd_tt ?_; refine not_t ?_; refine pick_t ?_; refine cnd_f ?_)
            exact hsame fun hc => hc.2 hin
          · rw [decide_eq_false hin]
            have hlen : q.length + 1 ≤ m.states.toNat := by
              have := nodup_sub (q ++ [(m.steps.getD n dst).to]) ((List.range m.states.toNat).map fun s : Nat => (s : Int)) (List.nodup_append.mpr ⟨nd, by simp, fun a ha b hb => by rw [List.mem_singleton] at hb; subst hb; rintro rfl; exact hin ha⟩) fun y hy => by
                have hy2 : 0 ≤ y ∧ y < m.states := by
                  rcases List.mem_append.mp hy with hy | hy
                  · exact ⟨(hq y hy).1, (hq y hy).2.1⟩
                  · rw [List.mem_singleton] at hy; subst hy; exact ⟨hst.2.2.1, hst.2.2.2.1⟩
                exact List.mem_map.mpr ⟨y.toNat, List.mem_range.mpr (by omega), Int.toNat_of_nonneg hy2.1⟩
              simpa using this
            with_reducible (refine gd_tt ?_; refine not_f ?_; refine pick_t ?_; refine cnd_t ?_; refine mv_i ?_; refine vk_i (fa36_4 _) ?_; refine ld5_4 r34 (by assumption) ?_; refine mv_i ?_; refine idxst t34 (by assumption) (by omega) ?_; refine fae_i st63 (by assumption) (by omega) (by omega) ?_; refine ldto dst st63 (by assumption) (by omega) ?_)
            refine ok_i (bs23_1 _ _) ?_
            have o2 := o1.ext (pre_new h4 [.int .i64 (m.steps.getD n dst).to] 1)
            refine lapp t23 o2 l1 rfl (Seg.new (n := 1) 2 (by simp) (by omega)) (by simp [Value.oneCell']) (by omega) (by rw [List.length_map]; omega) fun h6 v6 o3 l3 _ _ _ => ?_
            with_reducible (refine mv_i ?_)
            have hxr : Rch m.steps f (m.steps.getD n dst).to := .step (by rw [heq, ← hx]; exact (hq _ (gd_mem 0 hiq)).2.2) hnl
            refine hk' _ _ ⟨v6, rfl, n + 1, v6, rfl, hnl, _, _, q ++ [(m.steps.getD n dst).to], o3, by simpa using l3, List.nodup_append.mpr ⟨nd, by simp, fun a ha b hb => by rw [List.mem_singleton] at hb; subst hb; rintro rfl; exact hin ha⟩, fun y hy => ?_, by simp [hfq], by simp; omega, by simpa using hlen, ?_, fun j hj k hk hf => ?_, fun k hk hf => ?_⟩
            · rcases List.mem_append.mp hy with hy | hy
              · exact hq y hy
              · rw [List.mem_singleton] at hy; subst hy; exact ⟨hst.2.2.1, hst.2.2.2.1, hxr⟩
            · rw [gd_app hiq]; exact hx
            · rw [gd_app (by omega)] at hf
              exact List.mem_append_left _ (dn j hj k hk hf)
            · by_cases e : k = n
              · subst e; simp
              · exact List.mem_append_left _ (dx k (by omega) hf)
        · with_reducible (refine mv_i ?_; refine gd_ft ?_; refine gd_ft ?_; refine gd_ft ?_; refine gd_ft ?_; refine gd_ft ?_; refine gd_ft ?_; refine gd_ft ?_; refine gd_ft ?_; refine gd_ft ?_; refine pick_f ?_; refine cnd_f ?_)
          exact hsame fun hc => hne hc.1
      · have en : n = m.steps.length := by omega
        subst en
        with_reducible (refine cnd_f ?_; refine mv_i ?_; refine inc_i (by omega) ?_; refine mv_i ?_)
        refine next2 (by omega) ⟨N, C, q, o1, l1, nd, hq, hfq, by omega, hql, fun j hj k hk hf => ?_⟩
        by_cases e : j = i
        · subst e; rw [hx] at hf; exact dx k hk hf
        · exact dn j (by omega) k hk hf
    · have ei : i = q.length := by omega
      have hcl : ∀ z : Int, z ∈ q ↔ Rch m.steps f z := by
        intro z
        refine ⟨fun hz => (hq z hz).2.2, fun hR => ?_⟩
        refine Rch.closed (Q := fun z => z ∈ q) hfq (fun k hk hz => ?_) hR
        obtain ⟨j, hj, he⟩ := mem_gd 0 hz
        exact dn j (by omega) k hk he.symm
      have p3 := o1.pre
      have hb3 := o1.sub.2 _ _ hb2
      have ss3 := ss2.mono o1.sub
      clear dn l1 o1
      have hlv : leav m (rchB m f) = idxs (fun k => decide ((m.steps.getD k dst).fr ∈ q)) m.steps.length := by
        unfold leav
        refine idxs_congr fun k hk => ?_
        have hst := r.st hk
        rw [rchB_at (by omega), Int.toNat_of_nonneg hst.1]
        exact decide_eq_decide.mpr (hcl _).symm
      rw [hlv]
      with_reducible (refine cnd_f ?_; refine mv_i ?_; refine mv_i ?_)
      refine loop2 m.steps.length (fun k v h2 => Own 1 h3 h2 v (idxs (fun k => decide ((m.steps.getD k dst).fr ∈ q)) k).length ((idxs (fun k => decide ((m.steps.getD k dst).fr ∈ q)) k).map (.int .i64))) (Own.nil 1 (List.prefix_refl _)) ?_
      rintro k w h4 _ hk ow
      have hb4 := (Sub.of_pre ow.pre).2 _ _ hb3
      have ss4 := ss3.mono (Sub.of_pre ow.pre)
      have si4 := si.mono (Sub.of_pre ow.pre)
      have hll := idxs_len (fun k => decide ((m.steps.getD k dst).fr ∈ q)) k
      have hsc := idxs_succ (fun k => decide ((m.steps.getD k dst).fr ∈ q)) k
      with_reducible (refine mv_i ?_; refine vk_i (fa36_4 _) ?_; refine ld5_4 r34 (by assumption) ?_; refine lenst t34 (by assumption) ?_)
      refine lss_i (fun hlt => ?_) (fun hge => ?_)
      · have hk2 : k < m.steps.length := by omega
        refine cnd_t ?_
        refine seq_J (fun xs h4 => ∃ v, xs = [v] ∧ Own 1 h3 h4 v (idxs (fun k => decide ((m.steps.getD k dst).fr ∈ q)) (k + 1)).length ((idxs (fun k => decide ((m.steps.getD k dst).fr ∈ q)) (k + 1)).map (.int .i64))) ?_ ?_
        · rintro _ h4 ⟨v, rfl, ow⟩ _
          show mvK _ h4 _
          with_reducible (refine mv_i ?_; refine inc_i (by omega) ?_; refine mv_i ?_)
          exact next2 hk2 ow
        intro k' hk'
        with_reducible (refine mv_i ?_; refine vk_i (fa36_4 _) ?_; refine ld5_4 r34 (by assumption) ?_; refine mv_i ?_; refine idxst t34 (by assumption) (by omega) ?_; refine fae_i st63 (by assumption) (by omega) (by omega) ?_; refine ldfr dst st63 (by assumption) (by omega) ?_)
        refine call_r (c47 si4) ?_
        by_cases hb : (m.steps.getD k dst).fr ∈ q
        · rw [decide_eq_true hb]
          rw [if_pos (decide_eq_true hb)] at hsc
          with_reducible (refine cnd_t ?_; refine mv_i ?_; refine mv_i ?_)
          refine ok_i (bs23_1 _ _) ?_
          obtain ⟨o4, _⟩ := ow.ext (pre_new h4 [.int .i64 (k : Int)] 1)
          refine app_i t23 o4 (Seg.new (n := 1) 2 (by simp) (by omega)) (by simp [Value.oneCell']) (by omega) ⟨by omega, by omega⟩ fun v' h' o5 _ => ?_
          with_reducible (refine mv_i ?_)
          exact hk' _ _ ⟨v', rfl, by rw [hsc]; simpa using o5⟩
        · rw [decide_eq_false hb]
          rw [if_neg (by rw [decide_eq_false hb]; simp)] at hsc
          with_reducible (refine cnd_f ?_)
          exact hk' _ _ ⟨w, rfl, by rw [hsc]; exact ow⟩
      · have ek : k = m.steps.length := by omega
        subst ek
        with_reducible (refine cnd_f ?_; refine mv_i ?_; refine mv_i ?_; refine ret1 ?_)
        exact ⟨p1.trans (p2.trans (p3.trans ow.pre)), Only.from (p1.trans (p2.trans p3)) ow.only⟩
end Go.Proofs.Ytdjoednhfoligaa

set_option linter.unusedSimpArgs false
set_option linter.unusedVariables false
set_option maxRecDepth 100000
namespace Go.Proofs.Ytdjoednhfoligaa
open Go.AM
variable {h h' h0 h1 : Heap} {K : Value → Heap → Prop} {m : Mac}

theorem lennil {t e by_ : Nat} (ht : sliceT Try.prog t e 1 by_ = true) (hk : K (.int .i64 0) h) : vK (aLen Try.prog t (.slice none 0 0)) h K := leni_i (h1 := h) (xs := []) ht (Seg.nil _ _) hk
theorem c4 {a : Value} {step : Int} (s : MacV h a m) (hl : m.steps.length ≤ 2 ^ 40) : Runs Try.prog 4 [a, .int .i64 step] h (.bool true) h := by
  refine DetP.forget rfl ?_
  refine w4 ?_
  unfold n4
  obtain ⟨o, l, c, rfl, ss0⟩ := s
  rw [box36]
  refine ok_i rfl ?_
  have p1 := pre_new h [.int .i64 m.states, .int .i64 m.inputs, .int .i64 m.outputs, .int .i64 m.start, .slice o l c] 5
  have hb1 := newArr_get h [.int .i64 m.states, .int .i64 m.inputs, .int .i64 m.outputs, .int .i64 m.start, .slice o l c] 5
  have ss := ss0.mono (Sub.of_pre p1)
  generalize hg1 : newArr h [.int .i64 m.states, .int .i64 m.inputs, .int .i64 m.outputs, .int .i64 m.start, .slice o l c] 5 = g1 at p1 hb1 ss ⊢
  have mv1 : MacV g1 (.agg #[.int .i64 m.states, .int .i64 m.inputs, .int .i64 m.outputs, .int .i64 m.start, .slice o l c]) m := macv_of ss
  with_reducible (refine mv_i ?_)
  refine call_r c14 ?_
  with_reducible (refine not_t ?_; refine cnd_f ?_)
  refine vk_i (ld36 hb1) ?_
  refine call_i (c16 mv1 hl) ?_
  rintro x g2 ⟨p2, mx⟩
  have hb2 := (Sub.of_pre p2).2 _ _ hb1
  have ss2 := ss.mono (Sub.of_pre p2)
  with_reducible (refine mv_i ?_)
  refine call_i (c21 mx) ?_
  rintro y g3 ⟨p3, hy⟩
  have hb3 := (Sub.of_pre p3).2 _ _ hb2
  have ss3 := ss2.mono (Sub.of_pre p3)
  by_cases hz : stepE m step = 0
  · have hed : (mErr m).2 = 0 ∧ inR step 0 (pm m.steps.length) = true := by
      unfold stepE at hz
      rw [or2] at hz
      split at hz
      · rename_i h1
        split at hz
        · rename_i h2; exact ⟨h1, h2⟩
        · cases hz
      · exact absurd hz (by assumption)
    obtain ⟨he1, he2⟩ := hed
    have r := right_of he1
    obtain ⟨b1, b2, b3, b4, b5, b6⟩ := r.bounds
    have hfew := r.few
    have hsl : m.steps.length ≤ 320 := by
      have : m.states * m.inputs ≤ 40 * 8 := Int.mul_le_mul b2 b4 (by omega) (by omega)
      omega
    obtain ⟨hs0, hs1⟩ := inR_idx (by omega) (by omega) he2
    rw [if_neg (by simp [hz])] at hy
    obtain ⟨z, rfl, qz⟩ := hy
    have sz := qz.self
    with_reducible (refine mv_i ?_; refine ex2_0 ?_; refine ex2_1 ?_; refine mv_i ?_; refine mv_i ?_)
    refine vk_i (ld36 hb3) ?_
    refine call_r (c18 (macv_of ss3)) ?_
    rw [he1]
    with_reducible (refine mv_i ?_)
    refine seq_J (fun xs h4 => xs = [.int .i64 0] ∧ h4 = g3) ?_ ?_
    · rintro _ _ ⟨rfl, rfl⟩ _
      show mvK _ _ _
      with_reducible (refine mv_i ?_)
      refine neq_i (fun _ => ?_) (fun hc => absurd rfl hc)
      with_reducible (refine cnd_f ?_; refine mv_i ?_)
      refine eql_i (fun _ => ?_) (fun hc => absurd rfl hc)
      with_reducible (refine mv_i ?_; refine gd_tt ?_; refine mv_i ?_; refine gd_tt ?_)
      refine vk_i (ld36 hb3) ?_
      with_reducible (refine gd_tt ?_; refine mv_i ?_; refine gd_tt ?_)
      refine call_i (c24 (macv_of ss3) r hs0 hs1) ?_
      rintro w g4 ⟨p4, q4⟩
      with_reducible (refine gd_tt ?_)
      refine call_r (c23 (sz.mono (Sub.of_pre p4)) q4.self) ?_
      rw [decide_eq_true rfl]
      with_reducible (refine pick_t ?_; refine mv_i ?_; refine ret1 ?_)
      exact ⟨rfl, p1.trans (p2.trans (p3.trans p4))⟩
    intro k' hk'
    with_reducible (refine mv_i ?_)
    refine eql_i (fun _ => ?_) (fun hc => absurd rfl hc)
    with_reducible (refine mv_i ?_; refine gd_tt ?_; refine mv_i ?_; refine gd_tt ?_; refine vk_i (fa36_4 _) ?_; refine gd_tt ?_; refine ld5_4 r34 (by assumption) ?_; refine gd_tt ?_; refine lenst t34 (by assumption) ?_; refine gd_tt ?_)
    refine subw_i ?_
    with_reducible (refine gd_tt ?_)
    refine call_r (c22 _ _ _) ?_
    rw [he2]
    with_reducible (refine gd_tt ?_; refine not_t ?_; refine pick_t ?_; refine cnd_f ?_)
    exact hk' _ _ ⟨rfl, rfl⟩
  · rw [if_pos hz] at hy
    subst hy
    have hsE : stepE m step = if (mErr m).2 = 0 then (if inR step 0 (pm m.steps.length) then 0 else 3) else (mErr m).2 := by unfold stepE; rw [or2]
    with_reducible (refine mv_i ?_; refine ex2_0 ?_; refine ex2_1 ?_; refine mv_i ?_; refine mv_i ?_)
    refine vk_i (ld36 hb3) ?_
    refine call_r (c18 (macv_of ss3)) ?_
    with_reducible (refine mv_i ?_)
    refine seq_J (fun xs h4 => xs = [.int .i64 (stepE m step)] ∧ h4 = g3) ?_ ?_
    · rintro _ _ ⟨rfl, rfl⟩ _
      show mvK _ _ _
      with_reducible (refine mv_i ?_)
      refine neq_i (fun hc => absurd hc hz) (fun _ => ?_)
      with_reducible (refine cnd_t ?_; refine mv_i ?_; refine mv_i ?_)
      refine eql_i (fun _ => ?_) (fun hc => absurd rfl hc)
      with_reducible (refine mv_i ?_; refine gd_tt ?_; refine mv_i ?_; refine gd_tt ?_)
      refine lennil t23 ?_
      with_reducible (refine gd_tt ?_)
      refine eql_i (fun _ => ?_) (fun hc => absurd rfl hc)
      with_reducible (refine pick_t ?_; refine mv_i ?_; refine ret1 ?_)
      exact ⟨rfl, p1.trans (p2.trans p3)⟩
    intro k' hk'
    with_reducible (refine mv_i ?_)
    refine eql_i (fun he1 => ?_) (fun he1 => ?_)
    · rw [if_pos he1] at hsE
      with_reducible (refine mv_i ?_; refine gd_tt ?_; refine mv_i ?_; refine gd_tt ?_; refine vk_i (fa36_4 _) ?_; refine gd_tt ?_; refine ld5_4 r34 (by assumption) ?_; refine gd_tt ?_; refine lenst t34 (by assumption) ?_; refine gd_tt ?_)
      refine subw_i ?_
      with_reducible (refine gd_tt ?_)
      refine call_r (c22 _ _ _) ?_
      cases he2 : inR step 0 (pm m.steps.length) with
      | true => rw [he2, if_pos rfl] at hsE; exact absurd hsE hz
      | false =>
        rw [he2, if_neg (by simp)] at hsE
        with_reducible (refine gd_tt ?_; refine not_f ?_; refine pick_t ?_; refine cnd_t ?_; refine mv_i ?_)
        refine hk' _ _ ⟨by rw [hsE], rfl⟩
    · rw [if_neg he1] at hsE
      with_reducible (refine mv_i ?_; refine gd_ft ?_; refine gd_ft ?_; refine gd_ft ?_; refine gd_ft ?_; refine gd_ft ?_; refine gd_ft ?_; refine gd_ft ?_; refine pick_f ?_; refine cnd_f ?_)
      refine hk' _ _ ⟨by rw [hsE], rfl⟩
theorem marked_steps : markedL ((List.range m.steps.length).map fun k => (rchB m m.start).getD (m.steps.getD k dst).fr.toNat false) = leav m (rchB m m.start) := by
  unfold markedL leav
  rw [List.length_map, List.length_range]
  refine idxs_congr fun k hk => ?_
  simp [List.getD, hk]
theorem c5 {a b : Value} {ws : List (List Int)} (s : MacV h a m) (sw : RowsS h b ws) (hl : m.steps.length ≤ 2 ^ 40) (hf : Few ws) : Runs Try.prog 5 [a, b] h (.bool true) h := by
  have ltw := sw.lt
  refine DetP.forget rfl ?_
  refine w5 ?_
  unfold n5
  obtain ⟨o, l, c, rfl, ss0⟩ := s
  rw [box36]
  refine ok_i rfl ?_
  have p1 := pre_new h [.int .i64 m.states, .int .i64 m.inputs, .int .i64 m.outputs, .int .i64 m.start, .slice o l c] 5
  have hb1 := newArr_get h [.int .i64 m.states, .int .i64 m.inputs, .int .i64 m.outputs, .int .i64 m.start, .slice o l c] 5
  have ss := ss0.mono (Sub.of_pre p1)
  generalize hg1 : newArr h [.int .i64 m.states, .int .i64 m.inputs, .int .i64 m.outputs, .int .i64 m.start, .slice o l c] 5 = g1 at p1 hb1 ss ⊢
  have mv1 : MacV g1 (.agg #[.int .i64 m.states, .int .i64 m.inputs, .int .i64 m.outputs, .int .i64 m.start, .slice o l c]) m := macv_of ss
  have sw1 := sw.mono (Sub.of_pre p1)
  with_reducible (refine mv_i ?_)
  refine call_r c14 ?_
  with_reducible (refine not_t ?_; refine cnd_f ?_; refine mv_i ?_)
  refine loop1 ws.length (fun k h2 => g1 = h2) rfl ?_
  rintro k _ _ hk rfl
  with_reducible (refine mv_i ?_; refine mv_i ?_; refine lenr_i t22 (by assumption) ?_)
  refine lss_i (fun hlt => ?_) (fun hge => ?_)
  · have hkl : k < ws.length := by omega
    have nx : upI (fun k h2 => g1 = h2) ws.length [.int .i64 ((k + 1 : Nat) : Int)] g1 ∧ upμ ws.length [.int .i64 ((k + 1 : Nat) : Int)] g1 < upμ ws.length [.int .i64 (k : Int)] g1 := next1 hkl rfl
    have fin : Value.bool true = Value.bool true ∧ h <+: g1 := ⟨rfl, p1⟩
    with_reducible (refine cnd_t ?_; refine mv_i ?_; refine lenr_i t22 (by assumption) ?_)
    refine gtr_i (fun h1 => ?_) (fun h1 => ?_)
    · with_reducible (refine mv_i ?_; refine gd_tt ?_; refine mv_i ?_; refine gd_tt ?_; refine lenr_i t22 (by assumption) ?_; refine gd_tt ?_)
      refine leq_i (fun h2 => ?_) (fun h2 => ?_)
      · with_reducible (refine pick_t ?_; refine mv_i ?_; refine gd_tf ?_; refine gd_tf ?_; refine gd_tf ?_; refine gd_tf ?_; refine gd_tf ?_; refine gd_tf ?_; refine gd_tf ?_; refine gd_u ?_; refine gd_u ?_; refine gd_u ?_; refine gd_u ?_; refine gd_u ?_; refine gd_u ?_; refine gd_tf ?_; refine pick_t ?_; refine cnd_t ?_; refine mv_i ?_; refine ret1 ?_)
        exact fin
      · with_reducible (refine pick_t ?_; refine mv_i ?_; refine gd_ff ?_; refine mv_i ?_; refine gd_ff ?_; refine mv_i ?_; refine gd_ff ?_; refine idxr_i t22 (by assumption) (by omega) ?_; refine gd_ff ?_)
        refine ldr_i t22 r23 sw1 (by omega) fun row srow => ?_
        with_reducible (refine gd_ff ?_; refine leni_i t23 (by assumption) ?_; refine gd_ff ?_)
        refine gtr_i (fun h3 => ?_) (fun h3 => ?_)
        · with_reducible (refine gd_ff ?_; refine mv_i ?_; refine gd_tt ?_; refine mv_i ?_; refine gd_tt ?_; refine mv_i ?_; refine gd_tt ?_; refine idxr_i t22 (by assumption) (by omega) ?_; refine gd_tt ?_)
          refine ldr_i t22 r23 sw1 (by omega) fun row srow => ?_
          with_reducible (refine gd_tt ?_; refine leni_i t23 (by assumption) ?_; refine gd_tt ?_)
          refine leq_i (fun h4 => ?_) (fun h4 => ?_) <;> (with_reducible repeat first|refine mv_i ?_|refine cnd_t ?_|refine cnd_f ?_|refine gd_tt ?_|refine gd_ff ?_|refine gd_tf ?_|refine gd_ft ?_|refine gd_u ?_|refine pick_t ?_|refine pick_f ?_|refine not_t ?_|refine not_f ?_|refine nil_i ?_|refine ret1 ?_|refine ret2 ?_|refine ret0 ?_|refine ret3 ?_|refine ex2_0 ?_|refine ex2_1 ?_|refine ex3_0 ?_|refine ex3_1 ?_|refine ex3_2 ?_|refine vk_i (fa36_0 _) ?_|refine vk_i (fa36_1 _) ?_|refine vk_i (fa36_2 _) ?_|refine vk_i (fa36_3 _) ?_|refine vk_i (fa36_4 _) ?_|refine vk_i (fa63_0 _) ?_|refine vk_i (fa63_1 _) ?_|refine vk_i (fa63_2 _) ?_|refine vk_i (fa63_3 _) ?_|refine ld4_0 r3 (by assumption) ?_|refine ld4_1 r3 (by assumption) ?_|refine ld4_2 r3 (by assumption) ?_|refine ld4_3 r3 (by assumption) ?_|refine ld5_0 r3 (by assumption) ?_|refine ld5_1 r3 (by assumption) ?_|refine ld5_2 r3 (by assumption) ?_|refine ld5_3 r3 (by assumption) ?_|refine ld5_4 r34 (by assumption) ?_|refine fae_i st63 (by assumption) (by omega) (by omega) ?_|refine ⟨vbi _ _, ?_⟩|refine leni_i t23 (by assumption) ?_|refine lenr_i t22 (by assumption) ?_|refine lenb_i t48 (by assumption) ?_|refine lenst t34 (by assumption) ?_|refine idxi_i t23 (by assumption) (by omega) ?_|refine idxr_i t22 (by assumption) (by omega) ?_|refine idxb_i t48 (by assumption) (by omega) ?_|refine idxst t34 (by assumption) (by omega) ?_|refine ldi_i t23 r3 (by assumption) (by omega) ?_|refine ldb_i t48 r4 (by assumption) (by omega) ?_|refine idxzi t23 (by assumption) (by omega) (by omega) ?_|refine idxzr t22 (by assumption) (by omega) (by omega) ?_|refine idxzb t48 (by assumption) (by omega) (by omega) ?_|refine idxzst t34 (by assumption) (by omega) (by omega) ?_|refine inc_i (by omega) ?_|refine ldfr dst st63 (by assumption) (by omega) ?_|refine ldinp dst st63 (by assumption) (by omega) ?_|refine ldout dst st63 (by assumption) (by omega) ?_|refine ldto dst st63 (by assumption) (by omega) ?_|refine ⟨vbb _ _, ?_⟩|refine ⟨trivial, ?_⟩|refine ⟨⟨[], (List.append_nil _).symm⟩, ?_⟩|refine vk_i (fa92_0 _) ?_|refine vk_i (fa92_1 _) ?_|refine vk_i (fa92_2 _) ?_|refine ldgr r3 (by assumption) rfl ?_|refine ldgr r45 (by assumption) rfl ?_|refine ldgr r34 (by assumption) rfl ?_|refine ⟨VB_of_seg (by assumption), ?_⟩|refine ⟨VB_of_ints (by assumption), ?_⟩|refine ⟨VB_of_rows (by assumption), ?_⟩|refine ⟨VB_of_steps (by assumption), ?_⟩) <;> first | exact fin | exact nx
        · with_reducible (refine gd_ff ?_; refine mv_i ?_; refine gd_ft ?_; refine gd_ft ?_; refine gd_ft ?_; refine gd_ft ?_; refine gd_ft ?_; refine gd_ft ?_; refine gd_ff ?_; refine pick_f ?_; refine pick_f ?_; refine cnd_f ?_; refine mv_i ?_; refine inc_i (by omega) ?_; refine mv_i ?_)
          exact nx
    · with_reducible (refine mv_i ?_; refine gd_ft ?_; refine gd_ft ?_; refine gd_ft ?_; refine pick_f ?_; refine mv_i ?_; refine gd_ff ?_; refine mv_i ?_; refine gd_ff ?_; refine mv_i ?_; refine gd_ff ?_; refine idxr_i t22 (by assumption) (by omega) ?_; refine gd_ff ?_)
      refine ldr_i t22 r23 sw1 (by omega) fun row srow => ?_
      with_reducible (refine gd_ff ?_; refine leni_i t23 (by assumption) ?_; refine gd_ff ?_)
      refine gtr_i (fun h3 => ?_) (fun h3 => ?_)
      · with_reducible (refine gd_ff ?_; refine mv_i ?_; refine gd_tt ?_; refine mv_i ?_; refine gd_tt ?_; refine mv_i ?_; refine gd_tt ?_; refine idxr_i t22 (by assumption) (by omega) ?_; refine gd_tt ?_)
        refine ldr_i t22 r23 sw1 (by omega) fun row srow => ?_
        with_reducible (refine gd_tt ?_; refine leni_i t23 (by assumption) ?_; refine gd_tt ?_)
        refine leq_i (fun h4 => ?_) (fun h4 => ?_) <;> (with_reducible repeat first|refine mv_i ?_|refine cnd_t ?_|refine cnd_f ?_|refine gd_tt ?_|refine gd_ff ?_|refine gd_tf ?_|refine gd_ft ?_|refine gd_u ?_|refine pick_t ?_|refine pick_f ?_|refine not_t ?_|refine not_f ?_|refine nil_i ?_|refine ret1 ?_|refine ret2 ?_|refine ret0 ?_|refine ret3 ?_|refine ex2_0 ?_|refine ex2_1 ?_|refine ex3_0 ?_|refine ex3_1 ?_|refine ex3_2 ?_|refine vk_i (fa36_0 _) ?_|refine vk_i (fa36_1 _) ?_|refine vk_i (fa36_2 _) ?_|refine vk_i (fa36_3 _) ?_|refine vk_i (fa36_4 _) ?_|refine vk_i (fa63_0 _) ?_|refine vk_i (fa63_1 _) ?_|refine vk_i (fa63_2 _) ?_|refine vk_i (fa63_3 _) ?_|refine ld4_0 r3 (by assumption) ?_|refine ld4_1 r3 (by assumption) ?_|refine ld4_2 r3 (by assumption) ?_|refine ld4_3 r3 (by assumption) ?_|refine ld5_0 r3 (by assumption) ?_|refine ld5_1 r3 (by assumption) ?_|refine ld5_2 r3 (by assumption) ?_|refine ld5_3 r3 (by assumption) ?_|refine ld5_4 r34 (by assumption) ?_|refine fae_i st63 (by assumption) (by omega) (by omega) ?_|refine ⟨vbi _ _, ?_⟩|refine leni_i t23 (by assumption) ?_|refine lenr_i t22 (by assumption) ?_|refine lenb_i t48 (by assumption) ?_|refine lenst t34 (by assumption) ?_|refine idxi_i t23 (by assumption) (by omega) ?_|refine idxr_i t22 (by assumption) (by omega) ?_|refine idxb_i t48 (by assumption) (by omega) ?_|refine idxst t34 (by assumption) (by omega) ?_|refine ldi_i t23 r3 (by assumption) (by omega) ?_|refine ldb_i t48 r4 (by assumption) (by omega) ?_|refine idxzi t23 (by assumption) (by omega) (by omega) ?_|refine idxzr t22 (by assumption) (by omega) (by omega) ?_|refine idxzb t48 (by assumption) (by omega) (by omega) ?_|refine idxzst t34 (by assumption) (by omega) (by omega) ?_|refine inc_i (by omega) ?_|refine ldfr dst st63 (by assumption) (by omega) ?_|refine ldinp dst st63 (by assumption) (by omega) ?_|refine ldout dst st63 (by assumption) (by omega) ?_|refine ldto dst st63 (by assumption) (by omega) ?_|refine ⟨vbb _ _, ?_⟩|refine ⟨trivial, ?_⟩|refine ⟨⟨[], (List.append_nil _).symm⟩, ?_⟩|refine vk_i (fa92_0 _) ?_|refine vk_i (fa92_1 _) ?_|refine vk_i (fa92_2 _) ?_|refine ldgr r3 (by assumption) rfl ?_|refine ldgr r45 (by assumption) rfl ?_|refine ldgr r34 (by assumption) rfl ?_|refine ⟨VB_of_seg (by assumption), ?_⟩|refine ⟨VB_of_ints (by assumption), ?_⟩|refine ⟨VB_of_rows (by assumption), ?_⟩|refine ⟨VB_of_steps (by assumption), ?_⟩) <;> first | exact fin | exact nx
      · with_reducible (refine gd_ff ?_; refine mv_i ?_; refine gd_ft ?_; refine gd_ft ?_; refine gd_ft ?_; refine gd_ft ?_; refine gd_ft ?_; refine gd_ft ?_; refine gd_ff ?_; refine pick_f ?_; refine pick_f ?_; refine cnd_f ?_; refine mv_i ?_; refine inc_i (by omega) ?_; refine mv_i ?_)
        exact nx
  · with_reducible (refine cnd_f ?_)
    refine vk_i (ld36 hb1) ?_
    refine call_r (c18 mv1) ?_
    with_reducible (refine mv_i ?_)
    refine vk_i (ld36 hb1) ?_
    refine call_i (c16 mv1 hl) ?_
    rintro x g2 ⟨p2, mx⟩
    refine call_i (c25 mx) ?_
    rintro y g3 ⟨p3, hy⟩
    have hb3 := (Sub.of_pre (p2.trans p3)).2 _ _ hb1
    have ss3 := ss.mono (Sub.of_pre (p2.trans p3))
    have sw3 := sw1.mono (Sub.of_pre (p2.trans p3))
    have m3 := macv_of (m := m) ss3
    by_cases hz : (mErr m).2 = 0
    · have r := right_of hz
      obtain ⟨b1, b2, b3, b4, b5, b6⟩ := r.bounds
      have hfew := r.few
      have hsl : m.steps.length ≤ 320 := by
        have : m.states * m.inputs ≤ 40 * 8 := Int.mul_le_mul b2 b4 (by omega) (by omega)
        omega
      rw [if_neg (by simp [hz])] at hy
      obtain ⟨z1, z2, rfl, qz⟩ := hy
      rw [hz]
      with_reducible (refine mv_i ?_; refine ex3_0 ?_; refine ex3_1 ?_; refine ex3_2 ?_; refine mv_i ?_; refine mv_i ?_; refine mv_i ?_; refine mv_i ?_; refine mv_i ?_)
      refine neq_i (fun _ => ?_) (fun hc => absurd rfl hc)
      with_reducible (refine mv_i ?_; refine gd_ff ?_; refine mv_i ?_; refine gd_ff ?_)
      refine neq_i (fun _ => ?_) (fun hc => absurd rfl hc)
      with_reducible (refine gd_ff ?_; refine mv_i ?_; refine gd_ft ?_; refine gd_ft ?_; refine gd_ft ?_; refine gd_ft ?_; refine gd_ft ?_; refine gd_ft ?_; refine gd_ff ?_; refine pick_f ?_; refine pick_f ?_; refine cnd_f ?_)
      refine seq_J (fun xs h4 => xs = [.int .i64 (wsE ws m.inputs)] ∧ g3 <+: h4) ?_ ?_
      · rintro _ g4 ⟨rfl, p4⟩ _
        have hb4 := (Sub.of_pre p4).2 _ _ hb3
        have ss4 := ss3.mono (Sub.of_pre p4)
        show vK _ _ _
        refine vk_i (ld36 hb4) ?_
        refine call_i (c16 (macv_of ss4) hl) ?_
        rintro x2 g5 ⟨p5, mx2⟩
        with_reducible (refine mv_i ?_)
        refine call_i (c30 (sw3.mono (Sub.of_pre (p4.trans p5))) hf) ?_
        rintro x3 g6 ⟨p6, sx3, _⟩
        refine call_i (c29 (mx2.mono (Sub.of_pre p6)) sx3) ?_
        rintro x4 g7 ⟨p7, h7⟩
        have hb7 := (Sub.of_pre (p5.trans (p6.trans p7))).2 _ _ hb4
        have ss7 := ss4.mono (Sub.of_pre (p5.trans (p6.trans p7)))
        have sw7 := sw3.mono (Sub.of_pre (p4.trans (p5.trans (p6.trans p7))))
        have pall := p1.trans (p2.trans (p3.trans (p4.trans (p5.trans (p6.trans p7)))))
        rw [hz, or2, if_pos rfl] at h7
        by_cases hw : wsE ws m.inputs = 0
        · rw [if_neg (by simp [hw])] at h7
          obtain ⟨z, rfl, q7⟩ := h7
          with_reducible (refine mv_i ?_; refine ex2_0 ?_; refine ex2_1 ?_; refine mv_i ?_; refine mv_i ?_; refine mv_i ?_)
          refine neq_i (fun _ => ?_) (fun hc => absurd hw hc)
          with_reducible (refine cnd_f ?_; refine mv_i ?_)
          refine eql_i (fun _ => ?_) (fun hc => absurd rfl hc)
          with_reducible (refine mv_i ?_; refine gd_tt ?_; refine mv_i ?_; refine gd_tt ?_)
          refine vk_i (ld36 hb7) ?_
          with_reducible (refine gd_tt ?_; refine mv_i ?_; refine gd_tt ?_)
          refine call_i (c31 (macv_of ss7) r sw7 hw) ?_
          rintro w g8 ⟨p8, q8⟩
          with_reducible (refine gd_tt ?_)
          refine call_r (c23 (q7.self.mono (Sub.of_pre p8)) q8.self) ?_
          rw [decide_eq_true rfl]
          with_reducible (refine pick_t ?_; refine mv_i ?_; refine ret1 ?_)
          exact ⟨rfl, pall.trans p8⟩
        · rw [if_pos hw] at h7
          subst h7
          with_reducible (refine mv_i ?_; refine ex2_0 ?_; refine ex2_1 ?_; refine mv_i ?_; refine mv_i ?_; refine mv_i ?_)
          refine neq_i (fun hc => absurd hc hw) (fun _ => ?_)
          with_reducible (refine cnd_t ?_; refine mv_i ?_; refine mv_i ?_)
          refine eql_i (fun _ => ?_) (fun hc => absurd rfl hc)
          with_reducible (refine mv_i ?_; refine gd_tt ?_; refine mv_i ?_; refine gd_tt ?_)
          refine lennil t23 ?_
          with_reducible (refine gd_tt ?_)
          refine eql_i (fun _ => ?_) (fun hc => absurd rfl hc)
          with_reducible (refine pick_t ?_; refine mv_i ?_; refine ret1 ?_)
          exact ⟨rfl, pall⟩
      intro k' hk'
      with_reducible (refine mv_i ?_)
      refine eql_i (fun _ => ?_) (fun hc => absurd rfl hc)
      with_reducible (refine cnd_t ?_)
      refine vk_i (ld36 hb3) ?_
      refine call_i (c26 m3 r) ?_
      rintro _ g4 ⟨p4, w1, w2, rfl, q4⟩
      have q4s := q4.self
      with_reducible (refine mv_i ?_; refine ex2_0 ?_; refine ex2_1 ?_; refine mv_i ?_; refine mv_i ?_; refine mv_i ?_; refine mv_i ?_)
      refine call_i (c27 q4s.1 (by rw [rchB_len]; omega)) ?_
      rintro w3 g5 ⟨p5, q5⟩
      have qzs := qz.self
      refine call_r (c23 (qzs.1.mono (Sub.of_pre (p4.trans p5))) q5.self) ?_
      rw [decide_eq_true rfl]
      with_reducible (refine not_t ?_; refine mv_i ?_; refine gd_ff ?_; refine mv_i ?_; refine gd_ff ?_; refine mv_i ?_; refine gd_ff ?_)
      refine call_i (c27 (q4s.2.mono (Sub.of_pre p5)) (by simp; omega)) ?_
      rintro w4 g6 ⟨p6, q6⟩
      rw [marked_steps] at q6
      with_reducible (refine gd_ff ?_)
      refine call_r (c23 (qzs.2.mono (Sub.of_pre (p4.trans (p5.trans p6)))) q6.self) ?_
      rw [decide_eq_true rfl]
      with_reducible (refine gd_ff ?_; refine not_t ?_; refine pick_f ?_; refine cnd_f ?_)
      have pz := p4.trans (p5.trans p6)
      have hb6 := (Sub.of_pre pz).2 _ _ hb3
      have ss6 := ss3.mono (Sub.of_pre pz)
      refine vk_i (ld36 hb6) ?_
      with_reducible (refine mv_i ?_)
      refine call_r (c28 (macv_of ss6) (sw3.mono (Sub.of_pre pz))) ?_
      with_reducible (refine mv_i ?_)
      exact hk' _ _ ⟨rfl, pz⟩
    · rw [if_pos hz] at hy
      subst hy
      with_reducible (refine mv_i ?_; refine ex3_0 ?_; refine ex3_1 ?_; refine ex3_2 ?_; refine mv_i ?_; refine mv_i ?_; refine mv_i ?_; refine mv_i ?_; refine mv_i ?_)
      refine neq_i (fun _ => ?_) (fun hc => absurd rfl hc)
      with_reducible (refine mv_i ?_; refine gd_ff ?_; refine mv_i ?_; refine gd_ff ?_)
      refine neq_i (fun hc => absurd hc hz) (fun _ => ?_)
      with_reducible (refine gd_ff ?_; refine mv_i ?_; refine gd_tt ?_; refine mv_i ?_; refine gd_tt ?_)
      refine lennil t23 ?_
      with_reducible (refine gd_tt ?_; refine mv_i ?_; refine gd_tt ?_)
      refine lennil t23 ?_
      with_reducible (refine gd_tt ?_)
      refine add_i ⟨by omega, by omega⟩ ?_
      with_reducible (refine gd_tt ?_)
      refine gtr_i (fun hc => by omega) (fun _ => ?_)
      with_reducible (refine gd_ff ?_; refine pick_t ?_; refine pick_f ?_; refine cnd_f ?_)
      refine seq_J (fun xs h4 => xs = [.int .i64 (mErr m).2] ∧ h4 = g3) ?_ ?_
      · rintro _ _ ⟨rfl, rfl⟩ _
        show vK _ _ _
        refine vk_i (ld36 hb3) ?_
        refine call_i (c16 m3 hl) ?_
        rintro x2 g5 ⟨p5, mx2⟩
        with_reducible (refine mv_i ?_)
        refine call_i (c30 (sw3.mono (Sub.of_pre p5)) hf) ?_
        rintro x3 g6 ⟨p6, sx3, _⟩
        refine call_i (c29 (mx2.mono (Sub.of_pre p6)) sx3) ?_
        rintro x4 g7 ⟨p7, h7⟩
        have pall := p1.trans (p2.trans (p3.trans (p5.trans (p6.trans p7))))
        rw [or2, if_neg hz, if_pos hz] at h7
        subst h7
        with_reducible (refine mv_i ?_; refine ex2_0 ?_; refine ex2_1 ?_; refine mv_i ?_; refine mv_i ?_; refine mv_i ?_)
        refine neq_i (fun hc => absurd hc hz) (fun _ => ?_)
        with_reducible (refine cnd_t ?_; refine mv_i ?_; refine mv_i ?_)
        refine eql_i (fun _ => ?_) (fun hc => absurd rfl hc)
        with_reducible (refine mv_i ?_; refine gd_tt ?_; refine mv_i ?_; refine gd_tt ?_)
        refine lennil t23 ?_
        with_reducible (refine gd_tt ?_)
        refine eql_i (fun _ => ?_) (fun hc => absurd rfl hc)
        with_reducible (refine pick_t ?_; refine mv_i ?_; refine ret1 ?_)
        exact ⟨rfl, pall⟩
      intro k' hk'
      with_reducible (refine mv_i ?_)
      refine eql_i (fun hc => absurd hc hz) (fun _ => ?_)
      with_reducible (refine cnd_f ?_)
      exact hk' _ _ ⟨rfl, rfl⟩
end Go.Proofs.Ytdjoednhfoligaa

set_option linter.unusedSimpArgs false
set_option linter.unusedVariables false
set_option maxRecDepth 100000
namespace Go.Proofs.Ytdjoednhfoligaa
open Go.AM
variable {h h' h0 h1 : Heap} {K : Value → Heap → Prop} {m : Mac}

/-! ### rounds -/
def endI (m : Mac) (ks : List Nat) : Int := match ks.getLast? with | none => m.start | some k => (m.steps.getD k dst).to
def priceI (pr : List Int) (ks : List Nat) : Int := (ks.map fun k => pr.getD k 0).sum
def restI (m : Mac) (pr ps : List Int) (i : Nat) : Int := pr.getD i 0 + ps.getD (m.steps.getD i dst).fr.toNat 0 - ps.getD (m.steps.getD i dst).to.toNat 0
def restS (m : Mac) (pr ps : List Int) (L : List Int) : Int := (L.map fun i => restI m pr ps i.toNat).sum
noncomputable def rchL (m : Mac) : List Int := leav m (rchB m m.start)
theorem or4 (a b c d : Int) : orOf [a, b, c, d] = if a = 0 then (if b = 0 then (if c = 0 then d else c) else b) else a := by
  unfold orOf firstOf nz
  by_cases h1 : a = 0 <;> by_cases h2 : b = 0 <;> by_cases h3 : c = 0 <;> by_cases h4 : d = 0 <;> simp [List.range_succ, List.getD, h1, h2, h3, h4]
open Classical in
noncomputable def midE (m : Mac) (ks : List Nat) (ps : List Int) : Int :=
  if endI m ks ≠ m.start then 39
  else if ∃ i ∈ rchL m, ¬ i ∈ ks.map fun k : Nat => (k : Int) then 11
  else if (ps.length : Int) ≠ m.states then 6
  else if ∃ x ∈ ps, inR x (-1000) 1000 = false then 21
  else 0
open Classical in
noncomputable def finE (m : Mac) (pr : List Int) (ks : List Nat) (ps : List Int) : Int :=
  if (∃ i ∈ rchL m, restI m pr ps i.toNat < 0) ∨ restS m pr ps (rchL m) ≠ priceI pr ks then 30 else 0
noncomputable def rndE (m : Mac) (pr w ps : List Int) : Int :=
  if wErr w m.inputs 1200 ≠ 0 then wErr w m.inputs 1200
  else if (takenI m.steps m.start w).length ≠ w.length then 23
  else if midE m (takenI m.steps m.start w) ps ≠ 0 then midE m (takenI m.steps m.start w) ps
  else finE m pr (takenI m.steps m.start w) ps
theorem midE_or (m : Mac) (ks : List Nat) (ps : List Int) : orOf [if decide (endI m ks = m.start) = true then 0 else 39, if (!((rchL m).any fun x => !decide (x ∈ ks.map fun k : Nat => (k : Int)))) = true then 0 else 11, if decide ((ps.length : Int) = m.states) = true then 0 else 6, if (!(ps.any fun x => !inR x (-1000) 1000)) = true then 0 else 21] = midE m ks ps := by
  have e1 : (!((rchL m).any fun x => !decide (x ∈ ks.map fun k : Nat => (k : Int)))) = true ↔ ¬ ∃ i ∈ rchL m, ¬ i ∈ ks.map fun k : Nat => (k : Int) := by
    rw [Bool.not_eq_true', ← Bool.not_eq_true, List.any_eq_true]
    simp only [Bool.not_eq_true', decide_eq_false_iff_not]
  have e2 : (!(ps.any fun x => !inR x (-1000) 1000)) = true ↔ ¬ ∃ x ∈ ps, inR x (-1000) 1000 = false := by
    rw [Bool.not_eq_true', ← Bool.not_eq_true, List.any_eq_true]
    simp only [Bool.not_eq_true']
  rw [or4]
  unfold midE
  by_cases h1 : endI m ks = m.start
  · rw [if_pos (decide_eq_true h1), if_pos rfl, if_neg (show ¬ endI m ks ≠ m.start from fun hc => hc h1)]
    by_cases h2 : ∃ i ∈ rchL m, ¬ i ∈ ks.map fun k : Nat => (k : Int)
    · rw [if_neg (fun hc => e1.mp hc h2), if_neg (show ¬ (11 : Int) = 0 by decide), if_pos h2]
    · rw [if_pos (e1.mpr h2), if_pos rfl, if_neg h2]
      by_cases h3 : (ps.length : Int) = m.states
      · rw [if_pos (decide_eq_true h3), if_pos rfl, if_neg (show ¬ (ps.length : Int) ≠ m.states from fun hc => hc h3)]
        by_cases h4 : ∃ x ∈ ps, inR x (-1000) 1000 = false
        · rw [if_neg (fun hc => e2.mp hc h4), if_pos h4]
        · rw [if_pos (e2.mpr h4), if_neg h4]
      · rw [if_neg (show ¬ decide ((ps.length : Int) = m.states) = true by rw [decide_eq_false h3]; simp), if_neg (show ¬ (6 : Int) = 0 by decide), if_pos h3]
  · rw [if_neg (show ¬ decide (endI m ks = m.start) = true by rw [decide_eq_false h1]; simp), if_neg (show ¬ (39 : Int) = 0 by decide), if_pos h1]
theorem midE_zero {m : Mac} {ks : List Nat} {ps : List Int} (hz : midE m ks ps = 0) : endI m ks = m.start ∧ (¬ ∃ i ∈ rchL m, ¬ i ∈ ks.map fun k : Nat => (k : Int)) ∧ (ps.length : Int) = m.states ∧ ¬ ∃ x ∈ ps, inR x (-1000) 1000 = false := by
  unfold midE at hz
  split at hz
  · cases hz
  · split at hz
    · cases hz
    · split at hz
      · cases hz
      · split at hz
        · cases hz
        · exact ⟨Classical.byContradiction (by assumption), by assumption, Classical.byContradiction (by assumption), by assumption⟩
theorem rnd1 {pr w ps : List Int} (h1 : wErr w m.inputs 1200 = 0) (h2 : (takenI m.steps m.start w).length ≠ w.length) : rndE m pr w ps = 23 := by
  unfold rndE; rw [if_neg (by simp [h1]), if_pos h2]
theorem rnd2 {pr w ps : List Int} (h1 : wErr w m.inputs 1200 = 0) (h2 : (takenI m.steps m.start w).length = w.length) (h3 : midE m (takenI m.steps m.start w) ps ≠ 0) : rndE m pr w ps = midE m (takenI m.steps m.start w) ps := by
  unfold rndE; rw [if_neg (by simp [h1]), if_neg (by simp [h2]), if_pos h3]
theorem rnd3 {pr w ps : List Int} (h1 : wErr w m.inputs 1200 = 0) (h2 : (takenI m.steps m.start w).length = w.length) (h3 : midE m (takenI m.steps m.start w) ps = 0) : rndE m pr w ps = finE m pr (takenI m.steps m.start w) ps := by
  unfold rndE; rw [if_neg (by simp [h1]), if_neg (by simp [h2]), if_neg (by simp [h3])]
noncomputable def rndP (m : Mac) (pr w ps : List Int) : Int := if rndE m pr w ps = 0 then priceI pr (takenI m.steps m.start w) else 0
theorem endI_take {ks : List Nat} {j : Nat} (hj : j < ks.length) : endI m (ks.take (j + 1)) = (m.steps.getD (ks.getD j 0) dst).to := by
  rw [take_gd 0 hj]; simp [endI]
theorem priceI_take {pr : List Int} {ks : List Nat} {j : Nat} (hj : j < ks.length) : priceI pr (ks.take (j + 1)) = priceI pr (ks.take j) + pr.getD (ks.getD j 0) 0 := by
  rw [take_gd 0 hj]; simp [priceI]
theorem restS_take {pr ps : List Int} {L : List Int} {j : Nat} (hj : j < L.length) : restS m pr ps (L.take (j + 1)) = restS m pr ps (L.take j) + restI m pr ps (L.getD j 0).toNat := by
  rw [take_gd 0 hj]; simp [restS]
def prOK (pr : List Int) : Prop := ∀ k, 0 ≤ pr.getD k 0 ∧ pr.getD k 0 ≤ 20
theorem prOK_of {pr : List Int} (he : prErr m pr = 0) : pr.length = m.steps.length ∧ prOK pr := by
  unfold prErr at he
  split at he
  · cases he
  · rename_i h1
    split at he
    · rename_i h2
      refine ⟨by omega, fun k => ?_⟩
      by_cases hk : k < pr.length
      · have := List.all_eq_true.mp h2 _ (gd_mem 0 hk)
        unfold inR at this
        simpa using this
      · rw [List.getD_eq_getElem?_getD, List.getElem?_eq_none (by omega)]
        simp
    · cases he
def psOK (ps : List Int) : Prop := ∀ k, -1000 ≤ ps.getD k 0 ∧ ps.getD k 0 ≤ 1000
theorem psOK_of {ps : List Int} (hb : ¬ ∃ x ∈ ps, inR x (-1000) 1000 = false) : psOK ps := by
  intro k
  by_cases hk : k < ps.length
  · have h1 : inR (ps.getD k 0) (-1000) 1000 = true := by
      cases q : inR (ps.getD k 0) (-1000) 1000 with
      | true => rfl
      | false => exact absurd ⟨_, gd_mem 0 hk, q⟩ hb
    unfold inR at h1
    simpa using h1
  · rw [List.getD_eq_getElem?_getD, List.getElem?_eq_none (by omega)]
    simp
theorem restI_b {pr ps : List Int} (h1 : prOK pr) (h2 : psOK ps) (i : Nat) : -2000 ≤ restI m pr ps i ∧ restI m pr ps i ≤ 2020 := by
  have a := h1 i
  have b := h2 (m.steps.getD i dst).fr.toNat
  have c := h2 (m.steps.getD i dst).to.toNat
  unfold restI
  omega
theorem al25 (h : Heap) : aAlloc Try.prog 25 h = some (.pointer (some ⟨h.length, 0, none⟩), newArr h [.slice none 0 0] 1) := by kernel_rfl
theorem sto25 (g : Heap) (o : Option Addr) (l c : Nat) : aStore Try.prog 25 (.pointer (some ⟨g.length, 0, none⟩)) (.slice o l c) (newArr g [.slice none 0 0] 1) = some (newArr g [.slice o l c] 1) := by
  have := st_i (P := Try.prog) (e := 25) (h := newArr g [.slice none 0 0] 1) (y := .slice o l c) (off := 0) (K := fun _ h' => some h' = some (newArr g [.slice o l c] 1)) s25 (newArr_get _ _ _) rfl (by simp) rfl rfl (by rw [← newArr_set g [.slice none 0 0] [.slice o l c] 1]; rfl)
  have := this.out
  cases hq : aStore Try.prog 25 (.pointer (some ⟨g.length, 0, none⟩)) (.slice o l c) (newArr g [.slice none 0 0] 1) with
  | none => rw [hq] at this; exact this.elim
  | some x => rw [hq] at this; exact this
theorem bs94_4 (a b c d : Int) (h : Heap) : aBuildSlice Try.prog 132 4 [(0, .int .i64 a), (1, .int .i64 b), (2, .int .i64 c), (3, .int .i64 d)] h = some (.slice (some ⟨h.length, 0, none⟩) 4 5, newArr h [.int .i64 a, .int .i64 b, .int .i64 c, .int .i64 d] 1) := by kernel_rfl
theorem ld27 {i : Nat} {a b : Value} (hi : h[i]? = some (.arr ⟨[a, b], 2, false⟩)) : aLoad Try.prog 27 (.pointer (some ⟨i, 0, none⟩)) h = some (.agg #[a, b]) := by
  have hr : (match Try.prog.underlying 27 with | some d => d.isRow | none => false) = true := by kernel_rfl
  have hz : szOf Try.prog 27 = some 2 := by kernel_rfl
  split at hr
  · rename_i dd hd
    simp only [aLoad, hi, hd, hz]
    rw [if_pos hr, if_pos (by simp)]
    rfl
  · cases hr
theorem build27 (o o' : Option Addr) (l k l' k' : Nat) : aBuild Try.prog 27 [(0, .slice o l k), (1, .slice o' l' k')] = some (.agg #[.slice o l k, .slice o' l' k']) := by kernel_rfl
theorem c56 {i : Nat} {x : Int} {v : Value} {xs : List Int} (hi : h[i]? = some (.arr ⟨[v], 1, false⟩)) (s : IntS h v xs) : Runs Try.prog 56 [.int .i64 x, .pointer (some ⟨i, 0, none⟩)] h (.bool (!decide (x ∈ xs))) h := by
  refine DetP.runs (w56 ?_)
  unfold n56
  with_reducible (refine mv_i ?_; refine ld1_0 r23 (by assumption) ?_; refine mv_i ?_)
  refine call_r (c57 s) ?_
  refine AM.not_i ?_
  with_reducible (refine mv_i ?_; refine ret1 ?_)
  exact ⟨rfl, rfl⟩
theorem c58 {x : Int} : Runs Try.prog 58 [.int .i64 x] h (.bool (!inR x (-1000) 1000)) h := by
  refine DetP.runs (w58 ?_)
  unfold n58
  with_reducible (refine mv_i ?_; refine mv_i ?_)
  refine call_r (c59 _ _ _) ?_
  refine AM.not_i ?_
  with_reducible (refine mv_i ?_; refine ret1 ?_)
  exact ⟨rfl, rfl⟩
theorem rchL_in (r : Right m) {i : Int} (hi : i ∈ rchL m) : 0 ≤ i ∧ i < m.steps.length := by
  obtain ⟨k, rfl, hk, _⟩ := idxs_mem.mp hi
  omega
theorem rchL_len : (rchL m).length ≤ m.steps.length := idxs_len _ _
set_option maxHeartbeats 4000000 in
theorem c15 {a b : Value} {o1 o2 : Option Addr} {l1 k1 l2 k2 : Nat} {pr w ps : List Int} (s : MacV h a m) (sp : IntS h b pr) (sw : IntS h (.slice o1 l1 k1) w) (sq : IntS h (.slice o2 l2 k2) ps) :
    DetP Try.prog 15 [a, b, .agg #[.slice o1 l1 k1, .slice o2 l2 k2]] h fun v h' => h <+: h' ∧ v = if orOf [(mErr m).2, prErr m pr, wErr w m.inputs 1200] ≠ 0 then .tuple #[.int .i64 0, .int .i64 (orOf [(mErr m).2, prErr m pr, wErr w m.inputs 1200])] else .tuple #[.int .i64 (rndP m pr w ps), .int .i64 (rndE m pr w ps)] := by
  refine w15 ?_
  unfold n15
  obtain ⟨o, l, c, rfl, ss0⟩ := s
  rw [box36]
  refine ok_i rfl ?_
  have p1 := pre_new h [.int .i64 m.states, .int .i64 m.inputs, .int .i64 m.outputs, .int .i64 m.start, .slice o l c] 5
  have hb1 := newArr_get h [.int .i64 m.states, .int .i64 m.inputs, .int .i64 m.outputs, .int .i64 m.start, .slice o l c] 5
  have ss := ss0.mono (Sub.of_pre p1)
  generalize hg1 : newArr h [.int .i64 m.states, .int .i64 m.inputs, .int .i64 m.outputs, .int .i64 m.start, .slice o l c] 5 = g1 at p1 hb1 ss ⊢
  have sp1 := sp.mono (Sub.of_pre p1)
  have sw1 := sw.mono (Sub.of_pre p1)
  have sq1 := sq.mono (Sub.of_pre p1)
  rw [box27]
  refine ok_i rfl ?_
  have p2 := pre_new g1 [.slice o1 l1 k1, .slice o2 l2 k2] 2
  have hr2 := newArr_get g1 [.slice o1 l1 k1, .slice o2 l2 k2] 2
  have hb2 := (Sub.of_pre p2).2 _ _ hb1
  generalize hgi : g1.length = ri at hr2 ⊢
  generalize newArr g1 [.slice o1 l1 k1, .slice o2 l2 k2] 2 = g2 at p2 hr2 hb2 ⊢
  have ss2 := ss.mono (Sub.of_pre p2)
  have sp2 := sp1.mono (Sub.of_pre p2)
  have sw2 := sw1.mono (Sub.of_pre p2)
  have sq2 := sq1.mono (Sub.of_pre p2)
  have m2 := macv_of (m := m) ss2
  with_reducible (refine mv_i ?_; refine mv_i ?_)
  refine vk_i (ld36 hb2) ?_
  refine ⟨vb_mac ss2, ?_⟩
  refine calld_r (c51 m2) ⟨⟨[], by simp⟩, ?_⟩
  refine vk_i (ld36 hb2) ?_
  refine ⟨vb_mac ss2, ?_⟩
  with_reducible (refine mv_i ?_)
  refine calld_r (c52 m2 sp2) ⟨⟨[], by simp⟩, ?_⟩
  refine vk_i (ld36 hb2) ?_
  refine ⟨vb_mac ss2, ?_⟩
  with_reducible (refine vk_i (fa27_0 _) ?_; refine ld2_0 r23 (by assumption) ?_; refine ⟨VB_of_ints (by assumption), ?_⟩)
  refine calld_r (c53 m2 sw2) ⟨⟨[], by simp⟩, ?_⟩
  refine ok_i (bs94_3 _ _ _ _) ?_
  have p3 := pre_new g2 [.int .i64 (mErr m).2, .int .i64 (prErr m pr), .int .i64 (wErr w m.inputs 1200)] 1
  have sx : IntS (newArr g2 [.int .i64 (mErr m).2, .int .i64 (prErr m pr), .int .i64 (wErr w m.inputs 1200)] 1) (.slice (some ⟨g2.length, 0, none⟩) 3 4) [(mErr m).2, prErr m pr, wErr w m.inputs 1200] := Seg.new 4 (by rfl) (by simp)
  generalize newArr g2 [.int .i64 (mErr m).2, .int .i64 (prErr m pr), .int .i64 (wErr w m.inputs 1200)] 1 = g3 at p3 sx ⊢
  refine calld_r (c50 sx) ⟨⟨[], by simp⟩, ?_⟩
  have hor := or3 (mErr m).2 (prErr m pr) (wErr w m.inputs 1200)
  generalize orOf [(mErr m).2, prErr m pr, wErr w m.inputs 1200] = e at hor
  with_reducible (refine mv_i ?_; refine mv_i ?_)
  refine neq_i (fun hz => ?_) (fun hz => ?_)
  · subst hz
    have he1 : (mErr m).2 = 0 := by
      by_cases q : (mErr m).2 = 0
      · exact q
      · rw [if_neg q] at hor; exact hor.symm
    rw [if_pos he1] at hor
    have he2 : prErr m pr = 0 := by
      by_cases q : prErr m pr = 0
      · exact q
      · rw [if_neg q] at hor; exact hor.symm
    rw [if_pos he2] at hor
    have he3 := hor.symm
    have r := right_of he1
    obtain ⟨hpl, hpo⟩ := prOK_of he2
    have hiw := inW_of r he3
    have hwl := (w_ok he3).1
    obtain ⟨b1, b2, b3, b4, b5, b6⟩ := r.bounds
    have hfew := r.few
    have hsl : m.steps.length ≤ 320 := by
      have : m.states * m.inputs ≤ 40 * 8 := Int.mul_le_mul b2 b4 (by omega) (by omega)
      omega
    have hb3 := (Sub.of_pre p3).2 _ _ hb2
    have ss3 := ss2.mono (Sub.of_pre p3)
    with_reducible (refine cnd_f ?_)
    refine vk_i (ld36 hb3) ?_
    refine call_i (c54 (macv_of (m := m) ss3) r) ?_
    rintro _ g4 ⟨p4, gi, st, by_, fr, rfl, sst, og⟩
    have gr : Graph gi g4 m st by_ fr := og.self (sst.mono (Sub.of_pre p4))
    have q4 := p3.trans p4
    have hr4 := (Sub.of_pre q4).2 _ _ hr2
    have sw4 := sw2.mono (Sub.of_pre q4)
    with_reducible (refine mv_i ?_; refine mv_i ?_; refine vk_i (fa27_0 _) ?_; refine ld2_0 r23 (by assumption) ?_)
    refine call_i (c55 gr r sw4 hiw (by omega)) ?_
    rintro tv g5 ⟨p5, q5⟩
    have stk := q5.self
    obtain ⟨to, tl, tc, rfl⟩ := seg_slice stk
    have hkin := takenI_has (l := m.steps) (f := m.start) (w := w)
    have hklen := takenI_len (l := m.steps) w m.start
    have R1 := rnd1 (pr := pr) (ps := ps) he3
    have R2 := rnd2 (pr := pr) (ps := ps) he3
    have R3 := rnd3 (pr := pr) (ps := ps) he3
    have eP : rndP m pr w ps = if rndE m pr w ps = 0 then priceI pr (takenI m.steps m.start w) else 0 := rfl
    skip
    refine ok_i (al25 _) ?_
    refine ok_i (v := undef) (h' := newArr g5 [.slice to tl tc] 1) (by rw [sto25]; rfl) ?_
    have p6 := pre_new g5 [.slice to tl tc] 1
    have hl6 := newArr_get g5 [.slice to tl tc] 1
    generalize hli : g5.length = li at hl6 ⊢
    generalize newArr g5 [.slice to tl tc] 1 = g6 at p6 hl6 ⊢
    have q6 := q4.trans (p5.trans p6)
    have hr6 := (Sub.of_pre q6).2 _ _ hr2
    have hb6 := (Sub.of_pre q6).2 _ _ hb2
    have ss6 := ss2.mono (Sub.of_pre q6)
    have sp6 := sp2.mono (Sub.of_pre q6)
    have sw6 := sw2.mono (Sub.of_pre q6)
    have sq6 := sq2.mono (Sub.of_pre q6)
    have st6 := stk.mono (Sub.of_pre p6)
    have gr6 := gr.mono (Sub.of_pre (p5.trans p6))
    have gst6 := gr6.steps
    have hml : ((takenI m.steps m.start w).map fun k : Nat => (k : Int)).length = (takenI m.steps m.start w).length := by simp
    have pall := p1.trans (p2.trans q6)
    generalize hks : takenI m.steps m.start w = ks at *
    clear stk q5
    with_reducible (refine ld1_0 r23 (by assumption) ?_; refine leni_i t23 (by assumption) ?_; refine vk_i (fa27_0 _) ?_; refine ld2_0 r23 (by assumption) ?_; refine leni_i t23 (by assumption) ?_)
    refine lss_i (fun hlt => ?_) (fun hge => ?_)
    · with_reducible (refine cnd_t ?_; refine mv_i ?_; refine mv_i ?_; refine ret2 ?_)
      refine ⟨pall, ?_⟩
      have e0 := R1 (by omega)
      rw [if_neg (by simp), eP, e0, if_neg (by decide)]
    · have hkl : ks.length = w.length := by omega
      have R2 := R2 hkl
      have R3 := R3 hkl
      with_reducible (refine cnd_f ?_; refine mv_i ?_; refine nil_i ?_; refine vk_i (fa92_0 _) ?_; refine vk_i (fa36_3 _) ?_; refine ldgr r3 (by assumption) rfl ?_; refine mv_i ?_; refine mv_i ?_; refine ld1_0 r23 (by assumption) ?_; refine leni_i t23 (by assumption) ?_; refine mv_i ?_)
      refine loop3 ks.length (fun j av pv h2 => h2 = g6 ∧ av = .int .i64 (endI m (ks.take j)) ∧ pv = .int .i64 (priceI pr (ks.take j)) ∧ 0 ≤ priceI pr (ks.take j) ∧ priceI pr (ks.take j) ≤ 20 * j) ⟨rfl, rfl, rfl, by simp [priceI], by simp [priceI]⟩ ?_
      rintro j _ _ _ _ hj ⟨rfl, rfl, rfl, hp0, hp1⟩
      skip
      refine lss_i (fun hlt2 => ?_) (fun hge2 => ?_)
      · have hj2 : j < ks.length := by omega
        have hz : (ks.map fun k : Nat => (k : Int)).getD j 0 = ((ks.getD j 0 : Nat) : Int) := by simp [List.getD, hj2]
        have hkj : ks.getD j 0 < m.steps.length := hkin _ (gd_mem 0 hj2)
        have hpk := hpo (ks.getD j 0)
        have hpt := priceI_take (pr := pr) hj2
        have het := endI_take (m := m) hj2
        with_reducible (refine cnd_t ?_; refine idxi_i t23 (by assumption) (by omega) ?_; refine ldi_i t23 r3 (by assumption) (by omega) ?_; refine mv_i ?_; refine mv_i ?_; refine nil_i ?_; refine vk_i (fa92_0 _) ?_; refine vk_i (fa36_4 _) ?_; refine ldgr r34 (by assumption) rfl ?_; refine ⟨VB_of_steps (by assumption), ?_⟩; refine mv_i ?_; refine idxzst t34 (by assumption) (by omega) (by omega) ?_; refine fae_i st63 (by assumption) (by omega) (by omega) ?_; refine ldto dst st63 (by assumption) (by omega) ?_; refine ⟨vbi _ _, ?_⟩; refine mv_i ?_; refine mv_i ?_; refine mv_i ?_; refine idxzi t23 (by assumption) (by omega) (by omega) ?_; refine ldi_i t23 r3 (by assumption) (by omega) ?_; refine ⟨vbi _ _, ?_⟩)
        rw [hz, Int.toNat_natCast]
        refine add_i ⟨by omega, by omega⟩ ?_
        with_reducible (refine mv_i ?_; refine mv_i ?_; refine inc_i (by omega) ?_; refine mv_i ?_)
        refine next3 hj2 ⟨rfl, by rw [het], by rw [hpt], by omega, by push_cast; omega⟩
      · have ej : j = ks.length := by omega
        subst ej
        rw [List.take_of_length_le (Nat.le_refl _)] at hp0 hp1 ⊢
        with_reducible (refine cnd_f ?_; refine mv_i ?_; refine mv_i ?_; refine mv_i ?_; refine mv_i ?_)
        refine call_i (c60 gr6 r) ?_
        rintro lv g7 ⟨p7, q7⟩
        have sL := q7.self
        have hLin := fun i => rchL_in (i := i) r
        have hLlen := rchL_len (m := m)
        have eL : leav m (rchB m m.start) = rchL m := rfl
        rw [eL] at sL
        clear q7
        have gr7 := gr6.mono (Sub.of_pre p7)
        have hr7 := (Sub.of_pre p7).2 _ _ hr6
        have hb7 := (Sub.of_pre p7).2 _ _ hb6
        have hl7 := (Sub.of_pre p7).2 _ _ hl6
        have ss7 := ss6.mono (Sub.of_pre p7)
        have sp7 := sp6.mono (Sub.of_pre p7)
        have sq7 := sq6.mono (Sub.of_pre p7)
        have st7 := st6.mono (Sub.of_pre p7)
        have pall7 := pall.trans p7
        with_reducible (refine mv_i ?_; refine mv_i ?_; refine mv_i ?_; refine nil_i ?_; refine vk_i (fa92_0 _) ?_; refine vk_i (fa36_3 _) ?_; refine ldgr r3 (by assumption) rfl ?_; refine ⟨vbi _ _, ?_⟩)
        refine eql_b ?_
        refine calld_r (c61 _ _) ⟨⟨[], by simp⟩, ?_⟩
        with_reducible (refine mv_i ?_; refine mv_i ?_)
        refine calld_r (c62g (caps := #[.pointer (some ⟨li, 0, none⟩)]) sL fun x _ => c56 hl7 st7) ⟨⟨[], by simp⟩, ?_⟩
        refine AM.not_i ?_
        refine calld_r (c61 _ _) ⟨⟨[], by simp⟩, ?_⟩
        with_reducible (refine vk_i (fa27_1 _) ?_; refine ld2_1 r23 (by assumption) ?_; refine ⟨VB_of_ints (by assumption), ?_⟩; refine leni_i t23 (by assumption) ?_; refine vk_i (fa36_0 _) ?_; refine ld5_0 r3 (by assumption) ?_; refine ⟨vbi _ _, ?_⟩)
        refine eql_b ?_
        refine calld_r (c61 _ _) ⟨⟨[], by simp⟩, ?_⟩
        with_reducible (refine vk_i (fa27_1 _) ?_; refine ld2_1 r23 (by assumption) ?_; refine ⟨VB_of_ints (by assumption), ?_⟩; refine mv_i ?_)
        refine calld_r (c62g (caps := #[]) sq7 fun x _ => c58) ⟨⟨[], by simp⟩, ?_⟩
        refine AM.not_i ?_
        refine calld_r (c61 _ _) ⟨⟨[], by simp⟩, ?_⟩
        have hmid := midE_or m ks ps
        generalize (if decide (endI m ks = m.start) = true then (0 : Int) else 39) = t1 at hmid ⊢
        generalize (if (!((rchL m).any fun x => !decide (x ∈ ks.map fun k : Nat => (k : Int)))) = true then (0 : Int) else 11) = t2 at hmid ⊢
        generalize (if decide ((ps.length : Int) = m.states) = true then (0 : Int) else 6) = t3 at hmid ⊢
        generalize (if (!(ps.any fun x => !inR x (-1000) 1000)) = true then (0 : Int) else 21) = t4 at hmid ⊢
        refine ok_i (bs94_4 _ _ _ _ _) ?_
        have p8 := pre_new g7 [.int .i64 t1, .int .i64 t2, .int .i64 t3, .int .i64 t4] 1
        have sx8 : IntS (newArr g7 [.int .i64 t1, .int .i64 t2, .int .i64 t3, .int .i64 t4] 1) (.slice (some ⟨g7.length, 0, none⟩) 4 5) [t1, t2, t3, t4] := Seg.new 5 (by rfl) (by simp)
        generalize newArr g7 [.int .i64 t1, .int .i64 t2, .int .i64 t3, .int .i64 t4] 1 = g8 at p8 sx8 ⊢
        refine calld_r (c50 sx8) ⟨⟨[], by simp⟩, ?_⟩
        rw [hmid]
        have pall8 := pall7.trans p8
        with_reducible (refine mv_i ?_; refine mv_i ?_)
        refine neq_i (fun hm => ?_) (fun hm => ?_)
        · have R3 := R3 hm
          obtain ⟨_, _, hps, hbd⟩ := midE_zero hm
          have hpb := psOK_of hbd
          have hr8 := (Sub.of_pre p8).2 _ _ hr7
          have hb8 := (Sub.of_pre p8).2 _ _ hb7
          have ss8 := ss7.mono (Sub.of_pre p8)
          have sp8 := sp7.mono (Sub.of_pre p8)
          have sq8 := sq7.mono (Sub.of_pre p8)
          have sL8 := sL.mono (Sub.of_pre p8)
          with_reducible (refine cnd_f ?_; refine mv_i ?_; refine mv_i ?_; refine leni_i t23 (by assumption) ?_; refine mv_i ?_)
          refine loop2 (rchL m).length (fun j sv h2 => h2 = g8 ∧ sv = .int .i64 (restS m pr ps ((rchL m).take j)) ∧ 0 ≤ restS m pr ps ((rchL m).take j) ∧ restS m pr ps ((rchL m).take j) ≤ 2020 * j ∧ ∀ i, i < j → 0 ≤ restI m pr ps ((rchL m).getD i 0).toNat) ⟨rfl, rfl, by simp [restS], by simp [restS], fun i hi => by omega⟩ ?_
          rintro j _ _ _ hj ⟨rfl, rfl, hs0, hs1, hneg⟩
          skip
          refine lss_i (fun hlt3 => ?_) (fun hge3 => ?_)
          · have hj3 : j < (rchL m).length := by omega
            obtain ⟨z0, z1⟩ := hLin _ (gd_mem 0 hj3)
            have hrt := restS_take (m := m) (pr := pr) (ps := ps) hj3
            generalize hzz : (rchL m).getD j 0 = z at z0 z1 hrt
            have hst := r.st (show z.toNat < m.steps.length by omega)
            have hpz := hpo z.toNat
            have ha := hpb (m.steps.getD z.toNat dst).fr.toNat
            have hb := hpb (m.steps.getD z.toNat dst).to.toNat
            have hrb := restI_b (m := m) hpo hpb z.toNat
            have hre : restI m pr ps z.toNat = pr.getD z.toNat 0 + ps.getD (m.steps.getD z.toNat dst).fr.toNat 0 - ps.getD (m.steps.getD z.toNat dst).to.toNat 0 := rfl
            with_reducible (refine cnd_t ?_)
            refine idxi_i t23 sL8 hj3 ?_
            refine ldi_i t23 r3 sL8 hj3 ?_
            rw [hzz]
            with_reducible (refine mv_i ?_; refine mv_i ?_; refine mv_i ?_; refine idxzi t23 (by assumption) (by omega) (by omega) ?_; refine ldi_i t23 r3 (by assumption) (by omega) ?_; refine ⟨vbi _ _, ?_⟩; refine vk_i (fa27_1 _) ?_; refine ld2_1 r23 (by assumption) ?_; refine ⟨VB_of_ints (by assumption), ?_⟩; refine vk_i (fa36_4 _) ?_; refine ld5_4 r34 (by assumption) ?_; refine ⟨VB_of_steps (by assumption), ?_⟩; refine mv_i ?_; refine idxzst t34 (by assumption) (by omega) (by omega) ?_; refine fae_i st63 (by assumption) (by omega) (by omega) ?_; refine ldfr dst st63 (by assumption) (by omega) ?_; refine ⟨vbi _ _, ?_⟩; refine idxzi t23 (by assumption) (by omega) (by omega) ?_; refine ldi_i t23 r3 (by assumption) (by omega) ?_; refine ⟨vbi _ _, ?_⟩)
            refine add_i ⟨by omega, by omega⟩ ?_
            with_reducible (refine vk_i (fa27_1 _) ?_; refine ld2_1 r23 (by assumption) ?_; refine ⟨VB_of_ints (by assumption), ?_⟩; refine vk_i (fa36_4 _) ?_; refine ld5_4 r34 (by assumption) ?_; refine ⟨VB_of_steps (by assumption), ?_⟩; refine mv_i ?_; refine idxzst t34 (by assumption) (by omega) (by omega) ?_; refine fae_i st63 (by assumption) (by omega) (by omega) ?_; refine ldto dst st63 (by assumption) (by omega) ?_; refine ⟨vbi _ _, ?_⟩; refine idxzi t23 (by assumption) (by omega) (by omega) ?_; refine ldi_i t23 r3 (by assumption) (by omega) ?_; refine ⟨vbi _ _, ?_⟩)
            refine sub_i ⟨by omega, by omega⟩ ?_
            rw [← hre]
            with_reducible (refine mv_i ?_; refine mv_i ?_)
            refine lss_i (fun hn => ?_) (fun hn => ?_)
            · with_reducible (refine cnd_t ?_; refine mv_i ?_; refine mv_i ?_; refine ret2 ?_)
              refine ⟨pall8, ?_⟩
              have : finE m pr ks ps = 30 := by
                unfold finE
                rw [if_pos (.inl ⟨z, by rw [← hzz]; exact gd_mem 0 hj3, hn⟩)]
              rw [if_neg (by simp), eP, R3, this, if_neg (by decide)]
            · with_reducible (refine cnd_f ?_; refine mv_i ?_; refine mv_i ?_)
              refine add_i ⟨by omega, by omega⟩ ?_
              with_reducible (refine mv_i ?_; refine inc_i (by omega) ?_; refine mv_i ?_)
              refine next2 hj3 ⟨rfl, by rw [hrt], by rw [hrt]; omega, by rw [hrt]; push_cast; omega, fun i hi => ?_⟩
              by_cases q : i = j
              · subst q; rw [hzz]; omega
              · exact hneg i (by omega)
          · have ej : j = (rchL m).length := by omega
            rw [ej, List.take_of_length_le (Nat.le_refl _)] at hs0 hs1 ⊢
            have hnn : ¬ ∃ i ∈ rchL m, restI m pr ps i.toNat < 0 := by
              rintro ⟨i, hi, hn⟩
              obtain ⟨q, hq, he⟩ := mem_gd 0 hi
              have := hneg q (by omega)
              rw [he] at this
              omega
            with_reducible (refine cnd_f ?_; refine mv_i ?_; refine mv_i ?_)
            refine neq_i (fun hq => ?_) (fun hq => ?_)
            · with_reducible (refine cnd_f ?_; refine mv_i ?_; refine mv_i ?_; refine mv_i ?_; refine ret2 ?_)
              refine ⟨pall8, ?_⟩
              have : finE m pr ks ps = 0 := by
                unfold finE
                rw [if_neg (by rintro (hc | hc); exact hnn hc; exact hc hq)]
              rw [if_neg (by simp), eP, R3, this, if_pos rfl]
            · with_reducible (refine cnd_t ?_; refine mv_i ?_; refine mv_i ?_; refine ret2 ?_)
              refine ⟨pall8, ?_⟩
              have : finE m pr ks ps = 30 := by
                unfold finE
                rw [if_pos (.inr hq)]
              rw [if_neg (by simp), eP, R3, this, if_neg (by decide)]
        · have R2 := R2 hm
          with_reducible (refine cnd_t ?_; refine mv_i ?_; refine mv_i ?_; refine mv_i ?_; refine ret2 ?_)
          refine ⟨pall8, ?_⟩
          rw [if_neg (by simp), eP, R2, if_neg hm]
  · with_reducible (refine cnd_t ?_; refine mv_i ?_; refine mv_i ?_; refine mv_i ?_; refine ret2 ?_)
    refine ⟨p1.trans (p2.trans p3), ?_⟩
    rw [if_pos hz]
end Go.Proofs.Ytdjoednhfoligaa

set_option linter.unusedSimpArgs false
set_option linter.unusedVariables false
set_option maxRecDepth 100000
namespace Go.Proofs.Ytdjoednhfoligaa
open Go.AM
variable {h h' h0 h1 : Heap} {K : Value → Heap → Prop} {m : Mac}

noncomputable def rP (m : Mac) (k : Nat) : Bool := (rchB m m.start).getD (m.steps.getD k dst).fr.toNat false
theorem rchL_is : rchL m = idxs (rP m) m.steps.length := rfl
theorem last_end {ks : List Nat} {k : Nat} (hk : ks.length = k + 1) : endI m ks = (m.steps.getD (ks.getD k 0) dst).to := by
  have := endI_take (m := m) (ks := ks) (j := k) (by omega)
  rw [List.take_of_length_le (by omega)] at this
  exact this
theorem restS_succ {pr ps : List Int} {j : Nat} : restS m pr ps (idxs (rP m) (j + 1)) = if rP m j = true then restS m pr ps (idxs (rP m) j) + restI m pr ps j else restS m pr ps (idxs (rP m) j) := by
  rw [idxs_succ]
  split
  · simp [restS]
  · rfl
set_option maxHeartbeats 4000000 in
theorem c20 {a b : Value} {o1 o2 : Option Addr} {l1 k1 l2 k2 : Nat} {pr w ps : List Int} (s : MacV h a m) (r : Right m) (sp : IntS h b pr) (he2 : prErr m pr = 0) (sw : IntS h (.slice o1 l1 k1) w) (sq : IntS h (.slice o2 l2 k2) ps) :
    DetP Try.prog 20 [a, b, .agg #[.slice o1 l1 k1, .slice o2 l2 k2]] h fun v h' => h <+: h' ∧ v = .tuple #[.int .i64 (rndP m pr w ps), .int .i64 (rndE m pr w ps)] := by
  obtain ⟨hpl, hpo⟩ := prOK_of he2
  obtain ⟨b1, b2, b3, b4, b5, b6⟩ := r.bounds
  have hfew := r.few
  have hsl : m.steps.length ≤ 320 := by
    have : m.states * m.inputs ≤ 40 * 8 := Int.mul_le_mul b2 b4 (by omega) (by omega)
    omega
  have ltq := sq.lt
  refine w20 ?_
  unfold n20
  obtain ⟨o, l, c, rfl, ss0⟩ := s
  rw [box36]
  refine ok_i rfl ?_
  have p1 := pre_new h [.int .i64 m.states, .int .i64 m.inputs, .int .i64 m.outputs, .int .i64 m.start, .slice o l c] 5
  have hb1 := newArr_get h [.int .i64 m.states, .int .i64 m.inputs, .int .i64 m.outputs, .int .i64 m.start, .slice o l c] 5
  have ss := ss0.mono (Sub.of_pre p1)
  generalize hg1 : newArr h [.int .i64 m.states, .int .i64 m.inputs, .int .i64 m.outputs, .int .i64 m.start, .slice o l c] 5 = g1 at p1 hb1 ss ⊢
  have sp1 := sp.mono (Sub.of_pre p1)
  have sw1 := sw.mono (Sub.of_pre p1)
  have sq1 := sq.mono (Sub.of_pre p1)
  rw [box27]
  refine ok_i rfl ?_
  have p2 := pre_new g1 [.slice o1 l1 k1, .slice o2 l2 k2] 2
  have hr2 := newArr_get g1 [.slice o1 l1 k1, .slice o2 l2 k2] 2
  have hb2 := (Sub.of_pre p2).2 _ _ hb1
  generalize hgi : g1.length = ri at hr2 ⊢
  generalize newArr g1 [.slice o1 l1 k1, .slice o2 l2 k2] 2 = g2 at p2 hr2 hb2 ⊢
  have ss2 := ss.mono (Sub.of_pre p2)
  have sp2 := sp1.mono (Sub.of_pre p2)
  have sw2 := sw1.mono (Sub.of_pre p2)
  have sq2 := sq1.mono (Sub.of_pre p2)
  have m2 := macv_of (m := m) ss2
  have eP : rndP m pr w ps = if rndE m pr w ps = 0 then priceI pr (takenI m.steps m.start w) else 0 := rfl
  with_reducible (refine mv_i ?_; refine mv_i ?_; refine vk_i (fa27_0 _) ?_; refine ld2_0 r23 (by assumption) ?_; refine vk_i (fa36_1 _) ?_; refine ld5_1 r3 (by assumption) ?_)
  refine call_r (c41 sw2) ?_
  with_reducible (refine mv_i ?_; refine mv_i ?_)
  refine neq_i (fun he3 => ?_) (fun he3 => ?_)
  rotate_left
  · with_reducible (refine cnd_t ?_; refine mv_i ?_; refine mv_i ?_; refine mv_i ?_; refine ret2 ?_)
    refine ⟨p1.trans p2, ?_⟩
    have : rndE m pr w ps = wErr w m.inputs 1200 := by unfold rndE; rw [if_pos he3]
    rw [eP, this, if_neg he3]
  have hiw := inW_of r he3
  have hwl := (w_ok he3).1
  with_reducible (refine cnd_f ?_)
  refine vk_i (ld36 hb2) ?_
  with_reducible (refine vk_i (fa36_3 _) ?_; refine ld5_3 r3 (by assumption) ?_; refine vk_i (fa27_0 _) ?_; refine ld2_0 r23 (by assumption) ?_)
  refine call_i (c46 m2 sw2 (by omega)) ?_
  rintro tv g3 ⟨p3, q3⟩
  have st3 := q3.self
  clear q3
  have hb3 := (Sub.of_pre p3).2 _ _ hb2
  have hr3 := (Sub.of_pre p3).2 _ _ hr2
  have ss3 := ss2.mono (Sub.of_pre p3)
  have sp3 := sp2.mono (Sub.of_pre p3)
  have sw3 := sw2.mono (Sub.of_pre p3)
  have sq3 := sq2.mono (Sub.of_pre p3)
  have hkin := takenI_has (l := m.steps) (f := m.start) (w := w)
  have hklen := takenI_len (l := m.steps) w m.start
  have R1 := rnd1 (pr := pr) (ps := ps) he3
  have R2 := rnd2 (pr := pr) (ps := ps) he3
  have R3 := rnd3 (pr := pr) (ps := ps) he3
  have hml : ((takenI m.steps m.start w).map fun k : Nat => (k : Int)).length = (takenI m.steps m.start w).length := by simp
  have pall := p1.trans (p2.trans p3)
  generalize hks : takenI m.steps m.start w = ks at *
  with_reducible (refine mv_i ?_; refine mv_i ?_; refine leni_i t23 (by assumption) ?_; refine vk_i (fa27_0 _) ?_; refine ld2_0 r23 (by assumption) ?_; refine leni_i t23 (by assumption) ?_)
  refine neq_i (fun hl => ?_) (fun hl => ?_)
  rotate_left
  · with_reducible (refine cnd_t ?_; refine mv_i ?_; refine mv_i ?_; refine ret2 ?_)
    refine ⟨pall, ?_⟩
    have e0 := R1 (by omega)
    rw [eP, e0, if_neg (by decide)]
  have hkl : ks.length = w.length := by omega
  have R2 := R2 hkl
  have R3 := R3 hkl
  have gtail : ks.length = 0 → endI m ks = m.start := fun h0 => by
    have : ks = [] := List.length_eq_zero_iff.mp h0
    subst this; rfl
  with_reducible (refine cnd_f ?_; refine mv_i ?_; refine leni_i t23 (by assumption) ?_)
  refine gtr_i (fun hpos => ?_) (fun hpos => ?_)
  · obtain ⟨n, hn⟩ : ∃ n, ks.length = n + 1 := ⟨ks.length - 1, by omega⟩
    have hle := last_end (m := m) hn
    have hz : (ks.map fun k : Nat => (k : Int)).getD n 0 = ((ks.getD n 0 : Nat) : Int) := by simp [List.getD, show n < ks.length by omega]
    have hkj : ks.getD n 0 < m.steps.length := hkin _ (gd_mem 0 (by omega))
    with_reducible (refine mv_i ?_; refine gd_tt ?_; refine vk_i (fa36_4 _) ?_; refine gd_tt ?_; refine ld5_4 r34 (by assumption) ?_; refine ⟨VB_of_steps (by assumption), ?_⟩; refine gd_tt ?_; refine mv_i ?_; refine gd_tt ?_; refine mv_i ?_; refine gd_tt ?_; refine leni_i t23 (by assumption) ?_; refine gd_tt ?_)
    refine sub_i ⟨by omega, by omega⟩ ?_
    rw [show (((ks.map fun k : Nat => (k : Int)).length : Int) - 1) = (n : Int) by omega]
    with_reducible (refine gd_tt ?_; refine idxi_i t23 (by assumption) (by omega) ?_; refine gd_tt ?_; refine ldi_i t23 r3 (by assumption) (by omega) ?_; refine ⟨vbi _ _, ?_⟩; refine gd_tt ?_; refine idxzst t34 (by assumption) (by omega) (by omega) ?_; refine gd_tt ?_; refine fae_i st63 (by assumption) (by omega) (by omega) ?_; refine gd_tt ?_; refine ldto dst st63 (by assumption) (by omega) ?_; refine ⟨vbi _ _, ?_⟩; refine gd_tt ?_; refine vk_i (fa36_3 _) ?_; refine gd_tt ?_; refine ld5_3 r3 (by assumption) ?_; refine ⟨vbi _ _, ?_⟩; refine gd_tt ?_)
    rw [hz, Int.toNat_natCast]
    skip
    refine neq_i (fun hend => ?_) (fun hend => ?_)
    · rw [← hle] at hend
      have R4 : midE m ks ps = if ∃ i ∈ rchL m, ¬ i ∈ ks.map fun k : Nat => (k : Int) then 11 else if (ps.length : Int) ≠ m.states then 6 else if ∃ x ∈ ps, inR x (-1000) 1000 = false then 21 else 0 := by
        unfold midE; rw [if_neg (fun hc => hc hend)]
      with_reducible (refine pick_t ?_; refine cnd_f ?_)
      refine vk_i (ld36 hb3) ?_
      refine call_i (c26 (macv_of (m := m) ss3) r) ?_
      rintro _ g4 ⟨p4, x0, yv, rfl, q4⟩
      have sy4 := q4.self.2
      clear q4
      have hyl : ((List.range m.steps.length).map fun k => (rchB m m.start).getD (m.steps.getD k dst).fr.toNat false).length = m.steps.length := by simp
      have hyg : ∀ k, k < m.steps.length → ((List.range m.steps.length).map fun k => (rchB m m.start).getD (m.steps.getD k dst).fr.toNat false).getD k false = rP m k := fun k hk => by simp [List.getD, hk, rP]
      generalize ((List.range m.steps.length).map fun k => (rchB m m.start).getD (m.steps.getD k dst).fr.toNat false) = yl at sy4 hyl hyg
      have hb4 := (Sub.of_pre p4).2 _ _ hb3
      have hr4 := (Sub.of_pre p4).2 _ _ hr3
      have ss4 := ss3.mono (Sub.of_pre p4)
      have sp4 := sp3.mono (Sub.of_pre p4)
      have sq4 := sq3.mono (Sub.of_pre p4)
      have st4 := st3.mono (Sub.of_pre p4)
      have pall4 := pall.trans p4
      with_reducible (refine mv_i ?_; refine ex2_0 ?_; refine ex2_1 ?_; refine mv_i ?_; refine mv_i ?_; refine mv_i ?_)
      refine loop1 m.steps.length (fun k h2 => g4 = h2 ∧ ∀ j, j < k → rP m j = true → (j : Int) ∈ ks.map fun k : Nat => (k : Int)) ⟨rfl, fun j hj => by omega⟩ ?_
      rintro k _ _ hk ⟨rfl, hJ⟩
      with_reducible (refine mv_i ?_; refine vk_i (fa36_4 _) ?_; refine ld5_4 r34 (by assumption) ?_; refine lenst t34 (by assumption) ?_)
      refine lss_i (fun hlt => ?_) (fun hge => ?_)
      · have hk2 : k < m.steps.length := by omega
        have hg := hyg k hk2
        have nx : (rP m k = true → (k : Int) ∈ ks.map fun k : Nat => (k : Int)) → ∀ j, j < k + 1 → rP m j = true → (j : Int) ∈ ks.map fun k : Nat => (k : Int) := by
          intro hc j hj hp
          by_cases q : j = k
          · subst q; exact hc hp
          · exact hJ j (by omega) hp
        with_reducible (refine cnd_t ?_; refine mv_i ?_; refine mv_i ?_; refine idxb_i t48 (by assumption) (by omega) ?_; refine ldb_i t48 r4 (by assumption) (by omega) ?_; refine mv_i ?_)
        rw [hg]
        rcases hp : rP m k with _ | _
        · with_reducible (refine gd_ft ?_; refine gd_ft ?_; refine gd_ft ?_; refine gd_ft ?_; refine pick_f ?_; refine cnd_f ?_; refine mv_i ?_; refine inc_i (by omega) ?_; refine mv_i ?_)
          exact next1 hk2 ⟨rfl, nx fun hc => by rw [hp] at hc; cases hc⟩
        · with_reducible (refine gd_tt ?_; refine mv_i ?_; refine gd_tt ?_; refine mv_i ?_; refine gd_tt ?_)
          refine call_r (c47 st4) ?_
          by_cases hin : (k : Int) ∈ ks.map fun k : Nat => (k : Int)
          · rw [decide_eq_true hin]
            with_reducible (refine gd_tt ?_; refine not_t ?_; refine pick_t ?_; refine cnd_f ?_; refine mv_i ?_; refine inc_i (by omega) ?_; refine mv_i ?_)
            exact next1 hk2 ⟨rfl, nx fun _ => hin⟩
          · rw [decide_eq_false hin]
            with_reducible (refine gd_tt ?_; refine not_f ?_; refine pick_t ?_; refine cnd_t ?_; refine mv_i ?_; refine mv_i ?_; refine ret2 ?_)
            refine ⟨pall4, ?_⟩
            rw [if_pos ⟨(k : Int), idxs_mem.mpr ⟨k, rfl, hk2, hp⟩, hin⟩] at R4
            have e0 := R2 (by rw [R4]; decide)
            rw [eP, e0, R4, if_neg (by decide)]
      have hno : ¬ ∃ i ∈ rchL m, ¬ i ∈ ks.map fun k : Nat => (k : Int) := by
        rintro ⟨i, hi, hn⟩
        obtain ⟨j, rfl, hj, hp⟩ := idxs_mem.mp hi
        exact hn (hJ j (by omega) hp)
      rw [if_neg hno] at R4
      with_reducible (refine cnd_f ?_; refine vk_i (fa27_1 _) ?_; refine ld2_1 r23 (by assumption) ?_; refine leni_i t23 (by assumption) ?_; refine vk_i (fa36_0 _) ?_; refine ld5_0 r3 (by assumption) ?_)
      refine neq_i (fun hps => ?_) (fun hps => ?_)
      rotate_left
      · with_reducible (refine cnd_t ?_; refine mv_i ?_; refine mv_i ?_; refine ret2 ?_)
        refine ⟨pall4, ?_⟩
        rw [if_pos hps] at R4
        have e0 := R2 (by rw [R4]; decide)
        rw [eP, e0, R4, if_neg (by decide)]
      rw [if_neg (fun hc => hc hps)] at R4
      with_reducible (refine cnd_f ?_; refine mv_i ?_)
      refine loop1 ps.length (fun k h2 => g4 = h2 ∧ ∀ j, j < k → inR (ps.getD j 0) (-1000) 1000 = true) ⟨rfl, fun j hj => by omega⟩ ?_
      rintro k2 _ _ hk2 ⟨rfl, hJ2⟩
      with_reducible (refine mv_i ?_; refine vk_i (fa36_0 _) ?_; refine ld5_0 r3 (by assumption) ?_)
      refine lss_i (fun hlt => ?_) (fun hge2 => ?_)
      · have hk3 : k2 < ps.length := by omega
        with_reducible (refine cnd_t ?_; refine vk_i (fa27_1 _) ?_; refine ld2_1 r23 (by assumption) ?_; refine mv_i ?_; refine idxi_i t23 (by assumption) (by omega) ?_; refine ldi_i t23 r3 (by assumption) (by omega) ?_)
        refine call_r (c22 _ _ _) ?_
        cases hz : inR (ps.getD k2 0) (-1000) 1000 with
        | true =>
          with_reducible (refine not_t ?_; refine cnd_f ?_; refine mv_i ?_; refine inc_i (by omega) ?_; refine mv_i ?_)
          refine next1 hk3 ⟨rfl, fun j hj => ?_⟩
          by_cases q : j = k2
          · subst q; exact hz
          · exact hJ2 j (by omega)
        | false =>
          with_reducible (refine not_f ?_; refine cnd_t ?_; refine mv_i ?_; refine mv_i ?_; refine ret2 ?_)
          refine ⟨pall4, ?_⟩
          rw [if_pos ⟨_, gd_mem 0 hk3, hz⟩] at R4
          have e0 := R2 (by rw [R4]; decide)
          rw [eP, e0, R4, if_neg (by decide)]
      have hbd : ¬ ∃ x ∈ ps, inR x (-1000) 1000 = false := by
        rintro ⟨x, hx, hn⟩
        obtain ⟨j, hj, he⟩ := mem_gd 0 hx
        have := hJ2 j (by omega)
        rw [he, hn] at this
        cases this
      rw [if_neg hbd] at R4
      have R3 := R3 R4
      have hpb := psOK_of hbd
      with_reducible (refine cnd_f ?_; refine mv_i ?_; refine mv_i ?_)
      refine loop2 ks.length (fun j pv h2 => g4 = h2 ∧ pv = .int .i64 (priceI pr (ks.take j)) ∧ 0 ≤ priceI pr (ks.take j) ∧ priceI pr (ks.take j) ≤ 20 * j) ⟨rfl, rfl, by simp [priceI], by simp [priceI]⟩ ?_
      rintro j _ _ _ hj ⟨rfl, rfl, hp0, hp1⟩
      with_reducible (refine mv_i ?_; refine mv_i ?_; refine leni_i t23 (by assumption) ?_)
      refine lss_i (fun hlt2 => ?_) (fun hge3 => ?_)
      · have hj2 : j < ks.length := by omega
        have hz : (ks.map fun k : Nat => (k : Int)).getD j 0 = ((ks.getD j 0 : Nat) : Int) := by simp [List.getD, hj2]
        have hkj : ks.getD j 0 < m.steps.length := hkin _ (gd_mem 0 hj2)
        have hpk := hpo (ks.getD j 0)
        have hpt := priceI_take (pr := pr) hj2
        with_reducible (refine cnd_t ?_; refine mv_i ?_; refine mv_i ?_; refine mv_i ?_; refine mv_i ?_; refine idxi_i t23 (by assumption) (by omega) ?_; refine ldi_i t23 r3 (by assumption) (by omega) ?_; refine idxzi t23 (by assumption) (by omega) (by omega) ?_; refine ldi_i t23 r3 (by assumption) (by omega) ?_)
        rw [hz, Int.toNat_natCast]
        refine add_i ⟨by omega, by omega⟩ ?_
        with_reducible (refine mv_i ?_; refine mv_i ?_; refine inc_i (by omega) ?_; refine mv_i ?_)
        exact next2 hj2 ⟨rfl, by rw [hpt], by omega, by push_cast; omega⟩
      have ej : j = ks.length := by omega
      rw [ej, List.take_of_length_le (Nat.le_refl _)] at hp0 hp1 ⊢
      with_reducible (refine cnd_f ?_; refine mv_i ?_; refine mv_i ?_)
      refine loop2 m.steps.length (fun k sv h2 => g4 = h2 ∧ sv = .int .i64 (restS m pr ps (idxs (rP m) k)) ∧ 0 ≤ restS m pr ps (idxs (rP m) k) ∧ restS m pr ps (idxs (rP m) k) ≤ 2020 * k ∧ ∀ i, i < k → rP m i = true → 0 ≤ restI m pr ps i) ⟨rfl, rfl, by simp [restS, idxs], by simp [restS, idxs], fun i hi => by omega⟩ ?_
      rintro k _ _ _ hk ⟨rfl, rfl, hs0, hs1, hneg⟩
      with_reducible (refine mv_i ?_; refine vk_i (fa36_4 _) ?_; refine ld5_4 r34 (by assumption) ?_; refine lenst t34 (by assumption) ?_)
      refine lss_i (fun hlt3 => ?_) (fun hge3 => ?_)
      · have hk2 : k < m.steps.length := by omega
        have hg := hyg k hk2
        have hst := r.st hk2
        have hpz := hpo k
        have ha := hpb (m.steps.getD k dst).fr.toNat
        have hb := hpb (m.steps.getD k dst).to.toNat
        have hrb := restI_b (m := m) hpo hpb k
        have hre : restI m pr ps k = pr.getD k 0 + ps.getD (m.steps.getD k dst).fr.toNat 0 - ps.getD (m.steps.getD k dst).to.toNat 0 := rfl
        have hrs := restS_succ (m := m) (pr := pr) (ps := ps) (j := k)
        refine cnd_t ?_
        refine seq_J (fun xs h4 => xs = [.int .i64 (restS m pr ps (idxs (rP m) (k + 1)))] ∧ h4 = g4 ∧ 0 ≤ restS m pr ps (idxs (rP m) (k + 1)) ∧ restS m pr ps (idxs (rP m) (k + 1)) ≤ 2020 * (k + 1) ∧ ∀ i, i < k + 1 → rP m i = true → 0 ≤ restI m pr ps i) ?_ ?_
        · rintro _ _ ⟨rfl, rfl, a1, a2, a3⟩ _
          show mvK _ _ _
          with_reducible (refine mv_i ?_; refine inc_i (by omega) ?_; refine mv_i ?_)
          exact next2 hk2 ⟨rfl, rfl, a1, by push_cast; omega, a3⟩
        intro k' hk'
        with_reducible (refine mv_i ?_; refine mv_i ?_; refine idxi_i t23 (by assumption) (by omega) ?_; refine ldi_i t23 r3 (by assumption) (by omega) ?_; refine ⟨vbi _ _, ?_⟩; refine vk_i (fa27_1 _) ?_; refine ld2_1 r23 (by assumption) ?_; refine ⟨VB_of_ints (by assumption), ?_⟩; refine vk_i (fa36_4 _) ?_; refine ld5_4 r34 (by assumption) ?_; refine ⟨VB_of_steps (by assumption), ?_⟩; refine mv_i ?_; refine idxst t34 (by assumption) (by omega) ?_; refine fae_i st63 (by assumption) (by omega) (by omega) ?_; refine ldfr dst st63 (by assumption) (by omega) ?_; refine ⟨vbi _ _, ?_⟩; refine idxzi t23 (by assumption) (by omega) (by omega) ?_; refine ldi_i t23 r3 (by assumption) (by omega) ?_; refine ⟨vbi _ _, ?_⟩)
        refine add_i ⟨by omega, by omega⟩ ?_
        with_reducible (refine vk_i (fa27_1 _) ?_; refine ld2_1 r23 (by assumption) ?_; refine ⟨VB_of_ints (by assumption), ?_⟩; refine vk_i (fa36_4 _) ?_; refine ld5_4 r34 (by assumption) ?_; refine ⟨VB_of_steps (by assumption), ?_⟩; refine mv_i ?_; refine idxst t34 (by assumption) (by omega) ?_; refine fae_i st63 (by assumption) (by omega) (by omega) ?_; refine ldto dst st63 (by assumption) (by omega) ?_; refine ⟨vbi _ _, ?_⟩; refine idxzi t23 (by assumption) (by omega) (by omega) ?_; refine ldi_i t23 r3 (by assumption) (by omega) ?_; refine ⟨vbi _ _, ?_⟩)
        refine sub_i ⟨by omega, by omega⟩ ?_
        rw [← hre]
        with_reducible (refine mv_i ?_; refine mv_i ?_; refine mv_i ?_; refine idxb_i t48 (by assumption) (by omega) ?_; refine ldb_i t48 r4 (by assumption) (by omega) ?_; refine mv_i ?_)
        rw [hg]
        rcases hp : rP m k with _ | _
        · rw [hp, if_neg (by simp)] at hrs
          with_reducible (refine gd_ft ?_; refine gd_ft ?_; refine pick_f ?_; refine cnd_f ?_; refine mv_i ?_; refine mv_i ?_; refine idxb_i t48 (by assumption) (by omega) ?_; refine ldb_i t48 r4 (by assumption) (by omega) ?_)
          rw [hg, hp]
          with_reducible (refine cnd_f ?_)
          refine hk' _ _ ⟨by rw [hrs], rfl, by rw [hrs]; exact hs0, by rw [hrs]; omega, fun i hi hpi => ?_⟩
          by_cases q : i = k
          · subst q; rw [hp] at hpi; cases hpi
          · exact hneg i (by omega) hpi
        · rw [hp, if_pos rfl] at hrs
          with_reducible (refine gd_tt ?_; refine mv_i ?_; refine gd_tt ?_)
          refine lss_i (fun hn => ?_) (fun hn => ?_)
          · with_reducible (refine pick_t ?_; refine cnd_t ?_; refine mv_i ?_; refine mv_i ?_; refine ret2 ?_)
            refine ⟨pall4, ?_⟩
            have : finE m pr ks ps = 30 := by
              unfold finE
              rw [if_pos (.inl ⟨(k : Int), idxs_mem.mpr ⟨k, rfl, hk2, hp⟩, hn⟩)]
            rw [eP, R3, this, if_neg (by decide)]
          · with_reducible (refine pick_t ?_; refine cnd_f ?_; refine mv_i ?_; refine mv_i ?_; refine idxb_i t48 (by assumption) (by omega) ?_; refine ldb_i t48 r4 (by assumption) (by omega) ?_)
            rw [hg, hp]
            with_reducible (refine cnd_t ?_; refine mv_i ?_; refine mv_i ?_)
            refine add_i ⟨by omega, by omega⟩ ?_
            with_reducible (refine mv_i ?_)
            refine hk' _ _ ⟨by rw [hrs], rfl, by rw [hrs]; omega, by rw [hrs]; omega, fun i hi hpi => ?_⟩
            by_cases q : i = k
            · subst q; omega
            · exact hneg i (by omega) hpi
      have ek : k = m.steps.length := by omega
      rw [ek] at hs0 hs1 hneg ⊢
      have hnn : ¬ ∃ i ∈ rchL m, restI m pr ps i.toNat < 0 := by
        rintro ⟨i, hi, hn⟩
        obtain ⟨q, rfl, hq, hp⟩ := idxs_mem.mp hi
        have := hneg q hq hp
        rw [Int.toNat_natCast] at hn
        omega
      with_reducible (refine cnd_f ?_; refine mv_i ?_; refine mv_i ?_)
      refine neq_i (fun hq => ?_) (fun hq => ?_)
      · with_reducible (refine cnd_f ?_; refine mv_i ?_; refine mv_i ?_; refine mv_i ?_; refine ret2 ?_)
        refine ⟨pall4, ?_⟩
        have : finE m pr ks ps = 0 := by
          unfold finE
          rw [if_neg (by rintro (hc | hc); exact hnn hc; exact hc hq)]
        rw [eP, R3, this, if_pos rfl]
      · with_reducible (refine cnd_t ?_; refine mv_i ?_; refine mv_i ?_; refine ret2 ?_)
        refine ⟨pall4, ?_⟩
        have : finE m pr ks ps = 30 := by
          unfold finE
          rw [if_pos (.inr hq)]
        rw [eP, R3, this, if_neg (by decide)]
    · rw [← hle] at hend
      with_reducible (refine pick_t ?_; refine cnd_t ?_; refine mv_i ?_; refine mv_i ?_; refine ret2 ?_)
      refine ⟨pall, ?_⟩
      have : midE m ks ps = 39 := by unfold midE; rw [if_pos hend]
      have e0 := R2 (by rw [this]; decide)
      rw [eP, e0, this, if_neg (by decide)]
  · have hend := gtail (by omega)
    have R4 : midE m ks ps = if ∃ i ∈ rchL m, ¬ i ∈ ks.map fun k : Nat => (k : Int) then 11 else if (ps.length : Int) ≠ m.states then 6 else if ∃ x ∈ ps, inR x (-1000) 1000 = false then 21 else 0 := by
      unfold midE; rw [if_neg (fun hc => hc hend)]
    with_reducible (refine mv_i ?_; refine gd_ft ?_; refine gd_ft ?_; refine gd_ft ?_; refine gd_ft ?_; refine gd_ft ?_; refine gd_ft ?_; refine gd_ft ?_; refine gd_ft ?_; refine gd_ft ?_; refine gd_ft ?_; refine gd_ft ?_; refine gd_ft ?_; refine gd_ft ?_; refine gd_ft ?_; refine pick_f ?_; refine cnd_f ?_)
    refine vk_i (ld36 hb3) ?_
    refine call_i (c26 (macv_of (m := m) ss3) r) ?_
    rintro _ g4 ⟨p4, x0, yv, rfl, q4⟩
    have sy4 := q4.self.2
    clear q4
    have hyl : ((List.range m.steps.length).map fun k => (rchB m m.start).getD (m.steps.getD k dst).fr.toNat false).length = m.steps.length := by simp
    have hyg : ∀ k, k < m.steps.length → ((List.range m.steps.length).map fun k => (rchB m m.start).getD (m.steps.getD k dst).fr.toNat false).getD k false = rP m k := fun k hk => by simp [List.getD, hk, rP]
    generalize ((List.range m.steps.length).map fun k => (rchB m m.start).getD (m.steps.getD k dst).fr.toNat false) = yl at sy4 hyl hyg
    have hb4 := (Sub.of_pre p4).2 _ _ hb3
    have hr4 := (Sub.of_pre p4).2 _ _ hr3
    have ss4 := ss3.mono (Sub.of_pre p4)
    have sp4 := sp3.mono (Sub.of_pre p4)
    have sq4 := sq3.mono (Sub.of_pre p4)
    have st4 := st3.mono (Sub.of_pre p4)
    have pall4 := pall.trans p4
    with_reducible (refine mv_i ?_; refine ex2_0 ?_; refine ex2_1 ?_; refine mv_i ?_; refine mv_i ?_; refine mv_i ?_)
    refine loop1 m.steps.length (fun k h2 => g4 = h2 ∧ ∀ j, j < k → rP m j = true → (j : Int) ∈ ks.map fun k : Nat => (k : Int)) ⟨rfl, fun j hj => by omega⟩ ?_
    rintro k _ _ hk ⟨rfl, hJ⟩
    with_reducible (refine mv_i ?_; refine vk_i (fa36_4 _) ?_; refine ld5_4 r34 (by assumption) ?_; refine lenst t34 (by assumption) ?_)
    refine lss_i (fun hlt => ?_) (fun hge => ?_)
    · have hk2 : k < m.steps.length := by omega
      have hg := hyg k hk2
      have nx : (rP m k = true → (k : Int) ∈ ks.map fun k : Nat => (k : Int)) → ∀ j, j < k + 1 → rP m j = true → (j : Int) ∈ ks.map fun k : Nat => (k : Int) := by
        intro hc j hj hp
        by_cases q : j = k
        · subst q; exact hc hp
        · exact hJ j (by omega) hp
      with_reducible (refine cnd_t ?_; refine mv_i ?_; refine mv_i ?_; refine idxb_i t48 (by assumption) (by omega) ?_; refine ldb_i t48 r4 (by assumption) (by omega) ?_; refine mv_i ?_)
      rw [hg]
      rcases hp : rP m k with _ | _
      · with_reducible (refine gd_ft ?_; refine gd_ft ?_; refine gd_ft ?_; refine gd_ft ?_; refine pick_f ?_; refine cnd_f ?_; refine mv_i ?_; refine inc_i (by omega) ?_; refine mv_i ?_)
        exact next1 hk2 ⟨rfl, nx fun hc => by rw [hp] at hc; cases hc⟩
      · with_reducible (refine gd_tt ?_; refine mv_i ?_; refine gd_tt ?_; refine mv_i ?_; refine gd_tt ?_)
        refine call_r (c47 st4) ?_
        by_cases hin : (k : Int) ∈ ks.map fun k : Nat => (k : Int)
        · rw [decide_eq_true hin]
          with_reducible (refine gd_tt ?_; refine not_t ?_; refine pick_t ?_; refine cnd_f ?_; refine mv_i ?_; refine inc_i (by omega) ?_; refine mv_i ?_)
          exact next1 hk2 ⟨rfl, nx fun _ => hin⟩
        · rw [decide_eq_false hin]
          with_reducible (refine gd_tt ?_; refine not_f ?_; refine pick_t ?_; refine cnd_t ?_; refine mv_i ?_; refine mv_i ?_; refine ret2 ?_)
          refine ⟨pall4, ?_⟩
          rw [if_pos ⟨(k : Int), idxs_mem.mpr ⟨k, rfl, hk2, hp⟩, hin⟩] at R4
          have e0 := R2 (by rw [R4]; decide)
          rw [eP, e0, R4, if_neg (by decide)]
    have hno : ¬ ∃ i ∈ rchL m, ¬ i ∈ ks.map fun k : Nat => (k : Int) := by
      rintro ⟨i, hi, hn⟩
      obtain ⟨j, rfl, hj, hp⟩ := idxs_mem.mp hi
      exact hn (hJ j (by omega) hp)
    rw [if_neg hno] at R4
    with_reducible (refine cnd_f ?_; refine vk_i (fa27_1 _) ?_; refine ld2_1 r23 (by assumption) ?_; refine leni_i t23 (by assumption) ?_; refine vk_i (fa36_0 _) ?_; refine ld5_0 r3 (by assumption) ?_)
    refine neq_i (fun hps => ?_) (fun hps => ?_)
    rotate_left
    · with_reducible (refine cnd_t ?_; refine mv_i ?_; refine mv_i ?_; refine ret2 ?_)
      refine ⟨pall4, ?_⟩
      rw [if_pos hps] at R4
      have e0 := R2 (by rw [R4]; decide)
      rw [eP, e0, R4, if_neg (by decide)]
    rw [if_neg (fun hc => hc hps)] at R4
    with_reducible (refine cnd_f ?_; refine mv_i ?_)
    refine loop1 ps.length (fun k h2 => g4 = h2 ∧ ∀ j, j < k → inR (ps.getD j 0) (-1000) 1000 = true) ⟨rfl, fun j hj => by omega⟩ ?_
    rintro k2 _ _ hk2 ⟨rfl, hJ2⟩
    with_reducible (refine mv_i ?_; refine vk_i (fa36_0 _) ?_; refine ld5_0 r3 (by assumption) ?_)
    refine lss_i (fun hlt => ?_) (fun hge2 => ?_)
    · have hk3 : k2 < ps.length := by omega
      with_reducible (refine cnd_t ?_; refine vk_i (fa27_1 _) ?_; refine ld2_1 r23 (by assumption) ?_; refine mv_i ?_; refine idxi_i t23 (by assumption) (by omega) ?_; refine ldi_i t23 r3 (by assumption) (by omega) ?_)
      refine call_r (c22 _ _ _) ?_
      cases hz : inR (ps.getD k2 0) (-1000) 1000 with
      | true =>
        with_reducible (refine not_t ?_; refine cnd_f ?_; refine mv_i ?_; refine inc_i (by omega) ?_; refine mv_i ?_)
        refine next1 hk3 ⟨rfl, fun j hj => ?_⟩
        by_cases q : j = k2
        · subst q; exact hz
        · exact hJ2 j (by omega)
      | false =>
        with_reducible (refine not_f ?_; refine cnd_t ?_; refine mv_i ?_; refine mv_i ?_; refine ret2 ?_)
        refine ⟨pall4, ?_⟩
        rw [if_pos ⟨_, gd_mem 0 hk3, hz⟩] at R4
        have e0 := R2 (by rw [R4]; decide)
        rw [eP, e0, R4, if_neg (by decide)]
    have hbd : ¬ ∃ x ∈ ps, inR x (-1000) 1000 = false := by
      rintro ⟨x, hx, hn⟩
      obtain ⟨j, hj, he⟩ := mem_gd 0 hx
      have := hJ2 j (by omega)
      rw [he, hn] at this
      cases this
    rw [if_neg hbd] at R4
    have R3 := R3 R4
    have hpb := psOK_of hbd
    with_reducible (refine cnd_f ?_; refine mv_i ?_; refine mv_i ?_)
    refine loop2 ks.length (fun j pv h2 => g4 = h2 ∧ pv = .int .i64 (priceI pr (ks.take j)) ∧ 0 ≤ priceI pr (ks.take j) ∧ priceI pr (ks.take j) ≤ 20 * j) ⟨rfl, rfl, by simp [priceI], by simp [priceI]⟩ ?_
    rintro j _ _ _ hj ⟨rfl, rfl, hp0, hp1⟩
    with_reducible (refine mv_i ?_; refine mv_i ?_; refine leni_i t23 (by assumption) ?_)
    refine lss_i (fun hlt2 => ?_) (fun hge3 => ?_)
    · have hj2 : j < ks.length := by omega
      have hz : (ks.map fun k : Nat => (k : Int)).getD j 0 = ((ks.getD j 0 : Nat) : Int) := by simp [List.getD, hj2]
      have hkj : ks.getD j 0 < m.steps.length := hkin _ (gd_mem 0 hj2)
      have hpk := hpo (ks.getD j 0)
      have hpt := priceI_take (pr := pr) hj2
      with_reducible (refine cnd_t ?_; refine mv_i ?_; refine mv_i ?_; refine mv_i ?_; refine mv_i ?_; refine idxi_i t23 (by assumption) (by omega) ?_; refine ldi_i t23 r3 (by assumption) (by omega) ?_; refine idxzi t23 (by assumption) (by omega) (by omega) ?_; refine ldi_i t23 r3 (by assumption) (by omega) ?_)
      rw [hz, Int.toNat_natCast]
      refine add_i ⟨by omega, by omega⟩ ?_
      with_reducible (refine mv_i ?_; refine mv_i ?_; refine inc_i (by omega) ?_; refine mv_i ?_)
      exact next2 hj2 ⟨rfl, by rw [hpt], by omega, by push_cast; omega⟩
    have ej : j = ks.length := by omega
    rw [ej, List.take_of_length_le (Nat.le_refl _)] at hp0 hp1 ⊢
    with_reducible (refine cnd_f ?_; refine mv_i ?_; refine mv_i ?_)
    refine loop2 m.steps.length (fun k sv h2 => g4 = h2 ∧ sv = .int .i64 (restS m pr ps (idxs (rP m) k)) ∧ 0 ≤ restS m pr ps (idxs (rP m) k) ∧ restS m pr ps (idxs (rP m) k) ≤ 2020 * k ∧ ∀ i, i < k → rP m i = true → 0 ≤ restI m pr ps i) ⟨rfl, rfl, by simp [restS, idxs], by simp [restS, idxs], fun i hi => by omega⟩ ?_
    rintro k _ _ _ hk ⟨rfl, rfl, hs0, hs1, hneg⟩
    with_reducible (refine mv_i ?_; refine vk_i (fa36_4 _) ?_; refine ld5_4 r34 (by assumption) ?_; refine lenst t34 (by assumption) ?_)
    refine lss_i (fun hlt3 => ?_) (fun hge3 => ?_)
    · have hk2 : k < m.steps.length := by omega
      have hg := hyg k hk2
      have hst := r.st hk2
      have hpz := hpo k
      have ha := hpb (m.steps.getD k dst).fr.toNat
      have hb := hpb (m.steps.getD k dst).to.toNat
      have hrb := restI_b (m := m) hpo hpb k
      have hre : restI m pr ps k = pr.getD k 0 + ps.getD (m.steps.getD k dst).fr.toNat 0 - ps.getD (m.steps.getD k dst).to.toNat 0 := rfl
      have hrs := restS_succ (m := m) (pr := pr) (ps := ps) (j := k)
      refine cnd_t ?_
      refine seq_J (fun xs h4 => xs = [.int .i64 (restS m pr ps (idxs (rP m) (k + 1)))] ∧ h4 = g4 ∧ 0 ≤ restS m pr ps (idxs (rP m) (k + 1)) ∧ restS m pr ps (idxs (rP m) (k + 1)) ≤ 2020 * (k + 1) ∧ ∀ i, i < k + 1 → rP m i = true → 0 ≤ restI m pr ps i) ?_ ?_
      · rintro _ _ ⟨rfl, rfl, a1, a2, a3⟩ _
        show mvK _ _ _
        with_reducible (refine mv_i ?_; refine inc_i (by omega) ?_; refine mv_i ?_)
        exact next2 hk2 ⟨rfl, rfl, a1, by push_cast; omega, a3⟩
      intro k' hk'
      with_reducible (refine mv_i ?_; refine mv_i ?_; refine idxi_i t23 (by assumption) (by omega) ?_; refine ldi_i t23 r3 (by assumption) (by omega) ?_; refine ⟨vbi _ _, ?_⟩; refine vk_i (fa27_1 _) ?_; refine ld2_1 r23 (by assumption) ?_; refine ⟨VB_of_ints (by assumption), ?_⟩; refine vk_i (fa36_4 _) ?_; refine ld5_4 r34 (by assumption) ?_; refine ⟨VB_of_steps (by assumption), ?_⟩; refine mv_i ?_; refine idxst t34 (by assumption) (by omega) ?_; refine fae_i st63 (by assumption) (by omega) (by omega) ?_; refine ldfr dst st63 (by assumption) (by omega) ?_; refine ⟨vbi _ _, ?_⟩; refine idxzi t23 (by assumption) (by omega) (by omega) ?_; refine ldi_i t23 r3 (by assumption) (by omega) ?_; refine ⟨vbi _ _, ?_⟩)
      refine add_i ⟨by omega, by omega⟩ ?_
      with_reducible (refine vk_i (fa27_1 _) ?_; refine ld2_1 r23 (by assumption) ?_; refine ⟨VB_of_ints (by assumption), ?_⟩; refine vk_i (fa36_4 _) ?_; refine ld5_4 r34 (by assumption) ?_; refine ⟨VB_of_steps (by assumption), ?_⟩; refine mv_i ?_; refine idxst t34 (by assumption) (by omega) ?_; refine fae_i st63 (by assumption) (by omega) (by omega) ?_; refine ldto dst st63 (by assumption) (by omega) ?_; refine ⟨vbi _ _, ?_⟩; refine idxzi t23 (by assumption) (by omega) (by omega) ?_; refine ldi_i t23 r3 (by assumption) (by omega) ?_; refine ⟨vbi _ _, ?_⟩)
      refine sub_i ⟨by omega, by omega⟩ ?_
      rw [← hre]
      with_reducible (refine mv_i ?_; refine mv_i ?_; refine mv_i ?_; refine idxb_i t48 (by assumption) (by omega) ?_; refine ldb_i t48 r4 (by assumption) (by omega) ?_; refine mv_i ?_)
      rw [hg]
      rcases hp : rP m k with _ | _
      · rw [hp, if_neg (by simp)] at hrs
        with_reducible (refine gd_ft ?_; refine gd_ft ?_; refine pick_f ?_; refine cnd_f ?_; refine mv_i ?_; refine mv_i ?_; refine idxb_i t48 (by assumption) (by omega) ?_; refine ldb_i t48 r4 (by assumption) (by omega) ?_)
        rw [hg, hp]
        with_reducible (refine cnd_f ?_)
        refine hk' _ _ ⟨by rw [hrs], rfl, by rw [hrs]; exact hs0, by rw [hrs]; omega, fun i hi hpi => ?_⟩
        by_cases q : i = k
        · subst q; rw [hp] at hpi; cases hpi
        · exact hneg i (by omega) hpi
      · rw [hp, if_pos rfl] at hrs
        with_reducible (refine gd_tt ?_; refine mv_i ?_; refine gd_tt ?_)
        refine lss_i (fun hn => ?_) (fun hn => ?_)
        · with_reducible (refine pick_t ?_; refine cnd_t ?_; refine mv_i ?_; refine mv_i ?_; refine ret2 ?_)
          refine ⟨pall4, ?_⟩
          have : finE m pr ks ps = 30 := by
            unfold finE
            rw [if_pos (.inl ⟨(k : Int), idxs_mem.mpr ⟨k, rfl, hk2, hp⟩, hn⟩)]
          rw [eP, R3, this, if_neg (by decide)]
        · with_reducible (refine pick_t ?_; refine cnd_f ?_; refine mv_i ?_; refine mv_i ?_; refine idxb_i t48 (by assumption) (by omega) ?_; refine ldb_i t48 r4 (by assumption) (by omega) ?_)
          rw [hg, hp]
          with_reducible (refine cnd_t ?_; refine mv_i ?_; refine mv_i ?_)
          refine add_i ⟨by omega, by omega⟩ ?_
          with_reducible (refine mv_i ?_)
          refine hk' _ _ ⟨by rw [hrs], rfl, by rw [hrs]; omega, by rw [hrs]; omega, fun i hi hpi => ?_⟩
          by_cases q : i = k
          · subst q; omega
          · exact hneg i (by omega) hpi
    have ek : k = m.steps.length := by omega
    rw [ek] at hs0 hs1 hneg ⊢
    have hnn : ¬ ∃ i ∈ rchL m, restI m pr ps i.toNat < 0 := by
      rintro ⟨i, hi, hn⟩
      obtain ⟨q, rfl, hq, hp⟩ := idxs_mem.mp hi
      have := hneg q hq hp
      rw [Int.toNat_natCast] at hn
      omega
    with_reducible (refine cnd_f ?_; refine mv_i ?_; refine mv_i ?_)
    refine neq_i (fun hq => ?_) (fun hq => ?_)
    · with_reducible (refine cnd_f ?_; refine mv_i ?_; refine mv_i ?_; refine mv_i ?_; refine ret2 ?_)
      refine ⟨pall4, ?_⟩
      have : finE m pr ks ps = 0 := by
        unfold finE
        rw [if_neg (by rintro (hc | hc); exact hnn hc; exact hc hq)]
      rw [eP, R3, this, if_pos rfl]
    · with_reducible (refine cnd_t ?_; refine mv_i ?_; refine mv_i ?_; refine ret2 ?_)
      refine ⟨pall4, ?_⟩
      have : finE m pr ks ps = 30 := by
        unfold finE
        rw [if_pos (.inr hq)]
      rw [eP, R3, this, if_neg (by decide)]
end Go.Proofs.Ytdjoednhfoligaa

set_option linter.unusedSimpArgs false
set_option linter.unusedVariables false
set_option maxRecDepth 100000
namespace Go.Proofs.Ytdjoednhfoligaa
open Go.AM
variable {h h' h0 h1 : Heap} {K : Value → Heap → Prop} {m : Mac}

theorem orE_law (m : Mac) (pr w : List Int) : (mErr m).2 ≠ 0 → orOf [(mErr m).2, prErr m pr, wErr w m.inputs 1200] = (mErr m).2 := fun hz => by rw [or3, if_neg hz]
set_option maxHeartbeats 1000000 in
theorem c3 {a b : Value} {o1 o2 : Option Addr} {l1 k1 l2 k2 : Nat} {pr w ps : List Int} (s : MacV h a m) (sp : IntS h b pr) (sw : IntS h (.slice o1 l1 k1) w) (sq : IntS h (.slice o2 l2 k2) ps) (hl : m.steps.length ≤ 2 ^ 40) (hf : pr.length ≤ 2 ^ 40 ∧ w.length ≤ 2 ^ 40 ∧ ps.length ≤ 2 ^ 40) :
    Runs Try.prog 3 [a, b, .agg #[.slice o1 l1 k1, .slice o2 l2 k2]] h (.bool true) h := by
  refine DetP.forget rfl ?_
  refine w3 ?_
  unfold n3
  obtain ⟨o, l, c, rfl, ss0⟩ := s
  rw [box36]
  refine ok_i rfl ?_
  have p1 := pre_new h [.int .i64 m.states, .int .i64 m.inputs, .int .i64 m.outputs, .int .i64 m.start, .slice o l c] 5
  have hb1 := newArr_get h [.int .i64 m.states, .int .i64 m.inputs, .int .i64 m.outputs, .int .i64 m.start, .slice o l c] 5
  have ss := ss0.mono (Sub.of_pre p1)
  generalize hg1 : newArr h [.int .i64 m.states, .int .i64 m.inputs, .int .i64 m.outputs, .int .i64 m.start, .slice o l c] 5 = g1 at p1 hb1 ss ⊢
  have sp1 := sp.mono (Sub.of_pre p1)
  have sw1 := sw.mono (Sub.of_pre p1)
  have sq1 := sq.mono (Sub.of_pre p1)
  rw [box27]
  refine ok_i rfl ?_
  have p2 := pre_new g1 [.slice o1 l1 k1, .slice o2 l2 k2] 2
  have hr2 := newArr_get g1 [.slice o1 l1 k1, .slice o2 l2 k2] 2
  have hb2 := (Sub.of_pre p2).2 _ _ hb1
  generalize hgi : g1.length = ri at hr2 ⊢
  generalize newArr g1 [.slice o1 l1 k1, .slice o2 l2 k2] 2 = g2 at p2 hr2 hb2 ⊢
  have ss2 := ss.mono (Sub.of_pre p2)
  have sp2 := sp1.mono (Sub.of_pre p2)
  have sw2 := sw1.mono (Sub.of_pre p2)
  have sq2 := sq1.mono (Sub.of_pre p2)
  have m2 := macv_of (m := m) ss2
  with_reducible (refine mv_i ?_)
  refine call_r c14 ?_
  with_reducible (refine not_t ?_; refine cnd_f ?_)
  refine vk_i (ld36 hb2) ?_
  refine ⟨vb_mac ss2, ?_⟩
  refine calld_i (c16 m2 hl) ?_
  rintro x g3 ⟨p3, mx⟩
  refine ⟨p3.imp fun t ht => ht.symm, ?_⟩
  with_reducible (refine mv_i ?_)
  refine calld_r (c17 (sp2.mono (Sub.of_pre p3)) hf.1) ⟨(ownH_pre _ _).imp fun t ht => ht.symm, ?_⟩
  have q4 := (own_only g3 (xs := pr) (by omega)).self
  have p4 := ownH_pre g3 pr
  generalize ownV g3 pr = v4 at q4 ⊢
  generalize ownH g3 pr = g4 at q4 p4 ⊢
  have hr4 := (Sub.of_pre (p3.trans p4)).2 _ _ hr2
  have sw4 := sw2.mono (Sub.of_pre (p3.trans p4))
  with_reducible (refine vk_i (fa27_0 _) ?_; refine ld2_0 r23 (by assumption) ?_; refine ⟨VB_of_ints (by assumption), ?_⟩)
  refine calld_r (c17 sw4 hf.2.1) ⟨(ownH_pre _ _).imp fun t ht => ht.symm, ?_⟩
  have q5 := (own_only g4 (xs := w) (by omega)).self
  have p5 := ownH_pre g4 w
  obtain ⟨o5, l5, k5, e5⟩ := ownV_slice g4 w
  rw [e5] at q5 ⊢
  generalize ownH g4 w = g5 at q5 p5 ⊢
  have hr5 := (Sub.of_pre p5).2 _ _ hr4
  have sq5 := sq2.mono (Sub.of_pre (p3.trans (p4.trans p5)))
  with_reducible (refine vk_i (fa27_1 _) ?_; refine ld2_1 r23 (by assumption) ?_; refine ⟨VB_of_ints (by assumption), ?_⟩)
  refine calld_r (c17 sq5 hf.2.2) ⟨(ownH_pre _ _).imp fun t ht => ht.symm, ?_⟩
  have q6 := (own_only g5 (xs := ps) (by omega)).self
  have p6 := ownH_pre g5 ps
  obtain ⟨o6, l6, k6, e6⟩ := ownV_slice g5 ps
  rw [e6] at q6 ⊢
  generalize ownH g5 ps = g6 at q6 p6 ⊢
  refine vk_i (build27 _ _ _ _ _ _) ?_
  refine calld_i (c15 (mx.mono (Sub.of_pre (p4.trans (p5.trans p6)))) (q4.mono (Sub.of_pre (p5.trans p6))) (q5.mono (Sub.of_pre p6)) q6) ?_
  rintro y g7 ⟨p7, hy⟩
  refine ⟨p7.imp fun t ht => ht.symm, ?_⟩
  have pz := p3.trans (p4.trans (p5.trans (p6.trans p7)))
  have hb7 := (Sub.of_pre pz).2 _ _ hb2
  have hr7 := (Sub.of_pre pz).2 _ _ hr2
  have ss7 := ss2.mono (Sub.of_pre pz)
  have sp7 := sp2.mono (Sub.of_pre pz)
  have sw7 := sw2.mono (Sub.of_pre pz)
  have sq7 := sq2.mono (Sub.of_pre pz)
  have m7 := macv_of (m := m) ss7
  have pall := p1.trans (p2.trans pz)
  obtain ⟨P, E, hPE, hz1, hz2, hz3⟩ : ∃ P E : Int, y = .tuple #[.int .i64 P, .int .i64 E] ∧ ((mErr m).2 ≠ 0 → P = 0 ∧ E = (mErr m).2) ∧ ((mErr m).2 = 0 → prErr m pr ≠ 0 → P = 0 ∧ E = prErr m pr) ∧ ((mErr m).2 = 0 → prErr m pr = 0 → P = rndP m pr w ps ∧ E = rndE m pr w ps) := by
    rw [or3] at hy
    by_cases h1 : (mErr m).2 = 0
    · rw [if_pos h1] at hy
      by_cases h2 : prErr m pr = 0
      · rw [if_pos h2] at hy
        by_cases h3 : wErr w m.inputs 1200 = 0
        · rw [if_neg (by simp [h3])] at hy
          exact ⟨_, _, hy, fun hc => absurd h1 hc, fun _ hc => absurd h2 hc, fun _ _ => ⟨rfl, rfl⟩⟩
        · rw [if_pos h3] at hy
          have e0 : rndE m pr w ps = wErr w m.inputs 1200 := by unfold rndE; rw [if_pos h3]
          have e1 : rndP m pr w ps = 0 := by unfold rndP; rw [e0, if_neg h3]
          exact ⟨_, _, hy, fun hc => absurd h1 hc, fun _ hc => absurd h2 hc, fun _ _ => ⟨e1.symm, e0.symm⟩⟩
      · rw [if_neg h2, if_pos h2] at hy
        exact ⟨_, _, hy, fun hc => absurd h1 hc, fun _ _ => ⟨rfl, rfl⟩, fun _ hc => absurd hc h2⟩
    · rw [if_neg h1, if_pos h1] at hy
      exact ⟨_, _, hy, fun _ => ⟨rfl, rfl⟩, fun hc => absurd hc h1, fun hc => absurd hc h1⟩
  subst hPE
  with_reducible (refine mv_i ?_; refine ex2_0 ?_; refine ex2_1 ?_; refine mv_i ?_; refine mv_i ?_)
  refine vk_i (ld36 hb7) ?_
  refine call_r (c18 m7) ?_
  with_reducible (refine mv_i ?_)
  refine seq_J (fun xs h8 => g7 = h8 ∧ xs = [.int .i64 (if (mErr m).2 = 0 then prErr m pr else (mErr m).2)]) ?_ ?_
  · rintro _ _ ⟨rfl, rfl⟩ _
    show mvK _ _ _
    with_reducible (refine mv_i ?_)
    by_cases h1 : (mErr m).2 = 0
    · rw [if_pos h1]
      have r := right_of h1
      by_cases h2 : prErr m pr = 0
      · obtain ⟨rfl, rfl⟩ := hz3 h1 h2
        refine seq_J (fun xs h8 => g7 <+: h8 ∧ xs = [.int .i64 (rndE m pr w ps), .int .i64 (rndP m pr w ps)]) ?_ ?_
        · rintro _ h8 ⟨p8, rfl⟩ _
          show mvK _ _ _
          have pfin := pall.trans p8
          with_reducible (refine mv_i ?_; refine mv_i ?_)
          refine eql_i (fun _ => ?_) (fun hc => absurd rfl hc)
          with_reducible (refine mv_i ?_; refine gd_tt ?_; refine mv_i ?_; refine gd_tt ?_; refine mv_i ?_; refine gd_tt ?_)
          refine eql_i (fun _ => ?_) (fun hc => absurd rfl hc)
          with_reducible (refine pick_t ?_; refine mv_i ?_; refine ret1 ?_)
          exact ⟨rfl, pfin⟩
        intro k' hk'
        with_reducible (refine mv_i ?_)
        refine eql_i (fun _ => ?_) (fun hc => absurd h2 hc)
        with_reducible (refine cnd_t ?_)
        refine vk_i (ld36 hb7) ?_
        with_reducible (refine mv_i ?_)
        refine vk_i (ld27 hr7) ?_
        refine call_i (c20 m7 r sp7 h2 sw7 sq7) ?_
        rintro _ g8 ⟨p8, rfl⟩
        with_reducible (refine mv_i ?_; refine ex2_0 ?_; refine ex2_1 ?_; refine mv_i ?_; refine mv_i ?_)
        exact hk' _ _ ⟨p8, rfl⟩
      · obtain ⟨rfl, rfl⟩ := hz2 h1 h2
        have pfin := pall
        refine seq_J (fun xs h8 => g7 = h8 ∧ xs = [.int .i64 (prErr m pr), .int .i64 0]) ?_ ?_
        · rintro _ _ ⟨rfl, rfl⟩ _
          show mvK _ _ _
          with_reducible (refine mv_i ?_; refine mv_i ?_)
          refine eql_i (fun _ => ?_) (fun hc => absurd rfl hc)
          with_reducible (refine mv_i ?_; refine gd_tt ?_; refine mv_i ?_; refine gd_tt ?_; refine mv_i ?_; refine gd_tt ?_)
          refine eql_i (fun _ => ?_) (fun hc => absurd rfl hc)
          with_reducible (refine pick_t ?_; refine mv_i ?_; refine ret1 ?_)
          exact ⟨rfl, pfin⟩
        intro k' hk'
        with_reducible (refine mv_i ?_)
        refine eql_i (fun hc => absurd hc h2) (fun _ => ?_)
        with_reducible (refine cnd_f ?_)
        exact hk' _ _ ⟨rfl, rfl⟩
    · rw [if_neg h1]
      obtain ⟨rfl, rfl⟩ := hz1 h1
      have pfin := pall
      refine seq_J (fun xs h8 => g7 = h8 ∧ xs = [.int .i64 (mErr m).2, .int .i64 0]) ?_ ?_
      · rintro _ _ ⟨rfl, rfl⟩ _
        show mvK _ _ _
        with_reducible (refine mv_i ?_; refine mv_i ?_)
        refine eql_i (fun _ => ?_) (fun hc => absurd rfl hc)
        with_reducible (refine mv_i ?_; refine gd_tt ?_; refine mv_i ?_; refine gd_tt ?_; refine mv_i ?_; refine gd_tt ?_)
        refine eql_i (fun _ => ?_) (fun hc => absurd rfl hc)
        with_reducible (refine pick_t ?_; refine mv_i ?_; refine ret1 ?_)
        exact ⟨rfl, pfin⟩
      intro k' hk'
      with_reducible (refine mv_i ?_)
      refine eql_i (fun hc => absurd hc h1) (fun _ => ?_)
      with_reducible (refine cnd_f ?_)
      exact hk' _ _ ⟨rfl, rfl⟩
  intro k' hk'
  with_reducible (refine mv_i ?_)
  refine eql_i (fun h1 => ?_) (fun h1 => ?_)
  · with_reducible (refine cnd_t ?_)
    refine vk_i (ld36 hb7) ?_
    with_reducible (refine mv_i ?_)
    refine call_r (c19 m7 sp7) ?_
    with_reducible (refine mv_i ?_)
    exact hk' _ _ ⟨rfl, by rw [if_pos h1]⟩
  · with_reducible (refine cnd_f ?_)
    exact hk' _ _ ⟨rfl, by rw [if_neg h1]⟩
end Go.Proofs.Ytdjoednhfoligaa

set_option linter.unusedSimpArgs false
set_option linter.unusedVariables false
set_option maxRecDepth 100000
namespace Go.Proofs.Ytdjoednhfoligaa
open Go.AM
variable {h h' h0 h1 : Heap} {K : Value → Heap → Prop} {m : Mac}

/-! ### ways: prices and words -/
abbrev Key := Int × List Int
/-- a is before b. -/
def kLt (a b : Key) : Prop := a.1 < b.1 ∨ a.1 = b.1 ∧ (a.2.length < b.2.length ∨ a.2.length = b.2.length ∧ cmpL a.2 b.2 < 0)
def kLe (a b : Key) : Prop := ¬ kLt b a
theorem cmpL_refl : ∀ l, cmpL l l = 0
  | [] => rfl
  | a :: l => by simp only [cmpL, if_true]; exact cmpL_refl l
theorem cmpL_swap : ∀ l m, cmpL m l = - cmpL l m
  | [], [] => rfl
  | [], _ :: _ => rfl
  | _ :: _, [] => rfl
  | a :: l, b :: m => by
    simp only [cmpL]
    by_cases h1 : a = b
    · subst h1; rw [if_pos rfl, if_pos rfl]; exact cmpL_swap l m
    · rw [if_neg h1, if_neg (Ne.symm h1)]
      by_cases h2 : b < a
      · rw [if_pos h2, if_neg (by omega)]
      · rw [if_neg h2, if_pos (by omega)]; rfl
theorem cmpL_zero : ∀ l m, cmpL l m = 0 → l = m
  | [], [], _ => rfl
  | [], _ :: _, h => by simp [cmpL] at h
  | _ :: _, [], h => by simp [cmpL] at h
  | a :: l, b :: m, h => by
    simp only [cmpL] at h
    split at h
    · rename_i e; rw [e, cmpL_zero l m h]
    · split at h <;> cases h
theorem cmpL_trans : ∀ l m n, cmpL l m < 0 → cmpL m n < 0 → cmpL l n < 0
  | [], [], n, h, _ => by simp [cmpL] at h
  | [], _ :: _, [], _, h => by simp [cmpL] at h
  | [], _ :: _, _ :: _, _, _ => by simp [cmpL]
  | _ :: _, [], _, h, _ => by simp [cmpL] at h
  | _ :: _, _ :: _, [], _, h => by simp [cmpL] at h
  | a :: l, b :: m, c :: n, h1, h2 => by
    simp only [cmpL] at *
    by_cases e1 : a = b
    · subst e1
      rw [if_pos rfl] at h1
      by_cases e2 : a = c
      · rw [if_pos e2] at h2 ⊢; exact cmpL_trans l m n h1 h2
      · rw [if_neg e2] at h2 ⊢; exact h2
    · rw [if_neg e1] at h1
      have q1 : a < b := by
        split at h1
        · cases h1
        · omega
      have q2 : b ≤ c := by
        split at h2
        · omega
        · split at h2
          · cases h2
          · omega
      rw [if_neg (by omega), if_neg (by omega)]; decide
theorem cmpL_snoc : ∀ l m (a : Int), l.length = m.length → cmpL (l ++ [a]) (m ++ [a]) = cmpL l m
  | [], [], a, _ => by simp [cmpL]
  | [], _ :: _, a, h => by simp at h
  | _ :: _, [], a, h => by simp at h
  | x :: l, y :: m, a, h => by
    simp only [List.cons_append, cmpL]
    rw [cmpL_snoc l m a (by simpa using h)]
theorem kLt_irrefl (a : Key) : ¬ kLt a a := by
  rintro (h | ⟨_, h | ⟨_, h⟩⟩)
  · omega
  · omega
  · rw [cmpL_refl] at h; omega
theorem kLt_trans {a b c : Key} (h1 : kLt a b) (h2 : kLt b c) : kLt a c := by
  unfold kLt at *
  rcases h1 with h1 | ⟨e1, h1⟩
  · left; rcases h2 with h2 | ⟨e2, _⟩ <;> omega
  · rcases h2 with h2 | ⟨e2, h2⟩
    · left; omega
    · right
      refine ⟨by omega, ?_⟩
      rcases h1 with h1 | ⟨l1, h1⟩
      · left; rcases h2 with h2 | ⟨l2, _⟩ <;> omega
      · rcases h2 with h2 | ⟨l2, h2⟩
        · left; omega
        · right; exact ⟨by omega, cmpL_trans _ _ _ h1 h2⟩
theorem kLt_total (a b : Key) : kLt a b ∨ a = b ∨ kLt b a := by
  unfold kLt
  by_cases h1 : a.1 < b.1
  · exact .inl (.inl h1)
  · by_cases h2 : b.1 < a.1
    · exact .inr (.inr (.inl h2))
    · have e1 : a.1 = b.1 := by omega
      by_cases h3 : a.2.length < b.2.length
      · exact .inl (.inr ⟨e1, .inl h3⟩)
      · by_cases h4 : b.2.length < a.2.length
        · exact .inr (.inr (.inr ⟨e1.symm, .inl h4⟩))
        · have e2 : a.2.length = b.2.length := by omega
          by_cases h5 : cmpL a.2 b.2 < 0
          · exact .inl (.inr ⟨e1, .inr ⟨e2, h5⟩⟩)
          · by_cases h6 : cmpL a.2 b.2 = 0
            · exact .inr (.inl (Prod.ext e1 (cmpL_zero _ _ h6)))
            · exact .inr (.inr (.inr ⟨e1.symm, .inr ⟨e2.symm, by rw [cmpL_swap a.2 b.2]; omega⟩⟩))
theorem kLe_refl (a : Key) : kLe a a := kLt_irrefl a
theorem kLe_antisymm {a b : Key} (h1 : kLe a b) (h2 : kLe b a) : a = b := by
  rcases kLt_total a b with h | h | h
  · exact absurd h h2
  · exact h
  · exact absurd h h1
theorem kLt.le {a b : Key} (h : kLt a b) : kLe a b := fun h' => kLt_irrefl a (kLt_trans h h')
theorem kLe_trans {a b c : Key} (h1 : kLe a b) (h2 : kLe b c) : kLe a c := by
  rcases kLt_total a b with h | h | h
  · rcases kLt_total b c with g | g | g
    · exact (kLt_trans h g).le
    · subst g; exact h.le
    · exact absurd g h2
  · subst h; exact h2
  · exact absurd h h1
theorem kLt_of_le {a b c : Key} (h1 : kLe a b) (h2 : kLt b c) : kLt a c := by
  rcases kLt_total a c with h | h | h
  · exact h
  · subst h; exact absurd h2 h1
  · exact absurd (kLt_trans h2 h) h1
theorem kLt_of_lt {a b c : Key} (h1 : kLt a b) (h2 : kLe b c) : kLt a c := by
  rcases kLt_total a c with h | h | h
  · exact h
  · subst h; exact absurd h1 h2
  · exact absurd (kLt_trans h h1) h2
/-- One step more. -/
def kStep (m : Mac) (pr : List Int) (a : Key) (k : Nat) : Key := (a.1 + pr.getD k 0, a.2 ++ [(m.steps.getD k dst).inp])
theorem kStep_mono {pr : List Int} {a b : Key} (k : Nat) (hl : kLe a b) : kLe (kStep m pr a k) (kStep m pr b k) := by
  intro h
  refine hl ?_
  unfold kLt kStep at *
  simp only [List.length_append, List.length_singleton] at h
  rcases h with h | ⟨e1, h⟩
  · left; omega
  · right
    refine ⟨by omega, ?_⟩
    rcases h with h | ⟨e2, h⟩
    · left; omega
    · right; exact ⟨by omega, by rw [cmpL_snoc _ _ _ (by omega)] at h; exact h⟩
theorem kStep_lt {pr : List Int} (hp : prOK pr) (a : Key) (k : Nat) : kLt a (kStep m pr a k) := by
  have := hp k
  unfold kLt kStep
  simp only [List.length_append, List.length_singleton]
  by_cases h : a.1 < a.1 + pr.getD k 0
  · exact .inl h
  · exact .inr ⟨by omega, .inl (by omega)⟩
/-- Ways to a state. -/
inductive Way (m : Mac) (pr : List Int) : Int → Key → Prop
  | nil : Way m pr m.start (0, [])
  | snoc {a : Key} {k : Nat} (h : Way m pr (m.steps.getD k dst).fr a) (hk : k < m.steps.length) : Way m pr (m.steps.getD k dst).to (kStep m pr a k)
/-- A table of ways that are right. -/
structure Best (m : Mac) (pr : List Int) (B : Nat → Option Key) : Prop where
  real : ∀ s a, B s = some a → Way m pr (s : Int) a
  start : ∃ a, B m.start.toNat = some a ∧ kLe a (0, [])
  closed : ∀ k, k < m.steps.length → ∀ a, B (m.steps.getD k dst).fr.toNat = some a → ∃ b, B (m.steps.getD k dst).to.toNat = some b ∧ kLe b (kStep m pr a k)
theorem Best.least {pr : List Int} {B : Nat → Option Key} (b : Best m pr B) {s : Int} {a : Key} (w : Way m pr s a) : ∃ c, B s.toNat = some c ∧ kLe c a := by
  induction w with
  | nil => exact b.start
  | snoc h hk ih =>
    obtain ⟨c, hc, hl⟩ := ih
    obtain ⟨d, hd, hl2⟩ := b.closed _ hk c hc
    exact ⟨d, hd, kLe_trans hl2 (kStep_mono _ hl)⟩
theorem Best.uniq {pr : List Int} {B B' : Nat → Option Key} (b : Best m pr B) (b' : Best m pr B') (s : Nat) : B s = B' s := by
  cases h : B s with
  | none =>
    cases h' : B' s with
    | none => rfl
    | some a =>
      obtain ⟨c, hc, _⟩ := b.least (b'.real s a h')
      rw [Int.toNat_natCast, h] at hc; cases hc
  | some a =>
    obtain ⟨c, hc, hl⟩ := b'.least (b.real s a h)
    rw [Int.toNat_natCast] at hc
    obtain ⟨d, hd, hl2⟩ := b.least (b'.real s c hc)
    rw [Int.toNat_natCast, h] at hd
    cases hd
    rw [hc, kLe_antisymm hl hl2]
theorem Way.price {pr : List Int} (hp : prOK pr) {s : Int} {a : Key} (w : Way m pr s a) : 0 ≤ a.1 ∧ a.1 ≤ 20 * a.2.length := by
  induction w with
  | nil => simp
  | snoc h hk ih =>
    rename_i a k
    have := hp k
    simp only [kStep, List.length_append, List.length_singleton]
    push_cast
    omega
/-- What a table answers. -/
def wordsB (m : Mac) (B : Nat → Option Key) : List (List Int) := (List.range m.states.toNat).map fun s => match B s with | some a => a.2 | none => []
def costsB (m : Mac) (B : Nat → Option Key) : List Int := (List.range m.states.toNat).map fun s => match B s with | some a => a.1 | none => -1
/-! ### comparisons -/
theorem less_iff (a b : Key) : orOf [cmpI a.1 b.1, cmpI a.2.length b.2.length, cmpL a.2 b.2] < 0 ↔ kLt a b := by
  rw [or3]
  unfold cmpI kLt
  by_cases h1 : a.1 < b.1
  · rw [if_pos h1, if_neg (by decide)]; exact ⟨fun _ => .inl h1, fun _ => by decide⟩
  · by_cases h2 : b.1 < a.1
    · rw [if_neg h1, if_pos h2, if_neg (by decide)]
      exact ⟨fun h => absurd h (by decide), fun h => by omega⟩
    · rw [if_neg h1, if_neg h2, if_pos rfl]
      by_cases h3 : (a.2.length : Int) < b.2.length
      · rw [if_pos h3, if_neg (by decide)]; exact ⟨fun _ => .inr ⟨by omega, .inl (by omega)⟩, fun _ => by decide⟩
      · by_cases h4 : (b.2.length : Int) < a.2.length
        · rw [if_neg h3, if_pos h4, if_neg (by decide)]
          exact ⟨fun h => absurd h (by decide), fun h => by omega⟩
        · rw [if_neg h3, if_neg h4, if_pos rfl]
          constructor
          · intro h; exact .inr ⟨by omega, .inr ⟨by omega, h⟩⟩
          · rintro (h | ⟨_, h | ⟨_, h⟩⟩)
            · omega
            · omega
            · exact h
instance (a b : Key) : Decidable (kLt a b) := by unfold kLt; infer_instance
end Go.Proofs.Ytdjoednhfoligaa

set_option linter.unusedSimpArgs false
set_option linter.unusedVariables false
set_option maxRecDepth 100000
namespace Go.Proofs.Ytdjoednhfoligaa
open Go.AM
variable {h h' h0 h1 : Heap} {K : Value → Heap → Prop} {m : Mac}

/-! ### a rank of ways -/
def dig (w : List Int) : Prop := ∀ x ∈ w, 0 ≤ x ∧ x < 8
def val : List Int → Nat | [] => 0 | x :: l => x.toNat * 8 ^ l.length + val l
theorem val_lt : ∀ {w : List Int}, dig w → val w < 8 ^ w.length
  | [], _ => by simp [val]
  | x :: l, h => by
    have h1 := h x (by simp)
    have h2 := val_lt (w := l) fun y hy => h y (by simp [hy])
    have h3 : x.toNat ≤ 7 := by omega
    have h4 : x.toNat * 8 ^ l.length ≤ 7 * 8 ^ l.length := Nat.mul_le_mul_right _ h3
    simp only [val, List.length_cons, Nat.pow_succ]
    omega
theorem val_mono : ∀ {w v : List Int}, dig w → dig v → w.length = v.length → cmpL w v < 0 → val w < val v
  | [], [], _, _, _, h => by simp [cmpL] at h
  | [], _ :: _, _, _, h, _ => by simp at h
  | _ :: _, [], _, _, h, _ => by simp at h
  | x :: l, y :: k, h1, h2, hl, hc => by
    have a1 := h1 x (by simp)
    have a2 := h2 y (by simp)
    have d1 : dig l := fun z hz => h1 z (by simp [hz])
    have d2 : dig k := fun z hz => h2 z (by simp [hz])
    have hl2 : l.length = k.length := by simpa using hl
    simp only [cmpL] at hc
    simp only [val]
    split at hc
    · rename_i e
      subst e
      have := val_mono d1 d2 hl2 hc
      rw [hl2]; omega
    · split at hc
      · cases hc
      · have h3 : x.toNat + 1 ≤ y.toNat := by omega
        have h4 : (x.toNat + 1) * 8 ^ k.length ≤ y.toNat * 8 ^ k.length := Nat.mul_le_mul_right _ h3
        have h5 := val_lt d1
        rw [hl2] at h5 ⊢
        rw [Nat.add_mul, Nat.one_mul] at h4
        omega
def kOK (a : Key) : Prop := 0 ≤ a.1 ∧ a.1 ≤ 800 ∧ a.2.length ≤ 40 ∧ dig a.2
def rkK (a : Key) : Nat := (a.1.toNat * 41 + a.2.length) * 8 ^ 40 * 2 + val a.2
def rkM : Nat := 40000 * 8 ^ 40 * 2
theorem val_40 {a : Key} (h : kOK a) : val a.2 < 8 ^ 40 * 2 := by
  have h1 := val_lt h.2.2.2
  have h2 : 8 ^ a.2.length ≤ 8 ^ 40 := Nat.pow_le_pow_right (by omega) h.2.2.1
  have h3 : 0 < 8 ^ 40 := Nat.pow_pos (by omega)
  omega
theorem rkK_lt {a b : Key} (ha : kOK a) (hb : kOK b) (hl : kLt a b) : rkK a < rkK b := by
  have va := val_40 ha
  have vb := val_40 hb
  obtain ⟨a0, a1, a2, ad⟩ := ha
  obtain ⟨b0, b1, b2, bd⟩ := hb
  unfold rkK
  have key : ∀ x y : Nat, x < y → x * 8 ^ 40 * 2 + 8 ^ 40 * 2 ≤ y * 8 ^ 40 * 2 := by
    intro x y hxy
    have : (x + 1) * (8 ^ 40 * 2) ≤ y * (8 ^ 40 * 2) := Nat.mul_le_mul_right _ hxy
    rw [Nat.add_mul, Nat.one_mul] at this
    rw [Nat.mul_assoc, Nat.mul_assoc]; exact this
  rcases hl with h | ⟨e, h | ⟨l, h⟩⟩
  · have := key (a.1.toNat * 41 + a.2.length) (b.1.toNat * 41 + b.2.length) (by omega)
    omega
  · have := key (a.1.toNat * 41 + a.2.length) (b.1.toNat * 41 + b.2.length) (by omega)
    omega
  · have := val_mono ad bd l h
    rw [show a.1.toNat = b.1.toNat by omega, l]
    omega
theorem rkK_M {a : Key} (ha : kOK a) : rkK a < rkM := by
  have va := val_40 ha
  obtain ⟨a0, a1, a2, ad⟩ := ha
  unfold rkK rkM
  have h1 : (a.1.toNat * 41 + a.2.length + 1) * (8 ^ 40 * 2) ≤ 40000 * (8 ^ 40 * 2) := Nat.mul_le_mul_right _ (by omega)
  rw [Nat.add_mul, Nat.one_mul] at h1
  rw [Nat.mul_assoc, Nat.mul_assoc]
  omega
def rkO : Option Key → Nat | some a => rkK a | none => rkM
def rkB (B : Nat → Option Key) : Nat → Nat | 0 => 0 | n + 1 => rkB B n + rkO (B n)
theorem rkB_le {B B' : Nat → Option Key} : ∀ n, (∀ s, s < n → rkO (B' s) ≤ rkO (B s)) → rkB B' n ≤ rkB B n
  | 0, _ => Nat.le_refl _
  | n + 1, h => by
    have h1 := rkB_le n fun s hs => h s (by omega)
    have h2 := h n (by omega)
    simp only [rkB]; omega
theorem rkB_lt {B B' : Nat → Option Key} : ∀ n, (∀ s, s < n → rkO (B' s) ≤ rkO (B s)) → (∃ s, s < n ∧ rkO (B' s) < rkO (B s)) → rkB B' n < rkB B n
  | 0, _, ⟨s, hs, _⟩ => by omega
  | n + 1, h, ⟨s, hs, hl⟩ => by
    have h2 := h n (by omega)
    simp only [rkB]
    by_cases q : s = n
    · subst q
      have := rkB_le s fun t ht => h t (by omega)
      omega
    · have := rkB_lt n (fun t ht => h t (by omega)) ⟨s, by omega, hl⟩
      omega
/-! ### a table that is made better -/
def Vis (m : Mac) (B : Nat → Option Key) (a : Key) (vis : List Nat) : Prop := vis.Nodup ∧ vis.length = a.2.length + 1 ∧ ∀ u ∈ vis, u < m.states.toNat ∧ ∃ c, B u = some c ∧ kLe c a
structure Tab (m : Mac) (pr : List Int) (B : Nat → Option Key) : Prop where
  real : ∀ s a, B s = some a → s < m.states.toNat ∧ Way m pr (s : Int) a ∧ ∃ vis, Vis m B a vis
  start : ∃ a, B m.start.toNat = some a ∧ kLe a (0, [])
theorem Tab.len {pr : List Int} {B : Nat → Option Key} (t : Tab m pr B) {s : Nat} {a : Key} (h : B s = some a) : a.2.length + 1 ≤ m.states.toNat := by
  obtain ⟨_, _, vis, h1, h2, h3⟩ := t.real s a h
  have := nodup_sub vis (List.range m.states.toNat) h1 fun u hu => List.mem_range.mpr (h3 u hu).1
  simp at this; omega
theorem Way.dig {pr : List Int} (r : Right m) {s : Int} {a : Key} (w : Way m pr s a) : dig a.2 := by
  induction w with
  | nil => intro x hx; simp at hx
  | snoc h hk ih =>
    rename_i a k
    intro x hx
    simp only [kStep] at hx
    rcases List.mem_append.mp hx with hx | hx
    · exact ih x hx
    · rw [List.mem_singleton] at hx
      subst hx
      have h1 := r.st hk
      have h2 := r.bounds
      omega
theorem Tab.ok {pr : List Int} (hp : prOK pr) (r : Right m) {B : Nat → Option Key} (t : Tab m pr B) {s : Nat} {a : Key} (h : B s = some a) : kOK a := by
  have h1 := t.len h
  obtain ⟨_, w, _⟩ := t.real s a h
  have h2 := w.price hp
  have h3 := r.bounds
  exact ⟨h2.1, by omega, by omega, w.dig r⟩
def upB (B : Nat → Option Key) (t : Nat) (a : Key) : Nat → Option Key := fun s => if s = t then some a else B s
theorem Tab.put {pr : List Int} (hp : prOK pr) (r : Right m) {B : Nat → Option Key} (t : Tab m pr B) {k : Nat} (hk : k < m.steps.length) {a : Key} (ha : B (m.steps.getD k dst).fr.toNat = some a)
    (hb : ∀ c, B (m.steps.getD k dst).to.toNat = some c → kLt (kStep m pr a k) c) : Tab m pr (upB B (m.steps.getD k dst).to.toNat (kStep m pr a k)) ∧ rkB (upB B (m.steps.getD k dst).to.toNat (kStep m pr a k)) m.states.toNat < rkB B m.states.toNat := by
  have hst := r.st hk
  obtain ⟨_, w, vis, v1, v2, v3⟩ := t.real _ _ ha
  rw [Int.toNat_of_nonneg hst.1] at w
  have hlt := kStep_lt (m := m) hp a k
  generalize ht : (m.steps.getD k dst).to.toNat = tn at *
  have htn : tn < m.states.toNat := by omega
  have hnot : tn ∉ vis := by
    intro hm
    obtain ⟨_, c, hc, hl⟩ := v3 tn hm
    exact kLt_irrefl _ (kLt_trans (hb c hc) (kLt_of_le hl hlt))
  have mono : ∀ u c, B u = some c → ∃ c', upB B tn (kStep m pr a k) u = some c' ∧ kLe c' c := by
    intro u c hc
    unfold upB
    by_cases q : u = tn
    · subst q; rw [if_pos rfl]; exact ⟨_, rfl, (hb c hc).le⟩
    · rw [if_neg q]; exact ⟨c, hc, kLe_refl c⟩
  have tab : Tab m pr (upB B tn (kStep m pr a k)) := by
    constructor
    · intro s c hc
      unfold upB at hc
      split at hc
      · rename_i q
        subst q
        cases hc
        refine ⟨htn, ?_, s :: vis, List.nodup_cons.mpr ⟨hnot, v1⟩, by simp [kStep, v2], fun u hu => ?_⟩
        · have := Way.snoc w hk
          rw [show (s : Int) = (m.steps.getD k dst).to by omega]; exact this
        · rcases List.mem_cons.mp hu with rfl | hu
          · exact ⟨htn, _, by unfold upB; rw [if_pos rfl], kLe_refl _⟩
          · obtain ⟨h1, c, hc, hl⟩ := v3 u hu
            obtain ⟨c', hc', hl'⟩ := mono u c hc
            exact ⟨h1, c', hc', kLe_trans hl' (kLe_trans hl hlt.le)⟩
      · obtain ⟨h1, h2, vs, g1, g2, g3⟩ := t.real s c hc
        refine ⟨h1, h2, vs, g1, g2, fun u hu => ?_⟩
        obtain ⟨q1, d, hd, hl⟩ := g3 u hu
        obtain ⟨d', hd', hl'⟩ := mono u d hd
        exact ⟨q1, d', hd', kLe_trans hl' hl⟩
    · obtain ⟨c, hc, hl⟩ := t.start
      obtain ⟨c', hc', hl'⟩ := mono _ c hc
      exact ⟨c', hc', kLe_trans hl' hl⟩
  refine ⟨tab, rkB_lt _ (fun s hs => ?_) ⟨tn, htn, ?_⟩⟩
  all_goals
    have hnew : upB B tn (kStep m pr a k) tn = some (kStep m pr a k) := by unfold upB; rw [if_pos rfl]
    have hokn := tab.ok hp r hnew
    have hlast : rkO (upB B tn (kStep m pr a k) tn) < rkO (B tn) := by
      rw [hnew]
      cases hc : B tn with
      | none => exact rkK_M hokn
      | some c => exact rkK_lt hokn (t.ok hp r hc) (hb c hc)
  · by_cases q : s = tn
    · subst q; omega
    · unfold upB; rw [if_neg q]; exact Nat.le_refl _
  · exact hlast
theorem Tab.best {pr : List Int} {B : Nat → Option Key} (t : Tab m pr B) (hc : ∀ k, k < m.steps.length → ∀ a, B (m.steps.getD k dst).fr.toNat = some a → ∃ b, B (m.steps.getD k dst).to.toNat = some b ∧ kLe b (kStep m pr a k)) : Best m pr B :=
  ⟨fun s a h => (t.real s a h).2.1, t.start, hc⟩
end Go.Proofs.Ytdjoednhfoligaa

set_option linter.unusedSimpArgs false
set_option linter.unusedVariables false
set_option maxRecDepth 100000
namespace Go.Proofs.Ytdjoednhfoligaa
open Go.AM
variable {h h' h0 h1 : Heap} {K : Value → Heap → Prop} {m : Mac}
variable {N : Nat → Option Nat} {C : Nat → List Value} {E : Nat → Nat}

theorem eqlnil {o : Option Addr} {l c : Nat} (hk : K (.bool o.isNone) h) : vK (aBin Try.prog .eql 25 (.slice o l c) (.slice none 0 0)) h K := vk_i (by kernel_rfl) hk
/-- A copy has its own label. -/
def Fresh (h h' : Heap) (v : Value) (xs : List Int) : Prop := h <+: h' ∧ ∀ (h0 : Heap) (N : Nat → Option Nat) (C : Nat → List Value) (E : Nat → Nat) (l : Nat), E l = 1 → Owns h0 h N C E → ∃ o cs, Owns h0 h' (upN N l o) (upN C l cs) E ∧ LS (upN N l o) (upN C l cs) l v (xs.map (.int .i64)) ∧ ∀ n, o = some n → h.length ≤ n
theorem own_fresh (h : Heap) (xs : List Int) : Fresh h (ownH h xs) (ownV h xs) xs := by
  refine ⟨ownH_pre _ _, fun h0 N C E l he o => ?_⟩
  unfold ownH ownV
  by_cases q : xs.length = 0
  · have e : xs = [] := List.length_eq_zero_iff.mp q
    subst e
    rw [if_pos q, if_pos q]
    refine ⟨some h.length, [], o.add l [] 1 he, ?_, fun n hn => (by cases hn; exact Nat.le_refl _)⟩
    have := LS.whole (N := upN N l (some h.length)) (C := upN C l []) (c := 1) (l := l) (k := 0) (upN_self _ _ _) (by rw [upN_self]; rfl)
    rw [upN_self] at this
    exact this
  · rw [if_neg q, if_neg q]
    have o2 := (o.ext (pre_new h [] 1)).add l (xs.map (.int .i64)) 1 he
    rw [newArr_length] at o2
    refine ⟨some (h.length + 1), _, o2, ?_, fun n hn => (by cases hn; omega)⟩
    have := LS.whole (N := upN N l (some (h.length + 1))) (C := upN C l (xs.map (Value.int .i64))) (c := 0) (l := l) (k := xs.length) (upN_self _ _ _) (by rw [upN_self]; simp)
    rw [upN_self] at this
    exact this
theorem none_empty {o : Option Addr} {l c : Nat} {xs : List Int} (s : IntS h (.slice o l c) xs) (hn : o = none) : xs = [] := by
  subst hn
  rcases s.2 with ⟨_, _, _, _, e⟩ | ⟨i, oo, cc, a, e, _⟩
  · exact List.length_eq_zero_iff.mp e
  · cases e
theorem c71 {a : Value} {xs : List Int} (s : IntS h a xs) (hb : xs.length ≤ 2 ^ 40) : DetP Try.prog 71 [a] h fun v h' => Fresh h h' v xs := by
  obtain ⟨o, l, c, rfl⟩ := seg_slice s
  refine w71 ?_
  unfold n71
  with_reducible (refine mv_i ?_; refine mv_i ?_)
  refine eqlnil ?_
  cases ho : o with
  | none =>
    have e := none_empty s ho
    subst e
    refine cnd_t ?_
    with_reducible (refine mv_i ?_; refine ret1 ?_)
    refine ⟨List.prefix_refl _, fun h0 N C E l he o => ⟨none, [], o.forget l [], .inl ⟨upN_self _ _ _, rfl, rfl⟩, fun n hn => (by cases hn)⟩⟩
  | some p =>
    subst ho
    refine cnd_f ?_
    skip
    refine ok_i (bs23_0 _) ?_
    with_reducible (refine mv_i ?_)
    have e := own_app t23 h.length (h := newArr h [] 1) (s.mono (Sub.of_pre (pre_new _ _ _))) (ints_one xs) ⟨by omega, by omega⟩
    have hf := own_fresh h xs
    by_cases h0 : xs.length = 0
    · rw [if_pos h0] at e
      refine ok_i e ?_
      with_reducible (refine mv_i ?_; refine ret1 ?_)
      unfold ownV ownH at hf
      rw [if_pos h0, if_pos h0] at hf
      exact hf
    · rw [if_neg h0] at e
      refine ok_i e ?_
      with_reducible (refine mv_i ?_; refine ret1 ?_)
      unfold ownV ownH at hf
      rw [if_neg h0, if_neg h0] at hf
      rw [newArr_length]
      exact hf
theorem c95 {a b : Value} {xs ys : List Int} (s : IntS h a xs) (s2 : IntS h b ys) : Runs Try.prog 95 [a, b] h (.int .i64 (cmpL xs ys)) h := by
  have lt := s.lt
  have lt2 := s2.lt
  refine DetP.runs (w95 ?_)
  unfold n95
  with_reducible (refine mv_i ?_; refine mv_i ?_; refine leni_i t23 (by assumption) ?_; refine mv_i ?_)
  refine loop1 xs.length (fun k h2 => h = h2 ∧ k ≤ ys.length ∧ ∀ j, j < k → xs.getD j 0 = ys.getD j 0) ⟨rfl, by omega, fun j hj => by omega⟩ ?_
  rintro k _ _ hk ⟨rfl, hy, hJ⟩
  have hd := cmpL_drop k xs ys hk hy hJ
  skip
  refine lss_i (fun hlt => ?_) (fun hge => ?_)
  · have hk2 : k < xs.length := by omega
    rw [drop_cons' hk2] at hd
    with_reducible (refine cnd_t ?_; refine mv_i ?_; refine idxi_i t23 (by assumption) (by omega) ?_; refine ldi_i t23 r3 (by assumption) (by omega) ?_; refine mv_i ?_; refine mv_i ?_; refine mv_i ?_; refine mv_i ?_; refine leni_i t23 (by assumption) ?_)
    refine geq_i (fun h1 => ?_) (fun h1 => ?_)
    · rw [List.drop_of_length_le (show ys.length ≤ k by omega)] at hd
      with_reducible (refine cnd_t ?_; refine mv_i ?_; refine ret1 ?_)
      exact ⟨by rw [hd]; rfl, rfl⟩
    · have hk3 : k < ys.length := by omega
      rw [drop_cons' hk3] at hd
      simp only [cmpL] at hd
      with_reducible (refine cnd_f ?_; refine mv_i ?_; refine mv_i ?_; refine idxi_i t23 (by assumption) (by omega) ?_; refine ldi_i t23 r3 (by assumption) (by omega) ?_; refine mv_i ?_; refine mv_i ?_; refine mv_i ?_)
      refine call_r (c94 _ _) ?_
      with_reducible (refine mv_i ?_; refine mv_i ?_)
      refine neq_i (fun hz => ?_) (fun hz => ?_)
      · with_reducible (refine cnd_f ?_; refine inc_i (by omega) ?_; refine mv_i ?_)
        refine next1 hk2 ⟨rfl, hk3, fun j hj => ?_⟩
        by_cases q : j = k
        · subst q
          unfold cmpI at hz
          split at hz
          · cases hz
          · split at hz
            · cases hz
            · omega
        · exact hJ j (by omega)
      · with_reducible (refine cnd_t ?_; refine mv_i ?_; refine mv_i ?_; refine ret1 ?_)
        refine ⟨?_, rfl⟩
        rw [hd]
        unfold cmpI at hz ⊢
        by_cases h2 : xs.getD k 0 < ys.getD k 0
        · rw [if_pos h2, if_neg (by omega), if_neg (by omega)]
        · by_cases h3 : ys.getD k 0 < xs.getD k 0
          · rw [if_neg h2, if_pos h3, if_neg (by omega), if_pos h3]
          · rw [if_neg h2, if_neg h3] at hz
            exact absurd rfl hz
  · have ek : k = xs.length := by omega
    subst ek
    rw [List.drop_of_length_le (Nat.le_refl _)] at hd
    with_reducible (refine cnd_f ?_; refine mv_i ?_; refine leni_i t23 (by assumption) ?_; refine mv_i ?_; refine leni_i t23 (by assumption) ?_)
    refine lss_i (fun h1 => ?_) (fun h1 => ?_)
    · rw [drop_cons' (show xs.length < ys.length by omega)] at hd
      with_reducible (refine cnd_t ?_; refine mv_i ?_; refine ret1 ?_)
      exact ⟨by rw [hd]; rfl, rfl⟩
    · rw [List.drop_of_length_le (by omega)] at hd
      with_reducible (refine cnd_f ?_; refine mv_i ?_; refine ret1 ?_)
      exact ⟨by rw [hd]; rfl, rfl⟩
theorem bs23_3 (a b c : Int) (h : Heap) : aBuildSlice Try.prog 25 3 [(0, .int .i64 a), (1, .int .i64 b), (2, .int .i64 c)] h = some (.slice (some ⟨h.length, 0, none⟩) 3 4, newArr h [.int .i64 a, .int .i64 b, .int .i64 c] 1) := by kernel_rfl
theorem fa111_0 (i : Nat) : aFieldAddr Try.prog 111 (.pointer (some ⟨i, 0, none⟩)) 0 = some (.pointer (some ⟨i, 0, none⟩)) := by kernel_rfl
theorem fa111_1 (i : Nat) : aFieldAddr Try.prog 111 (.pointer (some ⟨i, 0, none⟩)) 1 = some (.pointer (some ⟨i, 1, none⟩)) := by kernel_rfl
theorem box111 (a b : Value) (h : Heap) : aBox Try.prog 111 (.agg #[a, b]) h = (.pointer (some ⟨h.length, 0, none⟩), newArr h [a, b] 2) := by kernel_rfl
theorem c72 {o o' : Option Addr} {l c l' c' : Nat} {a b : Key} (s1 : IntS h (.slice o l c) a.2) (s2 : IntS h (.slice o' l' c') b.2) : Runs Try.prog 72 [.agg #[.int .i64 a.1, .slice o l c], .agg #[.int .i64 b.1, .slice o' l' c']] h (.bool (decide (kLt a b))) h := by
  have lt1 := s1.lt
  have lt2 := s2.lt
  refine DetP.forget rfl ?_
  refine w72 ?_
  unfold n72
  rw [box111]
  refine ok_i rfl ?_
  have p1 := pre_new h [.int .i64 a.1, .slice o l c] 2
  have hb1 := newArr_get h [.int .i64 a.1, .slice o l c] 2
  generalize hi1 : h.length = i1 at hb1 ⊢
  generalize newArr h [.int .i64 a.1, .slice o l c] 2 = g1 at p1 hb1 ⊢
  rw [box111]
  refine ok_i rfl ?_
  have p2 := pre_new g1 [.int .i64 b.1, .slice o' l' c'] 2
  have hc2 := newArr_get g1 [.int .i64 b.1, .slice o' l' c'] 2
  generalize hi2 : g1.length = i2 at hc2 ⊢
  generalize newArr g1 [.int .i64 b.1, .slice o' l' c'] 2 = g2 at p2 hc2 ⊢
  have hb2 := (Sub.of_pre p2).2 _ _ hb1
  have q1 := s1.mono (Sub.of_pre (p1.trans p2))
  have q2 := s2.mono (Sub.of_pre (p1.trans p2))
  with_reducible (refine mv_i ?_; refine vk_i (fa111_0 _) ?_; refine ld2_0 r3 (by assumption) ?_; refine ⟨vbi _ _, ?_⟩; refine vk_i (fa111_0 _) ?_; refine ld2_0 r3 (by assumption) ?_; refine ⟨vbi _ _, ?_⟩)
  refine calld_r (c94 _ _) ⟨⟨[], by simp⟩, ?_⟩
  with_reducible (refine vk_i (fa111_1 _) ?_; refine ld2_1 r23 (by assumption) ?_; refine ⟨VB_of_ints (by assumption), ?_⟩; refine leni_i t23 (by assumption) ?_; refine vk_i (fa111_1 _) ?_; refine ld2_1 r23 (by assumption) ?_; refine ⟨VB_of_ints (by assumption), ?_⟩; refine leni_i t23 (by assumption) ?_)
  refine calld_r (c94 _ _) ⟨⟨[], by simp⟩, ?_⟩
  with_reducible (refine vk_i (fa111_1 _) ?_; refine ld2_1 r23 (by assumption) ?_; refine ⟨VB_of_ints (by assumption), ?_⟩; refine vk_i (fa111_1 _) ?_; refine ld2_1 r23 (by assumption) ?_; refine ⟨VB_of_ints (by assumption), ?_⟩)
  refine calld_r (c95 q1 q2) ⟨⟨[], by simp⟩, ?_⟩
  refine ok_i (bs23_3 _ _ _ _) ?_
  have p3 := pre_new g2 [.int .i64 (cmpI a.1 b.1), .int .i64 (cmpI a.2.length b.2.length), .int .i64 (cmpL a.2 b.2)] 1
  have sx : IntS (newArr g2 [.int .i64 (cmpI a.1 b.1), .int .i64 (cmpI a.2.length b.2.length), .int .i64 (cmpL a.2 b.2)] 1) (.slice (some ⟨g2.length, 0, none⟩) 3 4) [cmpI a.1 b.1, cmpI a.2.length b.2.length, cmpL a.2 b.2] := Seg.new 4 (by rfl) (by simp)
  generalize newArr g2 [.int .i64 (cmpI a.1 b.1), .int .i64 (cmpI a.2.length b.2.length), .int .i64 (cmpL a.2 b.2)] 1 = g3 at p3 sx ⊢
  refine calld_r (c93 sx) ⟨⟨[], by simp⟩, ?_⟩
  refine lss_b ?_
  with_reducible (refine mv_i ?_; refine ret1 ?_)
  exact ⟨by rw [decide_eq_decide.mpr (less_iff a b)], p1.trans (p2.trans p3)⟩
theorem c74 {v1 v2 : Value} {a b : Key} (s1 : IntS h v1 a.2) (s2 : IntS h v2 b.2) : Runs Try.prog 74 [.int .i64 a.1, v1, .int .i64 b.1, v2] h (.bool (decide (kLt a b))) h := by
  have lt1 := s1.lt
  have lt2 := s2.lt
  refine DetP.runs (w74 ?_)
  unfold n74
  with_reducible (refine mv_i ?_; refine mv_i ?_; refine mv_i ?_)
  have fin : ∀ z : Bool, (z = true ↔ kLt a b) → (Value.bool z = Value.bool (decide (kLt a b)) ∧ h = h) := fun z hz => ⟨by congr 1; rw [Bool.eq_iff_iff, decide_eq_true_eq]; exact hz, rfl⟩
  refine neq_i (fun h1 => ?_) (fun h1 => ?_)
  · with_reducible (refine mv_i ?_; refine gd_ff ?_; refine mv_i ?_; refine gd_ff ?_; refine leni_i t23 (by assumption) ?_; refine gd_ff ?_; refine mv_i ?_; refine gd_ff ?_; refine leni_i t23 (by assumption) ?_; refine gd_ff ?_)
    refine neq_i (fun h2 => ?_) (fun h2 => ?_)
    · with_reducible (refine pick_f ?_; refine cnd_f ?_; refine mv_i ?_; refine mv_i ?_)
      refine call_r (c92 s1 s2) ?_
      refine lss_b ?_
      with_reducible (refine mv_i ?_; refine ret1 ?_)
      refine fin _ ?_
      rw [decide_eq_true_eq]
      unfold kLt
      constructor
      · intro hc; exact .inr ⟨h1, .inr ⟨by omega, hc⟩⟩
      · rintro (hc | ⟨_, hc | ⟨_, hc⟩⟩)
        · omega
        · omega
        · exact hc
    · with_reducible (refine pick_f ?_; refine cnd_t ?_; refine mv_i ?_; refine mv_i ?_)
      refine lss_i (fun h3 => by omega) (fun h3 => ?_)
      with_reducible (refine mv_i ?_; refine gd_ff ?_; refine mv_i ?_; refine gd_ff ?_; refine mv_i ?_; refine gd_ff ?_)
      refine eql_i (fun _ => ?_) (fun hc => absurd h1 hc)
      with_reducible (refine gd_ff ?_; refine mv_i ?_; refine gd_tt ?_; refine mv_i ?_; refine gd_tt ?_; refine leni_i t23 (by assumption) ?_; refine gd_tt ?_; refine mv_i ?_; refine gd_tt ?_; refine leni_i t23 (by assumption) ?_; refine gd_tt ?_)
      refine lss_i (fun h4 => ?_) (fun h4 => ?_)
      · with_reducible (refine gd_ff ?_; refine pick_t ?_; refine pick_f ?_; refine mv_i ?_; refine ret1 ?_)
        refine fin true ⟨fun _ => .inr ⟨h1, .inl (by omega)⟩, fun _ => rfl⟩
      · with_reducible (refine gd_ff ?_; refine pick_t ?_; refine pick_f ?_; refine mv_i ?_; refine ret1 ?_)
        refine fin false ⟨fun hc => (by cases hc), ?_⟩
        rintro (hc | ⟨_, hc | ⟨_, hc⟩⟩) <;> omega
  · with_reducible (refine mv_i ?_; refine gd_tf ?_; refine gd_tf ?_; refine gd_tf ?_; refine gd_tf ?_; refine gd_tf ?_; refine pick_t ?_; refine cnd_t ?_; refine mv_i ?_; refine mv_i ?_)
    refine lss_i (fun h3 => ?_) (fun h3 => ?_)
    · with_reducible (refine mv_i ?_; refine gd_tf ?_; refine gd_tf ?_; refine gd_tf ?_; refine gd_tf ?_; refine gd_u ?_; refine gd_u ?_; refine gd_u ?_; refine gd_u ?_; refine gd_u ?_; refine gd_tf ?_; refine pick_t ?_; refine mv_i ?_; refine ret1 ?_)
      exact fin true ⟨fun _ => .inl h3, fun _ => rfl⟩
    · with_reducible (refine mv_i ?_; refine gd_ff ?_; refine mv_i ?_; refine gd_ff ?_; refine mv_i ?_; refine gd_ff ?_)
      refine eql_i (fun hc => absurd hc h1) (fun _ => ?_)
      with_reducible (refine gd_ff ?_; refine mv_i ?_; refine gd_ft ?_; refine gd_ft ?_; refine gd_ft ?_; refine gd_ft ?_; refine gd_ft ?_; refine gd_ff ?_; refine pick_f ?_; refine pick_f ?_; refine mv_i ?_; refine ret1 ?_)
      refine fin false ⟨fun hc => (by cases hc), ?_⟩
      rintro (hc | ⟨hc, _⟩) <;> omega
end Go.Proofs.Ytdjoednhfoligaa

set_option linter.unusedSimpArgs false
set_option linter.unusedVariables false
set_option maxRecDepth 100000
namespace Go.Proofs.Ytdjoednhfoligaa
open Go.AM
variable {h h' h0 h1 h2 : Heap} {K : Value → Heap → Prop} {m : Mac}
variable {N N' N1 : Nat → Option Nat} {C C' : Nat → List Value} {E : Nat → Nat}

theorem t108 : sliceT Try.prog 108 109 1 8 = true := by kernel_rfl
theorem r109 : isPlain Try.prog 109 = true := by kernel_rfl
theorem s109 : szOf Try.prog 109 = some 1 := by kernel_rfl
theorem z109 : zeroB Try.prog 109 (.pointer none) := ⟨_, rfl, by kernel_rfl⟩
theorem build111_0 : aBuild Try.prog 111 [] = some (.agg #[.int .i64 0, .slice none 0 0]) := by kernel_rfl
theorem build111 (p : Int) (o : Option Addr) (l c : Nat) : aBuild Try.prog 111 [(0, .int .i64 p), (1, .slice o l c)] = some (.agg #[.int .i64 p, .slice o l c]) := by kernel_rfl
theorem eqlptr {o : Option Addr} (hk : K (.bool o.isNone) h) : vK (aBin Try.prog .eql 109 (.pointer o) (.pointer none)) h K := vk_i (by kernel_rfl) hk
theorem neqptr {o : Option Addr} (hk : K (.bool !o.isNone) h) : vK (aBin Try.prog .neq 109 (.pointer o) (.pointer none)) h K := vk_i (by kernel_rfl) hk
theorem al111 (h : Heap) : aAlloc Try.prog 111 h = some (.pointer (some ⟨h.length, 0, none⟩), newArr h [.int .i64 0, .slice none 0 0] 2) := by kernel_rfl
theorem row111 : (match Try.prog.underlying 111 with | some d => d.isRow | none => false) = true := by kernel_rfl
theorem sz111 : szOf Try.prog 111 = some 2 := by kernel_rfl
theorem sto111 (g : Heap) (p : Int) (o : Option Addr) (l c : Nat) : aStore Try.prog 111 (.pointer (some ⟨g.length, 0, none⟩)) (.agg #[.int .i64 p, .slice o l c]) (newArr g [.int .i64 0, .slice none 0 0] 2) = some (newArr g [.int .i64 p, .slice o l c] 2) := by
  have hi := newArr_get g [.int .i64 0, .slice none 0 0] 2
  simp only [aStore, hi, sz111]
  rw [if_pos ⟨trivial, rfl, by simp, by simp [Value.cells, Value.oneCell']⟩, newArr_set]
  rfl
theorem ld111 {i : Nat} {a b : Value} (hi : h[i]? = some (.arr ⟨[a, b], 2, false⟩)) : aLoad Try.prog 111 (.pointer (some ⟨i, 0, none⟩)) h = some (.agg #[a, b]) := by
  have hr := row111
  split at hr
  · rename_i dd hd
    simp only [aLoad, hi, hd, sz111]
    rw [if_pos hr, if_pos (by simp)]
    rfl
  · cases hr
/-! ### what stays, moved on -/
def FrzT (N : Nat → Option Nat) (h : Heap) (N' : Nat → Option Nat) (h' : Heap) : Prop := ∀ Q, Frz N h Q → Frz N' h' Q
theorem FrzT.trans {N'' : Nat → Option Nat} {h'' : Heap} (a : FrzT N h N' h') (b : FrzT N' h' N'' h'') : FrzT N h N'' h'' := fun Q f => b Q (a Q f)
theorem FrzT.refl : FrzT N h N h := fun _ f => f
theorem FrzT.ext (p : h <+: h') : FrzT N h N h' := fun _ f => f.ext p
theorem FrzT.set {l n : Nat} (hl : N l = some n) (x : Ob) : FrzT N h N (h.set n x) := fun _ f => f.set hl x
theorem FrzT.lab (l : Nat) (o : Option Nat) (ho : ∀ n, o = some n → h.length ≤ n) (p : h <+: h') : FrzT N h (upN N l o) h' := fun _ f => f.lab l o ho (Sub.of_pre p)
theorem FrzT.app {l : Nat} (hk : ∀ (j : Nat) (a : Arr), N l ≠ some j → h[j]? = some (.arr a) → h'[j]? = some (.arr a)) (hl : h.length ≤ h'.length) : FrzT N h (upN N l (some h.length)) h' := fun _ f => f.app hk hl
theorem FrzT.fewer (l : Nat) : FrzT N h (upN N l none) h := fun _ f => f.fewer l
theorem frz_new (o : Owns h0 h N C E) (cs : List Value) (n : Nat) : Frz N (newArr h cs n) fun g => g[h.length]? = some (.arr ⟨cs, n, false⟩) := Frz.of_only o (pre_new _ _ _) fun g hg => hg _ _ (Nat.le_refl _) (newArr_get _ _ _)
/-- A way behind a pointer. -/
def WayC (Q : (Heap → Prop) → Prop) (ptr : Value) (a : Key) : Prop := ∃ i o l c, ptr = .pointer (some ⟨i, 0, none⟩) ∧ Q fun g => g[i]? = some (.arr ⟨[.int .i64 a.1, .slice o l c], 2, false⟩) ∧ IntS g (.slice o l c) a.2
structure BT (m : Mac) (oi : Nat) (h0 h : Heap) (N : Nat → Option Nat) (C : Nat → List Value) (bc : List Value) (B : Nat → Option Key) : Prop where
  own : Owns h0 h N C oneE
  n0 : N 0 = some oi
  c0 : C 0 = bc
  bl : bc.length = m.states.toNat
  no : ∀ s, s < m.states.toNat → B s = none → bc.getD s undef = .pointer none
  yes : ∀ s, s < m.states.toNat → ∀ a, B s = some a → WayC (Frz N h) (bc.getD s undef) a
theorem BT.move {oi : Nat} {bc : List Value} {B : Nat → Option Key} (b : BT m oi h0 h N C bc B) (o : Owns h0 h' N' C' oneE) (n0 : N' 0 = some oi) (c0 : C' 0 = bc) (T : FrzT N h N' h') : BT m oi h0 h' N' C' bc B :=
  ⟨o, n0, c0, b.bl, b.no, fun s hs a ha => by
    obtain ⟨i, q, l, c, h1, h2⟩ := b.yes s hs a ha
    exact ⟨i, q, l, c, h1, T _ h2⟩⟩
theorem BT.seg {oi : Nat} {bc : List Value} {B : Nat → Option Key} (b : BT m oi h0 h N C bc B) (hS : m.states.toNat ≤ 40) : Seg 1 h (.slice (some ⟨oi, 0, none⟩) m.states.toNat (m.states.toNat + 1)) m.states.toNat bc := by
  have := b.own.seg b.n0 (k := m.states.toNat) (c := m.states.toNat + 1) (sz := 1) rfl (by rw [b.c0, b.bl]; omega) (by omega)
  rw [b.c0] at this
  exact this
theorem BT.put {oi : Nat} {bc : List Value} {B : Nat → Option Key} (b : BT m oi h0 h N C bc B) {t : Nat} (ht : t < m.states.toNat) {a : Key} {x : Value} (w : WayC (Frz N h) x a) (o : Owns h0 (h.set oi (.arr ⟨bc.set t x, 1, false⟩)) N (upN C 0 (bc.set t x)) oneE) :
    BT m oi h0 (h.set oi (.arr ⟨bc.set t x, 1, false⟩)) N (upN C 0 (bc.set t x)) (bc.set t x) (upB B t a) := by
  refine ⟨o, b.n0, upN_self _ _ _, by simpa using b.bl, fun s hs hn => ?_, fun s hs c hc => ?_⟩
  · unfold upB at hn
    split at hn
    · cases hn
    · rename_i q; rw [gd_set_ne q]; exact b.no s hs hn
  · unfold upB at hc
    split at hc
    · rename_i q
      subst q
      cases hc
      rw [gd_set (by rw [b.bl]; exact hs)]
      obtain ⟨i, q, l, c, h1, h2⟩ := w
      exact ⟨i, q, l, c, h1, h2.set b.n0 _⟩
    · rename_i q
      rw [gd_set_ne q]
      obtain ⟨i, q, l, c, h1, h2⟩ := b.yes s hs c hc
      exact ⟨i, q, l, c, h1, h2.set b.n0 _⟩
theorem ld_gd {i : Nat} {t e by_ n k : Nat} {v : Value} {cs : List Value} (ht : sliceT Try.prog t e 1 by_ = true) (hr : isPlain Try.prog e = true) (s : Seg 1 h v n cs) (hk : k < n) (hK : K (cs.getD k undef) h) : vK (aLoad Try.prog e (elt 1 v k) h) h K :=
  ld_i ht hr s hk (y := cs.getD k undef) (by have := s.1.1; rw [List.getD_eq_getElem?_getD, List.getElem?_eq_getElem (by omega)]; rfl) hK
theorem ldgd_e {t e by_ n k : Nat} {v : Value} {cs : List Value} (ht : sliceT Try.prog t e 1 by_ = true) (hr : isPlain Try.prog e = true) (s : Seg 1 h v n cs) (hk : k < n) : aLoad Try.prog e (elt 1 v k) h = some (cs.getD k undef) := by
  have := ld_gd (i := 0) (K := fun v _ => some v = some (cs.getD k undef)) ht hr s hk rfl
  have := this.out
  split at this
  · rename_i v hv; rw [hv]; exact this
  · exact this.elim
end Go.Proofs.Ytdjoednhfoligaa

set_option linter.unusedSimpArgs false
set_option linter.unusedVariables false
set_option maxRecDepth 100000
namespace Go.Proofs.Ytdjoednhfoligaa
open Go.AM
variable {h h' h0 h1 h2 : Heap} {K : Value → Heap → Prop} {m : Mac}
theorem vb_two {p : Int} {o : Option Addr} {l c : Nat} {xs : List Int} (s : IntS h (.slice o l c) xs) : VB h.length (.agg #[.int .i64 p, .slice o l c]) := by
  intro x hx
  simp at hx
  rcases hx with rfl | rfl
  · trivial
  · exact VB_of_ints s
def clAt (m : Mac) (pr : List Int) (B : Nat → Option Key) (k : Nat) : Prop := ∀ a, B (m.steps.getD k dst).fr.toNat = some a → ∃ b, B (m.steps.getD k dst).to.toNat = some b ∧ kLe b (kStep m pr a k)
/-- What a round of improvements keeps. -/
def Rnd (m : Mac) (pr : List Int) (oi : Nat) (g1 : Heap) (B0 : Nat → Option Key) (k : Nat) (v : Value) (h2 : Heap) : Prop :=
  ∃ N C bc B again, v = .bool again ∧ BT m oi g1 h2 N C bc B ∧ Tab m pr B ∧ (again = false → B = B0 ∧ ∀ j, j < k → clAt m pr B0 j) ∧ (again = true → rkB B m.states.toNat < rkB B0 m.states.toNat)
def rkA (m : Mac) (B : Nat → Option Key) (again : Bool) : Nat := 2 * rkB B m.states.toNat + if again then 1 else 0
set_option maxHeartbeats 4000000 in
theorem c34 {a b : Value} {pr : List Int} (s : MacV h a m) (sp : IntS h b pr) :
    DetP Try.prog 34 [a, b] h fun v h' => h <+: h' ∧ if orOf [(mErr m).2, prErr m pr] ≠ 0 then v = .tuple #[.slice none 0 0, .slice none 0 0, .int .i64 (orOf [(mErr m).2, prErr m pr])] else ∃ B x y, Best m pr B ∧ v = .tuple #[x, y, .int .i64 0] ∧ RowsS h' x (wordsB m B) ∧ IntS h' y (costsB m B) := by
  refine w34 ?_
  unfold n34
  obtain ⟨o, l, c, rfl, ss0⟩ := s
  rw [box36]
  refine ok_i rfl ?_
  have p1 := pre_new h [.int .i64 m.states, .int .i64 m.inputs, .int .i64 m.outputs, .int .i64 m.start, .slice o l c] 5
  have hb1 := newArr_get h [.int .i64 m.states, .int .i64 m.inputs, .int .i64 m.outputs, .int .i64 m.start, .slice o l c] 5
  have ss := ss0.mono (Sub.of_pre p1)
  generalize hg1 : newArr h [.int .i64 m.states, .int .i64 m.inputs, .int .i64 m.outputs, .int .i64 m.start, .slice o l c] 5 = g1 at p1 hb1 ss ⊢
  have sp1 := sp.mono (Sub.of_pre p1)
  have mv1 : MacV g1 (.agg #[.int .i64 m.states, .int .i64 m.inputs, .int .i64 m.outputs, .int .i64 m.start, .slice o l c]) m := macv_of ss
  with_reducible (refine mv_i ?_; refine mv_i ?_; refine mv_i ?_)
  refine vk_i (ld36 hb1) ?_
  refine ⟨vb_mac ss, ?_⟩
  refine calld_r (c51 mv1) ⟨⟨[], by simp⟩, ?_⟩
  refine vk_i (ld36 hb1) ?_
  refine ⟨vb_mac ss, ?_⟩
  with_reducible (refine mv_i ?_)
  refine calld_r (c52 mv1 sp1) ⟨⟨[], by simp⟩, ?_⟩
  refine ok_i (bs94_2 _ _ _) ?_
  have p2 := pre_new g1 [.int .i64 (mErr m).2, .int .i64 (prErr m pr)] 1
  have sx : IntS (newArr g1 [.int .i64 (mErr m).2, .int .i64 (prErr m pr)] 1) (.slice (some ⟨g1.length, 0, none⟩) 2 3) [(mErr m).2, prErr m pr] := Seg.new 3 (by rfl) (by simp)
  generalize newArr g1 [.int .i64 (mErr m).2, .int .i64 (prErr m pr)] 1 = g2 at p2 sx ⊢
  refine calld_r (c50 sx) ⟨⟨[], by simp⟩, ?_⟩
  generalize he : orOf [(mErr m).2, prErr m pr] = e
  with_reducible (refine mv_i ?_; refine mv_i ?_)
  refine neq_i (fun hz => ?_) (fun hz => ?_)
  rotate_left
  · with_reducible (refine cnd_t ?_; refine mv_i ?_; refine mv_i ?_; refine mv_i ?_; refine mv_i ?_; refine ret3 ?_)
    exact ⟨p1.trans p2, by rw [if_pos hz]⟩
  subst hz
  rw [or2] at he
  have he1 : (mErr m).2 = 0 := by
    by_cases q : (mErr m).2 = 0
    · exact q
    · rw [if_neg q] at he; exact he
  rw [if_pos he1] at he
  have r := right_of he1
  obtain ⟨hpl, hpo⟩ := prOK_of he
  obtain ⟨b1, b2, b3, b4, b5, b6⟩ := r.bounds
  have hfew := r.few
  have hsl : m.steps.length ≤ 320 := by
    have : m.states * m.inputs ≤ 40 * 8 := Int.mul_le_mul b2 b4 (by omega) (by omega)
    omega
  have hb2 := (Sub.of_pre p2).2 _ _ hb1
  have ss2 := ss.mono (Sub.of_pre p2)
  have sp2 := sp1.mono (Sub.of_pre p2)
  have hSn : m.states.toNat ≤ 40 := by omega
  with_reducible (refine cnd_f ?_; refine vk_i (fa36_0 _) ?_; refine ld5_0 r3 (by assumption) ?_)
  refine mk1_i (n := m.states) t108 z109 (by omega) ⟨by omega, by omega⟩ ?_
  have o0 := (Owns.start (fun _ => []) oneE (List.prefix_refl g2)).add 0 (List.replicate m.states.toNat (.pointer none)) 1 rfl
  have n0 : (upN (fun _ => none) 0 (some g2.length)) 0 = some g2.length := upN_self _ _ _
  have c0 : (upN (fun _ => []) 0 (List.replicate m.states.toNat (Value.pointer none))) 0 = List.replicate m.states.toNat (.pointer none) := upN_self _ _ _
  generalize upN (fun _ => []) 0 (List.replicate m.states.toNat (Value.pointer none)) = C0 at o0 c0
  generalize hoi : g2.length = oi at o0 n0 ⊢
  generalize upN (fun _ => none) 0 (some oi) = N0 at o0 n0
  generalize newArr g2 (List.replicate m.states.toNat (.pointer none)) 1 = h3 at o0 ⊢
  have hb3 := o0.sub.2 _ _ hb2
  have bt0 : BT m oi g2 h3 N0 C0 (List.replicate m.states.toNat (.pointer none)) (fun _ => none) := by
    refine ⟨o0, n0, c0, by simp, fun s hs _ => ?_, fun s hs a ha => by cases ha⟩
    simp only [List.getD, List.getElem?_replicate]; rw [if_pos hs]; rfl
  with_reducible (refine mv_i ?_; refine mv_i ?_; refine vk_i (fa36_3 _) ?_; refine ld5_3 r3 (by assumption) ?_)
  refine vk_i build111_0 ?_
  rw [box111]
  refine ok_i rfl ?_
  have bt1 := bt0.move (h' := newArr h3 [.int .i64 0, .slice none 0 0] 2) (bt0.own.ext (pre_new _ _ _)) n0 c0 (FrzT.ext (pre_new _ _ _))
  have fw := frz_new o0 [.int .i64 0, .slice none 0 0] 2
  generalize hwi : h3.length = wi at fw ⊢
  generalize newArr h3 [.int .i64 0, .slice none 0 0] 2 = h4 at bt1 fw ⊢
  have hsn : m.start.toNat < m.states.toNat := by omega
  refine idxz t108 (bt1.seg hSn) b5 (by omega) ?_
  rw [elt_at1]
  refine stl s109 bt1.own bt1.n0 (by rw [bt1.c0, bt1.bl]; omega) rfl rfl fun o5 => ?_
  rw [bt1.c0, show oneE 0 = 1 from rfl] at o5 ⊢
  have way0 : WayC (Frz N0 h4) (.pointer (some ⟨wi, 0, none⟩)) (0, []) := ⟨wi, none, 0, 0, rfl, fw.map fun g hg => ⟨hg, Seg.nil _ _⟩⟩
  have bt2 := bt1.put hsn way0 o5
  have tab0 : Tab m pr (upB (fun _ => none) m.start.toNat (0, [])) := by
    refine ⟨fun s a ha => ?_, (0, []), by unfold upB; rw [if_pos rfl], kLe_refl _⟩
    unfold upB at ha
    split at ha
    · rename_i q
      subst q
      cases ha
      refine ⟨hsn, by rw [Int.toNat_of_nonneg b5]; exact .nil, [m.start.toNat], by simp, by simp, fun u hu => ?_⟩
      rw [List.mem_singleton] at hu
      subst hu
      exact ⟨hsn, (0, []), by unfold upB; rw [if_pos rfl], kLe_refl _⟩
    · cases ha
  generalize upB (fun _ => none) m.start.toNat (0, []) = B1 at bt2 tab0
  generalize (List.replicate m.states.toNat (Value.pointer none)).set m.start.toNat (.pointer (some ⟨wi, 0, none⟩)) = bc1 at bt2 ⊢
  generalize upN C0 0 bc1 = C1 at bt2
  generalize h4.set oi (.arr ⟨bc1, 1, false⟩) = h5 at bt2 ⊢
  with_reducible (refine mv_i ?_)
  refine lp1 (fun n vs h2 => ∃ N C bc B again, vs = [.bool again] ∧ BT m oi g2 h2 N C bc B ∧ Tab m pr B ∧ (again = false → ∀ k, k < m.steps.length → clAt m pr B k) ∧ n = rkA m B again) ⟨N0, C1, bc1, B1, true, rfl, bt2, tab0, fun hc => (by cases hc), rfl⟩ ?_
  rintro n _ h6 _ ⟨N, C, bc, B, again, eq, btO, tabO, hclO, rfl⟩ hr
  cases eq
  have hb6 := btO.own.sub.2 _ _ hb2
  have ss6 := ss2.mono btO.own.sub
  with_reducible (refine mv_i ?_)
  cases again with
  | true =>
    with_reducible (refine cnd_t ?_; refine mv_i ?_; refine vk_i (fa36_4 _) ?_; refine ld5_4 r34 (by assumption) ?_; refine lenst t34 (by assumption) ?_; refine mv_i ?_)
    refine loop2 m.steps.length (Rnd m pr oi g2 B) ⟨N, C, bc, B, false, rfl, btO, tabO, fun _ => ⟨rfl, fun j hj => by omega⟩, fun hc => (by cases hc)⟩ ?_
    rintro i _ h7 _ hi ⟨N, C, bc, B', again, rfl, bt, tab, hf, ht⟩
    have ss7 := ss2.mono bt.own.sub
    have sp7 := sp2.mono bt.own.sub
    skip
    refine lss_i (fun hlt => ?_) (fun hge => ?_)
    · have hil : i < m.steps.length := by omega
      have hst := r.st hil
      have hrd : Rnd m pr oi g2 B i (.bool again) h7 := ⟨N, C, bc, B', again, rfl, bt, tab, hf, ht⟩
      have hpi := hpo i
      have hfn : (m.steps.getD i dst).fr.toNat < m.states.toNat := by omega
      have htn : (m.steps.getD i dst).to.toNat < m.states.toNat := by omega
      refine cnd_t ?_
      refine seq_J (fun xs h9 => ∃ v, xs = [v] ∧ Rnd m pr oi g2 B (i + 1) v h9) ?_ ?_
      · rintro _ h9 ⟨v, rfl, hv⟩ _
        show vK _ h9 _
        refine inc_i (by omega) ?_
        with_reducible (refine mv_i ?_)
        exact next2 hil hv
      intro k' hk'
      with_reducible (refine mv_i ?_; refine idxst t34 (by assumption) (by omega) ?_)
      refine ldst_i st63 ss7 hil dst ?_
      refine ok_i (al63 _) ?_
      with_reducible (refine mv_i ?_)
      refine ok_i (v := undef) (h' := newArr h7 (m.steps.getD i dst).cells 4) (by rw [sto63]; rfl) ?_
      have fy := frz_new bt.own (m.steps.getD i dst).cells 4
      have bt8 := bt.move (h' := newArr h7 (m.steps.getD i dst).cells 4) (bt.own.ext (pre_new _ _ _)) bt.n0 bt.c0 (FrzT.ext (pre_new _ _ _))
      generalize hyi : h7.length = yi at fy ⊢
      generalize newArr h7 (m.steps.getD i dst).cells 4 = h8 at fy bt8 ⊢
      have hy : h8[yi]? = some (.arr ⟨[.int .i64 (m.steps.getD i dst).fr, .int .i64 (m.steps.getD i dst).inp, .int .i64 (m.steps.getD i dst).out, .int .i64 (m.steps.getD i dst).to], 4, false⟩) := fy.self
      have sg8 := bt8.seg hSn
      have sp8 := sp2.mono bt8.own.sub
      clear bt ss7 sp7 hrd
      with_reducible (refine mv_i ?_; refine vk_i (fa63_0 _) ?_; refine ld4_0 r3 (by assumption) ?_)
      refine idxz t108 sg8 hst.1 (by omega) ?_
      refine ld_gd (i := 0) t108 r109 sg8 hfn ?_
      cases hB : B' (m.steps.getD i dst).fr.toNat with
      | none =>
        rw [bt8.no _ hfn hB]
        refine eqlptr ?_
        refine cnd_t ?_
        refine hk' _ _ ⟨_, rfl, N, C, bc, B', again, rfl, bt8, tab, fun hc => ?_, ht⟩
        obtain ⟨e, hcl⟩ := hf hc
        refine ⟨e, fun j hj => ?_⟩
        by_cases q : j = i
        · subst q
          intro a ha
          rw [← e, hB] at ha; cases ha
        · exact hcl j (by omega)
      | some ka =>
        obtain ⟨wi2, wo, wl, wc, eptr, fw2⟩ := bt8.yes _ hfn ka hB
        obtain ⟨hw, hws⟩ := fw2.self
        have hka := tab.len hB
        have hkp := ((tab.real _ _ hB).2.1).price hpo
        rw [eptr]
        refine eqlptr ?_
        refine cnd_f ?_
        have wlt : wi2 < h8.length := (List.getElem?_eq_some_iff.mp hw).1
        with_reducible (refine mv_i ?_; refine vk_i (fa63_0 _) ?_; refine ld4_0 r3 (by assumption) ?_; refine ⟨vbi _ _, ?_⟩)
        refine idxz t108 sg8 hst.1 (by omega) ?_
        refine ld_gd (i := 0) t108 r109 sg8 hfn ?_
        rw [eptr]
        refine ⟨wlt, ?_⟩
        with_reducible (refine nil_i ?_; refine vk_i (fa111_0 _) ?_; refine ld2_0 r3 (by assumption) ?_; refine ⟨vbi _ _, ?_⟩; refine mv_i ?_; refine mv_i ?_; refine idxi_i t23 (by assumption) (by omega) ?_; refine ldi_i t23 r3 (by assumption) (by omega) ?_; refine ⟨vbi _ _, ?_⟩)
        refine add_i ⟨by omega, by omega⟩ ?_
        with_reducible (refine mv_i ?_; refine vk_i (fa63_0 _) ?_; refine ld4_0 r3 (by assumption) ?_; refine ⟨vbi _ _, ?_⟩)
        refine idxz t108 sg8 hst.1 (by omega) ?_
        refine ld_gd (i := 0) t108 r109 sg8 hfn ?_
        rw [eptr]
        refine ⟨wlt, ?_⟩
        with_reducible (refine nil_i ?_; refine vk_i (fa111_1 _) ?_; refine ld2_1 r23 (by assumption) ?_; refine ⟨VB_of_ints (by assumption), ?_⟩)
        refine calld_i (c71 hws (by omega)) ?_
        rintro v9 h9 ⟨p9, hfr⟩
        refine ⟨p9.imp fun t ht => ht.symm, ?_⟩
        obtain ⟨o9, cs9, ow9, ls9, hn9⟩ := hfr g2 N C oneE 1 rfl bt8.own
        have T9 : FrzT N h8 (upN N 1 o9) h9 := FrzT.lab 1 o9 hn9 p9
        have fy9 := T9 _ fy
        have hy9 : h9[yi]? = some (.arr ⟨[.int .i64 (m.steps.getD i dst).fr, .int .i64 (m.steps.getD i dst).inp, .int .i64 (m.steps.getD i dst).out, .int .i64 (m.steps.getD i dst).to], 4, false⟩) := fy9.self
        with_reducible (refine vk_i (fa63_1 _) ?_; refine ld4_1 r3 (by assumption) ?_; refine ⟨vbi _ _, ?_⟩)
        refine ok_i (bs23_1 _ _) ?_
        have ow10 := ow9.ext (pre_new h9 [.int .i64 (m.steps.getD i dst).inp] 1)
        have T10 : FrzT N h8 (upN N 1 o9) (newArr h9 [.int .i64 (m.steps.getD i dst).inp] 1) := T9.trans (FrzT.ext (pre_new _ _ _))
        refine lapp t23 ow10 ls9 rfl (Seg.new (n := 1) 2 (by simp) (by omega)) (by simp [Value.oneCell']) (by omega) (by rw [List.length_map]; omega) fun h11 v11 ow11 ls11 hk11 hl11 hv11 => ?_
        have T11 := T10.trans (FrzT.app (l := 1) hk11 hl11)
        have n11 : upN (upN N 1 o9) 1 (some (newArr h9 [Value.int .i64 (m.steps.getD i dst).inp] 1).length) 0 = some oi := by rw [upN_ne (by omega), upN_ne (by omega)]; exact bt8.n0
        have c11 : upN (upN C 1 cs9) 1 (ka.2.map (Value.int .i64) ++ [.int .i64 (m.steps.getD i dst).inp]) 0 = bc := by rw [upN_ne (by omega), upN_ne (by omega)]; exact bt8.c0
        generalize upN (upN N 1 o9) 1 (some (newArr h9 [Value.int .i64 (m.steps.getD i dst).inp] 1).length) = N11 at ow11 ls11 T11 n11
        generalize upN (upN C 1 cs9) 1 (ka.2.map (Value.int .i64) ++ [.int .i64 (m.steps.getD i dst).inp]) = C11 at ow11 ls11 c11
        have bt11 := bt8.move ow11 n11 c11 T11
        have fy11 := T11 _ fy
        have hy11 : h11[yi]? = some (.arr ⟨[.int .i64 (m.steps.getD i dst).fr, .int .i64 (m.steps.getD i dst).inp, .int .i64 (m.steps.getD i dst).out, .int .i64 (m.steps.getD i dst).to], 4, false⟩) := fy11.self
        have hw11 := (T11 _ fw2).self.1
        have sg11 := bt11.seg hSn
        have sp11 := sp2.mono bt11.own.sub
        refine ⟨⟨AM.again (ldi_e t23 r3 sp11 (by omega)), AM.again (ldc_e r3 hw11 rfl), AM.again (by rw [ldgd_e t108 r109 sg11 hfn, eptr]), AM.again (ldc_e r3 hy11 rfl), trivial⟩, ?_⟩
        obtain ⟨c11', ev11⟩ := hv11
        have ls12 : LS N11 C11 1 v11 ((ka.2 ++ [(m.steps.getD i dst).inp]).map (.int .i64)) := by simpa using ls11
        have hq12 : ((ka.2.map (Value.int .i64)).length + 1) = (kStep m pr ka i).2.length := by simp [kStep]
        rw [ev11] at ls12 ⊢
        refine vk_i (build111 _ _ _ _) ?_
        refine ok_i (al111 _) ?_
        refine ok_i (v := undef) (by rw [sto111]; rfl) ?_
        have fz13 := frz_new bt11.own [.int .i64 (ka.1 + pr.getD i 0), .slice (some ⟨(newArr h9 [Value.int .i64 (m.steps.getD i dst).inp] 1).length, 0, none⟩) ((ka.2.map (Value.int .i64)).length + 1) c11'] 2
        have p13 := pre_new h11 [.int .i64 (ka.1 + pr.getD i 0), .slice (some ⟨(newArr h9 [Value.int .i64 (m.steps.getD i dst).inp] 1).length, 0, none⟩) ((ka.2.map (Value.int .i64)).length + 1) c11'] 2
        generalize hsv : (Value.slice (some ⟨(newArr h9 [Value.int .i64 (m.steps.getD i dst).inp] 1).length, 0, none⟩) ((ka.2.map (Value.int .i64)).length + 1) c11') = sv at ls12 fz13 p13 ⊢
        obtain ⟨so, sl, sc, esv⟩ : ∃ so sl sc, sv = .slice so sl sc := ⟨_, _, _, hsv.symm⟩
        subst esv
        clear hsv
        generalize hpi13 : h11.length = pi at fz13 ⊢
        generalize newArr h11 [.int .i64 (ka.1 + pr.getD i 0), .slice so sl sc] 2 = h13 at fz13 p13 ⊢
        have T13 : FrzT N11 h11 (upN N11 1 none) h13 := (FrzT.ext p13).trans (FrzT.fewer 1)
        have fsv := ((LS.freezei ow11 ls12 rfl (by have : (ka.2 ++ [(m.steps.getD i dst).inp]).length = ka.2.length + 1 := by simp
                                                   omega)).ext p13)
        have way13 : WayC (Frz (upN N11 1 none) h13) (.pointer (some ⟨pi, 0, none⟩)) (kStep m pr ka i) := ⟨pi, so, sl, sc, rfl, (fz13.fewer 1).and fsv⟩
        have bt13 := bt11.move ((ow11.ext p13).forget 1 []) (by rw [upN_ne (by omega)]; exact n11) (by rw [upN_ne (by omega)]; exact c11) T13
        have fy13 := T13 _ fy11
        generalize upN N11 1 none = N13 at way13 bt13 fy13
        generalize upN C11 1 [] = C13 at bt13
        have hy13 : h13[yi]? = some (.arr ⟨[.int .i64 (m.steps.getD i dst).fr, .int .i64 (m.steps.getD i dst).inp, .int .i64 (m.steps.getD i dst).out, .int .i64 (m.steps.getD i dst).to], 4, false⟩) := fy13.self
        have sg13 := bt13.seg hSn
        obtain ⟨pi', so', sl', sc', ep', fown⟩ := way13
        cases ep'
        obtain ⟨hown, hownw⟩ := fown.self
        have hownl : pi < h13.length := (List.getElem?_eq_some_iff.mp hown).1
        with_reducible (refine ⟨trivial, ?_⟩; refine mv_i ?_; refine vk_i (fa63_3 _) ?_; refine ld4_3 r3 (by assumption) ?_; refine ⟨vbi _ _, ?_⟩)
        refine idxz t108 sg13 hst.2.2.1 (by omega) ?_
        refine ld_gd (i := 0) t108 r109 sg13 htn ?_
        cases hBt : B' (m.steps.getD i dst).to.toNat with
        | none =>
          rw [bt13.no _ htn hBt]
          refine ⟨trivial, ?_⟩
          refine eqlptr ?_
          show mvK (.bool true) _ _
          have hbet : ∀ c, B' (m.steps.getD i dst).to.toNat = some c → kLt (kStep m pr ka i) c := fun c hc => by rw [hBt] at hc; cases hc
          with_reducible (refine mv_i ?_; refine gd_tf ?_; refine gd_tf ?_; refine gd_tf ?_; refine gd_tf ?_; refine gd_tf ?_; refine gd_tf ?_; refine gd_tf ?_; refine gd_tf ?_; refine gd_tf ?_; refine pick_t ?_; refine cnd_t ?_; refine mv_i ?_; refine vk_i (fa63_3 _) ?_; refine ld4_3 r3 (by assumption) ?_)
          refine idxz t108 sg13 hst.2.2.1 (by omega) ?_
          rw [elt_at1]
          refine stl s109 bt13.own bt13.n0 (by rw [bt13.c0, bt13.bl]; omega) rfl rfl fun o15 => ?_
          rw [bt13.c0, show oneE 0 = 1 from rfl] at o15 ⊢
          have bt15 := bt13.put htn ⟨pi, so', sl', sc', rfl, fown⟩ o15
          obtain ⟨tab2, hrk⟩ := tab.put hpo r hil hB hbet
          with_reducible (refine mv_i ?_)
          refine hk' _ _ ⟨_, rfl, N13, _, _, _, true, rfl, bt15, tab2, fun hc => (by cases hc), fun _ => ?_⟩
          cases again with
          | true => have := ht rfl; omega
          | false => obtain ⟨e, _⟩ := hf rfl; rw [← e]; exact hrk
        | some kc =>
          obtain ⟨ci, co, cl, cc, eptr2, fc⟩ := bt13.yes _ htn kc hBt
          obtain ⟨hcc, hcw⟩ := fc.self
          have clt : ci < h13.length := (List.getElem?_eq_some_iff.mp hcc).1
          rw [eptr2]
          refine ⟨clt, ?_⟩
          refine eqlptr ?_
          show mvK (.bool false) _ _
          with_reducible (refine mv_i ?_; refine gd_ff ?_)
          refine vk_i (ld111 hown) ?_
          refine ⟨vb_two hownw, ?_⟩
          with_reducible (refine gd_ff ?_; refine mv_i ?_; refine gd_ff ?_; refine vk_i (fa63_3 _) ?_; refine gd_ff ?_; refine ld4_3 r3 (by assumption) ?_; refine ⟨vbi _ _, ?_⟩; refine gd_ff ?_)
          refine idxz t108 sg13 hst.2.2.1 (by omega) ?_
          with_reducible (refine gd_ff ?_)
          refine ld_gd (i := 0) t108 r109 sg13 htn ?_
          rw [eptr2]
          refine ⟨clt, ?_⟩
          with_reducible (refine gd_ff ?_; refine nil_i ?_; refine gd_ff ?_)
          refine vk_i (ld111 hcc) ?_
          refine ⟨vb_two hcw, ?_⟩
          with_reducible (refine gd_ff ?_)
          refine calld_r (c72 hownw hcw) ⟨⟨[], by simp⟩, ?_⟩
          by_cases hlt3 : kLt (kStep m pr ka i) kc
          · rw [decide_eq_true hlt3]
            have hbet : ∀ c, B' (m.steps.getD i dst).to.toNat = some c → kLt (kStep m pr ka i) c := fun c hc => by rw [hBt] at hc; cases hc; exact hlt3
            with_reducible (refine pick_f ?_; refine cnd_t ?_; refine mv_i ?_; refine vk_i (fa63_3 _) ?_; refine ld4_3 r3 (by assumption) ?_)
            refine idxz t108 sg13 hst.2.2.1 (by omega) ?_
            rw [elt_at1]
            refine stl s109 bt13.own bt13.n0 (by rw [bt13.c0, bt13.bl]; omega) rfl rfl fun o15 => ?_
            rw [bt13.c0, show oneE 0 = 1 from rfl] at o15 ⊢
            have bt15 := bt13.put htn ⟨pi, so', sl', sc', rfl, fown⟩ o15
            obtain ⟨tab2, hrk⟩ := tab.put hpo r hil hB hbet
            with_reducible (refine mv_i ?_)
            refine hk' _ _ ⟨_, rfl, N13, _, _, _, true, rfl, bt15, tab2, fun hc => (by cases hc), fun _ => ?_⟩
            cases again with
            | true => have := ht rfl; omega
            | false => obtain ⟨e, _⟩ := hf rfl; rw [← e]; exact hrk
          · rw [decide_eq_false hlt3]
            with_reducible (refine pick_f ?_; refine cnd_f ?_)
            refine hk' _ _ ⟨_, rfl, N13, C13, bc, B', again, rfl, bt13, tab, fun hc => ?_, ht⟩
            obtain ⟨e, hcl⟩ := hf hc
            refine ⟨e, fun j hj => ?_⟩
            by_cases q : j = i
            · subst q
              intro a ha
              rw [← e, hB] at ha
              cases ha
              exact ⟨kc, by rw [← e]; exact hBt, hlt3⟩
            · exact hcl j (by omega)
    · have ei : i = m.steps.length := by omega
      subst ei
      with_reducible (refine cnd_f ?_)
      cases again with
      | true =>
        exact nxt (n' := rkA m B' true) hr (by have := ht rfl; unfold rkA; omega) ⟨N, C, bc, B', true, rfl, bt, tab, fun hc => (by cases hc), rfl⟩
      | false =>
        obtain ⟨e, hcl⟩ := hf rfl
        subst e
        exact nxt (n' := rkA m B' false) hr (by simp [rkA]) ⟨N, C, bc, B', false, rfl, bt, tab, fun _ => hcl, rfl⟩
  | false =>
    have best := tabO.best (hclO rfl)
    have sgb := btO.seg hSn
    have hS : m.states = ((m.states.toNat : Nat) : Int) := (Int.toNat_of_nonneg (by omega)).symm
    have pbase := p1.trans (p2.trans btO.own.pre)
    have hno := btO.no
    have hyes : ∀ s, s < m.states.toNat → ∀ a, B s = some a → ∃ i o l c, bc.getD s undef = .pointer (some ⟨i, 0, none⟩) ∧ h6[i]? = some (.arr ⟨[.int .i64 a.1, .slice o l c], 2, false⟩) ∧ IntS h6 (.slice o l c) a.2 := by
      intro s hs a ha
      obtain ⟨i, o, l, c, e1, f1⟩ := btO.yes s hs a ha
      exact ⟨i, o, l, c, e1, f1.self⟩
    clear btO hr
    with_reducible (refine cnd_f ?_; refine vk_i (fa36_0 _) ?_; refine ld5_0 r3 (by assumption) ?_; refine ⟨vbi _ _, ?_⟩)
    refine mk1_i (n := m.states) t22 z25 (by omega) ⟨by omega, by omega⟩ ?_
    have o1 := (Owns.start (fun _ => []) oneE (List.prefix_refl h6)).add 2 (List.replicate m.states.toNat (.slice none 0 0)) 1 rfl
    generalize hwi2 : h6.length = wi2 at o1 ⊢
    generalize newArr h6 (List.replicate m.states.toNat (.slice none 0 0)) 1 = h7 at o1 ⊢
    skip
    refine ok_i (bs23_1 _ _) ?_
    have o2 := o1.ext (pre_new h7 [.int .i64 (-1)] 1)
    have sx2 : IntS (newArr h7 [.int .i64 (-1)] 1) (.slice (some ⟨h7.length, 0, none⟩) 1 2) [-1] := Seg.new 2 (by rfl) (by simp)
    generalize newArr h7 [.int .i64 (-1)] 1 = h8 at o2 sx2 ⊢
    have hb8 := o2.sub.2 _ _ hb6
    with_reducible (refine vk_i (fa36_0 _) ?_; refine ld5_0 r3 (by assumption) ?_; refine ⟨vbi _ _, ?_⟩)
    rw [hS]
    refine calld_r (c73 sx2 (by omega) (by omega)) ⟨(pre_new h8 _ 1).imp fun t ht => ht.symm, ?_⟩
    have o3 := o2.add 3 (List.replicate m.states.toNat (.int .i64 (-1))) 1 rfl
    have n2 : upN (upN (fun _ => none) 2 (some wi2)) 3 (some h8.length) 2 = some wi2 := by rw [upN_ne (by omega), upN_self]
    have n3 : upN (upN (fun _ => none) 2 (some wi2)) 3 (some h8.length) 3 = some h8.length := upN_self _ _ _
    have c2 : upN (upN (fun _ => []) 2 (List.replicate m.states.toNat (Value.slice none 0 0))) 3 (List.replicate m.states.toNat (Value.int .i64 (-1))) 2 = List.replicate m.states.toNat (.slice none 0 0) := by rw [upN_ne (by omega), upN_self]
    have c3 : upN (upN (fun _ => []) 2 (List.replicate m.states.toNat (Value.slice none 0 0))) 3 (List.replicate m.states.toNat (Value.int .i64 (-1))) 3 = List.replicate m.states.toNat (.int .i64 (-1)) := upN_self _ _ _
    generalize upN (upN (fun _ => []) 2 (List.replicate m.states.toNat (Value.slice none 0 0))) 3 (List.replicate m.states.toNat (Value.int .i64 (-1))) = C3 at o3 c2 c3
    generalize hci : h8.length = ci at o3 n2 n3 ⊢
    generalize upN (upN (fun _ => none) 2 (some wi2)) 3 (some ci) = N3 at o3 n2 n3
    generalize newArr h8 (List.replicate m.states.toNat (.int .i64 (-1))) 1 = h9 at o3 ⊢
    with_reducible (refine mv_i ?_; refine mv_i ?_; refine mv_i ?_)
    refine len_i t108 sgb ?_
    with_reducible (refine mv_i ?_)
    refine loop1 m.states.toNat (fun k h2 => ∃ C rs, Owns h6 h2 N3 C oneE ∧ C 2 = rs ∧ rs.length = m.states.toNat ∧ (∀ s, s < m.states.toNat → IntS h6 (rs.getD s undef) (if s < k then (match B s with | some a => a.2 | none => []) else [])) ∧
        C 3 = ((List.range m.states.toNat).map fun s => if s < k then (match B s with | some a => a.1 | none => -1) else (-1 : Int)).map (.int .i64)) ⟨C3, _, o3, c2, by simp, fun s hs => ?_, ?_⟩ ?_
    · rw [if_neg (by omega)]
      simp only [List.getD, List.getElem?_replicate]; rw [if_pos hs]; exact Seg.nil _ _
    · rw [c3]
      refine List.ext_getElem (by simp) fun j h1 h2 => by simp
    rintro k h10 _ hk ⟨C, rs, ow, cc2, rl, hrs, cc3⟩
    have sgb10 := sgb.mono ow.sub
    skip
    refine lss_i (fun hlt => ?_) (fun hge => ?_)
    · have hkS : k < m.states.toNat := by omega
      refine cnd_t ?_
      refine seq_J (fun xs h11 => ∃ C rs, Owns h6 h11 N3 C oneE ∧ C 2 = rs ∧ rs.length = m.states.toNat ∧ (∀ s, s < m.states.toNat → IntS h6 (rs.getD s undef) (if s < k + 1 then (match B s with | some a => a.2 | none => []) else [])) ∧
        C 3 = ((List.range m.states.toNat).map fun s => if s < k + 1 then (match B s with | some a => a.1 | none => -1) else (-1 : Int)).map (.int .i64)) ?_ ?_
      · rintro _ h11 hv _
        show vK _ h11 _
        refine inc_i (by omega) ?_
        with_reducible (refine mv_i ?_)
        exact next1 hkS hv
      intro k' hk'
      with_reducible (refine mv_i ?_)
      refine idx_i (k := k) t108 sgb10 hkS ?_
      refine ld_gd (i := 0) t108 r109 sgb10 hkS ?_
      cases hB : B k with
      | none =>
        rw [hno k hkS hB]
        with_reducible (refine mv_i ?_; refine mv_i ?_; refine mv_i ?_)
        refine neqptr ?_
        show cnd (.bool false) _ _
        refine cnd_f ?_
        refine hk' _ _ ⟨C, rs, ow, cc2, rl, fun s hs => ?_, ?_⟩
        · have := hrs s hs
          by_cases q : s = k
          · subst q
            rw [if_neg (by omega)] at this
            rw [if_pos (by omega), hB]; exact this
          · by_cases q2 : s < k
            · rw [if_pos q2] at this; rw [if_pos (by omega)]; exact this
            · rw [if_neg q2] at this; rw [if_neg (by omega)]; exact this
        · rw [cc3]
          congr 1
          refine List.map_congr_left fun s _ => ?_
          by_cases q : s = k
          · subst q; rw [if_neg (by omega), if_pos (by omega), hB]
          · by_cases q2 : s < k
            · rw [if_pos q2, if_pos (by omega)]
            · rw [if_neg q2, if_neg (by omega)]
      | some a =>
        obtain ⟨wi3, wo, wl, wc, eptr, hw6, hws⟩ := hyes k hkS a hB
        rw [eptr]
        with_reducible (refine mv_i ?_; refine mv_i ?_; refine mv_i ?_)
        refine neqptr ?_
        show cnd (.bool true) _ _
        have hw10 := ow.sub.2 _ _ hw6
        have hws10 := hws.mono ow.sub
        with_reducible (refine cnd_t ?_; refine mv_i ?_; refine mv_i ?_; refine mv_i ?_; refine mv_i ?_; refine mv_i ?_; refine nil_i ?_; refine vk_i (fa111_1 _) ?_; refine ld2_1 r23 (by assumption) ?_; refine ⟨VB_of_ints (by assumption), ?_⟩; refine mv_i ?_; refine nil_i ?_; refine vk_i (fa111_0 _) ?_; refine ld2_0 r3 (by assumption) ?_; refine ⟨vbi _ _, ?_⟩)
        have sg2 : Seg 1 h10 (.slice (some ⟨wi2, 0, none⟩) m.states.toNat (m.states.toNat + 1)) m.states.toNat rs := by
          have := ow.seg n2 (k := m.states.toNat) (c := m.states.toNat + 1) (sz := 1) rfl (by rw [cc2, rl]; omega) (by omega)
          rw [cc2] at this
          exact this
        refine idx_i (k := k) t22 sg2 hkS ?_
        rw [elt_at1]
        refine stl s25 ow n2 (by rw [cc2, rl]; exact hkS) rfl rfl fun ow2 => ?_
        rw [cc2, show oneE 2 = 1 from rfl] at ow2 ⊢
        have cc32 : upN C 2 (rs.set k (.slice wo wl wc)) 3 = C 3 := upN_ne (by omega)
        have cc22 : upN C 2 (rs.set k (.slice wo wl wc)) 2 = rs.set k (.slice wo wl wc) := upN_self _ _ _
        generalize upN C 2 (rs.set k (.slice wo wl wc)) = C' at ow2 cc32 cc22
        generalize h10.set wi2 (.arr ⟨rs.set k (.slice wo wl wc), 1, false⟩) = h11 at ow2 ⊢
        have sg3 : Seg 1 h11 (.slice (some ⟨ci, 0, none⟩) m.states.toNat (m.states.toNat + 1)) m.states.toNat (C' 3) := ow2.seg n3 (k := m.states.toNat) (c := m.states.toNat + 1) (sz := 1) rfl (by rw [cc32, cc3]; simp) (by omega)
        with_reducible (refine ⟨trivial, ?_⟩)
        refine idx_i (k := k) t23 sg3 hkS ?_
        rw [elt_at1]
        refine stl s3 ow2 n3 (by rw [cc32, cc3]; simp; omega) rfl rfl fun ow3 => ?_
        with_reducible (refine ⟨trivial, ?_⟩)
        refine hk' _ _ ⟨_, rs.set k (.slice wo wl wc), ow3, by rw [upN_ne (by omega)]; exact cc22, by simpa using rl, fun s hs => ?_, ?_⟩
        · have := hrs s hs
          by_cases q : s = k
          · subst q
            rw [if_pos (by omega), hB, gd_set (by omega)]; exact hws
          · rw [gd_set_ne q]
            by_cases q2 : s < k
            · rw [if_pos q2] at this; rw [if_pos (by omega)]; exact this
            · rw [if_neg q2] at this; rw [if_neg (by omega)]; exact this
        · rw [upN_self, cc32, cc3, set_map]
          congr 1
          refine List.ext_getElem (by simp) fun j h1 h2 => ?_
          rw [List.getElem_set]
          simp only [List.getElem_map, List.getElem_range]
          by_cases q : k = j
          · subst q; rw [if_pos rfl, if_pos (by omega), hB]
          · rw [if_neg q]
            by_cases q2 : j < k
            · rw [if_pos q2, if_pos (by omega)]
            · rw [if_neg q2, if_neg (by omega)]
    · have ek : k = m.states.toNat := by omega
      with_reducible (refine cnd_f ?_; refine mv_i ?_; refine mv_i ?_; refine mv_i ?_; refine mv_i ?_; refine mv_i ?_; refine ret3 ?_)
      refine ⟨pbase.trans ow.pre, ?_⟩
      rw [if_neg (by simp)]
      refine ⟨B, _, _, best, rfl, ?_, ?_⟩
      · have sg2 : Seg 1 h10 (.slice (some ⟨wi2, 0, none⟩) m.states.toNat (m.states.toNat + 1)) m.states.toNat rs := by
          have := ow.seg n2 (k := m.states.toNat) (c := m.states.toNat + 1) (sz := 1) rfl (by rw [cc2, rl]; omega) (by omega)
          rw [cc2] at this
          exact this
        refine rows_of sg2 (by simp [wordsB]) fun j hj => ⟨rs.getD j undef, by rw [List.getD_eq_getElem?_getD, List.getElem?_eq_getElem (by omega)]; rfl, ?_⟩
        have := (hrs j hj).mono ow.sub
        rw [if_pos (by omega)] at this
        have e : (wordsB m B).getD j [] = match B j with | some a => a.2 | none => [] := by
          rw [gd_at [] (by simp [wordsB]; omega)]
          simp only [wordsB, List.getElem_map, List.getElem_range]
          all_goals (cases B j <;> rfl)
        rw [e]; exact this
      · have e : C 3 = (costsB m B).map (.int .i64) := by
          rw [cc3]
          congr 1
          refine List.map_congr_left fun s hs => ?_
          rw [if_pos (by rw [ek]; exact List.mem_range.mp hs)]
          all_goals (cases B s <;> rfl)
        have sg3 : Seg 1 h10 (.slice (some ⟨ci, 0, none⟩) m.states.toNat (m.states.toNat + 1)) m.states.toNat (C 3) := ow.seg n3 (k := m.states.toNat) (c := m.states.toNat + 1) (sz := 1) rfl (by rw [e]; simp [costsB]) (by omega)
        rw [e] at sg3
        unfold IntS
        rw [show (costsB m B).length = m.states.toNat by simp [costsB]]
        exact sg3
end Go.Proofs.Ytdjoednhfoligaa

set_option linter.unusedSimpArgs false
set_option linter.unusedVariables false
set_option maxRecDepth 100000
namespace Go.Proofs.Ytdjoednhfoligaa
open Go.AM
variable {h h' h0 h1 h2 : Heap} {K : Value → Heap → Prop} {m : Mac}
variable {N N' N1 : Nat → Option Nat} {C C' : Nat → List Value} {E : Nat → Nat}
def wd : Option Key → List Int | some a => a.2 | none => []
def cst : Option Key → Int | some a => a.1 | none => -1
def costL (m : Mac) (B : Nat → Option Key) : List Int := (List.range m.states.toNat).map fun s => cst (B s)
theorem costL_eq (B : Nat → Option Key) : costL m B = costsB m B := by
  unfold costL costsB
  refine List.map_congr_left fun s _ => ?_
  cases B s <;> rfl
theorem costL_len (B : Nat → Option Key) : (costL m B).length = m.states.toNat := by simp [costL]
theorem costL_at (B : Nat → Option Key) {s : Nat} (hs : s < m.states.toNat) : (costL m B).getD s 0 = cst (B s) := by simp [costL, hs]
theorem costL_set (B : Nat → Option Key) {t : Nat} (a : Key) : (costL m B).set t a.1 = costL m (upB B t a) := by
  refine List.ext_getElem (by simp [costL]) fun j h1 h2 => ?_
  rw [List.getElem_set]
  simp only [costL, List.getElem_map, List.getElem_range, upB]
  by_cases q : t = j
  · subst q; rw [if_pos rfl, if_pos rfl]; rfl
  · rw [if_neg q, if_neg (fun e => q e.symm)]
theorem cst_none {pr : List Int} {B : Nat → Option Key} (hp : prOK pr) (t : Tab m pr B) (s : Nat) : cst (B s) = -1 ↔ B s = none := by
  cases h : B s with
  | none => simp [cst]
  | some a =>
    have := ((t.real s a h).2.1).price hp
    simp only [cst]
    constructor
    · intro e; omega
    · intro e; cases e
/-- The tables of the reference: prices, words, which are final. -/
structure DT (m : Mac) (ci wi fi : Nat) (h0 h : Heap) (N : Nat → Option Nat) (C : Nat → List Value) (rs : List Value) (B : Nat → Option Key) (fs : List Bool) : Prop where
  own : Owns h0 h N C oneE
  n0 : N 0 = some ci
  n2 : N 2 = some wi
  n3 : N 3 = some fi
  c0 : C 0 = (costL m B).map (.int .i64)
  c2 : C 2 = rs
  c3 : C 3 = fs.map .bool
  rl : rs.length = m.states.toNat
  fl : fs.length = m.states.toNat
  row : ∀ s, s < m.states.toNat → Frz N h fun g => IntS g (rs.getD s undef) (wd (B s))
variable {ci wi fi : Nat} {rs : List Value} {B : Nat → Option Key} {fs : List Bool}
theorem DT.move (d : DT m ci wi fi h0 h N C rs B fs) (o : Owns h0 h' N' C' oneE) (e0 : N' 0 = N 0) (e2 : N' 2 = N 2) (e3 : N' 3 = N 3) (f0 : C' 0 = C 0) (f2 : C' 2 = C 2) (f3 : C' 3 = C 3) (T : FrzT N h N' h') : DT m ci wi fi h0 h' N' C' rs B fs :=
  ⟨o, e0.trans d.n0, e2.trans d.n2, e3.trans d.n3, f0.trans d.c0, f2.trans d.c2, f3.trans d.c3, d.rl, d.fl, fun s hs => T _ (d.row s hs)⟩
theorem DT.costs (d : DT m ci wi fi h0 h N C rs B fs) (hS : m.states.toNat ≤ 40) : IntS h (.slice (some ⟨ci, 0, none⟩) m.states.toNat (m.states.toNat + 1)) (costL m B) := by
  have := d.own.seg d.n0 (k := m.states.toNat) (c := m.states.toNat + 1) (sz := 1) rfl (by rw [d.c0, List.length_map, costL_len]; omega) (by omega)
  rw [d.c0] at this
  unfold IntS; rw [costL_len]; exact this
theorem DT.fin (d : DT m ci wi fi h0 h N C rs B fs) (hS : m.states.toNat ≤ 40) : BoolS h (.slice (some ⟨fi, 0, none⟩) m.states.toNat (m.states.toNat + 1)) fs := by
  have := d.own.seg d.n3 (k := m.states.toNat) (c := m.states.toNat + 1) (sz := 1) rfl (by rw [d.c3, List.length_map, d.fl]; omega) (by omega)
  rw [d.c3] at this
  unfold BoolS; rw [d.fl]; exact this
theorem DT.words (d : DT m ci wi fi h0 h N C rs B fs) (hS : m.states.toNat ≤ 40) : Seg 1 h (.slice (some ⟨wi, 0, none⟩) m.states.toNat (m.states.toNat + 1)) m.states.toNat rs := by
  have := d.own.seg d.n2 (k := m.states.toNat) (c := m.states.toNat + 1) (sz := 1) rfl (by rw [d.c2, d.rl]; omega) (by omega)
  rw [d.c2] at this
  exact this
/-! ### one more state final -/
structure Relax (m : Mac) (pr : List Int) (fs : List Bool) (t0 : Nat) (a : Key) (k : Nat) (B : Nat → Option Key) : Prop where
  tab : Tab m pr B
  at0 : B t0 = some a
  low : ∀ u, fs.getD u false = true → ∃ c, B u = some c ∧ kLe c a
  high : ∀ v c, B v = some c → fs.getD v false = false → kLe a c
  cl : ∀ j, j < m.steps.length → fs.getD (m.steps.getD j dst).fr.toNat false = true → ((m.steps.getD j dst).fr.toNat = t0 → j < k) → clAt m pr B j
theorem Relax.skip {pr : List Int} {t0 k : Nat} {a : Key} (x : Relax m pr fs t0 a k B) (hc : (m.steps.getD k dst).fr.toNat = t0 → clAt m pr B k) : Relax m pr fs t0 a (k + 1) B :=
  ⟨x.tab, x.at0, x.low, x.high, fun j hj hf ht => by
    by_cases q : j = k
    · subst q
      by_cases q2 : (m.steps.getD j dst).fr.toNat = t0
      · exact hc q2
      · exact x.cl j hj hf fun e => absurd e q2
    · exact x.cl j hj hf fun e => by have := ht e; omega⟩
theorem Relax.put {pr : List Int} (hp : prOK pr) (r : Right m) {t0 k : Nat} {a : Key} (x : Relax m pr fs t0 a k B) (hk : k < m.steps.length) (hf0 : fs.getD t0 false = true) (hfr : (m.steps.getD k dst).fr.toNat = t0)
    (hb : ∀ c, B (m.steps.getD k dst).to.toNat = some c → kLt (kStep m pr a k) c) : Relax m pr fs t0 a (k + 1) (upB B (m.steps.getD k dst).to.toNat (kStep m pr a k)) := by
  have hlt := kStep_lt (m := m) hp a k
  have hB : B (m.steps.getD k dst).fr.toNat = some a := by rw [hfr]; exact x.at0
  obtain ⟨tab, _⟩ := x.tab.put hp r hk hB hb
  have hnf : ∀ u, fs.getD u false = true → u ≠ (m.steps.getD k dst).to.toNat := by
    rintro u hu rfl
    obtain ⟨c, hc, hl⟩ := x.low _ hu
    exact kLt_irrefl _ (kLt_trans (hb c hc) (kLt_of_le hl hlt))
  refine ⟨tab, ?_, fun u hu => ?_, fun v c hc hv => ?_, fun j hj hf ht => ?_⟩
  · unfold upB; rw [if_neg (hnf t0 hf0)]; exact x.at0
  · unfold upB; rw [if_neg (hnf u hu)]; exact x.low u hu
  · unfold upB at hc
    split at hc
    · cases hc; exact hlt.le
    · exact x.high v c hc hv
  · intro c hc
    unfold upB at hc
    rw [if_neg (hnf _ hf)] at hc
    by_cases q : j = k
    · subst q
      rw [hB] at hc
      cases hc
      exact ⟨_, by unfold upB; rw [if_pos rfl], kLe_refl _⟩
    · obtain ⟨d, hd, hl⟩ := x.cl j hj hf (fun e => by have := ht e; omega) c hc
      unfold upB
      by_cases q2 : (m.steps.getD j dst).to.toNat = (m.steps.getD k dst).to.toNat
      · rw [if_pos q2]
        refine ⟨_, rfl, kLe_trans (hb d ?_).le hl⟩
        rw [← q2]; exact hd
      · rw [if_neg q2]; exact ⟨d, hd, hl⟩
structure Dij (m : Mac) (pr : List Int) (n : Nat) (fs : List Bool) (B : Nat → Option Key) : Prop where
  tab : Tab m pr B
  cnt : countT fs = n
  fin : ∀ u, fs.getD u false = true → ∃ c, B u = some c ∧ ∀ v d, B v = some d → fs.getD v false = false → kLe c d
  cl : ∀ j, j < m.steps.length → fs.getD (m.steps.getD j dst).fr.toNat false = true → clAt m pr B j
theorem Dij.relax {pr : List Int} {n t0 : Nat} {a : Key} (d : Dij m pr n fs B) (ht : t0 < fs.length) (hf : fs.getD t0 false = false) (ha : B t0 = some a) (hmin : ∀ t c, B t = some c → fs.getD t false = false → kLe a c) :
    Relax m pr (fs.set t0 true) t0 a 0 B := by
  have hg := set_getB ht
  refine ⟨d.tab, ha, fun u hu => ?_, fun v c hc hv => ?_, fun j hj hfj h0 => ?_⟩
  · rw [hg] at hu
    by_cases q : u = t0
    · subst q; exact ⟨a, ha, kLe_refl a⟩
    · rw [decide_eq_false q] at hu
      obtain ⟨c, hc, hl⟩ := d.fin u hu
      exact ⟨c, hc, hl t0 a ha hf⟩
  · rw [hg] at hv
    by_cases q : v = t0
    · subst q; simp at hv
    · rw [decide_eq_false q] at hv
      exact hmin v c hc hv
  · rw [hg] at hfj
    by_cases q : (m.steps.getD j dst).fr.toNat = t0
    · have := h0 q; omega
    · rw [decide_eq_false q] at hfj
      exact d.cl j hj hfj
theorem Relax.dij {pr : List Int} {n t0 : Nat} {a : Key} (x : Relax m pr (fs.set t0 true) t0 a m.steps.length B) (ht : t0 < fs.length) (hf : fs.getD t0 false = false) (hn : countT fs = n) : Dij m pr (n + 1) (fs.set t0 true) B :=
  ⟨x.tab, by rw [countT_set ht hf, hn], fun u hu => by
    obtain ⟨c, hc, hl⟩ := x.low u hu
    exact ⟨c, hc, fun v d hd hv => kLe_trans hl (x.high v d hd hv)⟩, fun j hj hfj => x.cl j hj hfj fun _ => hj⟩
theorem Dij.best {pr : List Int} {n : Nat} (d : Dij m pr n fs B) (hall : ∀ s a, B s = some a → fs.getD s false = true) : Best m pr B :=
  d.tab.best fun k hk a ha => d.cl k hk (hall _ a ha) a ha
theorem countT_full {bs : List Bool} (h : countT bs = bs.length) {s : Nat} (hs : s < bs.length) : bs.getD s false = true := by
  cases hc : bs.getD s false with
  | true => rfl
  | false =>
    have := countT_set hs hc
    have h2 := countT_le (bs.set s true)
    rw [List.length_set] at h2
    omega
end Go.Proofs.Ytdjoednhfoligaa

set_option linter.unusedSimpArgs false
set_option linter.unusedVariables false
set_option maxRecDepth 100000
namespace Go.Proofs.Ytdjoednhfoligaa
open Go.AM
variable {h h' h0 h1 h2 : Heap} {K : Value → Heap → Prop} {m : Mac}
variable {N N' N1 : Nat → Option Nat} {C C' : Nat → List Value} {E : Nat → Nat}
variable {ci wi fi : Nat} {rs : List Value} {B : Nat → Option Key} {fs : List Bool}
/-- Is a state one to be looked at? -/
def cand (B : Nat → Option Key) (fs : List Bool) (t : Nat) (a : Key) : Prop := B t = some a ∧ fs.getD t false = false
/-- The least one so far. -/
def Pick (m : Mac) (B : Nat → Option Key) (fs : List Bool) (s : Nat) (v : Value) : Prop :=
  (v = .int .i64 (-1) ∧ ∀ t a, t < s → ¬ cand B fs t a) ∨ ∃ t0 a0, v = .int .i64 ((t0 : Nat) : Int) ∧ t0 < m.states.toNat ∧ cand B fs t0 a0 ∧ ∀ t a, t < s → cand B fs t a → kLe a0 a
set_option maxHeartbeats 4000000 in
theorem c35 {a b : Value} {pr : List Int} (s : MacV h a m) (r : Right m) (sp : IntS h b pr) (he : prErr m pr = 0) :
    DetP Try.prog 35 [a, b] h fun v h' => h <+: h' ∧ ∃ B x y, Best m pr B ∧ v = .tuple #[x, y] ∧ RowsS h' x (wordsB m B) ∧ IntS h' y (costsB m B) := by
  obtain ⟨hpl, hpo⟩ := prOK_of he
  obtain ⟨b1, b2, b3, b4, b5, b6⟩ := r.bounds
  have hfew := r.few
  have hsl : m.steps.length ≤ 320 := by
    have : m.states * m.inputs ≤ 40 * 8 := Int.mul_le_mul b2 b4 (by omega) (by omega)
    omega
  have hSn : m.states.toNat ≤ 40 := by omega
  have hS : m.states = ((m.states.toNat : Nat) : Int) := (Int.toNat_of_nonneg (by omega)).symm
  have hsn : m.start.toNat < m.states.toNat := by omega
  refine w35 ?_
  unfold n35
  obtain ⟨o, l, c, rfl, ss0⟩ := s
  rw [box36]
  refine ok_i rfl ?_
  have p1 := pre_new h [.int .i64 m.states, .int .i64 m.inputs, .int .i64 m.outputs, .int .i64 m.start, .slice o l c] 5
  have hb1 := newArr_get h [.int .i64 m.states, .int .i64 m.inputs, .int .i64 m.outputs, .int .i64 m.start, .slice o l c] 5
  have ss := ss0.mono (Sub.of_pre p1)
  generalize hg1 : newArr h [.int .i64 m.states, .int .i64 m.inputs, .int .i64 m.outputs, .int .i64 m.start, .slice o l c] 5 = g1 at p1 hb1 ss ⊢
  have sp1 := sp.mono (Sub.of_pre p1)
  with_reducible (refine mv_i ?_; refine mv_i ?_; refine vk_i (fa36_0 _) ?_; refine ld5_0 r3 (by assumption) ?_; refine ⟨vbi _ _, ?_⟩)
  refine mk1_i (n := m.states) t22 z25 (by omega) ⟨by omega, by omega⟩ ?_
  have o0 := (Owns.start (fun _ => []) oneE (List.prefix_refl g1)).add 2 (List.replicate m.states.toNat (.slice none 0 0)) 1 rfl
  generalize hwi : g1.length = wi at o0 ⊢
  generalize newArr g1 (List.replicate m.states.toNat (.slice none 0 0)) 1 = h2 at o0 ⊢
  have hb2 := o0.sub.2 _ _ hb1
  with_reducible (refine vk_i (fa36_0 _) ?_; refine ld5_0 r3 (by assumption) ?_; refine ⟨vbi _ _, ?_⟩)
  refine mk1_i (n := m.states) t23 z3 (by omega) ⟨by omega, by omega⟩ ?_
  rw [rep_map]
  have o1 := o0.add 0 ((List.replicate m.states.toNat (0 : Int)).map (.int .i64)) 1 rfl
  generalize hci : h2.length = ci at o1 ⊢
  generalize newArr h2 ((List.replicate m.states.toNat (0 : Int)).map (.int .i64)) 1 = h3 at o1 ⊢
  have hb3 := o1.sub.2 _ _ hb1
  with_reducible (refine mv_i ?_; refine mv_i ?_; refine vk_i (fa36_0 _) ?_; refine ld5_0 r3 (by assumption) ?_)
  refine mk1_i (n := m.states) t48 z4 (by omega) ⟨by omega, by omega⟩ ?_
  have ez : List.replicate m.states.toNat (Value.bool false) = (List.replicate m.states.toNat false).map .bool := by simp
  rw [ez]
  have o2 := o1.add 3 ((List.replicate m.states.toNat false).map .bool) 1 rfl
  generalize hfi : h3.length = fi at o2 ⊢
  generalize newArr h3 ((List.replicate m.states.toNat false).map .bool) 1 = h4 at o2 ⊢
  have n0 : upN (upN (upN (fun _ => none) 2 (some wi)) 0 (some ci)) 3 (some fi) 0 = some ci := by rw [upN_ne (by omega), upN_self]
  have n2 : upN (upN (upN (fun _ => none) 2 (some wi)) 0 (some ci)) 3 (some fi) 2 = some wi := by rw [upN_ne (by omega), upN_ne (by omega), upN_self]
  have n3 : upN (upN (upN (fun _ => none) 2 (some wi)) 0 (some ci)) 3 (some fi) 3 = some fi := upN_self _ _ _
  have c0 : upN (upN (upN (fun _ => []) 2 (List.replicate m.states.toNat (Value.slice none 0 0))) 0 ((List.replicate m.states.toNat (0 : Int)).map (Value.int .i64))) 3 ((List.replicate m.states.toNat false).map Value.bool) 0 = (List.replicate m.states.toNat (0 : Int)).map (.int .i64) := by rw [upN_ne (by omega), upN_self]
  have c2 : upN (upN (upN (fun _ => []) 2 (List.replicate m.states.toNat (Value.slice none 0 0))) 0 ((List.replicate m.states.toNat (0 : Int)).map (Value.int .i64))) 3 ((List.replicate m.states.toNat false).map Value.bool) 2 = List.replicate m.states.toNat (.slice none 0 0) := by rw [upN_ne (by omega), upN_ne (by omega), upN_self]
  have c3 : upN (upN (upN (fun _ => []) 2 (List.replicate m.states.toNat (Value.slice none 0 0))) 0 ((List.replicate m.states.toNat (0 : Int)).map (Value.int .i64))) 3 ((List.replicate m.states.toNat false).map Value.bool) 3 = (List.replicate m.states.toNat false).map .bool := upN_self _ _ _
  generalize upN (upN (upN (fun _ => []) 2 (List.replicate m.states.toNat (Value.slice none 0 0))) 0 ((List.replicate m.states.toNat (0 : Int)).map (Value.int .i64))) 3 ((List.replicate m.states.toNat false).map Value.bool) = C1 at o2 c0 c2 c3
  generalize upN (upN (upN (fun _ => none) 2 (some wi)) 0 (some ci)) 3 (some fi) = N at o2 n0 n2 n3
  with_reducible (refine mv_i ?_; refine mv_i ?_)
  refine loop1 m.states.toNat (fun k h2 => ∃ C, Owns g1 h2 N C oneE ∧ C 0 = ((List.range m.states.toNat).map fun s => if s < k then (-1 : Int) else 0).map (.int .i64) ∧ C 2 = List.replicate m.states.toNat (.slice none 0 0) ∧ C 3 = (List.replicate m.states.toNat false).map .bool) ⟨C1, o2, ?_, c2, c3⟩ ?_
  · rw [c0]
    congr 1
    refine List.ext_getElem (by simp) fun j h1 h2 => by simp
  rintro k h5 _ hk ⟨C, ow, cc0, cc2, cc3⟩
  have hb5 := ow.sub.2 _ _ hb1
  have sC : IntS h5 (.slice (some ⟨ci, 0, none⟩) m.states.toNat (m.states.toNat + 1)) ((List.range m.states.toNat).map fun s => if s < k then (-1 : Int) else 0) := by
    have := ow.seg n0 (k := m.states.toNat) (c := m.states.toNat + 1) (sz := 1) rfl (by rw [cc0]; simp) (by omega)
    rw [cc0] at this
    unfold IntS; rw [show ((List.range m.states.toNat).map fun s => if s < k then (-1 : Int) else 0).length = m.states.toNat by simp]; exact this
  have sCl : ((List.range m.states.toNat).map fun s => if s < k then (-1 : Int) else 0).length = m.states.toNat := by simp
  with_reducible (refine mv_i ?_; refine vk_i (fa36_0 _) ?_; refine ld5_0 r3 (by assumption) ?_)
  refine lss_i (fun hlt => ?_) (fun hge => ?_)
  · have hkS : k < m.states.toNat := by omega
    with_reducible (refine cnd_t ?_; refine mv_i ?_; refine mv_i ?_; refine idxi_i t23 (by assumption) (by omega) ?_)
    rw [elt_at1]
    refine stl s3 ow n0 (by rw [cc0]; simp; omega) rfl rfl fun ow2 => ?_
    with_reducible (refine mv_i ?_; refine inc_i (by omega) ?_; refine mv_i ?_)
    refine next1 hkS ⟨_, ow2, ?_, by rw [upN_ne (by omega)]; exact cc2, by rw [upN_ne (by omega)]; exact cc3⟩
    rw [upN_self, cc0, set_map]
    congr 1
    refine List.ext_getElem (by simp) fun j h1 h2 => ?_
    rw [List.getElem_set]
    simp only [List.getElem_map, List.getElem_range]
    by_cases q : k = j
    · subst q; rw [if_pos rfl, if_pos (by omega)]
    · rw [if_neg q]
      by_cases q2 : j < k
      · rw [if_pos q2, if_pos (by omega)]
      · rw [if_neg q2, if_neg (by omega)]
  have ecl : ((List.range m.states.toNat).map fun s => if s < k then (-1 : Int) else 0) = costL m fun _ => none := by
    unfold costL
    refine List.map_congr_left fun s hs => ?_
    rw [if_pos (by have := List.mem_range.mp hs; omega)]; rfl
  rw [ecl] at cc0 sC sCl
  with_reducible (refine cnd_f ?_; refine mv_i ?_; refine vk_i (fa36_3 _) ?_; refine ld5_3 r3 (by assumption) ?_; refine idxzi t23 (by assumption) (by omega) (by omega) ?_)
  rw [elt_at1]
  refine stl s3 ow n0 (by rw [cc0, List.length_map]; omega) rfl rfl fun ow2 => ?_
  have hset := costL_set (m := m) (fun _ => none) (t := m.start.toNat) ((0, []) : Key)
  simp only at hset
  rw [cc0, set_map, hset, show oneE 0 = 1 from rfl] at ow2 ⊢
  have d0 : DT m ci wi fi g1 (h5.set ci (.arr ⟨(costL m (upB (fun _ => none) m.start.toNat (0, []))).map (.int .i64), 1, false⟩)) N (upN C 0 ((costL m (upB (fun _ => none) m.start.toNat (0, []))).map (.int .i64))) (List.replicate m.states.toNat (.slice none 0 0)) (upB (fun _ => none) m.start.toNat (0, [])) (List.replicate m.states.toNat false) := by
    refine ⟨ow2, n0, n2, n3, upN_self _ _ _, by rw [upN_ne (by omega)]; exact cc2, by rw [upN_ne (by omega)]; exact cc3, by simp, by simp, fun s hs => ?_⟩
    refine Frz.base ow2 fun g _ => ?_
    have e1 : (List.replicate m.states.toNat (Value.slice none 0 0)).getD s undef = .slice none 0 0 := by simp only [List.getD, List.getElem?_replicate]; rw [if_pos hs]; rfl
    have e2 : wd (upB (fun _ => none) m.start.toNat ((0, []) : Key) s) = [] := by unfold upB; split <;> rfl
    rw [e1, e2]; exact Seg.nil _ _
  have dj0 : Dij m pr 0 (List.replicate m.states.toNat false) (upB (fun _ => none) m.start.toNat (0, [])) := by
    refine ⟨⟨fun s a ha => ?_, (0, []), by unfold upB; rw [if_pos rfl], kLe_refl _⟩, countT_rep _, fun u hu => (by rw [repB] at hu; cases hu), fun j _ hj => (by rw [repB] at hj; cases hj)⟩
    unfold upB at ha
    split at ha
    · rename_i q
      subst q
      cases ha
      refine ⟨hsn, by rw [Int.toNat_of_nonneg b5]; exact .nil, [m.start.toNat], by simp, by simp, fun u hu => ?_⟩
      rw [List.mem_singleton] at hu
      subst hu
      exact ⟨hsn, (0, []), by unfold upB; rw [if_pos rfl], kLe_refl _⟩
    · cases ha
  generalize upB (fun _ => none) m.start.toNat ((0, []) : Key) = B0 at d0 dj0 ⊢
  generalize upN C 0 ((costL m B0).map (Value.int .i64)) = C4 at d0
  generalize h5.set ci (.arr ⟨(costL m B0).map (.int .i64), 1, false⟩) = h6 at d0 ⊢
  generalize List.replicate m.states.toNat false = fs0 at d0 dj0
  generalize List.replicate m.states.toNat (Value.slice none 0 0) = rs0 at d0
  clear ow ow2 o2 o1 o0 c0 c2 c3 cc0 cc2 cc3 sC sCl hb2 hb3 hb5 hset
  with_reducible (refine mv_i ?_)
  refine loop1 m.states.toNat (fun n h2 => ∃ N C rs B fs, DT m ci wi fi g1 h2 N C rs B fs ∧ Dij m pr n fs B) ⟨N, C4, rs0, B0, fs0, d0, dj0⟩ ?_
  clear d0 dj0 n0 n2 n3
  rintro n h7 _ hn ⟨N, C, rs, B, fs, d, dj⟩
  have hb7 := d.own.sub.2 _ _ hb1
  have done : ∀ (h8 : Heap), g1 <+: h8 → IntS h8 (.slice (some ⟨ci, 0, none⟩) m.states.toNat (m.states.toNat + 1)) (costL m B) → Seg 1 h8 (.slice (some ⟨wi, 0, none⟩) m.states.toNat (m.states.toNat + 1)) m.states.toNat rs → (∀ s, s < m.states.toNat → IntS h8 (rs.getD s undef) (wd (B s))) → (∀ s a, B s = some a → fs.getD s false = true) →
      h <+: h8 ∧ ∃ B x y, Best m pr B ∧ Value.tuple #[.slice (some ⟨wi, 0, none⟩) m.states.toNat (m.states.toNat + 1), .slice (some ⟨ci, 0, none⟩) m.states.toNat (m.states.toNat + 1)] = .tuple #[x, y] ∧ RowsS h8 x (wordsB m B) ∧ IntS h8 y (costsB m B) := by
    intro h8 p8 s1 s2 s3 hall
    refine ⟨p1.trans p8, B, _, _, dj.best hall, rfl, rows_of s2 (by simp [wordsB]) fun j hj => ⟨rs.getD j undef, by rw [List.getD_eq_getElem?_getD, List.getElem?_eq_getElem (by rw [d.rl]; exact hj)]; rfl, ?_⟩, by rw [← costL_eq]; exact s1⟩
    have e : (wordsB m B).getD j [] = wd (B j) := by
      rw [gd_at [] (by simp [wordsB]; omega)]
      simp only [wordsB, List.getElem_map, List.getElem_range]
      all_goals (cases B j <;> rfl)
    rw [e]; exact s3 j hj
  with_reducible (refine mv_i ?_; refine vk_i (fa36_0 _) ?_; refine ld5_0 r3 (by assumption) ?_)
  refine lss_i (fun hlt => ?_) (fun hge => ?_)
  rotate_left
  · have en : n = m.states.toNat := by omega
    with_reducible (refine cnd_f ?_; refine mv_i ?_; refine mv_i ?_; refine mv_i ?_; refine mv_i ?_; refine ret2 ?_)
    refine done h7 d.own.pre (d.costs hSn) (d.words hSn) (fun s hs => (d.row s hs).self) fun s a ha => ?_
    have hsS := (dj.tab.real s a ha).1
    exact countT_full (by rw [dj.cnt, d.fl, en]) (by rw [d.fl]; exact hsS)
  have hnS : n < m.states.toNat := by omega
  have sc := d.costs hSn
  have scl := costL_len (m := m) B
  have sf := d.fin hSn
  have sfl := d.fl
  have sw := d.words hSn
  with_reducible (refine cnd_t ?_; refine mv_i ?_; refine mv_i ?_)
  refine loop2 m.states.toNat (fun s v h2 => h7 = h2 ∧ Pick m B fs s v) ⟨rfl, .inl ⟨rfl, fun t a ht => by omega⟩⟩ ?_
  rintro s av _ _ hs ⟨rfl, hpick⟩
  with_reducible (refine mv_i ?_; refine vk_i (fa36_0 _) ?_; refine ld5_0 r3 (by assumption) ?_)
  refine lss_i (fun hlts => ?_) (fun hges => ?_)
  · have hsS : s < m.states.toNat := by omega
    have hcs := costL_at (m := m) B hsS
    refine cnd_t ?_
    refine seq_J (fun xs h4 => ∃ v, xs = [v] ∧ h7 = h4 ∧ Pick m B fs (s + 1) v) ?_ ?_
    · rintro _ _ ⟨v, rfl, rfl, hv⟩ _
      show mvK _ _ _
      with_reducible (refine mv_i ?_; refine inc_i (by omega) ?_; refine mv_i ?_)
      exact next2 hsS ⟨rfl, hv⟩
    intro k' hk'
    have keep : (∀ a, ¬ cand B fs s a) → k' [av] h7 := fun hno => hk' _ _ ⟨av, rfl, rfl, by
      rcases hpick with ⟨e, h1⟩ | ⟨t0, a0, e, h0, h1, h2⟩
      · exact .inl ⟨e, fun t a ht => by
          by_cases q : t = s
          · subst q; exact hno a
          · exact h1 t a (by omega)⟩
      · exact .inr ⟨t0, a0, e, h0, h1, fun t a ht hc => by
          by_cases q : t = s
          · subst q; exact absurd hc (hno a)
          · exact h2 t a (by omega) hc⟩⟩
    with_reducible (refine mv_i ?_; refine mv_i ?_; refine idxi_i t23 (by assumption) (by omega) ?_; refine ldi_i t23 r3 (by assumption) (by omega) ?_; refine ⟨vbi _ _, ?_⟩)
    rw [hcs]
    cases hBs : B s with
    | none =>
      refine neq_i (fun _ => ?_) (fun hc => absurd rfl hc)
      with_reducible (refine mv_i ?_; refine gd_ft ?_; refine gd_ft ?_; refine gd_ft ?_; refine gd_ft ?_; refine gd_ft ?_; refine pick_f ?_; refine mv_i ?_; refine gd_ft ?_; refine gd_ft ?_; refine gd_ft ?_; refine gd_u ?_; refine gd_u ?_; refine gd_u ?_; refine gd_u ?_; refine gd_u ?_; refine gd_u ?_; refine gd_u ?_; refine gd_u ?_; refine gd_u ?_; refine gd_u ?_; refine gd_u ?_; refine gd_u ?_; refine gd_u ?_; refine gd_u ?_; refine gd_u ?_; refine gd_u ?_; refine gd_u ?_; refine gd_ft ?_; refine pick_f ?_; refine cnd_f ?_)
      exact keep fun a hc => by rw [cand, hBs] at hc; cases hc.1
    | some ka =>
      have hkp := ((dj.tab.real s ka hBs).2.1).price hpo
      refine neq_i (fun hc => absurd hc (by simp only [cst]; omega)) (fun _ => ?_)
      with_reducible (refine mv_i ?_; refine gd_tt ?_; refine mv_i ?_; refine gd_tt ?_; refine mv_i ?_; refine gd_tt ?_; refine idxb_i t48 (by assumption) (by omega) ?_; refine gd_tt ?_; refine ldb_i t48 r4 (by assumption) (by omega) ?_; refine ⟨vbb _ _, ?_⟩; refine gd_tt ?_)
      rcases hfb : fs.getD s false with _ | _
      · rcases hpick with ⟨e, h1⟩ | ⟨t0, a0, e, h0, h1, h2⟩
        · subst e
          with_reducible (refine not_f ?_; refine pick_t ?_; refine mv_i ?_; refine gd_tt ?_; refine mv_i ?_; refine gd_tt ?_)
          refine eql_i (fun _ => ?_) (fun hc => absurd rfl hc)
          with_reducible (refine gd_tt ?_; refine mv_i ?_; refine gd_tf ?_; refine gd_tf ?_; refine gd_tf ?_; refine gd_tf ?_; refine gd_tf ?_; refine gd_tf ?_; refine gd_tf ?_; refine gd_tf ?_; refine gd_tf ?_; refine gd_tf ?_; refine gd_tf ?_; refine gd_tf ?_; refine gd_tf ?_; refine gd_tf ?_; refine gd_tf ?_; refine gd_tf ?_; refine gd_tf ?_; refine gd_tt ?_; refine pick_t ?_; refine pick_t ?_; refine cnd_t ?_; refine mv_i ?_; refine mv_i ?_)
          refine hk' _ _ ⟨_, rfl, rfl, .inr ⟨s, ka, rfl, hsS, ⟨hBs, hfb⟩, fun t a ht hc => ?_⟩⟩
          by_cases q : t = s
          · subst q
            have := hc.1
            rw [hBs] at this
            cases this
            exact kLe_refl _
          · exact absurd hc (h1 t a (by omega))
        · subst e
          have hc0 := costL_at (m := m) B h0
          with_reducible (refine not_f ?_; refine pick_t ?_; refine mv_i ?_; refine gd_tt ?_; refine mv_i ?_; refine gd_tt ?_)
          refine eql_i (fun hc => absurd hc (by omega)) (fun _ => ?_)
          with_reducible (refine gd_tt ?_; refine mv_i ?_; refine gd_ff ?_; refine mv_i ?_; refine gd_ff ?_; refine mv_i ?_; refine gd_ff ?_; refine idxi_i t23 (by assumption) (by omega) ?_; refine gd_ff ?_; refine ldi_i t23 r3 (by assumption) (by omega) ?_; refine ⟨vbi _ _, ?_⟩; refine gd_ff ?_; refine mv_i ?_; refine gd_ff ?_; refine mv_i ?_; refine gd_ff ?_; refine idx_i t22 (by assumption) (by omega) ?_; refine gd_ff ?_)
          refine ld_gd (i := 0) t22 r23 sw hsS ?_
          have srs := (d.row s hsS).self
          refine ⟨VB_of_ints srs, ?_⟩
          with_reducible (refine gd_ff ?_; refine mv_i ?_; refine gd_ff ?_; refine mv_i ?_; refine gd_ff ?_; refine idxi_i t23 (by assumption) (by omega) ?_; refine gd_ff ?_; refine ldi_i t23 r3 (by assumption) (by omega) ?_; refine ⟨vbi _ _, ?_⟩; refine gd_ff ?_; refine mv_i ?_; refine gd_ff ?_; refine mv_i ?_; refine gd_ff ?_; refine idx_i t22 (by assumption) (by omega) ?_; refine gd_ff ?_)
          refine ld_gd (i := 0) t22 r23 sw h0 ?_
          have srt := (d.row t0 h0).self
          refine ⟨VB_of_ints srt, ?_⟩
          rw [hcs, hc0, hBs, h1.1]
          rw [hBs] at srs
          rw [h1.1] at srt
          with_reducible (refine gd_ff ?_)
          refine calld_r (c74 (a := ka) (b := a0) srs srt) ⟨⟨[], by simp⟩, ?_⟩
          by_cases hk : kLt ka a0
          · rw [decide_eq_true hk]
            with_reducible (refine gd_tt ?_; refine pick_f ?_; refine pick_t ?_; refine cnd_t ?_; refine mv_i ?_; refine mv_i ?_)
            refine hk' _ _ ⟨_, rfl, rfl, .inr ⟨s, ka, rfl, hsS, ⟨hBs, hfb⟩, fun t a ht hc => ?_⟩⟩
            by_cases q : t = s
            · subst q
              have := hc.1
              rw [hBs] at this
              cases this
              exact kLe_refl _
            · exact kLe_trans hk.le (h2 t a (by omega) hc)
          · rw [decide_eq_false hk]
            with_reducible (refine gd_tt ?_; refine pick_f ?_; refine pick_t ?_; refine cnd_f ?_)
            refine hk' _ _ ⟨_, rfl, rfl, .inr ⟨t0, a0, rfl, h0, h1, fun t a ht hc => ?_⟩⟩
            by_cases q : t = s
            · subst q
              have := hc.1
              rw [hBs] at this
              cases this
              exact hk
            · exact h2 t a (by omega) hc
      · with_reducible (refine not_t ?_; refine pick_t ?_; refine mv_i ?_; refine gd_ft ?_; refine gd_ft ?_; refine gd_ft ?_; refine gd_u ?_; refine gd_u ?_; refine gd_u ?_; refine gd_u ?_; refine gd_u ?_; refine gd_u ?_; refine gd_u ?_; refine gd_u ?_; refine gd_u ?_; refine gd_u ?_; refine gd_u ?_; refine gd_u ?_; refine gd_u ?_; refine gd_u ?_; refine gd_u ?_; refine gd_u ?_; refine gd_u ?_; refine gd_ft ?_; refine pick_f ?_; refine cnd_f ?_)
        exact keep fun a hc => by rw [cand, hfb] at hc; cases hc.2
  have es : s = m.states.toNat := by omega
  subst es
  rcases hpick with ⟨e, hnone⟩ | ⟨t0, a0, e, h0, hc0, hmin⟩
  · subst e
    with_reducible (refine cnd_f ?_; refine mv_i ?_)
    refine eql_i (fun _ => ?_) (fun hc => absurd rfl hc)
    with_reducible (refine cnd_t ?_; refine mv_i ?_; refine mv_i ?_; refine mv_i ?_; refine mv_i ?_; refine ret2 ?_)
    refine done h7 d.own.pre sc sw (fun s hs => (d.row s hs).self) fun s a ha => ?_
    have hsS := (dj.tab.real s a ha).1
    cases hfb : fs.getD s false with
    | true => rfl
    | false => exact absurd ⟨ha, hfb⟩ (hnone s a hsS)
  subst e
  have ht0l : t0 < fs.length := by rw [d.fl]; exact h0
  have rx0 := dj.relax ht0l hc0.2 hc0.1 fun t c hc hv => hmin t c (dj.tab.real t c hc).1 ⟨hc, hv⟩
  have hcnt := dj.cnt
  with_reducible (refine cnd_f ?_; refine mv_i ?_)
  refine eql_i (fun hc => absurd hc (by omega)) (fun _ => ?_)
  with_reducible (refine cnd_f ?_; refine mv_i ?_; refine mv_i ?_; refine idxb_i t48 (by assumption) (by omega) ?_)
  rw [elt_at1]
  refine stl s4 d.own d.n3 (by rw [d.c3, List.length_map]; exact ht0l) rfl rfl fun o8 => ?_
  rw [d.c3, setB_map, show oneE 3 = 1 from rfl] at o8 ⊢
  have d8 : DT m ci wi fi g1 (h7.set fi (.arr ⟨(fs.set t0 true).map .bool, 1, false⟩)) N (upN C 3 ((fs.set t0 true).map .bool)) rs B (fs.set t0 true) :=
    ⟨o8, d.n0, d.n2, d.n3, by rw [upN_ne (by omega)]; exact d.c0, by rw [upN_ne (by omega)]; exact d.c2, upN_self _ _ _, d.rl, by simpa using d.fl, fun s hs => (d.row s hs).set d.n3 _⟩
  have hf0 : (fs.set t0 true).getD t0 false = true := by rw [set_getB ht0l]; simp
  have fin2 : ∀ B', Relax m pr (fs.set t0 true) t0 a0 m.steps.length B' → Dij m pr (n + 1) (fs.set t0 true) B' := fun B' x => x.dij ht0l hc0.2 hcnt
  generalize upN C 3 ((fs.set t0 true).map Value.bool) = C8 at d8
  generalize h7.set fi (.arr ⟨(fs.set t0 true).map .bool, 1, false⟩) = h8 at d8 ⊢
  generalize fs.set t0 true = fs2 at d8 rx0 hf0 fin2
  clear o8 done d dj sc scl sf sfl sw hmin hc0 hb7 ht0l
  with_reducible (refine mv_i ?_)
  refine loop1 m.steps.length (fun k h2 => ∃ N C rs B, DT m ci wi fi g1 h2 N C rs B fs2 ∧ Relax m pr fs2 t0 a0 k B) ⟨N, C8, rs, B, d8, rx0⟩ ?_
  clear d8 rx0
  rintro k h9 _ hk ⟨N, C, rs, B, d, rx⟩
  have hb9 := d.own.sub.2 _ _ hb1
  have ss9 := ss.mono d.own.sub
  with_reducible (refine mv_i ?_; refine vk_i (fa36_4 _) ?_; refine ld5_4 r34 (by assumption) ?_; refine lenst t34 (by assumption) ?_)
  refine lss_i (fun hltk => ?_) (fun hgek => ?_)
  rotate_left
  · have ek : k = m.steps.length := by omega
    subst ek
    with_reducible (refine cnd_f ?_; refine mv_i ?_; refine inc_i (by omega) ?_; refine mv_i ?_)
    exact next1 hnS ⟨N, C, rs, B, fs2, d, fin2 B rx⟩
  have hkl : k < m.steps.length := by omega
  have hst := r.st hkl
  have hpk := hpo k
  have hal := rx.tab.len rx.at0
  have hap := ((rx.tab.real _ _ rx.at0).2.1).price hpo
  have htn : (m.steps.getD k dst).to.toNat < m.states.toNat := by omega
  refine cnd_t ?_
  refine seq_J (fun xs h10 => xs = [] ∧ ∃ N C rs B, DT m ci wi fi g1 h10 N C rs B fs2 ∧ Relax m pr fs2 t0 a0 (k + 1) B) ?_ ?_
  · rintro _ h10 ⟨rfl, hv⟩ _
    show mvK _ h10 _
    with_reducible (refine mv_i ?_; refine inc_i (by omega) ?_; refine mv_i ?_)
    exact next1 hkl hv
  intro k' hk'
  with_reducible (refine vk_i (fa36_4 _) ?_; refine ld5_4 r34 (by assumption) ?_; refine mv_i ?_; refine idxst t34 (by assumption) (by omega) ?_)
  refine ldst_i st63 ss9 hkl dst ?_
  refine ok_i (al63 _) ?_
  skip
  refine ok_i (v := undef) (h' := newArr h9 (m.steps.getD k dst).cells 4) (by rw [sto63]; rfl) ?_
  have fy := frz_new d.own (m.steps.getD k dst).cells 4
  have d10 := d.move (h' := newArr h9 (m.steps.getD k dst).cells 4) (d.own.ext (pre_new _ _ _)) rfl rfl rfl rfl rfl rfl (FrzT.ext (pre_new _ _ _))
  generalize hyi : h9.length = yi at fy ⊢
  generalize newArr h9 (m.steps.getD k dst).cells 4 = h10 at fy d10 ⊢
  have hy : h10[yi]? = some (.arr ⟨[.int .i64 (m.steps.getD k dst).fr, .int .i64 (m.steps.getD k dst).inp, .int .i64 (m.steps.getD k dst).out, .int .i64 (m.steps.getD k dst).to], 4, false⟩) := fy.self
  clear d hb9 ss9
  have sw10 := d10.words hSn
  with_reducible (refine mv_i ?_; refine mv_i ?_; refine idx_i t22 (by assumption) (by omega) ?_)
  refine ld_gd (i := 0) t22 r23 sw10 h0 ?_
  have srt := (d10.row t0 h0).self
  rw [rx.at0] at srt
  simp only [wd] at srt
  refine ⟨VB_of_ints srt, ?_⟩
  refine calld_r (c17 srt (by omega)) ⟨(ownH_pre _ _).imp fun t ht => ht.symm, ?_⟩
  obtain ⟨p11, hfr⟩ := own_fresh h10 a0.2
  obtain ⟨o11, cs11, ow11, ls11, hn11⟩ := hfr g1 N C oneE 1 rfl d10.own
  have T11 : FrzT N h10 (upN N 1 o11) (ownH h10 a0.2) := FrzT.lab 1 o11 hn11 p11
  generalize ownV h10 a0.2 = v11 at ls11 ⊢
  generalize ownH h10 a0.2 = h11 at ow11 T11 p11 ⊢
  have fy11 := T11 _ fy
  have hy11 : h11[yi]? = some (.arr ⟨[.int .i64 (m.steps.getD k dst).fr, .int .i64 (m.steps.getD k dst).inp, .int .i64 (m.steps.getD k dst).out, .int .i64 (m.steps.getD k dst).to], 4, false⟩) := fy11.self
  with_reducible (refine vk_i (fa63_1 _) ?_; refine ld4_1 r3 (by assumption) ?_; refine ⟨vbi _ _, ?_⟩)
  refine ok_i (bs23_1 _ _) ?_
  have ow12 := ow11.ext (pre_new h11 [.int .i64 (m.steps.getD k dst).inp] 1)
  have T12 : FrzT N h10 (upN N 1 o11) (newArr h11 [.int .i64 (m.steps.getD k dst).inp] 1) := T11.trans (FrzT.ext (pre_new _ _ _))
  refine lapp t23 ow12 ls11 rfl (Seg.new (n := 1) 2 (by simp) (by omega)) (by simp [Value.oneCell']) (by omega) (by rw [List.length_map]; omega) fun h13 v13 ow13 ls13 hk13 hl13 hv13 => ?_
  have T13 := T12.trans (FrzT.app (l := 1) hk13 hl13)
  have ls14 : LS (upN (upN N 1 o11) 1 (some (newArr h11 [Value.int .i64 (m.steps.getD k dst).inp] 1).length)) (upN (upN C 1 cs11) 1 (a0.2.map (Value.int .i64) ++ [.int .i64 (m.steps.getD k dst).inp])) 1 v13 ((a0.2 ++ [(m.steps.getD k dst).inp]).map (.int .i64)) := by simpa using ls13
  have fzw := LS.freezei ow13 ls14 rfl (by have : (a0.2 ++ [(m.steps.getD k dst).inp]).length = a0.2.length + 1 := by simp
                                           omega)
  have T14 := T13.trans (FrzT.fewer 1)
  have d14 := d10.move (ow13.forget 1 []) (by rw [upN_ne (by omega), upN_ne (by omega), upN_ne (by omega)]) (by rw [upN_ne (by omega), upN_ne (by omega), upN_ne (by omega)]) (by rw [upN_ne (by omega), upN_ne (by omega), upN_ne (by omega)]) (by rw [upN_ne (by omega), upN_ne (by omega), upN_ne (by omega)]) (by rw [upN_ne (by omega), upN_ne (by omega), upN_ne (by omega)]) (by rw [upN_ne (by omega), upN_ne (by omega), upN_ne (by omega)]) T14
  have fy14 := T14 _ fy
  generalize upN (upN (upN N 1 o11) 1 (some (newArr h11 [Value.int .i64 (m.steps.getD k dst).inp] 1).length)) 1 none = N14 at d14 fy14 fzw
  generalize upN (upN (upN C 1 cs11) 1 (a0.2.map (Value.int .i64) ++ [.int .i64 (m.steps.getD k dst).inp])) 1 [] = C14 at d14
  have hy14 : h13[yi]? = some (.arr ⟨[.int .i64 (m.steps.getD k dst).fr, .int .i64 (m.steps.getD k dst).inp, .int .i64 (m.steps.getD k dst).out, .int .i64 (m.steps.getD k dst).to], 4, false⟩) := fy14.self
  clear ls13 ls14 ow13 T13 T14 hk13 d10 sw10 T12 T11 ow12 ow11
  have sw14 := d14.words hSn
  have sc14 := d14.costs hSn
  have scl := costL_len (m := m) B
  have sp14 := sp1.mono d14.own.sub
  have swd := fzw.self
  have hct := costL_at (m := m) B htn
  have hca := costL_at (m := m) B h0
  rw [rx.at0] at hca
  simp only [cst] at hca
  with_reducible (refine ⟨trivial, ?_⟩; refine mv_i ?_; refine vk_i (fa63_0 _) ?_; refine ld4_0 r3 (by assumption) ?_; refine ⟨vbi _ _, ?_⟩; refine mv_i ?_)
  refine eql_i (fun hfr => ?_) (fun hfr => ?_)
  rotate_left
  · with_reducible (refine mv_i ?_; refine gd_ft ?_; refine gd_ft ?_; refine gd_ft ?_; refine gd_ft ?_; refine gd_ft ?_; refine gd_ft ?_; refine gd_ft ?_; refine gd_u ?_; refine gd_u ?_; refine gd_u ?_; refine gd_u ?_; refine gd_u ?_; refine gd_u ?_; refine gd_u ?_; refine gd_u ?_; refine gd_u ?_; refine gd_u ?_; refine gd_u ?_; refine gd_u ?_; refine gd_u ?_; refine gd_u ?_; refine gd_u ?_; refine gd_u ?_; refine gd_u ?_; refine gd_u ?_; refine gd_u ?_; refine gd_u ?_; refine gd_u ?_; refine gd_ft ?_; refine pick_f ?_; refine cnd_f ?_)
    exact hk' _ _ ⟨rfl, N14, C14, rs, B, d14, rx.skip fun e => absurd e (by omega)⟩
  with_reducible (refine mv_i ?_; refine gd_tt ?_; refine mv_i ?_; refine gd_tt ?_; refine vk_i (fa63_3 _) ?_; refine gd_tt ?_; refine ld4_3 r3 (by assumption) ?_; refine ⟨vbi _ _, ?_⟩; refine gd_tt ?_; refine idxzi t23 (by assumption) (by omega) (by omega) ?_; refine gd_tt ?_; refine ldi_i t23 r3 (by assumption) (by omega) ?_; refine ⟨vbi _ _, ?_⟩; refine gd_tt ?_)
  rw [hct]
  cases hBt : B (m.steps.getD k dst).to.toNat with
  | none =>
    refine eql_i (fun _ => ?_) (fun hc => absurd rfl hc)
    have hbet : ∀ c, B (m.steps.getD k dst).to.toNat = some c → kLt (kStep m pr a0 k) c := fun c hc => by rw [hBt] at hc; cases hc
    with_reducible (refine gd_tt ?_; refine mv_i ?_; refine gd_tf ?_; refine gd_tf ?_; refine gd_tf ?_; refine gd_tf ?_; refine gd_tf ?_; refine gd_tf ?_; refine gd_tf ?_; refine gd_tf ?_; refine gd_tf ?_; refine gd_tf ?_; refine gd_tf ?_; refine gd_tf ?_; refine gd_tf ?_; refine gd_tf ?_; refine gd_tf ?_; refine gd_tf ?_; refine gd_tf ?_; refine gd_tf ?_; refine gd_tf ?_; refine gd_tf ?_; refine gd_tf ?_; refine gd_tt ?_; refine pick_t ?_; refine pick_t ?_; refine cnd_t ?_; refine mv_i ?_; refine vk_i (fa63_3 _) ?_; refine ld4_3 r3 (by assumption) ?_; refine ⟨vbi _ _, ?_⟩; refine mv_i ?_; refine vk_i (fa63_3 _) ?_; refine ld4_3 r3 (by assumption) ?_; refine ⟨vbi _ _, ?_⟩; refine mv_i ?_; refine mv_i ?_; refine idxi_i t23 (by assumption) (by omega) ?_; refine ldi_i t23 r3 (by assumption) (by omega) ?_; refine ⟨vbi _ _, ?_⟩; refine mv_i ?_; refine mv_i ?_; refine idxi_i t23 (by assumption) (by omega) ?_; refine ldi_i t23 r3 (by assumption) (by omega) ?_; refine ⟨vbi _ _, ?_⟩)
    rw [hca]
    refine add_i ⟨by omega, by omega⟩ ?_
    with_reducible (refine mv_i ?_; refine idxzi t23 (by assumption) (by omega) (by omega) ?_)
    rw [elt_at1]
    refine stl s3 d14.own d14.n0 (by rw [d14.c0, List.length_map, scl]; exact htn) rfl rfl fun o15 => ?_
    have hset := costL_set (m := m) B (t := (m.steps.getD k dst).to.toNat) (kStep m pr a0 k)
    have e1 : (kStep m pr a0 k).1 = a0.1 + pr.getD k 0 := rfl
    rw [e1] at hset
    rw [d14.c0, set_map, hset, show oneE 0 = 1 from rfl] at o15 ⊢
    have fzw15 := fzw.set d14.n0 (.arr ⟨(costL m (upB B (m.steps.getD k dst).to.toNat (kStep m pr a0 k))).map (.int .i64), 1, false⟩)
    have fy15 := fy14.set d14.n0 (.arr ⟨(costL m (upB B (m.steps.getD k dst).to.toNat (kStep m pr a0 k))).map (.int .i64), 1, false⟩)
    have row15 := fun s hs => (d14.row s hs).set d14.n0 (.arr ⟨(costL m (upB B (m.steps.getD k dst).to.toNat (kStep m pr a0 k))).map (.int .i64), 1, false⟩)
    have c150 := upN_self C14 0 ((costL m (upB B (m.steps.getD k dst).to.toNat (kStep m pr a0 k))).map (Value.int .i64))
    have c152 : upN C14 0 ((costL m (upB B (m.steps.getD k dst).to.toNat (kStep m pr a0 k))).map (Value.int .i64)) 2 = rs := by rw [upN_ne (by omega)]; exact d14.c2
    have c153 : upN C14 0 ((costL m (upB B (m.steps.getD k dst).to.toNat (kStep m pr a0 k))).map (Value.int .i64)) 3 = fs2.map .bool := by rw [upN_ne (by omega)]; exact d14.c3
    generalize upN C14 0 ((costL m (upB B (m.steps.getD k dst).to.toNat (kStep m pr a0 k))).map (Value.int .i64)) = C15 at o15 c150 c152 c153
    generalize h13.set ci (.arr ⟨(costL m (upB B (m.steps.getD k dst).to.toNat (kStep m pr a0 k))).map (.int .i64), 1, false⟩) = h15 at o15 fzw15 fy15 row15 ⊢
    have hy15 : h15[yi]? = some (.arr ⟨[.int .i64 (m.steps.getD k dst).fr, .int .i64 (m.steps.getD k dst).inp, .int .i64 (m.steps.getD k dst).out, .int .i64 (m.steps.getD k dst).to], 4, false⟩) := fy15.self
    refine ⟨⟨AM.again (ldc_e r3 hy15 rfl), trivial⟩, ?_⟩
    have sw15 : Seg 1 h15 (.slice (some ⟨wi, 0, none⟩) m.states.toNat (m.states.toNat + 1)) m.states.toNat rs := by
      have := o15.seg d14.n2 (k := m.states.toNat) (c := m.states.toNat + 1) (sz := 1) rfl (by rw [c152, d14.rl]; omega) (by omega)
      rw [c152] at this
      exact this
    refine idxz t22 sw15 hst.2.2.1 (by omega) ?_
    rw [elt_at1]
    obtain ⟨c13, hv13⟩ := hv13
    refine stl s25 o15 d14.n2 (by rw [c152, d14.rl]; exact htn) (by rw [hv13]; rfl) (by rw [hv13]; rfl) fun o16 => ?_
    rw [c152, show oneE 2 = 1 from rfl] at o16 ⊢
    with_reducible (refine ⟨trivial, ?_⟩)
    refine hk' _ _ ⟨rfl, N14, _, rs.set (m.steps.getD k dst).to.toNat v13, upB B (m.steps.getD k dst).to.toNat (kStep m pr a0 k), ⟨o16, d14.n0, d14.n2, d14.n3, by rw [upN_ne (by omega)]; exact c150, upN_self _ _ _, by rw [upN_ne (by omega)]; exact c153, by simpa using d14.rl, d14.fl, fun s hs => ?_⟩, rx.put hpo r hkl hf0 (by omega) hbet⟩
    by_cases q : s = (m.steps.getD k dst).to.toNat
    · subst q
      rw [gd_set (by rw [d14.rl]; exact hs)]
      have e2 : wd (upB B (m.steps.getD k dst).to.toNat (kStep m pr a0 k) (m.steps.getD k dst).to.toNat) = a0.2 ++ [(m.steps.getD k dst).inp] := by unfold upB; rw [if_pos rfl]; rfl
      rw [e2]
      exact fzw15.set d14.n2 _
    · rw [gd_set_ne q]
      have e2 : wd (upB B (m.steps.getD k dst).to.toNat (kStep m pr a0 k) s) = wd (B s) := by unfold upB; rw [if_neg q]
      rw [e2]
      exact (row15 s hs).set d14.n2 _
  | some kc =>
    have hcp := ((rx.tab.real _ _ hBt).2.1).price hpo
    refine eql_i (fun hc => absurd hc (by simp only [cst]; omega)) (fun _ => ?_)
    with_reducible (refine gd_tt ?_; refine mv_i ?_; refine gd_ff ?_; refine mv_i ?_; refine gd_ff ?_; refine mv_i ?_; refine gd_ff ?_; refine idxi_i t23 (by assumption) (by omega) ?_; refine gd_ff ?_; refine ldi_i t23 r3 (by assumption) (by omega) ?_; refine ⟨vbi _ _, ?_⟩; refine gd_ff ?_; refine mv_i ?_; refine gd_ff ?_; refine mv_i ?_; refine gd_ff ?_; refine idxi_i t23 (by assumption) (by omega) ?_; refine gd_ff ?_; refine ldi_i t23 r3 (by assumption) (by omega) ?_; refine ⟨vbi _ _, ?_⟩; refine gd_ff ?_)
    rw [hca]
    refine add_i ⟨by omega, by omega⟩ ?_
    with_reducible (refine gd_ff ?_; refine mv_i ?_; refine gd_ff ?_; refine mv_i ?_; refine gd_ff ?_; refine vk_i (fa63_3 _) ?_; refine gd_ff ?_; refine ld4_3 r3 (by assumption) ?_; refine ⟨vbi _ _, ?_⟩; refine gd_ff ?_; refine idxzi t23 (by assumption) (by omega) (by omega) ?_; refine gd_ff ?_; refine ldi_i t23 r3 (by assumption) (by omega) ?_; refine ⟨vbi _ _, ?_⟩; refine gd_ff ?_; refine mv_i ?_; refine gd_ff ?_; refine vk_i (fa63_3 _) ?_; refine gd_ff ?_; refine ld4_3 r3 (by assumption) ?_; refine ⟨vbi _ _, ?_⟩; refine gd_ff ?_; refine idxz t22 (by assumption) (by omega) (by omega) ?_; refine gd_ff ?_)
    rw [hct, hBt]
    skip
    refine ld_gd (i := 0) t22 r23 sw14 htn ?_
    have srt14 := (d14.row _ htn).self
    rw [hBt] at srt14
    refine ⟨VB_of_ints srt14, ?_⟩
    with_reducible (refine gd_ff ?_)
    refine calld_r (c74 (a := kStep m pr a0 k) (b := kc) swd srt14) ⟨⟨[], by simp⟩, ?_⟩
    by_cases hk3 : kLt (kStep m pr a0 k) kc
    · rw [decide_eq_true hk3]
      have hbet : ∀ c, B (m.steps.getD k dst).to.toNat = some c → kLt (kStep m pr a0 k) c := fun c hc => by rw [hBt] at hc; cases hc; exact hk3
      with_reducible (refine gd_tt ?_; refine pick_f ?_; refine pick_t ?_; refine cnd_t ?_; refine mv_i ?_; refine vk_i (fa63_3 _) ?_; refine ld4_3 r3 (by assumption) ?_; refine ⟨vbi _ _, ?_⟩; refine mv_i ?_; refine vk_i (fa63_3 _) ?_; refine ld4_3 r3 (by assumption) ?_; refine ⟨vbi _ _, ?_⟩; refine mv_i ?_; refine mv_i ?_; refine idxi_i t23 (by assumption) (by omega) ?_; refine ldi_i t23 r3 (by assumption) (by omega) ?_; refine ⟨vbi _ _, ?_⟩; refine mv_i ?_; refine mv_i ?_; refine idxi_i t23 (by assumption) (by omega) ?_; refine ldi_i t23 r3 (by assumption) (by omega) ?_; refine ⟨vbi _ _, ?_⟩)
      rw [hca]
      refine add_i ⟨by omega, by omega⟩ ?_
      with_reducible (refine mv_i ?_; refine idxzi t23 (by assumption) (by omega) (by omega) ?_)
      rw [elt_at1]
      refine stl s3 d14.own d14.n0 (by rw [d14.c0, List.length_map, scl]; exact htn) rfl rfl fun o15 => ?_
      have hset := costL_set (m := m) B (t := (m.steps.getD k dst).to.toNat) (kStep m pr a0 k)
      have e1 : (kStep m pr a0 k).1 = a0.1 + pr.getD k 0 := rfl
      rw [e1] at hset
      rw [d14.c0, set_map, hset, show oneE 0 = 1 from rfl] at o15 ⊢
      have fzw15 := fzw.set d14.n0 (.arr ⟨(costL m (upB B (m.steps.getD k dst).to.toNat (kStep m pr a0 k))).map (.int .i64), 1, false⟩)
      have fy15 := fy14.set d14.n0 (.arr ⟨(costL m (upB B (m.steps.getD k dst).to.toNat (kStep m pr a0 k))).map (.int .i64), 1, false⟩)
      have row15 := fun s hs => (d14.row s hs).set d14.n0 (.arr ⟨(costL m (upB B (m.steps.getD k dst).to.toNat (kStep m pr a0 k))).map (.int .i64), 1, false⟩)
      have c150 := upN_self C14 0 ((costL m (upB B (m.steps.getD k dst).to.toNat (kStep m pr a0 k))).map (Value.int .i64))
      have c152 : upN C14 0 ((costL m (upB B (m.steps.getD k dst).to.toNat (kStep m pr a0 k))).map (Value.int .i64)) 2 = rs := by rw [upN_ne (by omega)]; exact d14.c2
      have c153 : upN C14 0 ((costL m (upB B (m.steps.getD k dst).to.toNat (kStep m pr a0 k))).map (Value.int .i64)) 3 = fs2.map .bool := by rw [upN_ne (by omega)]; exact d14.c3
      generalize upN C14 0 ((costL m (upB B (m.steps.getD k dst).to.toNat (kStep m pr a0 k))).map (Value.int .i64)) = C15 at o15 c150 c152 c153
      generalize h13.set ci (.arr ⟨(costL m (upB B (m.steps.getD k dst).to.toNat (kStep m pr a0 k))).map (.int .i64), 1, false⟩) = h15 at o15 fzw15 fy15 row15 ⊢
      have hy15 : h15[yi]? = some (.arr ⟨[.int .i64 (m.steps.getD k dst).fr, .int .i64 (m.steps.getD k dst).inp, .int .i64 (m.steps.getD k dst).out, .int .i64 (m.steps.getD k dst).to], 4, false⟩) := fy15.self
      refine ⟨⟨AM.again (ldc_e r3 hy15 rfl), trivial⟩, ?_⟩
      have sw15 : Seg 1 h15 (.slice (some ⟨wi, 0, none⟩) m.states.toNat (m.states.toNat + 1)) m.states.toNat rs := by
        have := o15.seg d14.n2 (k := m.states.toNat) (c := m.states.toNat + 1) (sz := 1) rfl (by rw [c152, d14.rl]; omega) (by omega)
        rw [c152] at this
        exact this
      refine idxz t22 sw15 hst.2.2.1 (by omega) ?_
      rw [elt_at1]
      obtain ⟨c13, hv13⟩ := hv13
      refine stl s25 o15 d14.n2 (by rw [c152, d14.rl]; exact htn) (by rw [hv13]; rfl) (by rw [hv13]; rfl) fun o16 => ?_
      rw [c152, show oneE 2 = 1 from rfl] at o16 ⊢
      with_reducible (refine ⟨trivial, ?_⟩)
      refine hk' _ _ ⟨rfl, N14, _, rs.set (m.steps.getD k dst).to.toNat v13, upB B (m.steps.getD k dst).to.toNat (kStep m pr a0 k), ⟨o16, d14.n0, d14.n2, d14.n3, by rw [upN_ne (by omega)]; exact c150, upN_self _ _ _, by rw [upN_ne (by omega)]; exact c153, by simpa using d14.rl, d14.fl, fun s hs => ?_⟩, rx.put hpo r hkl hf0 (by omega) hbet⟩
      by_cases q : s = (m.steps.getD k dst).to.toNat
      · subst q
        rw [gd_set (by rw [d14.rl]; exact hs)]
        have e2 : wd (upB B (m.steps.getD k dst).to.toNat (kStep m pr a0 k) (m.steps.getD k dst).to.toNat) = a0.2 ++ [(m.steps.getD k dst).inp] := by unfold upB; rw [if_pos rfl]; rfl
        rw [e2]
        exact fzw15.set d14.n2 _
      · rw [gd_set_ne q]
        have e2 : wd (upB B (m.steps.getD k dst).to.toNat (kStep m pr a0 k) s) = wd (B s) := by unfold upB; rw [if_neg q]
        rw [e2]
        exact (row15 s hs).set d14.n2 _
    · rw [decide_eq_false hk3]
      with_reducible (refine gd_tt ?_; refine pick_f ?_; refine pick_t ?_; refine cnd_f ?_)
      refine hk' _ _ ⟨rfl, N14, C14, rs, B, d14, rx.skip fun e => ?_⟩
      intro c hc
      rw [show (m.steps.getD k dst).fr.toNat = t0 by omega, rx.at0] at hc
      cases hc
      exact ⟨kc, hBt, hk3⟩
end Go.Proofs.Ytdjoednhfoligaa

set_option linter.unusedSimpArgs false
set_option linter.unusedVariables false
set_option maxRecDepth 100000
namespace Go.Proofs.Ytdjoednhfoligaa
open Go.AM
variable {h h' h0 h1 h2 : Heap} {K : Value → Heap → Prop} {m : Mac}
theorem lennilr (hk : K (.int .i64 0) h) : vK (aLen Try.prog 45 (.slice none 0 0)) h K := lenr_i (h1 := h) (xss := []) t22 ⟨[], rfl, Seg.nil _ _, fun k hk => by simp at hk⟩ hk
set_option maxHeartbeats 1000000 in
theorem c7 {a b : Value} {pr : List Int} (s : MacV h a m) (sp : IntS h b pr) (hl : m.steps.length ≤ 2 ^ 40) (hf : pr.length ≤ 2 ^ 40) : Runs Try.prog 7 [a, b] h (.bool true) h := by
  refine DetP.forget rfl ?_
  refine w7 ?_
  unfold n7
  obtain ⟨o, l, c, rfl, ss0⟩ := s
  rw [box36]
  refine ok_i rfl ?_
  have p1 := pre_new h [.int .i64 m.states, .int .i64 m.inputs, .int .i64 m.outputs, .int .i64 m.start, .slice o l c] 5
  have hb1 := newArr_get h [.int .i64 m.states, .int .i64 m.inputs, .int .i64 m.outputs, .int .i64 m.start, .slice o l c] 5
  have ss := ss0.mono (Sub.of_pre p1)
  generalize hg1 : newArr h [.int .i64 m.states, .int .i64 m.inputs, .int .i64 m.outputs, .int .i64 m.start, .slice o l c] 5 = g1 at p1 hb1 ss ⊢
  have mv1 : MacV g1 (.agg #[.int .i64 m.states, .int .i64 m.inputs, .int .i64 m.outputs, .int .i64 m.start, .slice o l c]) m := macv_of ss
  have sp1 := sp.mono (Sub.of_pre p1)
  with_reducible (refine mv_i ?_)
  refine call_r c14 ?_
  with_reducible (refine not_t ?_; refine cnd_f ?_)
  refine vk_i (ld36 hb1) ?_
  refine call_r (c18 mv1) ?_
  with_reducible (refine mv_i ?_; refine mv_i ?_)
  refine eql_i (fun h1 => ?_) (fun h1 => ?_)
  · with_reducible (refine mv_i ?_; refine gd_tt ?_; refine vk_i (fa36_0 _) ?_; refine gd_tt ?_; refine ld5_0 r3 (by assumption) ?_; refine gd_tt ?_)
    refine gtr_i (fun h2 => ?_) (fun h2 => ?_)
    · with_reducible (refine pick_t ?_; refine cnd_t ?_; refine mv_i ?_; refine ret1 ?_)
      exact ⟨rfl, p1⟩
    · with_reducible (refine pick_t ?_; refine cnd_f ?_)
      refine seq_J (fun xs h8 => g1 = h8 ∧ xs = [.int .i64 (orOf [(mErr m).2, prErr m pr])]) ?_ ?_
      · rintro _ _ ⟨rfl, rfl⟩ _
        show vK _ _ _
        refine vk_i (ld36 hb1) ?_
        refine call_i (c16 mv1 hl) ?_
        rintro x g2 ⟨p2, mx⟩
        with_reducible (refine mv_i ?_)
        refine call_r (c17 (sp1.mono (Sub.of_pre p2)) hf) ?_
        have q3 := (own_only g2 (xs := pr) (by omega)).self
        have p3 := ownH_pre g2 pr
        generalize ownV g2 pr = v3 at q3 ⊢
        generalize ownH g2 pr = g3 at q3 p3 ⊢
        refine call_i (c34 (mx.mono (Sub.of_pre p3)) q3) ?_
        rintro y g4 ⟨p4, hy⟩
        have pz := p2.trans (p3.trans p4)
        have hb4 := (Sub.of_pre pz).2 _ _ hb1
        have ss4 := ss.mono (Sub.of_pre pz)
        have sp4 := sp1.mono (Sub.of_pre pz)
        have pall := p1.trans pz
        by_cases he : orOf [(mErr m).2, prErr m pr] = 0
        · rw [if_neg (by simp [he])] at hy
          obtain ⟨B, x1, x2, best, rfl, r1, r2⟩ := hy
          rw [or2] at he
          have he1 : (mErr m).2 = 0 := by
            by_cases q : (mErr m).2 = 0
            · exact q
            · rw [if_neg q] at he; exact he
          rw [or2, if_pos he1] at *
          have r := right_of he1
          with_reducible (refine mv_i ?_; refine ex3_0 ?_; refine ex3_1 ?_; refine ex3_2 ?_; refine mv_i ?_; refine mv_i ?_; refine mv_i ?_; refine mv_i ?_)
          refine neq_i (fun _ => ?_) (fun hc => absurd he hc)
          with_reducible (refine cnd_f ?_)
          refine vk_i (ld36 hb4) ?_
          with_reducible (refine mv_i ?_)
          refine call_i (c35 (macv_of ss4) r sp4 he) ?_
          rintro _ g5 ⟨p5, B', y1, y2, best', rfl, q1, q2⟩
          have eB : B' = B := funext fun s => best'.uniq best s
          subst eB
          with_reducible (refine mv_i ?_; refine ex2_0 ?_; refine ex2_1 ?_; refine mv_i ?_; refine mv_i ?_; refine mv_i ?_)
          refine eql_i (fun _ => ?_) (fun hc => absurd rfl hc)
          with_reducible (refine mv_i ?_; refine gd_tt ?_; refine mv_i ?_; refine gd_tt ?_; refine mv_i ?_; refine gd_tt ?_)
          refine call_r (c36 (r1.mono (Sub.of_pre p5)) q1) ?_
          rw [decide_eq_true rfl]
          with_reducible (refine pick_t ?_; refine mv_i ?_; refine gd_tt ?_; refine mv_i ?_; refine gd_tt ?_; refine mv_i ?_; refine gd_tt ?_)
          refine call_r (c23 (r2.mono (Sub.of_pre p5)) q2) ?_
          rw [decide_eq_true rfl]
          with_reducible (refine pick_t ?_; refine mv_i ?_; refine ret1 ?_)
          exact ⟨rfl, pall.trans p5⟩
        · rw [if_pos he] at hy
          subst hy
          with_reducible (refine mv_i ?_; refine ex3_0 ?_; refine ex3_1 ?_; refine ex3_2 ?_; refine mv_i ?_; refine mv_i ?_; refine mv_i ?_; refine mv_i ?_)
          refine neq_i (fun hc => absurd hc he) (fun _ => ?_)
          with_reducible (refine cnd_t ?_; refine mv_i ?_; refine mv_i ?_)
          refine eql_i (fun _ => ?_) (fun hc => absurd rfl hc)
          with_reducible (refine mv_i ?_; refine gd_tt ?_; refine mv_i ?_; refine gd_tt ?_)
          refine lennilr ?_
          with_reducible (refine gd_tt ?_; refine mv_i ?_; refine gd_tt ?_)
          refine lennil t23 ?_
          with_reducible (refine gd_tt ?_)
          refine add_i ⟨by omega, by omega⟩ ?_
          with_reducible (refine gd_tt ?_)
          refine eql_i (fun _ => ?_) (fun hc => absurd rfl hc)
          with_reducible (refine pick_t ?_; refine mv_i ?_; refine ret1 ?_)
          exact ⟨rfl, pall⟩
      intro k' hk'
      with_reducible (refine mv_i ?_)
      refine eql_i (fun _ => ?_) (fun hc => absurd h1 hc)
      with_reducible (refine cnd_t ?_)
      refine vk_i (ld36 hb1) ?_
      with_reducible (refine mv_i ?_)
      refine call_r (c19 mv1 sp1) ?_
      with_reducible (refine mv_i ?_)
      refine hk' _ _ ⟨rfl, by rw [or2, if_pos h1]⟩
  · with_reducible (refine mv_i ?_; refine gd_ft ?_; refine gd_ft ?_; refine gd_ft ?_; refine pick_f ?_; refine cnd_f ?_)
    refine seq_J (fun xs h8 => g1 = h8 ∧ xs = [.int .i64 (orOf [(mErr m).2, prErr m pr])]) ?_ ?_
    · rintro _ _ ⟨rfl, rfl⟩ _
      show vK _ _ _
      refine vk_i (ld36 hb1) ?_
      refine call_i (c16 mv1 hl) ?_
      rintro x g2 ⟨p2, mx⟩
      with_reducible (refine mv_i ?_)
      refine call_r (c17 (sp1.mono (Sub.of_pre p2)) hf) ?_
      have q3 := (own_only g2 (xs := pr) (by omega)).self
      have p3 := ownH_pre g2 pr
      generalize ownV g2 pr = v3 at q3 ⊢
      generalize ownH g2 pr = g3 at q3 p3 ⊢
      refine call_i (c34 (mx.mono (Sub.of_pre p3)) q3) ?_
      rintro y g4 ⟨p4, hy⟩
      have pz := p2.trans (p3.trans p4)
      have hb4 := (Sub.of_pre pz).2 _ _ hb1
      have ss4 := ss.mono (Sub.of_pre pz)
      have sp4 := sp1.mono (Sub.of_pre pz)
      have pall := p1.trans pz
      by_cases he : orOf [(mErr m).2, prErr m pr] = 0
      · rw [if_neg (by simp [he])] at hy
        obtain ⟨B, x1, x2, best, rfl, r1, r2⟩ := hy
        rw [or2] at he
        have he1 : (mErr m).2 = 0 := by
          by_cases q : (mErr m).2 = 0
          · exact q
          · rw [if_neg q] at he; exact he
        rw [or2, if_pos he1] at *
        have r := right_of he1
        with_reducible (refine mv_i ?_; refine ex3_0 ?_; refine ex3_1 ?_; refine ex3_2 ?_; refine mv_i ?_; refine mv_i ?_; refine mv_i ?_; refine mv_i ?_)
        refine neq_i (fun _ => ?_) (fun hc => absurd he hc)
        with_reducible (refine cnd_f ?_)
        refine vk_i (ld36 hb4) ?_
        with_reducible (refine mv_i ?_)
        refine call_i (c35 (macv_of ss4) r sp4 he) ?_
        rintro _ g5 ⟨p5, B', y1, y2, best', rfl, q1, q2⟩
        have eB : B' = B := funext fun s => best'.uniq best s
        subst eB
        with_reducible (refine mv_i ?_; refine ex2_0 ?_; refine ex2_1 ?_; refine mv_i ?_; refine mv_i ?_; refine mv_i ?_)
        refine eql_i (fun _ => ?_) (fun hc => absurd rfl hc)
        with_reducible (refine mv_i ?_; refine gd_tt ?_; refine mv_i ?_; refine gd_tt ?_; refine mv_i ?_; refine gd_tt ?_)
        refine call_r (c36 (r1.mono (Sub.of_pre p5)) q1) ?_
        rw [decide_eq_true rfl]
        with_reducible (refine pick_t ?_; refine mv_i ?_; refine gd_tt ?_; refine mv_i ?_; refine gd_tt ?_; refine mv_i ?_; refine gd_tt ?_)
        refine call_r (c23 (r2.mono (Sub.of_pre p5)) q2) ?_
        rw [decide_eq_true rfl]
        with_reducible (refine pick_t ?_; refine mv_i ?_; refine ret1 ?_)
        exact ⟨rfl, pall.trans p5⟩
      · rw [if_pos he] at hy
        subst hy
        with_reducible (refine mv_i ?_; refine ex3_0 ?_; refine ex3_1 ?_; refine ex3_2 ?_; refine mv_i ?_; refine mv_i ?_; refine mv_i ?_; refine mv_i ?_)
        refine neq_i (fun hc => absurd hc he) (fun _ => ?_)
        with_reducible (refine cnd_t ?_; refine mv_i ?_; refine mv_i ?_)
        refine eql_i (fun _ => ?_) (fun hc => absurd rfl hc)
        with_reducible (refine mv_i ?_; refine gd_tt ?_; refine mv_i ?_; refine gd_tt ?_)
        refine lennilr ?_
        with_reducible (refine gd_tt ?_; refine mv_i ?_; refine gd_tt ?_)
        refine lennil t23 ?_
        with_reducible (refine gd_tt ?_)
        refine add_i ⟨by omega, by omega⟩ ?_
        with_reducible (refine gd_tt ?_)
        refine eql_i (fun _ => ?_) (fun hc => absurd rfl hc)
        with_reducible (refine pick_t ?_; refine mv_i ?_; refine ret1 ?_)
        exact ⟨rfl, pall⟩
    intro k' hk'
    with_reducible (refine mv_i ?_)
    refine eql_i (fun hc => absurd hc h1) (fun _ => ?_)
    with_reducible (refine cnd_f ?_)
    refine hk' _ _ ⟨rfl, by rw [or2, if_neg h1]⟩
end Go.Proofs.Ytdjoednhfoligaa
