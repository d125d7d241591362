import Derived.Test.YtdjoednhfoligaaPb
import Derived.Test.YtdjoednhfoligaaAmW
import Derived.Test.YtdjoednhfoligaaProg
import Derived.KernelRfl
import Derived.Test.YtdjoednhfoligaaAmYe
set_option linter.unusedSimpArgs false
set_option linter.unusedVariables false
set_option maxRecDepth 100000
namespace Go.Proofs.Ytdjoednhfoligaa
open Go.AM
variable {h h' h0 h1 : Heap} {K : Value → Heap → Prop} {m : Mac}
variable {N : Nat → Option Nat} {C : Nat → List Value}

theorem inR_idx {z n : Int} (hn : 0 ≤ n) (hl : n ≤ 2 ^ 40) (hz : inR z 0 (pm n) = true) : 0 ≤ z ∧ z < n := by
  by_cases q : n = 0
  · subst q
    have e : pm 0 = -1 := by decide
    rw [e] at hz
    unfold inR at hz
    simp only [decide_eq_true_eq] at hz
    omega
  · rw [pm_eq (by omega) hl] at hz
    unfold inR at hz
    simp only [decide_eq_true_eq] at hz
    omega
/-- The answer about a step. -/
noncomputable def aftL (m : Mac) (step : Int) : List Int := if (rchB m m.start).getD (m.steps.getD step.toNat dst).fr.toNat false = true then leav m (rchB m (m.steps.getD step.toNat dst).to) else []
def stepE (m : Mac) (step : Int) : Int := orOf [(mErr m).2, if inR step 0 (pm m.steps.length) then 0 else 3]
theorem c21 {a : Value} {step : Int} (s : MacV h a m) :
    DetP Try.prog 21 [a, .int .i64 step] h fun v h' => h <+: h' ∧ if stepE m step ≠ 0 then v = .tuple #[.slice none 0 0, .int .i64 (stepE m step)] else ∃ x, v = .tuple #[x, .int .i64 0] ∧ Only h h' fun g => IntS g x (aftL m step) := by
  refine w21 ?_
  unfold n21
  obtain ⟨o, l, c, rfl, ss0⟩ := s
  rw [box36]
  refine ok_i rfl ?_
  have p1 := pre_new h [.int .i64 m.states, .int .i64 m.inputs, .int .i64 m.outputs, .int .i64 m.start, .slice o l c] 5
  have hb1 := newArr_get h [.int .i64 m.states, .int .i64 m.inputs, .int .i64 m.outputs, .int .i64 m.start, .slice o l c] 5
  have ss := ss0.mono (Sub.of_pre p1)
  generalize hg1 : newArr h [.int .i64 m.states, .int .i64 m.inputs, .int .i64 m.outputs, .int .i64 m.start, .slice o l c] 5 = g1 at p1 hb1 ss ⊢
  have mv1 : MacV g1 (.agg #[.int .i64 m.states, .int .i64 m.inputs, .int .i64 m.outputs, .int .i64 m.start, .slice o l c]) m := macv_of ss
  with_reducible (refine mv_i ?_; refine mv_i ?_)
  refine vk_i (ld36 hb1) ?_
  refine ⟨vb_mac ss, ?_⟩
  refine calld_r (c51 mv1) ⟨⟨[], by simp⟩, ?_⟩
  with_reducible (refine mv_i ?_; refine vk_i (fa36_4 _) ?_; refine ld5_4 r34 (by assumption) ?_; refine ⟨VB_of_steps (by assumption), ?_⟩; refine lenst t34 (by assumption) ?_)
  refine subw_i ?_
  refine calld_r (c59 _ _ _) ⟨⟨[], by simp⟩, ?_⟩
  refine calld_r (c61 _ _) ⟨⟨[], by simp⟩, ?_⟩
  refine ok_i (bs94_2 _ _ _) ?_
  have p2 := pre_new g1 [.int .i64 (mErr m).2, .int .i64 (if inR step 0 (pm m.steps.length) = true then 0 else 3)] 1
  have sx : IntS (newArr g1 [.int .i64 (mErr m).2, .int .i64 (if inR step 0 (pm m.steps.length) = true then 0 else 3)] 1) (.slice (some ⟨g1.length, 0, none⟩) 2 3) [(mErr m).2, if inR step 0 (pm m.steps.length) = true then 0 else 3] := Seg.new 3 (by rfl) (by simp)
  generalize newArr g1 [.int .i64 (mErr m).2, .int .i64 (if inR step 0 (pm m.steps.length) = true then 0 else 3)] 1 = g2 at p2 sx ⊢
  refine calld_r (c50 sx) ⟨⟨[], by simp⟩, ?_⟩
  have he : orOf [(mErr m).2, if inR step 0 (pm m.steps.length) = true then 0 else 3] = stepE m step := rfl
  rw [he]
  have hed : stepE m step = 0 → (mErr m).2 = 0 ∧ inR step 0 (pm m.steps.length) = true := by
    intro hz
    unfold stepE at hz
    rw [or2] at hz
    split at hz
    · rename_i h1
      split at hz
      · rename_i h2; exact ⟨h1, h2⟩
      · cases hz
    · exact absurd hz (by assumption)
  generalize stepE m step = e at hed
  with_reducible (refine mv_i ?_; refine mv_i ?_)
  refine neq_i (fun hz => ?_) (fun hz => ?_)
  · obtain ⟨he1, he2⟩ := hed hz
    have r := right_of he1
    obtain ⟨b1, b2, b3, b4, b5, b6⟩ := r.bounds
    have hfew := r.few
    have hsl : m.steps.length ≤ 320 := by
      have : m.states * m.inputs ≤ 40 * 8 := Int.mul_le_mul b2 b4 (by omega) (by omega)
      omega
    obtain ⟨hs0, hs1⟩ := inR_idx (by omega) (by omega) he2
    have hb2 := (Sub.of_pre p2).2 _ _ hb1
    with_reducible (refine cnd_f ?_)
    refine vk_i (ld36 hb2) ?_
    refine call_i (c54 (mv1.mono (Sub.of_pre p2)) r) ?_
    rintro _ g3 ⟨p3, gi, st, by_, fr, rfl, sst, og⟩
    have gr : Graph gi g3 m st by_ fr := og.self (sst.mono (Sub.of_pre p3))
    have hb3 := (Sub.of_pre p3).2 _ _ hb2
    have ss3 := ss.mono (Sub.of_pre (p2.trans p3))
    with_reducible (refine mv_i ?_; refine mv_i ?_; refine mv_i ?_; refine nil_i ?_; refine vk_i (fa92_0 _) ?_; refine vk_i (fa36_3 _) ?_; refine ldgr r3 (by assumption) rfl ?_; refine ⟨vbi _ _, ?_⟩)
    refine calld_i (c64 gr r b5 b6) ?_
    rintro v g4 ⟨p4, q4⟩
    refine ⟨p4.imp fun t ht => ht.symm, ?_⟩
    have hb4 := (Sub.of_pre p4).2 _ _ hb3
    have ss4 := ss3.mono (Sub.of_pre p4)
    have sb := q4.self
    have hlb := rchB_len (m := m) m.start
    have hst := r.st (show step.toNat < m.steps.length by omega)
    with_reducible (refine vk_i (fa36_4 _) ?_; refine ld5_4 r34 (by assumption) ?_; refine ⟨VB_of_steps (by assumption), ?_⟩; refine mv_i ?_; refine idxzst t34 (by assumption) (by omega) (by omega) ?_; refine fae_i st63 (by assumption) (by omega) (by omega) ?_; refine ldfr dst st63 (by assumption) (by omega) ?_; refine ⟨vbi _ _, ?_⟩; refine idxzb t48 (by assumption) (by omega) (by omega) ?_; refine ldb_i t48 r4 (by assumption) (by omega) ?_; refine ⟨vbb _ _, ?_⟩)
    rcases hb : (rchB m m.start).getD (m.steps.getD step.toNat dst).fr.toNat false with _ | _
    · with_reducible (refine not_f ?_; refine cnd_t ?_; refine mv_i ?_; refine mv_i ?_; refine ret2 ?_)
      refine ⟨p1.trans (p2.trans (p3.trans p4)), ?_⟩
      rw [if_neg (by simp [hz])]
      refine ⟨_, rfl, fun g _ => ?_⟩
      unfold aftL
      rw [hb, if_neg (by simp)]
      exact Seg.nil _ _
    · with_reducible (refine not_t ?_; refine cnd_f ?_; refine mv_i ?_; refine mv_i ?_; refine vk_i (fa36_4 _) ?_; refine ld5_4 r34 (by assumption) ?_; refine mv_i ?_; refine idxzst t34 (by assumption) (by omega) (by omega) ?_; refine fae_i st63 (by assumption) (by omega) (by omega) ?_; refine ldto dst st63 (by assumption) (by omega) ?_)
      refine call_i (c64 (gr.mono (Sub.of_pre p4)) r hst.2.2.1 hst.2.2.2.1) ?_
      rintro w g5 ⟨p5, q5⟩
      refine call_i (c65 (gr.mono (Sub.of_pre (p4.trans p5))) r q5.self (rchB_len _)) ?_
      rintro z g6 ⟨p6, q6⟩
      with_reducible (refine mv_i ?_; refine mv_i ?_; refine ret2 ?_)
      refine ⟨p1.trans (p2.trans (p3.trans (p4.trans (p5.trans p6)))), ?_⟩
      rw [if_neg (by simp [hz])]
      refine ⟨_, rfl, ?_⟩
      unfold aftL
      rw [hb, if_pos rfl]
      exact Only.from (p1.trans (p2.trans (p3.trans (p4.trans p5)))) q6
  · with_reducible (refine cnd_t ?_; refine mv_i ?_; refine mv_i ?_; refine mv_i ?_; refine ret2 ?_)
    exact ⟨p1.trans p2, by rw [if_pos hz]⟩
/-- States found so far: those reached from one, in a list. -/
theorem c24 {a : Value} {step : Int} (s : MacV h a m) (r : Right m) (hs0 : 0 ≤ step) (hs1 : step < m.steps.length) :
    DetP Try.prog 24 [a, .int .i64 step] h fun v h' => h <+: h' ∧ Only h h' fun g => IntS g v (aftL m step) := by
  obtain ⟨b1, b2, b3, b4, b5, b6⟩ := r.bounds
  have hfew := r.few
  have hsl : m.steps.length ≤ 320 := by
    have : m.states * m.inputs ≤ 40 * 8 := Int.mul_le_mul b2 b4 (by omega) (by omega)
    omega
  refine w24 ?_
  unfold n24
  obtain ⟨o, l, c, rfl, ss0⟩ := s
  rw [box36]
  refine ok_i rfl ?_
  have p1 := pre_new h [.int .i64 m.states, .int .i64 m.inputs, .int .i64 m.outputs, .int .i64 m.start, .slice o l c] 5
  have hb1 := newArr_get h [.int .i64 m.states, .int .i64 m.inputs, .int .i64 m.outputs, .int .i64 m.start, .slice o l c] 5
  have ss := ss0.mono (Sub.of_pre p1)
  generalize hg1 : newArr h [.int .i64 m.states, .int .i64 m.inputs, .int .i64 m.outputs, .int .i64 m.start, .slice o l c] 5 = g1 at p1 hb1 ss ⊢
  have mv1 : MacV g1 (.agg #[.int .i64 m.states, .int .i64 m.inputs, .int .i64 m.outputs, .int .i64 m.start, .slice o l c]) m := macv_of ss
  with_reducible (refine mv_i ?_)
  refine vk_i (ld36 hb1) ?_
  refine call_i (c26 mv1 r) ?_
  rintro _ g2 ⟨p2, x, y, rfl, q2⟩
  have hb2 := (Sub.of_pre p2).2 _ _ hb1
  have ss2 := ss.mono (Sub.of_pre p2)
  have sy := q2.self.2
  have hst := r.st (show step.toNat < m.steps.length by omega)
  have hml : ((List.range m.steps.length).map fun k => (rchB m m.start).getD (m.steps.getD k dst).fr.toNat false).length = m.steps.length := by simp
  have hmg : ((List.range m.steps.length).map fun k => (rchB m m.start).getD (m.steps.getD k dst).fr.toNat false).getD step.toNat false = (rchB m m.start).getD (m.steps.getD step.toNat dst).fr.toNat false := by
    simp [List.getD, show step.toNat < m.steps.length by omega]
  with_reducible (refine mv_i ?_; refine ex2_0 ?_; refine ex2_1 ?_; refine mv_i ?_; refine mv_i ?_; refine mv_i ?_; refine mv_i ?_; refine idxzb t48 (by assumption) (by omega) (by omega) ?_; refine ldb_i t48 r4 (by assumption) (by omega) ?_)
  rw [hmg]
  unfold aftL
  rcases hb : (rchB m m.start).getD (m.steps.getD step.toNat dst).fr.toNat false with _ | _
  · with_reducible (refine not_f ?_; refine cnd_t ?_; refine mv_i ?_; refine ret1 ?_)
    exact ⟨p1.trans p2, fun g _ => Seg.nil _ _⟩
  · rw [if_pos rfl]
    generalize hz : (m.steps.getD step.toNat dst).to = f at hst
    obtain ⟨_, _, f0, f1, _, _⟩ := hst
    have hfto : ∀ K : Value → Heap → Prop, K (.int .i64 f) g2 → K (.int .i64 (m.steps.getD step.toNat dst).to) g2 := fun K hk => by rw [hz]; exact hk
    with_reducible (refine not_t ?_; refine cnd_f ?_; refine vk_i (fa36_4 _) ?_; refine ld5_4 r34 (by assumption) ?_; refine mv_i ?_; refine idxzst t34 (by assumption) (by omega) (by omega) ?_; refine fae_i st63 (by assumption) (by omega) (by omega) ?_; refine ldto dst st63 (by assumption) (by omega) ?_)
    rw [hz]
    refine ok_i (bs23_1 _ _) ?_
    have o0 := (Owns.start (fun _ => []) oneE (List.prefix_refl g2)).add 0 [.int .i64 f] 1 rfl
    have l0 : LS (upN (fun _ => none) 0 (some g2.length)) (upN (fun _ => []) 0 [Value.int .i64 f]) 0 (.slice (some ⟨g2.length, 0, none⟩) 1 2) ([f].map (.int .i64)) := by
      have := LS.whole (N := upN (fun _ => none) 0 (some g2.length)) (C := upN (fun _ => []) 0 [Value.int .i64 f]) (c := 2) (l := 0) (k := 1) (upN_self _ _ _) (by rw [upN_self]; rfl)
      rw [upN_self] at this
      exact this
    generalize upN (fun _ => []) 0 [Value.int .i64 f] = C0 at o0 l0
    generalize upN (fun _ => none) 0 (some g2.length) = N0 at o0 l0
    generalize (Value.slice (some ⟨g2.length, 0, none⟩) 1 2) = ov at l0 ⊢
    generalize newArr g2 [.int .i64 f] 1 = g3 at o0 ⊢
    with_reducible (refine mv_i ?_; refine mv_i ?_)
    refine loop2 m.states.toNat (fun i v h2 => ∃ N C, ∃ q : List Int, Owns g2 h2 N C oneE ∧ LS N C 0 v (q.map (.int .i64)) ∧ q.Nodup ∧ (∀ x ∈ q, 0 ≤ x ∧ x < m.states ∧ Rch m.steps f x) ∧ f ∈ q ∧ i ≤ q.length ∧ q.length ≤ m.states.toNat ∧ ∀ j, j < i → ∀ k, k < m.steps.length → (m.steps.getD k dst).fr = q.getD j 0 → (m.steps.getD k dst).to ∈ q)
      ⟨N0, C0, [f], o0, l0, by simp, fun x hx => by rw [List.mem_singleton] at hx; subst hx; exact ⟨f0, f1, .refl⟩, by simp, Nat.zero_le _, by simp; omega, fun j hj => by omega⟩ ?_
    rintro i v h3 _ hi ⟨N, C, q, o1, l1, nd, hq, hfq, hiq, hql, dn⟩
    have si := l1.ints o1 rfl (by omega)
    with_reducible (refine mv_i ?_; refine mv_i ?_; refine leni_i t23 (by assumption) ?_)
    refine lss_i (fun hlt => ?_) (fun hge => ?_)
    · have hiq2 : i < q.length := by omega
      obtain ⟨x0, x1, xr⟩ := hq _ (gd_mem 0 hiq2)
      generalize hx : q.getD i 0 = x at x0 x1 xr
      with_reducible (refine cnd_t ?_; refine mv_i ?_)
      refine loop2 m.steps.length (fun n v h2 => ∃ N C, ∃ q : List Int, Owns g2 h2 N C oneE ∧ LS N C 0 v (q.map (.int .i64)) ∧ q.Nodup ∧ (∀ x ∈ q, 0 ≤ x ∧ x < m.states ∧ Rch m.steps f x) ∧ f ∈ q ∧ i < q.length ∧ q.length ≤ m.states.toNat ∧ q.getD i 0 = x ∧ (∀ j, j < i → ∀ k, k < m.steps.length → (m.steps.getD k dst).fr = q.getD j 0 → (m.steps.getD k dst).to ∈ q) ∧ ∀ k, k < n → (m.steps.getD k dst).fr = x → (m.steps.getD k dst).to ∈ q)
        ⟨N, C, q, o1, l1, nd, hq, hfq, hiq2, hql, hx, dn, fun k hk => by omega⟩ ?_
      clear si dn hx hiq2 hlt hql hiq hfq hq nd l1 o1
      rintro n v h4 _ hn ⟨N, C, q, o1, l1, nd, hq, hfq, hiq, hql, hx, dn, dx⟩
      have si := l1.ints o1 rfl (by omega)
      have hb4 := o1.sub.2 _ _ hb2
      have ss4 := ss2.mono o1.sub
      with_reducible (refine mv_i ?_; refine vk_i (fa36_4 _) ?_; refine ld5_4 r34 (by assumption) ?_; refine lenst t34 (by assumption) ?_)
      refine lss_i (fun hltn => ?_) (fun hge => ?_)
      · have hnl : n < m.steps.length := by omega
        have hst := r.st hnl
        refine cnd_t ?_
        refine seq_J (fun xs h5 => ∃ v, xs = [v] ∧ upI2 (fun n v h2 => ∃ N C, ∃ q : List Int, Owns g2 h2 N C oneE ∧ LS N C 0 v (q.map (.int .i64)) ∧ q.Nodup ∧ (∀ x ∈ q, 0 ≤ x ∧ x < m.states ∧ Rch m.steps f x) ∧ f ∈ q ∧ i < q.length ∧ q.length ≤ m.states.toNat ∧ q.getD i 0 = x ∧ (∀ j, j < i → ∀ k, k < m.steps.length → (m.steps.getD k dst).fr = q.getD j 0 → (m.steps.getD k dst).to ∈ q) ∧ ∀ k, k < n → (m.steps.getD k dst).fr = x → (m.steps.getD k dst).to ∈ q) m.steps.length [v, .int .i64 ((n + 1 : Nat) : Int)] h5) ?_ ?_
        · rintro _ h5 ⟨v, rfl, hv⟩ _
          show mvK _ h5 _
          with_reducible (refine mv_i ?_; refine inc_i (by omega) ?_; refine mv_i ?_)
          exact ⟨hv, by simp only [upμ]; omega⟩
        intro k' hk'
        have hsame : ¬ ((m.steps.getD n dst).fr = x ∧ ¬ (m.steps.getD n dst).to ∈ q) → k' [v] h4 := by
          intro hno
          refine hk' _ _ ⟨v, rfl, n + 1, v, rfl, hnl, N, C, q, o1, l1, nd, hq, hfq, hiq, hql, hx, dn, fun k hk hf => ?_⟩
          by_cases e : k = n
          · subst e
            exact Classical.byContradiction fun hc => hno ⟨hf, hc⟩
          · exact dx k (by omega) hf
        with_reducible (refine vk_i (fa36_4 _) ?_; refine ld5_4 r34 (by assumption) ?_; refine ⟨VB_of_steps (by assumption), ?_⟩; refine mv_i ?_; refine idxst t34 (by assumption) (by omega) ?_; refine fae_i st63 (by assumption) (by omega) (by omega) ?_; refine ldfr dst st63 (by assumption) (by omega) ?_; refine ⟨vbi _ _, ?_⟩; refine mv_i ?_; refine mv_i ?_; refine idxi_i t23 (by assumption) (by omega) ?_; refine ldi_i t23 r3 (by assumption) (by omega) ?_; refine ⟨vbi _ _, ?_⟩)
        rw [hx]
        refine eql_i (fun heq => ?_) (fun hne => ?_)
        · with_reducible (refine mv_i ?_; refine gd_tt ?_; refine mv_i ?_; refine gd_tt ?_; refine vk_i (fa36_4 _) ?_; refine gd_tt ?_; refine ld5_4 r34 (by assumption) ?_; refine ⟨VB_of_steps (by assumption), ?_⟩; refine gd_tt ?_; refine mv_i ?_; refine gd_tt ?_; refine idxst t34 (by assumption) (by omega) ?_; refine gd_tt ?_; refine fae_i st63 (by assumption) (by omega) (by omega) ?_; refine gd_tt ?_; refine ldto dst st63 (by assumption) (by omega) ?_; refine ⟨vbi _ _, ?_⟩; refine gd_tt ?_)
          refine calld_r (c47 si) ⟨⟨[], by simp⟩, ?_⟩
          by_cases hin : (m.steps.getD n dst).to ∈ q
          · rw [decide_eq_true hin]
            with_reducible (refine gd_tt ?_; refine not_t ?_; refine pick_t ?_; refine cnd_f ?_)
            exact hsame fun hc => hc.2 hin
          · rw [decide_eq_false hin]
            have hlen : q.length + 1 ≤ m.states.toNat := by
              have := nodup_sub (q ++ [(m.steps.getD n dst).to]) ((List.range m.states.toNat).map fun s : Nat => (s : Int)) (List.nodup_append.mpr ⟨nd, by simp, fun a ha b hb => by rw [List.mem_singleton] at hb; subst hb; rintro rfl; exact hin ha⟩) fun y hy => by
                have hy2 : 0 ≤ y ∧ y < m.states := by
                  rcases List.mem_append.mp hy with hy | hy
                  · exact ⟨(hq y hy).1, (hq y hy).2.1⟩
                  · rw [List.mem_singleton] at hy; subst hy; exact ⟨hst.2.2.1, hst.2.2.2.1⟩
                exact List.mem_map.mpr ⟨y.toNat, List.mem_range.mpr (by omega), Int.toNat_of_nonneg hy2.1⟩
              simpa using this
            with_reducible (refine gd_tt ?_; refine not_f ?_; refine pick_t ?_; refine cnd_t ?_; refine mv_i ?_; refine vk_i (fa36_4 _) ?_; refine ld5_4 r34 (by assumption) ?_; refine mv_i ?_; refine idxst t34 (by assumption) (by omega) ?_; refine fae_i st63 (by assumption) (by omega) (by omega) ?_; refine ldto dst st63 (by assumption) (by omega) ?_)
            refine ok_i (bs23_1 _ _) ?_
            have o2 := o1.ext (pre_new h4 [.int .i64 (m.steps.getD n dst).to] 1)
            refine lapp t23 o2 l1 rfl (Seg.new (n := 1) 2 (by simp) (by omega)) (by simp [Value.oneCell']) (by omega) (by rw [List.length_map]; omega) fun h6 v6 o3 l3 _ _ _ => ?_
            with_reducible (refine mv_i ?_)
            have hxr : Rch m.steps f (m.steps.getD n dst).to := .step (by rw [heq, ← hx]; exact (hq _ (gd_mem 0 hiq)).2.2) hnl
            refine hk' _ _ ⟨v6, rfl, n + 1, v6, rfl, hnl, _, _, q ++ [(m.steps.getD n dst).to], o3, by simpa using l3, List.nodup_append.mpr ⟨nd, by simp, fun a ha b hb => by rw [List.mem_singleton] at hb; subst hb; rintro rfl; exact hin ha⟩, fun y hy => ?_, by simp [hfq], by simp; omega, by simpa using hlen, ?_, fun j hj k hk hf => ?_, fun k hk hf => ?_⟩
            · rcases List.mem_append.mp hy with hy | hy
              · exact hq y hy
              · rw [List.mem_singleton] at hy; subst hy; exact ⟨hst.2.2.1, hst.2.2.2.1, hxr⟩
            · rw [gd_app hiq]; exact hx
            · rw [gd_app (by omega)] at hf
              exact List.mem_append_left _ (dn j hj k hk hf)
            · by_cases e : k = n
              · subst e; simp
              · exact List.mem_append_left _ (dx k (by omega) hf)
        · with_reducible (refine mv_i ?_; refine gd_ft ?_; refine gd_ft ?_; refine gd_ft ?_; refine gd_ft ?_; refine gd_ft ?_; refine gd_ft ?_; refine gd_ft ?_; refine gd_ft ?_; refine gd_ft ?_; refine pick_f ?_; refine cnd_f ?_)
          exact hsame fun hc => hne hc.1
      · have en : n = m.steps.length := by omega
        subst en
        with_reducible (refine cnd_f ?_; refine mv_i ?_; refine inc_i (by omega) ?_; refine mv_i ?_)
        refine next2 (by omega) ⟨N, C, q, o1, l1, nd, hq, hfq, by omega, hql, fun j hj k hk hf => ?_⟩
        by_cases e : j = i
        · subst e; rw [hx] at hf; exact dx k hk hf
        · exact dn j (by omega) k hk hf
    · have ei : i = q.length := by omega
      have hcl : ∀ z : Int, z ∈ q ↔ Rch m.steps f z := by
        intro z
        refine ⟨fun hz => (hq z hz).2.2, fun hR => ?_⟩
        refine Rch.closed (Q := fun z => z ∈ q) hfq (fun k hk hz => ?_) hR
        obtain ⟨j, hj, he⟩ := mem_gd 0 hz
        exact dn j (by omega) k hk he.symm
      have p3 := o1.pre
      have hb3 := o1.sub.2 _ _ hb2
      have ss3 := ss2.mono o1.sub
      clear dn l1 o1
      have hlv : leav m (rchB m f) = idxs (fun k => decide ((m.steps.getD k dst).fr ∈ q)) m.steps.length := by
        unfold leav
        refine idxs_congr fun k hk => ?_
        have hst := r.st hk
        rw [rchB_at (by omega), Int.toNat_of_nonneg hst.1]
        exact decide_eq_decide.mpr (hcl _).symm
      rw [hlv]
      with_reducible (refine cnd_f ?_; refine mv_i ?_; refine mv_i ?_)
      refine loop2 m.steps.length (fun k v h2 => Own 1 h3 h2 v (idxs (fun k => decide ((m.steps.getD k dst).fr ∈ q)) k).length ((idxs (fun k => decide ((m.steps.getD k dst).fr ∈ q)) k).map (.int .i64))) (Own.nil 1 (List.prefix_refl _)) ?_
      rintro k w h4 _ hk ow
      have hb4 := (Sub.of_pre ow.pre).2 _ _ hb3
      have ss4 := ss3.mono (Sub.of_pre ow.pre)
      have si4 := si.mono (Sub.of_pre ow.pre)
      have hll := idxs_len (fun k => decide ((m.steps.getD k dst).fr ∈ q)) k
      have hsc := idxs_succ (fun k => decide ((m.steps.getD k dst).fr ∈ q)) k
      with_reducible (refine mv_i ?_; refine vk_i (fa36_4 _) ?_; refine ld5_4 r34 (by assumption) ?_; refine lenst t34 (by assumption) ?_)
      refine lss_i (fun hlt => ?_) (fun hge => ?_)
      · have hk2 : k < m.steps.length := by omega
        refine cnd_t ?_
        refine seq_J (fun xs h4 => ∃ v, xs = [v] ∧ Own 1 h3 h4 v (idxs (fun k => decide ((m.steps.getD k dst).fr ∈ q)) (k + 1)).length ((idxs (fun k => decide ((m.steps.getD k dst).fr ∈ q)) (k + 1)).map (.int .i64))) ?_ ?_
        · rintro _ h4 ⟨v, rfl, ow⟩ _
          show mvK _ h4 _
          with_reducible (refine mv_i ?_; refine inc_i (by omega) ?_; refine mv_i ?_)
          exact next2 hk2 ow
        intro k' hk'
        with_reducible (refine mv_i ?_; refine vk_i (fa36_4 _) ?_; refine ld5_4 r34 (by assumption) ?_; refine mv_i ?_; refine idxst t34 (by assumption) (by omega) ?_; refine fae_i st63 (by assumption) (by omega) (by omega) ?_; refine ldfr dst st63 (by assumption) (by omega) ?_)
        refine call_r (c47 si4) ?_
        by_cases hb : (m.steps.getD k dst).fr ∈ q
        · rw [decide_eq_true hb]
          rw [if_pos (decide_eq_true hb)] at hsc
          with_reducible (refine cnd_t ?_; refine mv_i ?_; refine mv_i ?_)
          refine ok_i (bs23_1 _ _) ?_
          obtain ⟨o4, _⟩ := ow.ext (pre_new h4 [.int .i64 (k : Int)] 1)
          refine app_i t23 o4 (Seg.new (n := 1) 2 (by simp) (by omega)) (by simp [Value.oneCell']) (by omega) ⟨by omega, by omega⟩ fun v' h' o5 _ => ?_
          with_reducible (refine mv_i ?_)
          exact hk' _ _ ⟨v', rfl, by rw [hsc]; simpa using o5⟩
        · rw [decide_eq_false hb]
          rw [if_neg (by rw [decide_eq_false hb]; simp)] at hsc
          with_reducible (refine cnd_f ?_)
          exact hk' _ _ ⟨w, rfl, by rw [hsc]; exact ow⟩
      · have ek : k = m.steps.length := by omega
        subst ek
        with_reducible (refine cnd_f ?_; refine mv_i ?_; refine mv_i ?_; refine ret1 ?_)
        exact ⟨p1.trans (p2.trans (p3.trans ow.pre)), Only.from (p1.trans (p2.trans p3)) ow.only⟩
end Go.Proofs.Ytdjoednhfoligaa

set_option linter.unusedSimpArgs false
set_option linter.unusedVariables false
set_option maxRecDepth 100000
namespace Go.Proofs.Ytdjoednhfoligaa
open Go.AM
variable {h h' h0 h1 : Heap} {K : Value → Heap → Prop} {m : Mac}

theorem lennil {t e by_ : Nat} (ht : sliceT Try.prog t e 1 by_ = true) (hk : K (.int .i64 0) h) : vK (aLen Try.prog t (.slice none 0 0)) h K := leni_i (h1 := h) (xs := []) ht (Seg.nil _ _) hk
theorem c4 {a : Value} {step : Int} (s : MacV h a m) (hl : m.steps.length ≤ 2 ^ 40) : Runs Try.prog 4 [a, .int .i64 step] h (.bool true) h := by
  refine DetP.forget rfl ?_
  refine w4 ?_
  unfold n4
  obtain ⟨o, l, c, rfl, ss0⟩ := s
  rw [box36]
  refine ok_i rfl ?_
  have p1 := pre_new h [.int .i64 m.states, .int .i64 m.inputs, .int .i64 m.outputs, .int .i64 m.start, .slice o l c] 5
  have hb1 := newArr_get h [.int .i64 m.states, .int .i64 m.inputs, .int .i64 m.outputs, .int .i64 m.start, .slice o l c] 5
  have ss := ss0.mono (Sub.of_pre p1)
  generalize hg1 : newArr h [.int .i64 m.states, .int .i64 m.inputs, .int .i64 m.outputs, .int .i64 m.start, .slice o l c] 5 = g1 at p1 hb1 ss ⊢
  have mv1 : MacV g1 (.agg #[.int .i64 m.states, .int .i64 m.inputs, .int .i64 m.outputs, .int .i64 m.start, .slice o l c]) m := macv_of ss
  with_reducible (refine mv_i ?_)
  refine call_r c14 ?_
  with_reducible (refine not_t ?_; refine cnd_f ?_)
  refine vk_i (ld36 hb1) ?_
  refine call_i (c16 mv1 hl) ?_
  rintro x g2 ⟨p2, mx⟩
  have hb2 := (Sub.of_pre p2).2 _ _ hb1
  have ss2 := ss.mono (Sub.of_pre p2)
  with_reducible (refine mv_i ?_)
  refine call_i (c21 mx) ?_
  rintro y g3 ⟨p3, hy⟩
  have hb3 := (Sub.of_pre p3).2 _ _ hb2
  have ss3 := ss2.mono (Sub.of_pre p3)
  by_cases hz : stepE m step = 0
  · have hed : (mErr m).2 = 0 ∧ inR step 0 (pm m.steps.length) = true := by
      unfold stepE at hz
      rw [or2] at hz
      split at hz
      · rename_i h1
        split at hz
        · rename_i h2; exact ⟨h1, h2⟩
        · cases hz
      · exact absurd hz (by assumption)
    obtain ⟨he1, he2⟩ := hed
    have r := right_of he1
    obtain ⟨b1, b2, b3, b4, b5, b6⟩ := r.bounds
    have hfew := r.few
    have hsl : m.steps.length ≤ 320 := by
      have : m.states * m.inputs ≤ 40 * 8 := Int.mul_le_mul b2 b4 (by omega) (by omega)
      omega
    obtain ⟨hs0, hs1⟩ := inR_idx (by omega) (by omega) he2
    rw [if_neg (by simp [hz])] at hy
    obtain ⟨z, rfl, qz⟩ := hy
    have sz := qz.self
    with_reducible (refine mv_i ?_; refine ex2_0 ?_; refine ex2_1 ?_; refine mv_i ?_; refine mv_i ?_)
    refine vk_i (ld36 hb3) ?_
    refine call_r (c18 (macv_of ss3)) ?_
    rw [he1]
    with_reducible (refine mv_i ?_)
    refine seq_J (fun xs h4 => xs = [.int .i64 0] ∧ h4 = g3) ?_ ?_
    · rintro _ _ ⟨rfl, rfl⟩ _
      show mvK _ _ _
      with_reducible (refine mv_i ?_)
      refine neq_i (fun _ => ?_) (fun hc => absurd rfl hc)
      with_reducible (refine cnd_f ?_; refine mv_i ?_)
      refine eql_i (fun _ => ?_) (fun hc => absurd rfl hc)
      with_reducible (refine mv_i ?_; refine gd_tt ?_; refine mv_i ?_; refine gd_tt ?_)
      refine vk_i (ld36 hb3) ?_
      with_reducible (refine gd_tt ?_; refine mv_i ?_; refine gd_tt ?_)
      refine call_i (c24 (macv_of ss3) r hs0 hs1) ?_
      rintro w g4 ⟨p4, q4⟩
      with_reducible (refine gd_tt ?_)
      refine call_r (c23 (sz.mono (Sub.of_pre p4)) q4.self) ?_
      rw [decide_eq_true rfl]
      with_reducible (refine pick_t ?_; refine mv_i ?_; refine ret1 ?_)
      exact ⟨rfl, p1.trans (p2.trans (p3.trans p4))⟩
    intro k' hk'
    with_reducible (refine mv_i ?_)
    refine eql_i (fun _ => ?_) (fun hc => absurd rfl hc)
    with_reducible (refine mv_i ?_; refine gd_tt ?_; refine mv_i ?_; refine gd_tt ?_; refine vk_i (fa36_4 _) ?_; refine gd_tt ?_; refine ld5_4 r34 (by assumption) ?_; refine gd_tt ?_; refine lenst t34 (by assumption) ?_; refine gd_tt ?_)
    refine subw_i ?_
    with_reducible (refine gd_tt ?_)
    refine call_r (c22 _ _ _) ?_
    rw [he2]
    with_reducible (refine gd_tt ?_; refine not_t ?_; refine pick_t ?_; refine cnd_f ?_)
    exact hk' _ _ ⟨rfl, rfl⟩
  · rw [if_pos hz] at hy
    subst hy
    have hsE : stepE m step = if (mErr m).2 = 0 then (if inR step 0 (pm m.steps.length) then 0 else 3) else (mErr m).2 := by unfold stepE; rw [or2]
    with_reducible (refine mv_i ?_; refine ex2_0 ?_; refine ex2_1 ?_; refine mv_i ?_; refine mv_i ?_)
    refine vk_i (ld36 hb3) ?_
    refine call_r (c18 (macv_of ss3)) ?_
    with_reducible (refine mv_i ?_)
    refine seq_J (fun xs h4 => xs = [.int .i64 (stepE m step)] ∧ h4 = g3) ?_ ?_
    · rintro _ _ ⟨rfl, rfl⟩ _
      show mvK _ _ _
      with_reducible (refine mv_i ?_)
      refine neq_i (fun hc => absurd hc hz) (fun _ => ?_)
      with_reducible (refine cnd_t ?_; refine mv_i ?_; refine mv_i ?_)
      refine eql_i (fun _ => ?_) (fun hc => absurd rfl hc)
      with_reducible (refine mv_i ?_; refine gd_tt ?_; refine mv_i ?_; refine gd_tt ?_)
      refine lennil t23 ?_
      with_reducible (refine gd_tt ?_)
      refine eql_i (fun _ => ?_) (fun hc => absurd rfl hc)
      with_reducible (refine pick_t ?_; refine mv_i ?_; refine ret1 ?_)
      exact ⟨rfl, p1.trans (p2.trans p3)⟩
    intro k' hk'
    with_reducible (refine mv_i ?_)
    refine eql_i (fun he1 => ?_) (fun he1 => ?_)
    · rw [if_pos he1] at hsE
      with_reducible (refine mv_i ?_; refine gd_tt ?_; refine mv_i ?_; refine gd_tt ?_; refine vk_i (fa36_4 _) ?_; refine gd_tt ?_; refine ld5_4 r34 (by assumption) ?_; refine gd_tt ?_; refine lenst t34 (by assumption) ?_; refine gd_tt ?_)
      refine subw_i ?_
      with_reducible (refine gd_tt ?_)
      refine call_r (c22 _ _ _) ?_
      cases he2 : inR step 0 (pm m.steps.length) with
      | true => rw [he2, if_pos rfl] at hsE; exact absurd hsE hz
      | false =>
        rw [he2, if_neg (by simp)] at hsE
        with_reducible (refine gd_tt ?_; refine not_f ?_; refine pick_t ?_; refine cnd_t ?_; refine mv_i ?_)
        refine hk' _ _ ⟨by rw [hsE], rfl⟩
    · rw [if_neg he1] at hsE
      with_reducible (refine mv_i ?_; refine gd_ft ?_; refine gd_ft ?_; refine gd_ft ?_; refine gd_ft ?_; refine gd_ft ?_; refine gd_ft ?_; refine gd_ft ?_; refine pick_f ?_; refine cnd_f ?_)
      refine hk' _ _ ⟨by rw [hsE], rfl⟩
theorem marked_steps : markedL ((List.range m.steps.length).map fun k => (rchB m m.start).getD (m.steps.getD k dst).fr.toNat false) = leav m (rchB m m.start) := by
  unfold markedL leav
  rw [List.length_map, List.length_range]
  refine idxs_congr fun k hk => ?_
  simp [List.getD, hk]
theorem c5 {a b : Value} {ws : List (List Int)} (s : MacV h a m) (sw : RowsS h b ws) (hl : m.steps.length ≤ 2 ^ 40) (hf : Few ws) : Runs Try.prog 5 [a, b] h (.bool true) h := by
  have ltw := sw.lt
  refine DetP.forget rfl ?_
  refine w5 ?_
  unfold n5
  obtain ⟨o, l, c, rfl, ss0⟩ := s
  rw [box36]
  refine ok_i rfl ?_
  have p1 := pre_new h [.int .i64 m.states, .int .i64 m.inputs, .int .i64 m.outputs, .int .i64 m.start, .slice o l c] 5
  have hb1 := newArr_get h [.int .i64 m.states, .int .i64 m.inputs, .int .i64 m.outputs, .int .i64 m.start, .slice o l c] 5
  have ss := ss0.mono (Sub.of_pre p1)
  generalize hg1 : newArr h [.int .i64 m.states, .int .i64 m.inputs, .int .i64 m.outputs, .int .i64 m.start, .slice o l c] 5 = g1 at p1 hb1 ss ⊢
  have mv1 : MacV g1 (.agg #[.int .i64 m.states, .int .i64 m.inputs, .int .i64 m.outputs, .int .i64 m.start, .slice o l c]) m := macv_of ss
  have sw1 := sw.mono (Sub.of_pre p1)
  with_reducible (refine mv_i ?_)
  refine call_r c14 ?_
  with_reducible (refine not_t ?_; refine cnd_f ?_; refine mv_i ?_)
  refine loop1 ws.length (fun k h2 => g1 = h2) rfl ?_
  rintro k _ _ hk rfl
  with_reducible (refine mv_i ?_; refine mv_i ?_; refine lenr_i t22 (by assumption) ?_)
  refine lss_i (fun hlt => ?_) (fun hge => ?_)
  · have hkl : k < ws.length := by omega
    have nx : upI (fun k h2 => g1 = h2) ws.length [.int .i64 ((k + 1 : Nat) : Int)] g1 ∧ upμ ws.length [.int .i64 ((k + 1 : Nat) : Int)] g1 < upμ ws.length [.int .i64 (k : Int)] g1 := next1 hkl rfl
    have fin : Value.bool true = Value.bool true ∧ h <+: g1 := ⟨rfl, p1⟩
    with_reducible (refine cnd_t ?_; refine mv_i ?_; refine lenr_i t22 (by assumption) ?_)
    refine gtr_i (fun h1 => ?_) (fun h1 => ?_)
    · with_reducible (refine mv_i ?_; refine gd_tt ?_; refine mv_i ?_; refine gd_tt ?_; refine lenr_i t22 (by assumption) ?_; refine gd_tt ?_)
      refine leq_i (fun h2 => ?_) (fun h2 => ?_)
      · with_reducible (refine pick_t ?_; refine mv_i ?_; refine gd_tf ?_; refine gd_tf ?_; refine gd_tf ?_; refine gd_tf ?_; refine gd_tf ?_; refine gd_tf ?_; refine gd_tf ?_; refine gd_u ?_; refine gd_u ?_; refine gd_u ?_; refine gd_u ?_; refine gd_u ?_; refine gd_u ?_; refine gd_tf ?_; refine pick_t ?_; refine cnd_t ?_; refine mv_i ?_; refine ret1 ?_)
        exact fin
      · with_reducible (refine pick_t ?_; refine mv_i ?_; refine gd_ff ?_; refine mv_i ?_; refine gd_ff ?_; refine mv_i ?_; refine gd_ff ?_; refine idxr_i t22 (by assumption) (by omega) ?_; refine gd_ff ?_)
        refine ldr_i t22 r23 sw1 (by omega) fun row srow => ?_
        with_reducible (refine gd_ff ?_; refine leni_i t23 (by assumption) ?_; refine gd_ff ?_)
        refine gtr_i (fun h3 => ?_) (fun h3 => ?_)
        · with_reducible (refine gd_ff ?_; refine mv_i ?_; refine gd_tt ?_; refine mv_i ?_; refine gd_tt ?_; refine mv_i ?_; refine gd_tt ?_; refine idxr_i t22 (by assumption) (by omega) ?_; refine gd_tt ?_)
          refine ldr_i t22 r23 sw1 (by omega) fun row srow => ?_
          with_reducible (refine gd_tt ?_; refine leni_i t23 (by assumption) ?_; refine gd_tt ?_)
          refine leq_i (fun h4 => ?_) (fun h4 => ?_) <;> (with_reducible repeat first|refine mv_i ?_|refine cnd_t ?_|refine cnd_f ?_|refine gd_tt ?_|refine gd_ff ?_|refine gd_tf ?_|refine gd_ft ?_|refine gd_u ?_|refine pick_t ?_|refine pick_f ?_|refine not_t ?_|refine not_f ?_|refine nil_i ?_|refine ret1 ?_|refine ret2 ?_|refine ret0 ?_|refine ret3 ?_|refine ex2_0 ?_|refine ex2_1 ?_|refine ex3_0 ?_|refine ex3_1 ?_|refine ex3_2 ?_|refine vk_i (fa36_0 _) ?_|refine vk_i (fa36_1 _) ?_|refine vk_i (fa36_2 _) ?_|refine vk_i (fa36_3 _) ?_|refine vk_i (fa36_4 _) ?_|refine vk_i (fa63_0 _) ?_|refine vk_i (fa63_1 _) ?_|refine vk_i (fa63_2 _) ?_|refine vk_i (fa63_3 _) ?_|refine ld4_0 r3 (by assumption) ?_|refine ld4_1 r3 (by assumption) ?_|refine ld4_2 r3 (by assumption) ?_|refine ld4_3 r3 (by assumption) ?_|refine ld5_0 r3 (by assumption) ?_|refine ld5_1 r3 (by assumption) ?_|refine ld5_2 r3 (by assumption) ?_|refine ld5_3 r3 (by assumption) ?_|refine ld5_4 r34 (by assumption) ?_|refine fae_i st63 (by assumption) (by omega) (by omega) ?_|refine ⟨vbi _ _, ?_⟩|refine leni_i t23 (by assumption) ?_|refine lenr_i t22 (by assumption) ?_|refine lenb_i t48 (by assumption) ?_|refine lenst t34 (by assumption) ?_|refine idxi_i t23 (by assumption) (by omega) ?_|refine idxr_i t22 (by assumption) (by omega) ?_|refine idxb_i t48 (by assumption) (by omega) ?_|refine idxst t34 (by assumption) (by omega) ?_|refine ldi_i t23 r3 (by assumption) (by omega) ?_|refine ldb_i t48 r4 (by assumption) (by omega) ?_|refine idxzi t23 (by assumption) (by omega) (by omega) ?_|refine idxzr t22 (by assumption) (by omega) (by omega) ?_|refine idxzb t48 (by assumption) (by omega) (by omega) ?_|refine idxzst t34 (by assumption) (by omega) (by omega) ?_|refine inc_i (by omega) ?_|refine ldfr dst st63 (by assumption) (by omega) ?_|refine ldinp dst st63 (by assumption) (by omega) ?_|refine ldout dst st63 (by assumption) (by omega) ?_|refine ldto dst st63 (by assumption) (by omega) ?_|refine ⟨vbb _ _, ?_⟩|refine ⟨trivial, ?_⟩|refine ⟨⟨[], (List.append_nil _).symm⟩, ?_⟩|refine vk_i (fa92_0 _) ?_|refine vk_i (fa92_1 _) ?_|refine vk_i (fa92_2 _) ?_|refine ldgr r3 (by assumption) rfl ?_|refine ldgr r45 (by assumption) rfl ?_|refine ldgr r34 (by assumption) rfl ?_|refine ⟨VB_of_seg (by assumption), ?_⟩|refine ⟨VB_of_ints (by assumption), ?_⟩|refine ⟨VB_of_rows (by assumption), ?_⟩|refine ⟨VB_of_steps (by assumption), ?_⟩) <;> first | exact fin | exact nx
        · with_reducible (refine gd_ff ?_; refine mv_i ?_; refine gd_ft ?_; refine gd_ft ?_; refine gd_ft ?_; refine gd_ft ?_; refine gd_ft ?_; refine gd_ft ?_; refine gd_ff ?_; refine pick_f ?_; refine pick_f ?_; refine cnd_f ?_; refine mv_i ?_; refine inc_i (by omega) ?_; refine mv_i ?_)
          exact nx
    · with_reducible (refine mv_i ?_; refine gd_ft ?_; refine gd_ft ?_; refine gd_ft ?_; refine pick_f ?_; refine mv_i ?_; refine gd_ff ?_; refine mv_i ?_; refine gd_ff ?_; refine mv_i ?_; refine gd_ff ?_; refine idxr_i t22 (by assumption) (by omega) ?_; refine gd_ff ?_)
      refine ldr_i t22 r23 sw1 (by omega) fun row srow => ?_
      with_reducible (refine gd_ff ?_; refine leni_i t23 (by assumption) ?_; refine gd_ff ?_)
      refine gtr_i (fun h3 => ?_) (fun h3 => ?_)
      · with_reducible (refine gd_ff ?_; refine mv_i ?_; refine gd_tt ?_; refine mv_i ?_; refine gd_tt ?_; refine mv_i ?_; refine gd_tt ?_; refine idxr_i t22 (by assumption) (by omega) ?_; refine gd_tt ?_)
        refine ldr_i t22 r23 sw1 (by omega) fun row srow => ?_
        with_reducible (refine gd_tt ?_; refine leni_i t23 (by assumption) ?_; refine gd_tt ?_)
        refine leq_i (fun h4 => ?_) (fun h4 => ?_) <;> (with_reducible repeat first|refine mv_i ?_|refine cnd_t ?_|refine cnd_f ?_|refine gd_tt ?_|refine gd_ff ?_|refine gd_tf ?_|refine gd_ft ?_|refine gd_u ?_|refine pick_t ?_|refine pick_f ?_|refine not_t ?_|refine not_f ?_|refine nil_i ?_|refine ret1 ?_|refine ret2 ?_|refine ret0 ?_|refine ret3 ?_|refine ex2_0 ?_|refine ex2_1 ?_|refine ex3_0 ?_|refine ex3_1 ?_|refine ex3_2 ?_|refine vk_i (fa36_0 _) ?_|refine vk_i (fa36_1 _) ?_|refine vk_i (fa36_2 _) ?_|refine vk_i (fa36_3 _) ?_|refine vk_i (fa36_4 _) ?_|refine vk_i (fa63_0 _) ?_|refine vk_i (fa63_1 _) ?_|refine vk_i (fa63_2 _) ?_|refine vk_i (fa63_3 _) ?_|refine ld4_0 r3 (by assumption) ?_|refine ld4_1 r3 (by assumption) ?_|refine ld4_2 r3 (by assumption) ?_|refine ld4_3 r3 (by assumption) ?_|refine ld5_0 r3 (by assumption) ?_|refine ld5_1 r3 (by assumption) ?_|refine ld5_2 r3 (by assumption) ?_|refine ld5_3 r3 (by assumption) ?_|refine ld5_4 r34 (by assumption) ?_|refine fae_i st63 (by assumption) (by omega) (by omega) ?_|refine ⟨vbi _ _, ?_⟩|refine leni_i t23 (by assumption) ?_|refine lenr_i t22 (by assumption) ?_|refine lenb_i t48 (by assumption) ?_|refine lenst t34 (by assumption) ?_|refine idxi_i t23 (by assumption) (by omega) ?_|refine idxr_i t22 (by assumption) (by omega) ?_|refine idxb_i t48 (by assumption) (by omega) ?_|refine idxst t34 (by assumption) (by omega) ?_|refine ldi_i t23 r3 (by assumption) (by omega) ?_|refine ldb_i t48 r4 (by assumption) (by omega) ?_|refine idxzi t23 (by assumption) (by omega) (by omega) ?_|refine idxzr t22 (by assumption) (by omega) (by omega) ?_|refine idxzb t48 (by assumption) (by omega) (by omega) ?_|refine idxzst t34 (by assumption) (by omega) (by omega) ?_|refine inc_i (by omega) ?_|refine ldfr dst st63 (by assumption) (by omega) ?_|refine ldinp dst st63 (by assumption) (by omega) ?_|refine ldout dst st63 (by assumption) (by omega) ?_|refine ldto dst st63 (by assumption) (by omega) ?_|refine ⟨vbb _ _, ?_⟩|refine ⟨trivial, ?_⟩|refine ⟨⟨[], (List.append_nil _).symm⟩, ?_⟩|refine vk_i (fa92_0 _) ?_|refine vk_i (fa92_1 _) ?_|refine vk_i (fa92_2 _) ?_|refine ldgr r3 (by assumption) rfl ?_|refine ldgr r45 (by assumption) rfl ?_|refine ldgr r34 (by assumption) rfl ?_|refine ⟨VB_of_seg (by assumption), ?_⟩|refine ⟨VB_of_ints (by assumption), ?_⟩|refine ⟨VB_of_rows (by assumption), ?_⟩|refine ⟨VB_of_steps (by assumption), ?_⟩) <;> first | exact fin | exact nx
      · with_reducible (refine gd_ff ?_; refine mv_i ?_; refine gd_ft ?_; refine gd_ft ?_; refine gd_ft ?_; refine gd_ft ?_; refine gd_ft ?_; refine gd_ft ?_; refine gd_ff ?_; refine pick_f ?_; refine pick_f ?_; refine cnd_f ?_; refine mv_i ?_; refine inc_i (by omega) ?_; refine mv_i ?_)
        exact nx
  · with_reducible (refine cnd_f ?_)
    refine vk_i (ld36 hb1) ?_
    refine call_r (c18 mv1) ?_
    with_reducible (refine mv_i ?_)
    refine vk_i (ld36 hb1) ?_
    refine call_i (c16 mv1 hl) ?_
    rintro x g2 ⟨p2, mx⟩
    refine call_i (c25 mx) ?_
    rintro y g3 ⟨p3, hy⟩
    have hb3 := (Sub.of_pre (p2.trans p3)).2 _ _ hb1
    have ss3 := ss.mono (Sub.of_pre (p2.trans p3))
    have sw3 := sw1.mono (Sub.of_pre (p2.trans p3))
    have m3 := macv_of (m := m) ss3
    by_cases hz : (mErr m).2 = 0
    · have r := right_of hz
      obtain ⟨b1, b2, b3, b4, b5, b6⟩ := r.bounds
      have hfew := r.few
      have hsl : m.steps.length ≤ 320 := by
        have : m.states * m.inputs ≤ 40 * 8 := Int.mul_le_mul b2 b4 (by omega) (by omega)
        omega
      rw [if_neg (by simp [hz])] at hy
      obtain ⟨z1, z2, rfl, qz⟩ := hy
      rw [hz]
      with_reducible (refine mv_i ?_; refine ex3_0 ?_; refine ex3_1 ?_; refine ex3_2 ?_; refine mv_i ?_; refine mv_i ?_; refine mv_i ?_; refine mv_i ?_; refine mv_i ?_)
      refine neq_i (fun _ => ?_) (fun hc => absurd rfl hc)
      with_reducible (refine mv_i ?_; refine gd_ff ?_; refine mv_i ?_; refine gd_ff ?_)
      refine neq_i (fun _ => ?_) (fun hc => absurd rfl hc)
      with_reducible (refine gd_ff ?_; refine mv_i ?_; refine gd_ft ?_; refine gd_ft ?_; refine gd_ft ?_; refine gd_ft ?_; refine gd_ft ?_; refine gd_ft ?_; refine gd_ff ?_; refine pick_f ?_; refine pick_f ?_; refine cnd_f ?_)
      refine seq_J (fun xs h4 => xs = [.int .i64 (wsE ws m.inputs)] ∧ g3 <+: h4) ?_ ?_
      · rintro _ g4 ⟨rfl, p4⟩ _
        have hb4 := (Sub.of_pre p4).2 _ _ hb3
        have ss4 := ss3.mono (Sub.of_pre p4)
        show vK _ _ _
        refine vk_i (ld36 hb4) ?_
        refine call_i (c16 (macv_of ss4) hl) ?_
        rintro x2 g5 ⟨p5, mx2⟩
        with_reducible (refine mv_i ?_)
        refine call_i (c30 (sw3.mono (Sub.of_pre (p4.trans p5))) hf) ?_
        rintro x3 g6 ⟨p6, sx3, _⟩
        refine call_i (c29 (mx2.mono (Sub.of_pre p6)) sx3) ?_
        rintro x4 g7 ⟨p7, h7⟩
        have hb7 := (Sub.of_pre (p5.trans (p6.trans p7))).2 _ _ hb4
        have ss7 := ss4.mono (Sub.of_pre (p5.trans (p6.trans p7)))
        have sw7 := sw3.mono (Sub.of_pre (p4.trans (p5.trans (p6.trans p7))))
        have pall := p1.trans (p2.trans (p3.trans (p4.trans (p5.trans (p6.trans p7)))))
        rw [hz, or2, if_pos rfl] at h7
        by_cases hw : wsE ws m.inputs = 0
        · rw [if_neg (by simp [hw])] at h7
          obtain ⟨z, rfl, q7⟩ := h7
          with_reducible (refine mv_i ?_; refine ex2_0 ?_; refine ex2_1 ?_; refine mv_i ?_; refine mv_i ?_; refine mv_i ?_)
          refine neq_i (fun _ => ?_) (fun hc => absurd hw hc)
          with_reducible (refine cnd_f ?_; refine mv_i ?_)
          refine eql_i (fun _ => ?_) (fun hc => absurd rfl hc)
          with_reducible (refine mv_i ?_; refine gd_tt ?_; refine mv_i ?_; refine gd_tt ?_)
          refine vk_i (ld36 hb7) ?_
          with_reducible (refine gd_tt ?_; refine mv_i ?_; refine gd_tt ?_)
          refine call_i (c31 (macv_of ss7) r sw7 hw) ?_
          rintro w g8 ⟨p8, q8⟩
          with_reducible (refine gd_tt ?_)
          refine call_r (c23 (q7.self.mono (Sub.of_pre p8)) q8.self) ?_
          rw [decide_eq_true rfl]
          with_reducible (refine pick_t ?_; refine mv_i ?_; refine ret1 ?_)
          exact ⟨rfl, pall.trans p8⟩
        · rw [if_pos hw] at h7
          subst h7
          with_reducible (refine mv_i ?_; refine ex2_0 ?_; refine ex2_1 ?_; refine mv_i ?_; refine mv_i ?_; refine mv_i ?_)
          refine neq_i (fun hc => absurd hc hw) (fun _ => ?_)
          with_reducible (refine cnd_t ?_; refine mv_i ?_; refine mv_i ?_)
          refine eql_i (fun _ => ?_) (fun hc => absurd rfl hc)
          with_reducible (refine mv_i ?_; refine gd_tt ?_; refine mv_i ?_; refine gd_tt ?_)
          refine lennil t23 ?_
          with_reducible (refine gd_tt ?_)
          refine eql_i (fun _ => ?_) (fun hc => absurd rfl hc)
          with_reducible (refine pick_t ?_; refine mv_i ?_; refine ret1 ?_)
          exact ⟨rfl, pall⟩
      intro k' hk'
      with_reducible (refine mv_i ?_)
      refine eql_i (fun _ => ?_) (fun hc => absurd rfl hc)
      with_reducible (refine cnd_t ?_)
      refine vk_i (ld36 hb3) ?_
      refine call_i (c26 m3 r) ?_
      rintro _ g4 ⟨p4, w1, w2, rfl, q4⟩
      have q4s := q4.self
      with_reducible (refine mv_i ?_; refine ex2_0 ?_; refine ex2_1 ?_; refine mv_i ?_; refine mv_i ?_; refine mv_i ?_; refine mv_i ?_)
      refine call_i (c27 q4s.1 (by rw [rchB_len]; omega)) ?_
      rintro w3 g5 ⟨p5, q5⟩
      have qzs := qz.self
      refine call_r (c23 (qzs.1.mono (Sub.of_pre (p4.trans p5))) q5.self) ?_
      rw [decide_eq_true rfl]
      with_reducible (refine not_t ?_; refine mv_i ?_; refine gd_ff ?_; refine mv_i ?_; refine gd_ff ?_; refine mv_i ?_; refine gd_ff ?_)
      refine call_i (c27 (q4s.2.mono (Sub.of_pre p5)) (by simp; omega)) ?_
      rintro w4 g6 ⟨p6, q6⟩
      rw [marked_steps] at q6
      with_reducible (refine gd_ff ?_)
      refine call_r (c23 (qzs.2.mono (Sub.of_pre (p4.trans (p5.trans p6)))) q6.self) ?_
      rw [decide_eq_true rfl]
      with_reducible (refine gd_ff ?_; refine not_t ?_; refine pick_f ?_; refine cnd_f ?_)
      have pz := p4.trans (p5.trans p6)
      have hb6 := (Sub.of_pre pz).2 _ _ hb3
      have ss6 := ss3.mono (Sub.of_pre pz)
      refine vk_i (ld36 hb6) ?_
      with_reducible (refine mv_i ?_)
      refine call_r (c28 (macv_of ss6) (sw3.mono (Sub.of_pre pz))) ?_
      with_reducible (refine mv_i ?_)
      exact hk' _ _ ⟨rfl, pz⟩
    · rw [if_pos hz] at hy
      subst hy
      with_reducible (refine mv_i ?_; refine ex3_0 ?_; refine ex3_1 ?_; refine ex3_2 ?_; refine mv_i ?_; refine mv_i ?_; refine mv_i ?_; refine mv_i ?_; refine mv_i ?_)
      refine neq_i (fun _ => ?_) (fun hc => absurd rfl hc)
      with_reducible (refine mv_i ?_; refine gd_ff ?_; refine mv_i ?_; refine gd_ff ?_)
      refine neq_i (fun hc => absurd hc hz) (fun _ => ?_)
      with_reducible (refine gd_ff ?_; refine mv_i ?_; refine gd_tt ?_; refine mv_i ?_; refine gd_tt ?_)
      refine lennil t23 ?_
      with_reducible (refine gd_tt ?_; refine mv_i ?_; refine gd_tt ?_)
      refine lennil t23 ?_
      with_reducible (refine gd_tt ?_)
      refine add_i ⟨by omega, by omega⟩ ?_
      with_reducible (refine gd_tt ?_)
      refine gtr_i (fun hc => by omega) (fun _ => ?_)
      with_reducible (refine gd_ff ?_; refine pick_t ?_; refine pick_f ?_; refine cnd_f ?_)
      refine seq_J (fun xs h4 => xs = [.int .i64 (mErr m).2] ∧ h4 = g3) ?_ ?_
      · rintro _ _ ⟨rfl, rfl⟩ _
        show vK _ _ _
        refine vk_i (ld36 hb3) ?_
        refine call_i (c16 m3 hl) ?_
        rintro x2 g5 ⟨p5, mx2⟩
        with_reducible (refine mv_i ?_)
        refine call_i (c30 (sw3.mono (Sub.of_pre p5)) hf) ?_
        rintro x3 g6 ⟨p6, sx3, _⟩
        refine call_i (c29 (mx2.mono (Sub.of_pre p6)) sx3) ?_
        rintro x4 g7 ⟨p7, h7⟩
        have pall := p1.trans (p2.trans (p3.trans (p5.trans (p6.trans p7))))
        rw [or2, if_neg hz, if_pos hz] at h7
        subst h7
        with_reducible (refine mv_i ?_; refine ex2_0 ?_; refine ex2_1 ?_; refine mv_i ?_; refine mv_i ?_; refine mv_i ?_)
        refine neq_i (fun hc => absurd hc hz) (fun _ => ?_)
        with_reducible (refine cnd_t ?_; refine mv_i ?_; refine mv_i ?_)
        refine eql_i (fun _ => ?_) (fun hc => absurd rfl hc)
        with_reducible (refine mv_i ?_; refine gd_tt ?_; refine mv_i ?_; refine gd_tt ?_)
        refine lennil t23 ?_
        with_reducible (refine gd_tt ?_)
        refine eql_i (fun _ => ?_) (fun hc => absurd rfl hc)
        with_reducible (refine pick_t ?_; refine mv_i ?_; refine ret1 ?_)
        exact ⟨rfl, pall⟩
      intro k' hk'
      with_reducible (refine mv_i ?_)
      refine eql_i (fun hc => absurd hc hz) (fun _ => ?_)
      with_reducible (refine cnd_f ?_)
      exact hk' _ _ ⟨rfl, rfl⟩
end Go.Proofs.Ytdjoednhfoligaa

set_option linter.unusedSimpArgs false
set_option linter.unusedVariables false
set_option maxRecDepth 100000
namespace Go.Proofs.Ytdjoednhfoligaa
open Go.AM
variable {h h' h0 h1 : Heap} {K : Value → Heap → Prop} {m : Mac}

/-! ### rounds -/
def endI (m : Mac) (ks : List Nat) : Int := match ks.getLast? with | none => m.start | some k => (m.steps.getD k dst).to
def priceI (pr : List Int) (ks : List Nat) : Int := (ks.map fun k => pr.getD k 0).sum
def restI (m : Mac) (pr ps : List Int) (i : Nat) : Int := pr.getD i 0 + ps.getD (m.steps.getD i dst).fr.toNat 0 - ps.getD (m.steps.getD i dst).to.toNat 0
def restS (m : Mac) (pr ps : List Int) (L : List Int) : Int := (L.map fun i => restI m pr ps i.toNat).sum
noncomputable def rchL (m : Mac) : List Int := leav m (rchB m m.start)
theorem or4 (a b c d : Int) : orOf [a, b, c, d] = if a = 0 then (if b = 0 then (if c = 0 then d else c) else b) else a := by
  unfold orOf firstOf nz
  by_cases h1 : a = 0 <;> by_cases h2 : b = 0 <;> by_cases h3 : c = 0 <;> by_cases h4 : d = 0 <;> simp [List.range_succ, List.getD, h1, h2, h3, h4]
open Classical in
noncomputable def midE (m : Mac) (ks : List Nat) (ps : List Int) : Int :=
  if endI m ks ≠ m.start then 39
  else if ∃ i ∈ rchL m, ¬ i ∈ ks.map fun k : Nat => (k : Int) then 11
  else if (ps.length : Int) ≠ m.states then 6
  else if ∃ x ∈ ps, inR x (-1000) 1000 = false then 21
  else 0
open Classical in
noncomputable def finE (m : Mac) (pr : List Int) (ks : List Nat) (ps : List Int) : Int :=
  if (∃ i ∈ rchL m, restI m pr ps i.toNat < 0) ∨ restS m pr ps (rchL m) ≠ priceI pr ks then 30 else 0
noncomputable def rndE (m : Mac) (pr w ps : List Int) : Int :=
  if wErr w m.inputs 1200 ≠ 0 then wErr w m.inputs 1200
  else if (takenI m.steps m.start w).length ≠ w.length then 23
  else if midE m (takenI m.steps m.start w) ps ≠ 0 then midE m (takenI m.steps m.start w) ps
  else finE m pr (takenI m.steps m.start w) ps
theorem midE_or (m : Mac) (ks : List Nat) (ps : List Int) : orOf [if decide (endI m ks = m.start) = true then 0 else 39, if (!((rchL m).any fun x => !decide (x ∈ ks.map fun k : Nat => (k : Int)))) = true then 0 else 11, if decide ((ps.length : Int) = m.states) = true then 0 else 6, if (!(ps.any fun x => !inR x (-1000) 1000)) = true then 0 else 21] = midE m ks ps := by
  have e1 : (!((rchL m).any fun x => !decide (x ∈ ks.map fun k : Nat => (k : Int)))) = true ↔ ¬ ∃ i ∈ rchL m, ¬ i ∈ ks.map fun k : Nat => (k : Int) := by
    rw [Bool.not_eq_true', ← Bool.not_eq_true, List.any_eq_true]
    simp only [Bool.not_eq_true', decide_eq_false_iff_not]
  have e2 : (!(ps.any fun x => !inR x (-1000) 1000)) = true ↔ ¬ ∃ x ∈ ps, inR x (-1000) 1000 = false := by
    rw [Bool.not_eq_true', ← Bool.not_eq_true, List.any_eq_true]
    simp only [Bool.not_eq_true']
  rw [or4]
  unfold midE
  by_cases h1 : endI m ks = m.start
  · rw [if_pos (decide_eq_true h1), if_pos rfl, if_neg (show ¬ endI m ks ≠ m.start from fun hc => hc h1)]
    by_cases h2 : ∃ i ∈ rchL m, ¬ i ∈ ks.map fun k : Nat => (k : Int)
    · rw [if_neg (fun hc => e1.mp hc h2), if_neg (show ¬ (11 : Int) = 0 by decide), if_pos h2]
    · rw [if_pos (e1.mpr h2), if_pos rfl, if_neg h2]
      by_cases h3 : (ps.length : Int) = m.states
      · rw [if_pos (decide_eq_true h3), if_pos rfl, if_neg (show ¬ (ps.length : Int) ≠ m.states from fun hc => hc h3)]
        by_cases h4 : ∃ x ∈ ps, inR x (-1000) 1000 = false
        · rw [if_neg (fun hc => e2.mp hc h4), if_pos h4]
        · rw [if_pos (e2.mpr h4), if_neg h4]
      · rw [if_neg (show ¬ decide ((ps.length : Int) = m.states) = true by rw [decide_eq_false h3]; simp), if_neg (show ¬ (6 : Int) = 0 by decide), if_pos h3]
  · rw [if_neg (show ¬ decide (endI m ks = m.start) = true by rw [decide_eq_false h1]; simp), if_neg (show ¬ (39 : Int) = 0 by decide), if_pos h1]
theorem midE_zero {m : Mac} {ks : List Nat} {ps : List Int} (hz : midE m ks ps = 0) : endI m ks = m.start ∧ (¬ ∃ i ∈ rchL m, ¬ i ∈ ks.map fun k : Nat => (k : Int)) ∧ (ps.length : Int) = m.states ∧ ¬ ∃ x ∈ ps, inR x (-1000) 1000 = false := by
  unfold midE at hz
  split at hz
  · cases hz
  · split at hz
    · cases hz
    · split at hz
      · cases hz
      · split at hz
        · cases hz
        · exact ⟨Classical.byContradiction (by assumption), by assumption, Classical.byContradiction (by assumption), by assumption⟩
theorem rnd1 {pr w ps : List Int} (h1 : wErr w m.inputs 1200 = 0) (h2 : (takenI m.steps m.start w).length ≠ w.length) : rndE m pr w ps = 23 := by
  unfold rndE; rw [if_neg (by simp [h1]), if_pos h2]
theorem rnd2 {pr w ps : List Int} (h1 : wErr w m.inputs 1200 = 0) (h2 : (takenI m.steps m.start w).length = w.length) (h3 : midE m (takenI m.steps m.start w) ps ≠ 0) : rndE m pr w ps = midE m (takenI m.steps m.start w) ps := by
  unfold rndE; rw [if_neg (by simp [h1]), if_neg (by simp [h2]), if_pos h3]
theorem rnd3 {pr w ps : List Int} (h1 : wErr w m.inputs 1200 = 0) (h2 : (takenI m.steps m.start w).length = w.length) (h3 : midE m (takenI m.steps m.start w) ps = 0) : rndE m pr w ps = finE m pr (takenI m.steps m.start w) ps := by
  unfold rndE; rw [if_neg (by simp [h1]), if_neg (by simp [h2]), if_neg (by simp [h3])]
noncomputable def rndP (m : Mac) (pr w ps : List Int) : Int := if rndE m pr w ps = 0 then priceI pr (takenI m.steps m.start w) else 0
theorem endI_take {ks : List Nat} {j : Nat} (hj : j < ks.length) : endI m (ks.take (j + 1)) = (m.steps.getD (ks.getD j 0) dst).to := by
  rw [take_gd 0 hj]; simp [endI]
theorem priceI_take {pr : List Int} {ks : List Nat} {j : Nat} (hj : j < ks.length) : priceI pr (ks.take (j + 1)) = priceI pr (ks.take j) + pr.getD (ks.getD j 0) 0 := by
  rw [take_gd 0 hj]; simp [priceI]
theorem restS_take {pr ps : List Int} {L : List Int} {j : Nat} (hj : j < L.length) : restS m pr ps (L.take (j + 1)) = restS m pr ps (L.take j) + restI m pr ps (L.getD j 0).toNat := by
  rw [take_gd 0 hj]; simp [restS]
def prOK (pr : List Int) : Prop := ∀ k, 0 ≤ pr.getD k 0 ∧ pr.getD k 0 ≤ 20
theorem prOK_of {pr : List Int} (he : prErr m pr = 0) : pr.length = m.steps.length ∧ prOK pr := by
  unfold prErr at he
  split at he
  · cases he
  · rename_i h1
    split at he
    · rename_i h2
      refine ⟨by omega, fun k => ?_⟩
      by_cases hk : k < pr.length
      · have := List.all_eq_true.mp h2 _ (gd_mem 0 hk)
        unfold inR at this
        simpa using this
      · rw [List.getD_eq_getElem?_getD, List.getElem?_eq_none (by omega)]
        simp
    · cases he
def psOK (ps : List Int) : Prop := ∀ k, -1000 ≤ ps.getD k 0 ∧ ps.getD k 0 ≤ 1000
theorem psOK_of {ps : List Int} (hb : ¬ ∃ x ∈ ps, inR x (-1000) 1000 = false) : psOK ps := by
  intro k
  by_cases hk : k < ps.length
  · have h1 : inR (ps.getD k 0) (-1000) 1000 = true := by
      cases q : inR (ps.getD k 0) (-1000) 1000 with
      | true => rfl
      | false => exact absurd ⟨_, gd_mem 0 hk, q⟩ hb
    unfold inR at h1
    simpa using h1
  · rw [List.getD_eq_getElem?_getD, List.getElem?_eq_none (by omega)]
    simp
theorem restI_b {pr ps : List Int} (h1 : prOK pr) (h2 : psOK ps) (i : Nat) : -2000 ≤ restI m pr ps i ∧ restI m pr ps i ≤ 2020 := by
  have a := h1 i
  have b := h2 (m.steps.getD i dst).fr.toNat
  have c := h2 (m.steps.getD i dst).to.toNat
  unfold restI
  omega
theorem al25 (h : Heap) : aAlloc Try.prog 25 h = some (.pointer (some ⟨h.length, 0, none⟩), newArr h [.slice none 0 0] 1) := by kernel_rfl
theorem sto25 (g : Heap) (o : Option Addr) (l c : Nat) : aStore Try.prog 25 (.pointer (some ⟨g.length, 0, none⟩)) (.slice o l c) (newArr g [.slice none 0 0] 1) = some (newArr g [.slice o l c] 1) := by
  have := st_i (P := Try.prog) (e := 25) (h := newArr g [.slice none 0 0] 1) (y := .slice o l c) (off := 0) (K := fun _ h' => some h' = some (newArr g [.slice o l c] 1)) s25 (newArr_get _ _ _) rfl (by simp) rfl rfl (by rw [← newArr_set g [.slice none 0 0] [.slice o l c] 1]; rfl)
  have := this.out
  cases hq : aStore Try.prog 25 (.pointer (some ⟨g.length, 0, none⟩)) (.slice o l c) (newArr g [.slice none 0 0] 1) with
  | none => rw [hq] at this; exact this.elim
  | some x => rw [hq] at this; exact this
theorem bs94_4 (a b c d : Int) (h : Heap) : aBuildSlice Try.prog 132 4 [(0, .int .i64 a), (1, .int .i64 b), (2, .int .i64 c), (3, .int .i64 d)] h = some (.slice (some ⟨h.length, 0, none⟩) 4 5, newArr h [.int .i64 a, .int .i64 b, .int .i64 c, .int .i64 d] 1) := by kernel_rfl
theorem ld27 {i : Nat} {a b : Value} (hi : h[i]? = some (.arr ⟨[a, b], 2, false⟩)) : aLoad Try.prog 27 (.pointer (some ⟨i, 0, none⟩)) h = some (.agg #[a, b]) := by
  have hr : (match Try.prog.underlying 27 with | some d => d.isRow | none => false) = true := by kernel_rfl
  have hz : szOf Try.prog 27 = some 2 := by kernel_rfl
  split at hr
  · rename_i dd hd
    simp only [aLoad, hi, hd, hz]
    rw [if_pos hr, if_pos (by simp)]
    rfl
  · cases hr
theorem build27 (o o' : Option Addr) (l k l' k' : Nat) : aBuild Try.prog 27 [(0, .slice o l k), (1, .slice o' l' k')] = some (.agg #[.slice o l k, .slice o' l' k']) := by kernel_rfl
theorem c56 {i : Nat} {x : Int} {v : Value} {xs : List Int} (hi : h[i]? = some (.arr ⟨[v], 1, false⟩)) (s : IntS h v xs) : Runs Try.prog 56 [.int .i64 x, .pointer (some ⟨i, 0, none⟩)] h (.bool (!decide (x ∈ xs))) h := by
  refine DetP.runs (w56 ?_)
  unfold n56
  with_reducible (refine mv_i ?_; refine ld1_0 r23 (by assumption) ?_; refine mv_i ?_)
  refine call_r (c57 s) ?_
  refine AM.not_i ?_
  with_reducible (refine mv_i ?_; refine ret1 ?_)
  exact ⟨rfl, rfl⟩
theorem c58 {x : Int} : Runs Try.prog 58 [.int .i64 x] h (.bool (!inR x (-1000) 1000)) h := by
  refine DetP.runs (w58 ?_)
  unfold n58
  with_reducible (refine mv_i ?_; refine mv_i ?_)
  refine call_r (c59 _ _ _) ?_
  refine AM.not_i ?_
  with_reducible (refine mv_i ?_; refine ret1 ?_)
  exact ⟨rfl, rfl⟩
theorem rchL_in (r : Right m) {i : Int} (hi : i ∈ rchL m) : 0 ≤ i ∧ i < m.steps.length := by
  obtain ⟨k, rfl, hk, _⟩ := idxs_mem.mp hi
  omega
theorem rchL_len : (rchL m).length ≤ m.steps.length := idxs_len _ _
set_option maxHeartbeats 4000000 in
theorem c15 {a b : Value} {o1 o2 : Option Addr} {l1 k1 l2 k2 : Nat} {pr w ps : List Int} (s : MacV h a m) (sp : IntS h b pr) (sw : IntS h (.slice o1 l1 k1) w) (sq : IntS h (.slice o2 l2 k2) ps) :
    DetP Try.prog 15 [a, b, .agg #[.slice o1 l1 k1, .slice o2 l2 k2]] h fun v h' => h <+: h' ∧ v = if orOf [(mErr m).2, prErr m pr, wErr w m.inputs 1200] ≠ 0 then .tuple #[.int .i64 0, .int .i64 (orOf [(mErr m).2, prErr m pr, wErr w m.inputs 1200])] else .tuple #[.int .i64 (rndP m pr w ps), .int .i64 (rndE m pr w ps)] := by
  refine w15 ?_
  unfold n15
  obtain ⟨o, l, c, rfl, ss0⟩ := s
  rw [box36]
  refine ok_i rfl ?_
  have p1 := pre_new h [.int .i64 m.states, .int .i64 m.inputs, .int .i64 m.outputs, .int .i64 m.start, .slice o l c] 5
  have hb1 := newArr_get h [.int .i64 m.states, .int .i64 m.inputs, .int .i64 m.outputs, .int .i64 m.start, .slice o l c] 5
  have ss := ss0.mono (Sub.of_pre p1)
  generalize hg1 : newArr h [.int .i64 m.states, .int .i64 m.inputs, .int .i64 m.outputs, .int .i64 m.start, .slice o l c] 5 = g1 at p1 hb1 ss ⊢
  have sp1 := sp.mono (Sub.of_pre p1)
  have sw1 := sw.mono (Sub.of_pre p1)
  have sq1 := sq.mono (Sub.of_pre p1)
  rw [box27]
  refine ok_i rfl ?_
  have p2 := pre_new g1 [.slice o1 l1 k1, .slice o2 l2 k2] 2
  have hr2 := newArr_get g1 [.slice o1 l1 k1, .slice o2 l2 k2] 2
  have hb2 := (Sub.of_pre p2).2 _ _ hb1
  generalize hgi : g1.length = ri at hr2 ⊢
  generalize newArr g1 [.slice o1 l1 k1, .slice o2 l2 k2] 2 = g2 at p2 hr2 hb2 ⊢
  have ss2 := ss.mono (Sub.of_pre p2)
  have sp2 := sp1.mono (Sub.of_pre p2)
  have sw2 := sw1.mono (Sub.of_pre p2)
  have sq2 := sq1.mono (Sub.of_pre p2)
  have m2 := macv_of (m := m) ss2
  with_reducible (refine mv_i ?_; refine mv_i ?_)
  refine vk_i (ld36 hb2) ?_
  refine ⟨vb_mac ss2, ?_⟩
  refine calld_r (c51 m2) ⟨⟨[], by simp⟩, ?_⟩
  refine vk_i (ld36 hb2) ?_
  refine ⟨vb_mac ss2, ?_⟩
  with_reducible (refine mv_i ?_)
  refine calld_r (c52 m2 sp2) ⟨⟨[], by simp⟩, ?_⟩
  refine vk_i (ld36 hb2) ?_
  refine ⟨vb_mac ss2, ?_⟩
  with_reducible (refine vk_i (fa27_0 _) ?_; refine ld2_0 r23 (by assumption) ?_; refine ⟨VB_of_ints (by assumption), ?_⟩)
  refine calld_r (c53 m2 sw2) ⟨⟨[], by simp⟩, ?_⟩
  refine ok_i (bs94_3 _ _ _ _) ?_
  have p3 := pre_new g2 [.int .i64 (mErr m).2, .int .i64 (prErr m pr), .int .i64 (wErr w m.inputs 1200)] 1
  have sx : IntS (newArr g2 [.int .i64 (mErr m).2, .int .i64 (prErr m pr), .int .i64 (wErr w m.inputs 1200)] 1) (.slice (some ⟨g2.length, 0, none⟩) 3 4) [(mErr m).2, prErr m pr, wErr w m.inputs 1200] := Seg.new 4 (by rfl) (by simp)
  generalize newArr g2 [.int .i64 (mErr m).2, .int .i64 (prErr m pr), .int .i64 (wErr w m.inputs 1200)] 1 = g3 at p3 sx ⊢
  refine calld_r (c50 sx) ⟨⟨[], by simp⟩, ?_⟩
  have hor := or3 (mErr m).2 (prErr m pr) (wErr w m.inputs 1200)
  generalize orOf [(mErr m).2, prErr m pr, wErr w m.inputs 1200] = e at hor
  with_reducible (refine mv_i ?_; refine mv_i ?_)
  refine neq_i (fun hz => ?_) (fun hz => ?_)
  · subst hz
    have he1 : (mErr m).2 = 0 := by
      by_cases q : (mErr m).2 = 0
      · exact q
      · rw [if_neg q] at hor; exact hor.symm
    rw [if_pos he1] at hor
    have he2 : prErr m pr = 0 := by
      by_cases q : prErr m pr = 0
      · exact q
      · rw [if_neg q] at hor; exact hor.symm
    rw [if_pos he2] at hor
    have he3 := hor.symm
    have r := right_of he1
    obtain ⟨hpl, hpo⟩ := prOK_of he2
    have hiw := inW_of r he3
    have hwl := (w_ok he3).1
    obtain ⟨b1, b2, b3, b4, b5, b6⟩ := r.bounds
    have hfew := r.few
    have hsl : m.steps.length ≤ 320 := by
      have : m.states * m.inputs ≤ 40 * 8 := Int.mul_le_mul b2 b4 (by omega) (by omega)
      omega
    have hb3 := (Sub.of_pre p3).2 _ _ hb2
    have ss3 := ss2.mono (Sub.of_pre p3)
    with_reducible (refine cnd_f ?_)
    refine vk_i (ld36 hb3) ?_
    refine call_i (c54 (macv_of (m := m) ss3) r) ?_
    rintro _ g4 ⟨p4, gi, st, by_, fr, rfl, sst, og⟩
    have gr : Graph gi g4 m st by_ fr := og.self (sst.mono (Sub.of_pre p4))
    have q4 := p3.trans p4
    have hr4 := (Sub.of_pre q4).2 _ _ hr2
    have sw4 := sw2.mono (Sub.of_pre q4)
    with_reducible (refine mv_i ?_; refine mv_i ?_; refine vk_i (fa27_0 _) ?_; refine ld2_0 r23 (by assumption) ?_)
    refine call_i (c55 gr r sw4 hiw (by omega)) ?_
    rintro tv g5 ⟨p5, q5⟩
    have stk := q5.self
    obtain ⟨to, tl, tc, rfl⟩ := seg_slice stk
    have hkin := takenI_has (l := m.steps) (f := m.start) (w := w)
    have hklen := takenI_len (l := m.steps) w m.start
    have R1 := rnd1 (pr := pr) (ps := ps) he3
    have R2 := rnd2 (pr := pr) (ps := ps) he3
    have R3 := rnd3 (pr := pr) (ps := ps) he3
    have eP : rndP m pr w ps = if rndE m pr w ps = 0 then priceI pr (takenI m.steps m.start w) else 0 := rfl
    skip
    refine ok_i (al25 _) ?_
    refine ok_i (v := undef) (h' := newArr g5 [.slice to tl tc] 1) (by rw [sto25]; rfl) ?_
    have p6 := pre_new g5 [.slice to tl tc] 1
    have hl6 := newArr_get g5 [.slice to tl tc] 1
    generalize hli : g5.length = li at hl6 ⊢
    generalize newArr g5 [.slice to tl tc] 1 = g6 at p6 hl6 ⊢
    have q6 := q4.trans (p5.trans p6)
    have hr6 := (Sub.of_pre q6).2 _ _ hr2
    have hb6 := (Sub.of_pre q6).2 _ _ hb2
    have ss6 := ss2.mono (Sub.of_pre q6)
    have sp6 := sp2.mono (Sub.of_pre q6)
    have sw6 := sw2.mono (Sub.of_pre q6)
    have sq6 := sq2.mono (Sub.of_pre q6)
    have st6 := stk.mono (Sub.of_pre p6)
    have gr6 := gr.mono (Sub.of_pre (p5.trans p6))
    have gst6 := gr6.steps
    have hml : ((takenI m.steps m.start w).map fun k : Nat => (k : Int)).length = (takenI m.steps m.start w).length := by simp
    have pall := p1.trans (p2.trans q6)
    generalize hks : takenI m.steps m.start w = ks at *
    clear stk q5
    with_reducible (refine ld1_0 r23 (by assumption) ?_; refine leni_i t23 (by assumption) ?_; refine vk_i (fa27_0 _) ?_; refine ld2_0 r23 (by assumption) ?_; refine leni_i t23 (by assumption) ?_)
    refine lss_i (fun hlt => ?_) (fun hge => ?_)
    · with_reducible (refine cnd_t ?_; refine mv_i ?_; refine mv_i ?_; refine ret2 ?_)
      refine ⟨pall, ?_⟩
      have e0 := R1 (by omega)
      rw [if_neg (by simp), eP, e0, if_neg (by decide)]
    · have hkl : ks.length = w.length := by omega
      have R2 := R2 hkl
      have R3 := R3 hkl
      with_reducible (refine cnd_f ?_; refine mv_i ?_; refine nil_i ?_; refine vk_i (fa92_0 _) ?_; refine vk_i (fa36_3 _) ?_; refine ldgr r3 (by assumption) rfl ?_; refine mv_i ?_; refine mv_i ?_; refine ld1_0 r23 (by assumption) ?_; refine leni_i t23 (by assumption) ?_; refine mv_i ?_)
      refine loop3 ks.length (fun j av pv h2 => h2 = g6 ∧ av = .int .i64 (endI m (ks.take j)) ∧ pv = .int .i64 (priceI pr (ks.take j)) ∧ 0 ≤ priceI pr (ks.take j) ∧ priceI pr (ks.take j) ≤ 20 * j) ⟨rfl, rfl, rfl, by simp [priceI], by simp [priceI]⟩ ?_
      rintro j _ _ _ _ hj ⟨rfl, rfl, rfl, hp0, hp1⟩
      skip
      refine lss_i (fun hlt2 => ?_) (fun hge2 => ?_)
      · have hj2 : j < ks.length := by omega
        have hz : (ks.map fun k : Nat => (k : Int)).getD j 0 = ((ks.getD j 0 : Nat) : Int) := by simp [List.getD, hj2]
        have hkj : ks.getD j 0 < m.steps.length := hkin _ (gd_mem 0 hj2)
        have hpk := hpo (ks.getD j 0)
        have hpt := priceI_take (pr := pr) hj2
        have het := endI_take (m := m) hj2
        with_reducible (refine cnd_t ?_; refine idxi_i t23 (by assumption) (by omega) ?_; refine ldi_i t23 r3 (by assumption) (by omega) ?_; refine mv_i ?_; refine mv_i ?_; refine nil_i ?_; refine vk_i (fa92_0 _) ?_; refine vk_i (fa36_4 _) ?_; refine ldgr r34 (by assumption) rfl ?_; refine ⟨VB_of_steps (by assumption), ?_⟩; refine mv_i ?_; refine idxzst t34 (by assumption) (by omega) (by omega) ?_; refine fae_i st63 (by assumption) (by omega) (by omega) ?_; refine ldto dst st63 (by assumption) (by omega) ?_; refine ⟨vbi _ _, ?_⟩; refine mv_i ?_; refine mv_i ?_; refine mv_i ?_; refine idxzi t23 (by assumption) (by omega) (by omega) ?_; refine ldi_i t23 r3 (by assumption) (by omega) ?_; refine ⟨vbi _ _, ?_⟩)
        rw [hz, Int.toNat_natCast]
        refine add_i ⟨by omega, by omega⟩ ?_
        with_reducible (refine mv_i ?_; refine mv_i ?_; refine inc_i (by omega) ?_; refine mv_i ?_)
        refine next3 hj2 ⟨rfl, by rw [het], by rw [hpt], by omega, by push_cast; omega⟩
      · have ej : j = ks.length := by omega
        subst ej
        rw [List.take_of_length_le (Nat.le_refl _)] at hp0 hp1 ⊢
        with_reducible (refine cnd_f ?_; refine mv_i ?_; refine mv_i ?_; refine mv_i ?_; refine mv_i ?_)
        refine call_i (c60 gr6 r) ?_
        rintro lv g7 ⟨p7, q7⟩
        have sL := q7.self
        have hLin := fun i => rchL_in (i := i) r
        have hLlen := rchL_len (m := m)
        have eL : leav m (rchB m m.start) = rchL m := rfl
        rw [eL] at sL
        clear q7
        have gr7 := gr6.mono (Sub.of_pre p7)
        have hr7 := (Sub.of_pre p7).2 _ _ hr6
        have hb7 := (Sub.of_pre p7).2 _ _ hb6
        have hl7 := (Sub.of_pre p7).2 _ _ hl6
        have ss7 := ss6.mono (Sub.of_pre p7)
        have sp7 := sp6.mono (Sub.of_pre p7)
        have sq7 := sq6.mono (Sub.of_pre p7)
        have st7 := st6.mono (Sub.of_pre p7)
        have pall7 := pall.trans p7
        with_reducible (refine mv_i ?_; refine mv_i ?_; refine mv_i ?_; refine nil_i ?_; refine vk_i (fa92_0 _) ?_; refine vk_i (fa36_3 _) ?_; refine ldgr r3 (by assumption) rfl ?_; refine ⟨vbi _ _, ?_⟩)
        refine eql_b ?_
        refine calld_r (c61 _ _) ⟨⟨[], by simp⟩, ?_⟩
        with_reducible (refine mv_i ?_; refine mv_i ?_)
        refine calld_r (c62g (caps := #[.pointer (some ⟨li, 0, none⟩)]) sL fun x _ => c56 hl7 st7) ⟨⟨[], by simp⟩, ?_⟩
        refine AM.not_i ?_
        refine calld_r (c61 _ _) ⟨⟨[], by simp⟩, ?_⟩
        with_reducible (refine vk_i (fa27_1 _) ?_; refine ld2_1 r23 (by assumption) ?_; refine ⟨VB_of_ints (by assumption), ?_⟩; refine leni_i t23 (by assumption) ?_; refine vk_i (fa36_0 _) ?_; refine ld5_0 r3 (by assumption) ?_; refine ⟨vbi _ _, ?_⟩)
        refine eql_b ?_
        refine calld_r (c61 _ _) ⟨⟨[], by simp⟩, ?_⟩
        with_reducible (refine vk_i (fa27_1 _) ?_; refine ld2_1 r23 (by assumption) ?_; refine ⟨VB_of_ints (by assumption), ?_⟩; refine mv_i ?_)
        refine calld_r (c62g (caps := #[]) sq7 fun x _ => c58) ⟨⟨[], by simp⟩, ?_⟩
        refine AM.not_i ?_
        refine calld_r (c61 _ _) ⟨⟨[], by simp⟩, ?_⟩
        have hmid := midE_or m ks ps
        generalize (if decide (endI m ks = m.start) = true then (0 : Int) else 39) = t1 at hmid ⊢
        generalize (if (!((rchL m).any fun x => !decide (x ∈ ks.map fun k : Nat => (k : Int)))) = true then (0 : Int) else 11) = t2 at hmid ⊢
        generalize (if decide ((ps.length : Int) = m.states) = true then (0 : Int) else 6) = t3 at hmid ⊢
        generalize (if (!(ps.any fun x => !inR x (-1000) 1000)) = true then (0 : Int) else 21) = t4 at hmid ⊢
        refine ok_i (bs94_4 _ _ _ _ _) ?_
        have p8 := pre_new g7 [.int .i64 t1, .int .i64 t2, .int .i64 t3, .int .i64 t4] 1
        have sx8 : IntS (newArr g7 [.int .i64 t1, .int .i64 t2, .int .i64 t3, .int .i64 t4] 1) (.slice (some ⟨g7.length, 0, none⟩) 4 5) [t1, t2, t3, t4] := Seg.new 5 (by rfl) (by simp)
        generalize newArr g7 [.int .i64 t1, .int .i64 t2, .int .i64 t3, .int .i64 t4] 1 = g8 at p8 sx8 ⊢
        refine calld_r (c50 sx8) ⟨⟨[], by simp⟩, ?_⟩
        rw [hmid]
        have pall8 := pall7.trans p8
        with_reducible (refine mv_i ?_; refine mv_i ?_)
        refine neq_i (fun hm => ?_) (fun hm => ?_)
        · have R3 := R3 hm
          obtain ⟨_, _, hps, hbd⟩ := midE_zero hm
          have hpb := psOK_of hbd
          have hr8 := (Sub.of_pre p8).2 _ _ hr7
          have hb8 := (Sub.of_pre p8).2 _ _ hb7
          have ss8 := ss7.mono (Sub.of_pre p8)
          have sp8 := sp7.mono (Sub.of_pre p8)
          have sq8 := sq7.mono (Sub.of_pre p8)
          have sL8 := sL.mono (Sub.of_pre p8)
          with_reducible (refine cnd_f ?_; refine mv_i ?_; refine mv_i ?_; refine leni_i t23 (by assumption) ?_; refine mv_i ?_)
          refine loop2 (rchL m).length (fun j sv h2 => h2 = g8 ∧ sv = .int .i64 (restS m pr ps ((rchL m).take j)) ∧ 0 ≤ restS m pr ps ((rchL m).take j) ∧ restS m pr ps ((rchL m).take j) ≤ 2020 * j ∧ ∀ i, i < j → 0 ≤ restI m pr ps ((rchL m).getD i 0).toNat) ⟨rfl, rfl, by simp [restS], by simp [restS], fun i hi => by omega⟩ ?_
          rintro j _ _ _ hj ⟨rfl, rfl, hs0, hs1, hneg⟩
          skip
          refine lss_i (fun hlt3 => ?_) (fun hge3 => ?_)
          · have hj3 : j < (rchL m).length := by omega
            obtain ⟨z0, z1⟩ := hLin _ (gd_mem 0 hj3)
            have hrt := restS_take (m := m) (pr := pr) (ps := ps) hj3
            generalize hzz : (rchL m).getD j 0 = z at z0 z1 hrt
            have hst := r.st (show z.toNat < m.steps.length by omega)
            have hpz := hpo z.toNat
            have ha := hpb (m.steps.getD z.toNat dst).fr.toNat
            have hb := hpb (m.steps.getD z.toNat dst).to.toNat
            have hrb := restI_b (m := m) hpo hpb z.toNat
            have hre : restI m pr ps z.toNat = pr.getD z.toNat 0 + ps.getD (m.steps.getD z.toNat dst).fr.toNat 0 - ps.getD (m.steps.getD z.toNat dst).to.toNat 0 := rfl
            with_reducible (refine cnd_t ?_)
            refine idxi_i t23 sL8 hj3 ?_
            refine ldi_i t23 r3 sL8 hj3 ?_
            rw [hzz]
            with_reducible (refine mv_i ?_; refine mv_i ?_; refine mv_i ?_; refine idxzi t23 (by assumption) (by omega) (by omega) ?_; refine ldi_i t23 r3 (by assumption) (by omega) ?_; refine ⟨vbi _ _, ?_⟩; refine vk_i (fa27_1 _) ?_; refine ld2_1 r23 (by assumption) ?_; refine ⟨VB_of_ints (by assumption), ?_⟩; refine vk_i (fa36_4 _) ?_; refine ld5_4 r34 (by assumption) ?_; refine ⟨VB_of_steps (by assumption), ?_⟩; refine mv_i ?_; refine idxzst t34 (by assumption) (by omega) (by omega) ?_; refine fae_i st63 (by assumption) (by omega) (by omega) ?_; refine ldfr dst st63 (by assumption) (by omega) ?_; refine ⟨vbi _ _, ?_⟩; refine idxzi t23 (by assumption) (by omega) (by omega) ?_; refine ldi_i t23 r3 (by assumption) (by omega) ?_; refine ⟨vbi _ _, ?_⟩)
            refine add_i ⟨by omega, by omega⟩ ?_
            with_reducible (refine vk_i (fa27_1 _) ?_; refine ld2_1 r23 (by assumption) ?_; refine ⟨VB_of_ints (by assumption), ?_⟩; refine vk_i (fa36_4 _) ?_; refine ld5_4 r34 (by assumption) ?_; refine ⟨VB_of_steps (by assumption), ?_⟩; refine mv_i ?_; refine idxzst t34 (by assumption) (by omega) (by omega) ?_; refine fae_i st63 (by assumption) (by omega) (by omega) ?_; refine ldto dst st63 (by assumption) (by omega) ?_; refine ⟨vbi _ _, ?_⟩; refine idxzi t23 (by assumption) (by omega) (by omega) ?_; refine ldi_i t23 r3 (by assumption) (by omega) ?_; refine ⟨vbi _ _, ?_⟩)
            refine sub_i ⟨by omega, by omega⟩ ?_
            rw [← hre]
            with_reducible (refine mv_i ?_; refine mv_i ?_)
            refine lss_i (fun hn => ?_) (fun hn => ?_)
            · with_reducible (refine cnd_t ?_; refine mv_i ?_; refine mv_i ?_; refine ret2 ?_)
              refine ⟨pall8, ?_⟩
              have : finE m pr ks ps = 30 := by
                unfold finE
                rw [if_pos (.inl ⟨z, by rw [← hzz]; exact gd_mem 0 hj3, hn⟩)]
              rw [if_neg (by simp), eP, R3, this, if_neg (by decide)]
            · with_reducible (refine cnd_f ?_; refine mv_i ?_; refine mv_i ?_)
              refine add_i ⟨by omega, by omega⟩ ?_
              with_reducible (refine mv_i ?_; refine inc_i (by omega) ?_; refine mv_i ?_)
              refine next2 hj3 ⟨rfl, by rw [hrt], by rw [hrt]; omega, by rw [hrt]; push_cast; omega, fun i hi => ?_⟩
              by_cases q : i = j
              · subst q; rw [hzz]; omega
              · exact hneg i (by omega)
          · have ej : j = (rchL m).length := by omega
            rw [ej, List.take_of_length_le (Nat.le_refl _)] at hs0 hs1 ⊢
            have hnn : ¬ ∃ i ∈ rchL m, restI m pr ps i.toNat < 0 := by
              rintro ⟨i, hi, hn⟩
              obtain ⟨q, hq, he⟩ := mem_gd 0 hi
              have := hneg q (by omega)
              rw [he] at this
              omega
            with_reducible (refine cnd_f ?_; refine mv_i ?_; refine mv_i ?_)
            refine neq_i (fun hq => ?_) (fun hq => ?_)
            · with_reducible (refine cnd_f ?_; refine mv_i ?_; refine mv_i ?_; refine mv_i ?_; refine ret2 ?_)
              refine ⟨pall8, ?_⟩
              have : finE m pr ks ps = 0 := by
                unfold finE
                rw [if_neg (by rintro (hc | hc); exact hnn hc; exact hc hq)]
              rw [if_neg (by simp), eP, R3, this, if_pos rfl]
            · with_reducible (refine cnd_t ?_; refine mv_i ?_; refine mv_i ?_; refine ret2 ?_)
              refine ⟨pall8, ?_⟩
              have : finE m pr ks ps = 30 := by
                unfold finE
                rw [if_pos (.inr hq)]
              rw [if_neg (by simp), eP, R3, this, if_neg (by decide)]
        · have R2 := R2 hm
          with_reducible (refine cnd_t ?_; refine mv_i ?_; refine mv_i ?_; refine mv_i ?_; refine ret2 ?_)
          refine ⟨pall8, ?_⟩
          rw [if_neg (by simp), eP, R2, if_neg hm]
  · with_reducible (refine cnd_t ?_; refine mv_i ?_; refine mv_i ?_; refine mv_i ?_; refine ret2 ?_)
    refine ⟨p1.trans (p2.trans p3), ?_⟩
    rw [if_pos hz]
end Go.Proofs.Ytdjoednhfoligaa

set_option linter.unusedSimpArgs false
set_option linter.unusedVariables false
set_option maxRecDepth 100000
namespace Go.Proofs.Ytdjoednhfoligaa
open Go.AM
variable {h h' h0 h1 : Heap} {K : Value → Heap → Prop} {m : Mac}

noncomputable def rP (m : Mac) (k : Nat) : Bool := (rchB m m.start).getD (m.steps.getD k dst).fr.toNat false
theorem rchL_is : rchL m = idxs (rP m) m.steps.length := rfl
theorem last_end {ks : List Nat} {k : Nat} (hk : ks.length = k + 1) : endI m ks = (m.steps.getD (ks.getD k 0) dst).to := by
  have := endI_take (m := m) (ks := ks) (j := k) (by omega)
  rw [List.take_of_length_le (by omega)] at this
  exact this
theorem restS_succ {pr ps : List Int} {j : Nat} : restS m pr ps (idxs (rP m) (j + 1)) = if rP m j = true then restS m pr ps (idxs (rP m) j) + restI m pr ps j else restS m pr ps (idxs (rP m) j) := by
  rw [idxs_succ]
  split
  · simp [restS]
  · rfl
set_option maxHeartbeats 4000000 in
theorem c20 {a b : Value} {o1 o2 : Option Addr} {l1 k1 l2 k2 : Nat} {pr w ps : List Int} (s : MacV h a m) (r : Right m) (sp : IntS h b pr) (he2 : prErr m pr = 0) (sw : IntS h (.slice o1 l1 k1) w) (sq : IntS h (.slice o2 l2 k2) ps) :
    DetP Try.prog 20 [a, b, .agg #[.slice o1 l1 k1, .slice o2 l2 k2]] h fun v h' => h <+: h' ∧ v = .tuple #[.int .i64 (rndP m pr w ps), .int .i64 (rndE m pr w ps)] := by
  obtain ⟨hpl, hpo⟩ := prOK_of he2
  obtain ⟨b1, b2, b3, b4, b5, b6⟩ := r.bounds
  have hfew := r.few
  have hsl : m.steps.length ≤ 320 := by
    have : m.states * m.inputs ≤ 40 * 8 := Int.mul_le_mul b2 b4 (by omega) (by omega)
    omega
  have ltq := sq.lt
  refine w20 ?_
  unfold n20
  obtain ⟨o, l, c, rfl, ss0⟩ := s
  rw [box36]
  refine ok_i rfl ?_
  have p1 := pre_new h [.int .i64 m.states, .int .i64 m.inputs, .int .i64 m.outputs, .int .i64 m.start, .slice o l c] 5
  have hb1 := newArr_get h [.int .i64 m.states, .int .i64 m.inputs, .int .i64 m.outputs, .int .i64 m.start, .slice o l c] 5
  have ss := ss0.mono (Sub.of_pre p1)
  generalize hg1 : newArr h [.int .i64 m.states, .int .i64 m.inputs, .int .i64 m.outputs, .int .i64 m.start, .slice o l c] 5 = g1 at p1 hb1 ss ⊢
  have sp1 := sp.mono (Sub.of_pre p1)
  have sw1 := sw.mono (Sub.of_pre p1)
  have sq1 := sq.mono (Sub.of_pre p1)
  rw [box27]
  refine ok_i rfl ?_
  have p2 := pre_new g1 [.slice o1 l1 k1, .slice o2 l2 k2] 2
  have hr2 := newArr_get g1 [.slice o1 l1 k1, .slice o2 l2 k2] 2
  have hb2 := (Sub.of_pre p2).2 _ _ hb1
  generalize hgi : g1.length = ri at hr2 ⊢
  generalize newArr g1 [.slice o1 l1 k1, .slice o2 l2 k2] 2 = g2 at p2 hr2 hb2 ⊢
  have ss2 := ss.mono (Sub.of_pre p2)
  have sp2 := sp1.mono (Sub.of_pre p2)
  have sw2 := sw1.mono (Sub.of_pre p2)
  have sq2 := sq1.mono (Sub.of_pre p2)
  have m2 := macv_of (m := m) ss2
  have eP : rndP m pr w ps = if rndE m pr w ps = 0 then priceI pr (takenI m.steps m.start w) else 0 := rfl
  with_reducible (refine mv_i ?_; refine mv_i ?_; refine vk_i (fa27_0 _) ?_; refine ld2_0 r23 (by assumption) ?_; refine vk_i (fa36_1 _) ?_; refine ld5_1 r3 (by assumption) ?_)
  refine call_r (c41 sw2) ?_
  with_reducible (refine mv_i ?_; refine mv_i ?_)
  refine neq_i (fun he3 => ?_) (fun he3 => ?_)
  rotate_left
  · with_reducible (refine cnd_t ?_; refine mv_i ?_; refine mv_i ?_; refine mv_i ?_; refine ret2 ?_)
    refine ⟨p1.trans p2, ?_⟩
    have : rndE m pr w ps = wErr w m.inputs 1200 := by unfold rndE; rw [if_pos he3]
    rw [eP, this, if_neg he3]
  have hiw := inW_of r he3
  have hwl := (w_ok he3).1
  with_reducible (refine cnd_f ?_)
  refine vk_i (ld36 hb2) ?_
  with_reducible (refine vk_i (fa36_3 _) ?_; refine ld5_3 r3 (by assumption) ?_; refine vk_i (fa27_0 _) ?_; refine ld2_0 r23 (by assumption) ?_)
  refine call_i (c46 m2 sw2 (by omega)) ?_
  rintro tv g3 ⟨p3, q3⟩
  have st3 := q3.self
  clear q3
  have hb3 := (Sub.of_pre p3).2 _ _ hb2
  have hr3 := (Sub.of_pre p3).2 _ _ hr2
  have ss3 := ss2.mono (Sub.of_pre p3)
  have sp3 := sp2.mono (Sub.of_pre p3)
  have sw3 := sw2.mono (Sub.of_pre p3)
  have sq3 := sq2.mono (Sub.of_pre p3)
  have hkin := takenI_has (l := m.steps) (f := m.start) (w := w)
  have hklen := takenI_len (l := m.steps) w m.start
  have R1 := rnd1 (pr := pr) (ps := ps) he3
  have R2 := rnd2 (pr := pr) (ps := ps) he3
  have R3 := rnd3 (pr := pr) (ps := ps) he3
  have hml : ((takenI m.steps m.start w).map fun k : Nat => (k : Int)).length = (takenI m.steps m.start w).length := by simp
  have pall := p1.trans (p2.trans p3)
  generalize hks : takenI m.steps m.start w = ks at *
  with_reducible (refine mv_i ?_; refine mv_i ?_; refine leni_i t23 (by assumption) ?_; refine vk_i (fa27_0 _) ?_; refine ld2_0 r23 (by assumption) ?_; refine leni_i t23 (by assumption) ?_)
  refine neq_i (fun hl => ?_) (fun hl => ?_)
  rotate_left
  · with_reducible (refine cnd_t ?_; refine mv_i ?_; refine mv_i ?_; refine ret2 ?_)
    refine ⟨pall, ?_⟩
    have e0 := R1 (by omega)
    rw [eP, e0, if_neg (by decide)]
  have hkl : ks.length = w.length := by omega
  have R2 := R2 hkl
  have R3 := R3 hkl
  have gtail : ks.length = 0 → endI m ks = m.start := fun h0 => by
    have : ks = [] := List.length_eq_zero_iff.mp h0
    subst this; rfl
  with_reducible (refine cnd_f ?_; refine mv_i ?_; refine leni_i t23 (by assumption) ?_)
  refine gtr_i (fun hpos => ?_) (fun hpos => ?_)
  · obtain ⟨n, hn⟩ : ∃ n, ks.length = n + 1 := ⟨ks.length - 1, by omega⟩
    have hle := last_end (m := m) hn
    have hz : (ks.map fun k : Nat => (k : Int)).getD n 0 = ((ks.getD n 0 : Nat) : Int) := by simp [List.getD, show n < ks.length by omega]
    have hkj : ks.getD n 0 < m.steps.length := hkin _ (gd_mem 0 (by omega))
    with_reducible (refine mv_i ?_; refine gd_tt ?_; refine vk_i (fa36_4 _) ?_; refine gd_tt ?_; refine ld5_4 r34 (by assumption) ?_; refine ⟨VB_of_steps (by assumption), ?_⟩; refine gd_tt ?_; refine mv_i ?_; refine gd_tt ?_; refine mv_i ?_; refine gd_tt ?_; refine leni_i t23 (by assumption) ?_; refine gd_tt ?_)
    refine sub_i ⟨by omega, by omega⟩ ?_
    rw [show (((ks.map fun k : Nat => (k : Int)).length : Int) - 1) = (n : Int) by omega]
    with_reducible (refine gd_tt ?_; refine idxi_i t23 (by assumption) (by omega) ?_; refine gd_tt ?_; refine ldi_i t23 r3 (by assumption) (by omega) ?_; refine ⟨vbi _ _, ?_⟩; refine gd_tt ?_; refine idxzst t34 (by assumption) (by omega) (by omega) ?_; refine gd_tt ?_; refine fae_i st63 (by assumption) (by omega) (by omega) ?_; refine gd_tt ?_; refine ldto dst st63 (by assumption) (by omega) ?_; refine ⟨vbi _ _, ?_⟩; refine gd_tt ?_; refine vk_i (fa36_3 _) ?_; refine gd_tt ?_; refine ld5_3 r3 (by assumption) ?_; refine ⟨vbi _ _, ?_⟩; refine gd_tt ?_)
    rw [hz, Int.toNat_natCast]
    skip
    refine neq_i (fun hend => ?_) (fun hend => ?_)
    · rw [← hle] at hend
      have R4 : midE m ks ps = if ∃ i ∈ rchL m, ¬ i ∈ ks.map fun k : Nat => (k : Int) then 11 else if (ps.length : Int) ≠ m.states then 6 else if ∃ x ∈ ps, inR x (-1000) 1000 = false then 21 else 0 := by
        unfold midE; rw [if_neg (fun hc => hc hend)]
      with_reducible (refine pick_t ?_; refine cnd_f ?_)
      refine vk_i (ld36 hb3) ?_
      refine call_i (c26 (macv_of (m := m) ss3) r) ?_
      rintro _ g4 ⟨p4, x0, yv, rfl, q4⟩
      have sy4 := q4.self.2
      clear q4
      have hyl : ((List.range m.steps.length).map fun k => (rchB m m.start).getD (m.steps.getD k dst).fr.toNat false).length = m.steps.length := by simp
      have hyg : ∀ k, k < m.steps.length → ((List.range m.steps.length).map fun k => (rchB m m.start).getD (m.steps.getD k dst).fr.toNat false).getD k false = rP m k := fun k hk => by simp [List.getD, hk, rP]
      generalize ((List.range m.steps.length).map fun k => (rchB m m.start).getD (m.steps.getD k dst).fr.toNat false) = yl at sy4 hyl hyg
      have hb4 := (Sub.of_pre p4).2 _ _ hb3
      have hr4 := (Sub.of_pre p4).2 _ _ hr3
      have ss4 := ss3.mono (Sub.of_pre p4)
      have sp4 := sp3.mono (Sub.of_pre p4)
      have sq4 := sq3.mono (Sub.of_pre p4)
      have st4 := st3.mono (Sub.of_pre p4)
      have pall4 := pall.trans p4
      with_reducible (refine mv_i ?_; refine ex2_0 ?_; refine ex2_1 ?_; refine mv_i ?_; refine mv_i ?_; refine mv_i ?_)
      refine loop1 m.steps.length (fun k h2 => g4 = h2 ∧ ∀ j, j < k → rP m j = true → (j : Int) ∈ ks.map fun k : Nat => (k : Int)) ⟨rfl, fun j hj => by omega⟩ ?_
      rintro k _ _ hk ⟨rfl, hJ⟩
      with_reducible (refine mv_i ?_; refine vk_i (fa36_4 _) ?_; refine ld5_4 r34 (by assumption) ?_; refine lenst t34 (by assumption) ?_)
      refine lss_i (fun hlt => ?_) (fun hge => ?_)
      · have hk2 : k < m.steps.length := by omega
        have hg := hyg k hk2
        have nx : (rP m k = true → (k : Int) ∈ ks.map fun k : Nat => (k : Int)) → ∀ j, j < k + 1 → rP m j = true → (j : Int) ∈ ks.map fun k : Nat => (k : Int) := by
          intro hc j hj hp
          by_cases q : j = k
          · subst q; exact hc hp
          · exact hJ j (by omega) hp
        with_reducible (refine cnd_t ?_; refine mv_i ?_; refine mv_i ?_; refine idxb_i t48 (by assumption) (by omega) ?_; refine ldb_i t48 r4 (by assumption) (by omega) ?_; refine mv_i ?_)
        rw [hg]
        rcases hp : rP m k with _ | _
        · with_reducible (refine gd_ft ?_; refine gd_ft ?_; refine gd_ft ?_; refine gd_ft ?_; refine pick_f ?_; refine cnd_f ?_; refine mv_i ?_; refine inc_i (by omega) ?_; refine mv_i ?_)
          exact next1 hk2 ⟨rfl, nx fun hc => by rw [hp] at hc; cases hc⟩
        · with_reducible (refine gd_tt ?_; refine mv_i ?_; refine gd_tt ?_; refine mv_i ?_; refine gd_tt ?_)
          refine call_r (c47 st4) ?_
          by_cases hin : (k : Int) ∈ ks.map fun k : Nat => (k : Int)
          · rw [decide_eq_true hin]
            with_reducible (refine gd_tt ?_; refine not_t ?_; refine pick_t ?_; refine cnd_f ?_; refine mv_i ?_; refine inc_i (by omega) ?_; refine mv_i ?_)
            exact next1 hk2 ⟨rfl, nx fun _ => hin⟩
          · rw [decide_eq_false hin]
            with_reducible (refine gd_tt ?_; refine not_f ?_; refine pick_t ?_; refine cnd_t ?_; refine mv_i ?_; refine mv_i ?_; refine ret2 ?_)
            refine ⟨pall4, ?_⟩
            rw [if_pos ⟨(k : Int), idxs_mem.mpr ⟨k, rfl, hk2, hp⟩, hin⟩] at R4
            have e0 := R2 (by rw [R4]; decide)
            rw [eP, e0, R4, if_neg (by decide)]
      have hno : ¬ ∃ i ∈ rchL m, ¬ i ∈ ks.map fun k : Nat => (k : Int) := by
        rintro ⟨i, hi, hn⟩
        obtain ⟨j, rfl, hj, hp⟩ := idxs_mem.mp hi
        exact hn (hJ j (by omega) hp)
      rw [if_neg hno] at R4
      with_reducible (refine cnd_f ?_; refine vk_i (fa27_1 _) ?_; refine ld2_1 r23 (by assumption) ?_; refine leni_i t23 (by assumption) ?_; refine vk_i (fa36_0 _) ?_; refine ld5_0 r3 (by assumption) ?_)
      refine neq_i (fun hps => ?_) (fun hps => ?_)
      rotate_left
      · with_reducible (refine cnd_t ?_; refine mv_i ?_; refine mv_i ?_; refine ret2 ?_)
        refine ⟨pall4, ?_⟩
        rw [if_pos hps] at R4
        have e0 := R2 (by rw [R4]; decide)
        rw [eP, e0, R4, if_neg (by decide)]
      rw [if_neg (fun hc => hc hps)] at R4
      with_reducible (refine cnd_f ?_; refine mv_i ?_)
      refine loop1 ps.length (fun k h2 => g4 = h2 ∧ ∀ j, j < k → inR (ps.getD j 0) (-1000) 1000 = true) ⟨rfl, fun j hj => by omega⟩ ?_
      rintro k2 _ _ hk2 ⟨rfl, hJ2⟩
      with_reducible (refine mv_i ?_; refine vk_i (fa36_0 _) ?_; refine ld5_0 r3 (by assumption) ?_)
      refine lss_i (fun hlt => ?_) (fun hge2 => ?_)
      · have hk3 : k2 < ps.length := by omega
        with_reducible (refine cnd_t ?_; refine vk_i (fa27_1 _) ?_; refine ld2_1 r23 (by assumption) ?_; refine mv_i ?_; refine idxi_i t23 (by assumption) (by omega) ?_; refine ldi_i t23 r3 (by assumption) (by omega) ?_)
        refine call_r (c22 _ _ _) ?_
        cases hz : inR (ps.getD k2 0) (-1000) 1000 with
        | true =>
          with_reducible (refine not_t ?_; refine cnd_f ?_; refine mv_i ?_; refine inc_i (by omega) ?_; refine mv_i ?_)
          refine next1 hk3 ⟨rfl, fun j hj => ?_⟩
          by_cases q : j = k2
          · subst q; exact hz
          · exact hJ2 j (by omega)
        | false =>
          with_reducible (refine not_f ?_; refine cnd_t ?_; refine mv_i ?_; refine mv_i ?_; refine ret2 ?_)
          refine ⟨pall4, ?_⟩
          rw [if_pos ⟨_, gd_mem 0 hk3, hz⟩] at R4
          have e0 := R2 (by rw [R4]; decide)
          rw [eP, e0, R4, if_neg (by decide)]
      have hbd : ¬ ∃ x ∈ ps, inR x (-1000) 1000 = false := by
        rintro ⟨x, hx, hn⟩
        obtain ⟨j, hj, he⟩ := mem_gd 0 hx
        have := hJ2 j (by omega)
        rw [he, hn] at this
        cases this
      rw [if_neg hbd] at R4
      have R3 := R3 R4
      have hpb := psOK_of hbd
      with_reducible (refine cnd_f ?_; refine mv_i ?_; refine mv_i ?_)
      refine loop2 ks.length (fun j pv h2 => g4 = h2 ∧ pv = .int .i64 (priceI pr (ks.take j)) ∧ 0 ≤ priceI pr (ks.take j) ∧ priceI pr (ks.take j) ≤ 20 * j) ⟨rfl, rfl, by simp [priceI], by simp [priceI]⟩ ?_
      rintro j _ _ _ hj ⟨rfl, rfl, hp0, hp1⟩
      with_reducible (refine mv_i ?_; refine mv_i ?_; refine leni_i t23 (by assumption) ?_)
      refine lss_i (fun hlt2 => ?_) (fun hge3 => ?_)
      · have hj2 : j < ks.length := by omega
        have hz : (ks.map fun k : Nat => (k : Int)).getD j 0 = ((ks.getD j 0 : Nat) : Int) := by simp [List.getD, hj2]
        have hkj : ks.getD j 0 < m.steps.length := hkin _ (gd_mem 0 hj2)
        have hpk := hpo (ks.getD j 0)
        have hpt := priceI_take (pr := pr) hj2
        with_reducible (refine cnd_t ?_; refine mv_i ?_; refine mv_i ?_; refine mv_i ?_; refine mv_i ?_; refine idxi_i t23 (by assumption) (by omega) ?_; refine ldi_i t23 r3 (by assumption) (by omega) ?_; refine idxzi t23 (by assumption) (by omega) (by omega) ?_; refine ldi_i t23 r3 (by assumption) (by omega) ?_)
        rw [hz, Int.toNat_natCast]
        refine add_i ⟨by omega, by omega⟩ ?_
        with_reducible (refine mv_i ?_; refine mv_i ?_; refine inc_i (by omega) ?_; refine mv_i ?_)
        exact next2 hj2 ⟨rfl, by rw [hpt], by omega, by push_cast; omega⟩
      have ej : j = ks.length := by omega
      rw [ej, List.take_of_length_le (Nat.le_refl _)] at hp0 hp1 ⊢
      with_reducible (refine cnd_f ?_; refine mv_i ?_; refine mv_i ?_)
      refine loop2 m.steps.length (fun k sv h2 => g4 = h2 ∧ sv = .int .i64 (restS m pr ps (idxs (rP m) k)) ∧ 0 ≤ restS m pr ps (idxs (rP m) k) ∧ restS m pr ps (idxs (rP m) k) ≤ 2020 * k ∧ ∀ i, i < k → rP m i = true → 0 ≤ restI m pr ps i) ⟨rfl, rfl, by simp [restS, idxs], by simp [restS, idxs], fun i hi => by omega⟩ ?_
      rintro k _ _ _ hk ⟨rfl, rfl, hs0, hs1, hneg⟩
      with_reducible (refine mv_i ?_; refine vk_i (fa36_4 _) ?_; refine ld5_4 r34 (by assumption) ?_; refine lenst t34 (by assumption) ?_)
      refine lss_i (fun hlt3 => ?_) (fun hge3 => ?_)
      · have hk2 : k < m.steps.length := by omega
        have hg := hyg k hk2
        have hst := r.st hk2
        have hpz := hpo k
        have ha := hpb (m.steps.getD k dst).fr.toNat
        have hb := hpb (m.steps.getD k dst).to.toNat
        have hrb := restI_b (m := m) hpo hpb k
        have hre : restI m pr ps k = pr.getD k 0 + ps.getD (m.steps.getD k dst).fr.toNat 0 - ps.getD (m.steps.getD k dst).to.toNat 0 := rfl
        have hrs := restS_succ (m := m) (pr := pr) (ps := ps) (j := k)
        refine cnd_t ?_
        refine seq_J (fun xs h4 => xs = [.int .i64 (restS m pr ps (idxs (rP m) (k + 1)))] ∧ h4 = g4 ∧ 0 ≤ restS m pr ps (idxs (rP m) (k + 1)) ∧ restS m pr ps (idxs (rP m) (k + 1)) ≤ 2020 * (k + 1) ∧ ∀ i, i < k + 1 → rP m i = true → 0 ≤ restI m pr ps i) ?_ ?_
        · rintro _ _ ⟨rfl, rfl, a1, a2, a3⟩ _
          show mvK _ _ _
          with_reducible (refine mv_i ?_; refine inc_i (by omega) ?_; refine mv_i ?_)
          exact next2 hk2 ⟨rfl, rfl, a1, by push_cast; omega, a3⟩
        intro k' hk'
        with_reducible (refine mv_i ?_; refine mv_i ?_; refine idxi_i t23 (by assumption) (by omega) ?_; refine ldi_i t23 r3 (by assumption) (by omega) ?_; refine ⟨vbi _ _, ?_⟩; refine vk_i (fa27_1 _) ?_; refine ld2_1 r23 (by assumption) ?_; refine ⟨VB_of_ints (by assumption), ?_⟩; refine vk_i (fa36_4 _) ?_; refine ld5_4 r34 (by assumption) ?_; refine ⟨VB_of_steps (by assumption), ?_⟩; refine mv_i ?_; refine idxst t34 (by assumption) (by omega) ?_; refine fae_i st63 (by assumption) (by omega) (by omega) ?_; refine ldfr dst st63 (by assumption) (by omega) ?_; refine ⟨vbi _ _, ?_⟩; refine idxzi t23 (by assumption) (by omega) (by omega) ?_; refine ldi_i t23 r3 (by assumption) (by omega) ?_; refine ⟨vbi _ _, ?_⟩)
        refine add_i ⟨by omega, by omega⟩ ?_
        with_reducible (refine vk_i (fa27_1 _) ?_; refine ld2_1 r23 (by assumption) ?_; refine ⟨VB_of_ints (by assumption), ?_⟩; refine vk_i (fa36_4 _) ?_; refine ld5_4 r34 (by assumption) ?_; refine ⟨VB_of_steps (by assumption), ?_⟩; refine mv_i ?_; refine idxst t34 (by assumption) (by omega) ?_; refine fae_i st63 (by assumption) (by omega) (by omega) ?_; refine ldto dst st63 (by assumption) (by omega) ?_; refine ⟨vbi _ _, ?_⟩; refine idxzi t23 (by assumption) (by omega) (by omega) ?_; refine ldi_i t23 r3 (by assumption) (by omega) ?_; refine ⟨vbi _ _, ?_⟩)
        refine sub_i ⟨by omega, by omega⟩ ?_
        rw [← hre]
        with_reducible (refine mv_i ?_; refine mv_i ?_; refine mv_i ?_; refine idxb_i t48 (by assumption) (by omega) ?_; refine ldb_i t48 r4 (by assumption) (by omega) ?_; refine mv_i ?_)
        rw [hg]
        rcases hp : rP m k with _ | _
        · rw [hp, if_neg (by simp)] at hrs
          with_reducible (refine gd_ft ?_; refine gd_ft ?_; refine pick_f ?_; refine cnd_f ?_; refine mv_i ?_; refine mv_i ?_; refine idxb_i t48 (by assumption) (by omega) ?_; refine ldb_i t48 r4 (by assumption) (by omega) ?_)
          rw [hg, hp]
          with_reducible (refine cnd_f ?_)
          refine hk' _ _ ⟨by rw [hrs], rfl, by rw [hrs]; exact hs0, by rw [hrs]; omega, fun i hi hpi => ?_⟩
          by_cases q : i = k
          · subst q; rw [hp] at hpi; cases hpi
          · exact hneg i (by omega) hpi
        · rw [hp, if_pos rfl] at hrs
          with_reducible (refine gd_tt ?_; refine mv_i ?_; refine gd_tt ?_)
          refine lss_i (fun hn => ?_) (fun hn => ?_)
          · with_reducible (refine pick_t ?_; refine cnd_t ?_; refine mv_i ?_; refine mv_i ?_; refine ret2 ?_)
            refine ⟨pall4, ?_⟩
            have : finE m pr ks ps = 30 := by
              unfold finE
              rw [if_pos (.inl ⟨(k : Int), idxs_mem.mpr ⟨k, rfl, hk2, hp⟩, hn⟩)]
            rw [eP, R3, this, if_neg (by decide)]
          · with_reducible (refine pick_t ?_; refine cnd_f ?_; refine mv_i ?_; refine mv_i ?_; refine idxb_i t48 (by assumption) (by omega) ?_; refine ldb_i t48 r4 (by assumption) (by omega) ?_)
            rw [hg, hp]
            with_reducible (refine cnd_t ?_; refine mv_i ?_; refine mv_i ?_)
            refine add_i ⟨by omega, by omega⟩ ?_
            with_reducible (refine mv_i ?_)
            refine hk' _ _ ⟨by rw [hrs], rfl, by rw [hrs]; omega, by rw [hrs]; omega, fun i hi hpi => ?_⟩
            by_cases q : i = k
            · subst q; omega
            · exact hneg i (by omega) hpi
      have ek : k = m.steps.length := by omega
      rw [ek] at hs0 hs1 hneg ⊢
      have hnn : ¬ ∃ i ∈ rchL m, restI m pr ps i.toNat < 0 := by
        rintro ⟨i, hi, hn⟩
        obtain ⟨q, rfl, hq, hp⟩ := idxs_mem.mp hi
        have := hneg q hq hp
        rw [Int.toNat_natCast] at hn
        omega
      with_reducible (refine cnd_f ?_; refine mv_i ?_; refine mv_i ?_)
      refine neq_i (fun hq => ?_) (fun hq => ?_)
      · with_reducible (refine cnd_f ?_; refine mv_i ?_; refine mv_i ?_; refine mv_i ?_; refine ret2 ?_)
        refine ⟨pall4, ?_⟩
        have : finE m pr ks ps = 0 := by
          unfold finE
          rw [if_neg (by rintro (hc | hc); exact hnn hc; exact hc hq)]
        rw [eP, R3, this, if_pos rfl]
      · with_reducible (refine cnd_t ?_; refine mv_i ?_; refine mv_i ?_; refine ret2 ?_)
        refine ⟨pall4, ?_⟩
        have : finE m pr ks ps = 30 := by
          unfold finE
          rw [if_pos (.inr hq)]
        rw [eP, R3, this, if_neg (by decide)]
    · rw [← hle] at hend
      with_reducible (refine pick_t ?_; refine cnd_t ?_; refine mv_i ?_; refine mv_i ?_; refine ret2 ?_)
      refine ⟨pall, ?_⟩
      have : midE m ks ps = 39 := by unfold midE; rw [if_pos hend]
      have e0 := R2 (by rw [this]; decide)
      rw [eP, e0, this, if_neg (by decide)]
  · have hend := gtail (by omega)
    have R4 : midE m ks ps = if ∃ i ∈ rchL m, ¬ i ∈ ks.map fun k : Nat => (k : Int) then 11 else if (ps.length : Int) ≠ m.states then 6 else if ∃ x ∈ ps, inR x (-1000) 1000 = false then 21 else 0 := by
      unfold midE; rw [if_neg (fun hc => hc hend)]
    with_reducible (refine mv_i ?_; refine gd_ft ?_; refine gd_ft ?_; refine gd_ft ?_; refine gd_ft ?_; refine gd_ft ?_; refine gd_ft ?_; refine gd_ft ?_; refine gd_ft ?_; refine gd_ft ?_; refine gd_ft ?_; refine gd_ft ?_; refine gd_ft ?_; refine gd_ft ?_; refine gd_ft ?_; refine pick_f ?_; refine cnd_f ?_)
    refine vk_i (ld36 hb3) ?_
    refine call_i (c26 (macv_of (m := m) ss3) r) ?_
    rintro _ g4 ⟨p4, x0, yv, rfl, q4⟩
    have sy4 := q4.self.2
    clear q4
    have hyl : ((List.range m.steps.length).map fun k => (rchB m m.start).getD (m.steps.getD k dst).fr.toNat false).length = m.steps.length := by simp
    have hyg : ∀ k, k < m.steps.length → ((List.range m.steps.length).map fun k => (rchB m m.start).getD (m.steps.getD k dst).fr.toNat false).getD k false = rP m k := fun k hk => by simp [List.getD, hk, rP]
    generalize ((List.range m.steps.length).map fun k => (rchB m m.start).getD (m.steps.getD k dst).fr.toNat false) = yl at sy4 hyl hyg
    have hb4 := (Sub.of_pre p4).2 _ _ hb3
    have hr4 := (Sub.of_pre p4).2 _ _ hr3
    have ss4 := ss3.mono (Sub.of_pre p4)
    have sp4 := sp3.mono (Sub.of_pre p4)
    have sq4 := sq3.mono (Sub.of_pre p4)
    have st4 := st3.mono (Sub.of_pre p4)
    have pall4 := pall.trans p4
    with_reducible (refine mv_i ?_; refine ex2_0 ?_; refine ex2_1 ?_; refine mv_i ?_; refine mv_i ?_; refine mv_i ?_)
    refine loop1 m.steps.length (fun k h2 => g4 = h2 ∧ ∀ j, j < k → rP m j = true → (j : Int) ∈ ks.map fun k : Nat => (k : Int)) ⟨rfl, fun j hj => by omega⟩ ?_
    rintro k _ _ hk ⟨rfl, hJ⟩
    with_reducible (refine mv_i ?_; refine vk_i (fa36_4 _) ?_; refine ld5_4 r34 (by assumption) ?_; refine lenst t34 (by assumption) ?_)
    refine lss_i (fun hlt => ?_) (fun hge => ?_)
    · have hk2 : k < m.steps.length := by omega
      have hg := hyg k hk2
      have nx : (rP m k = true → (k : Int) ∈ ks.map fun k : Nat => (k : Int)) → ∀ j, j < k + 1 → rP m j = true → (j : Int) ∈ ks.map fun k : Nat => (k : Int) := by
        intro hc j hj hp
        by_cases q : j = k
        · subst q; exact hc hp
        · exact hJ j (by omega) hp
      with_reducible (refine cnd_t ?_; refine mv_i ?_; refine mv_i ?_; refine idxb_i t48 (by assumption) (by omega) ?_; refine ldb_i t48 r4 (by assumption) (by omega) ?_; refine mv_i ?_)
      rw [hg]
      rcases hp : rP m k with _ | _
      · with_reducible (refine gd_ft ?_; refine gd_ft ?_; refine gd_ft ?_; refine gd_ft ?_; refine pick_f ?_; refine cnd_f ?_; refine mv_i ?_; refine inc_i (by omega) ?_; refine mv_i ?_)
        exact next1 hk2 ⟨rfl, nx fun hc => by rw [hp] at hc; cases hc⟩
      · with_reducible (refine gd_tt ?_; refine mv_i ?_; refine gd_tt ?_; refine mv_i ?_; refine gd_tt ?_)
        refine call_r (c47 st4) ?_
        by_cases hin : (k : Int) ∈ ks.map fun k : Nat => (k : Int)
        · rw [decide_eq_true hin]
          with_reducible (refine gd_tt ?_; refine not_t ?_; refine pick_t ?_; refine cnd_f ?_; refine mv_i ?_; refine inc_i (by omega) ?_; refine mv_i ?_)
          exact next1 hk2 ⟨rfl, nx fun _ => hin⟩
        · rw [decide_eq_false hin]
          with_reducible (refine gd_tt ?_; refine not_f ?_; refine pick_t ?_; refine cnd_t ?_; refine mv_i ?_; refine mv_i ?_; refine ret2 ?_)
          refine ⟨pall4, ?_⟩
          rw [if_pos ⟨(k : Int), idxs_mem.mpr ⟨k, rfl, hk2, hp⟩, hin⟩] at R4
          have e0 := R2 (by rw [R4]; decide)
          rw [eP, e0, R4, if_neg (by decide)]
    have hno : ¬ ∃ i ∈ rchL m, ¬ i ∈ ks.map fun k : Nat => (k : Int) := by
      rintro ⟨i, hi, hn⟩
      obtain ⟨j, rfl, hj, hp⟩ := idxs_mem.mp hi
      exact hn (hJ j (by omega) hp)
    rw [if_neg hno] at R4
    with_reducible (refine cnd_f ?_; refine vk_i (fa27_1 _) ?_; refine ld2_1 r23 (by assumption) ?_; refine leni_i t23 (by assumption) ?_; refine vk_i (fa36_0 _) ?_; refine ld5_0 r3 (by assumption) ?_)
    refine neq_i (fun hps => ?_) (fun hps => ?_)
    rotate_left
    · with_reducible (refine cnd_t ?_; refine mv_i ?_; refine mv_i ?_; refine ret2 ?_)
      refine ⟨pall4, ?_⟩
      rw [if_pos hps] at R4
      have e0 := R2 (by rw [R4]; decide)
      rw [eP, e0, R4, if_neg (by decide)]
    rw [if_neg (fun hc => hc hps)] at R4
    with_reducible (refine cnd_f ?_; refine mv_i ?_)
    refine loop1 ps.length (fun k h2 => g4 = h2 ∧ ∀ j, j < k → inR (ps.getD j 0) (-1000) 1000 = true) ⟨rfl, fun j hj => by omega⟩ ?_
    rintro k2 _ _ hk2 ⟨rfl, hJ2⟩
    with_reducible (refine mv_i ?_; refine vk_i (fa36_0 _) ?_; refine ld5_0 r3 (by assumption) ?_)
    refine lss_i (fun hlt => ?_) (fun hge2 => ?_)
    · have hk3 : k2 < ps.length := by omega
      with_reducible (refine cnd_t ?_; refine vk_i (fa27_1 _) ?_; refine ld2_1 r23 (by assumption) ?_; refine mv_i ?_; refine idxi_i t23 (by assumption) (by omega) ?_; refine ldi_i t23 r3 (by assumption) (by omega) ?_)
      refine call_r (c22 _ _ _) ?_
      cases hz : inR (ps.getD k2 0) (-1000) 1000 with
      | true =>
        with_reducible (refine not_t ?_; refine cnd_f ?_; refine mv_i ?_; refine inc_i (by omega) ?_; refine mv_i ?_)
        refine next1 hk3 ⟨rfl, fun j hj => ?_⟩
        by_cases q : j = k2
        · subst q; exact hz
        · exact hJ2 j (by omega)
      | false =>
        with_reducible (refine not_f ?_; refine cnd_t ?_; refine mv_i ?_; refine mv_i ?_; refine ret2 ?_)
        refine ⟨pall4, ?_⟩
        rw [if_pos ⟨_, gd_mem 0 hk3, hz⟩] at R4
        have e0 := R2 (by rw [R4]; decide)
        rw [eP, e0, R4, if_neg (by decide)]
    have hbd : ¬ ∃ x ∈ ps, inR x (-1000) 1000 = false := by
      rintro ⟨x, hx, hn⟩
      obtain ⟨j, hj, he⟩ := mem_gd 0 hx
      have := hJ2 j (by omega)
      rw [he, hn] at this
      cases this
    rw [if_neg hbd] at R4
    have R3 := R3 R4
    have hpb := psOK_of hbd
    with_reducible (refine cnd_f ?_; refine mv_i ?_; refine mv_i ?_)
    refine loop2 ks.length (fun j pv h2 => g4 = h2 ∧ pv = .int .i64 (priceI pr (ks.take j)) ∧ 0 ≤ priceI pr (ks.take j) ∧ priceI pr (ks.take j) ≤ 20 * j) ⟨rfl, rfl, by simp [priceI], by simp [priceI]⟩ ?_
    rintro j _ _ _ hj ⟨rfl, rfl, hp0, hp1⟩
    with_reducible (refine mv_i ?_; refine mv_i ?_; refine leni_i t23 (by assumption) ?_)
    refine lss_i (fun hlt2 => ?_) (fun hge3 => ?_)
    · have hj2 : j < ks.length := by omega
      have hz : (ks.map fun k : Nat => (k : Int)).getD j 0 = ((ks.getD j 0 : Nat) : Int) := by simp [List.getD, hj2]
      have hkj : ks.getD j 0 < m.steps.length := hkin _ (gd_mem 0 hj2)
      have hpk := hpo (ks.getD j 0)
      have hpt := priceI_take (pr := pr) hj2
      with_reducible (refine cnd_t ?_; refine mv_i ?_; refine mv_i ?_; refine mv_i ?_; refine mv_i ?_; refine idxi_i t23 (by assumption) (by omega) ?_; refine ldi_i t23 r3 (by assumption) (by omega) ?_; refine idxzi t23 (by assumption) (by omega) (by omega) ?_; refine ldi_i t23 r3 (by assumption) (by omega) ?_)
      rw [hz, Int.toNat_natCast]
      refine add_i ⟨by omega, by omega⟩ ?_
      with_reducible (refine mv_i ?_; refine mv_i ?_; refine inc_i (by omega) ?_; refine mv_i ?_)
      exact next2 hj2 ⟨rfl, by rw [hpt], by omega, by push_cast; omega⟩
    have ej : j = ks.length := by omega
    rw [ej, List.take_of_length_le (Nat.le_refl _)] at hp0 hp1 ⊢
    with_reducible (refine cnd_f ?_; refine mv_i ?_; refine mv_i ?_)
    refine loop2 m.steps.length (fun k sv h2 => g4 = h2 ∧ sv = .int .i64 (restS m pr ps (idxs (rP m) k)) ∧ 0 ≤ restS m pr ps (idxs (rP m) k) ∧ restS m pr ps (idxs (rP m) k) ≤ 2020 * k ∧ ∀ i, i < k → rP m i = true → 0 ≤ restI m pr ps i) ⟨rfl, rfl, by simp [restS, idxs], by simp [restS, idxs], fun i hi => by omega⟩ ?_
    rintro k _ _ _ hk ⟨rfl, rfl, hs0, hs1, hneg⟩
    with_reducible (refine mv_i ?_; refine vk_i (fa36_4 _) ?_; refine ld5_4 r34 (by assumption) ?_; refine lenst t34 (by assumption) ?_)
    refine lss_i (fun hlt3 => ?_) (fun hge3 => ?_)
    · have hk2 : k < m.steps.length := by omega
      have hg := hyg k hk2
      have hst := r.st hk2
      have hpz := hpo k
      have ha := hpb (m.steps.getD k dst).fr.toNat
      have hb := hpb (m.steps.getD k dst).to.toNat
      have hrb := restI_b (m := m) hpo hpb k
      have hre : restI m pr ps k = pr.getD k 0 + ps.getD (m.steps.getD k dst).fr.toNat 0 - ps.getD (m.steps.getD k dst).to.toNat 0 := rfl
      have hrs := restS_succ (m := m) (pr := pr) (ps := ps) (j := k)
      refine cnd_t ?_
      refine seq_J (fun xs h4 => xs = [.int .i64 (restS m pr ps (idxs (rP m) (k + 1)))] ∧ h4 = g4 ∧ 0 ≤ restS m pr ps (idxs (rP m) (k + 1)) ∧ restS m pr ps (idxs (rP m) (k + 1)) ≤ 2020 * (k + 1) ∧ ∀ i, i < k + 1 → rP m i = true → 0 ≤ restI m pr ps i) ?_ ?_
      · rintro _ _ ⟨rfl, rfl, a1, a2, a3⟩ _
        show mvK _ _ _
        with_reducible (refine mv_i ?_; refine inc_i (by omega) ?_; refine mv_i ?_)
        exact next2 hk2 ⟨rfl, rfl, a1, by push_cast; omega, a3⟩
      intro k' hk'
      with_reducible (refine mv_i ?_; refine mv_i ?_; refine idxi_i t23 (by assumption) (by omega) ?_; refine ldi_i t23 r3 (by assumption) (by omega) ?_; refine ⟨vbi _ _, ?_⟩; refine vk_i (fa27_1 _) ?_; refine ld2_1 r23 (by assumption) ?_; refine ⟨VB_of_ints (by assumption), ?_⟩; refine vk_i (fa36_4 _) ?_; refine ld5_4 r34 (by assumption) ?_; refine ⟨VB_of_steps (by assumption), ?_⟩; refine mv_i ?_; refine idxst t34 (by assumption) (by omega) ?_; refine fae_i st63 (by assumption) (by omega) (by omega) ?_; refine ldfr dst st63 (by assumption) (by omega) ?_; refine ⟨vbi _ _, ?_⟩; refine idxzi t23 (by assumption) (by omega) (by omega) ?_; refine ldi_i t23 r3 (by assumption) (by omega) ?_; refine ⟨vbi _ _, ?_⟩)
      refine add_i ⟨by omega, by omega⟩ ?_
      with_reducible (refine vk_i (fa27_1 _) ?_; refine ld2_1 r23 (by assumption) ?_; refine ⟨VB_of_ints (by assumption), ?_⟩; refine vk_i (fa36_4 _) ?_; refine ld5_4 r34 (by assumption) ?_; refine ⟨VB_of_steps (by assumption), ?_⟩; refine mv_i ?_; refine idxst t34 (by assumption) (by omega) ?_; refine fae_i st63 (by assumption) (by omega) (by omega) ?_; refine ldto dst st63 (by assumption) (by omega) ?_; refine ⟨vbi _ _, ?_⟩; refine idxzi t23 (by assumption) (by omega) (by omega) ?_; refine ldi_i t23 r3 (by assumption) (by omega) ?_; refine ⟨vbi _ _, ?_⟩)
      refine sub_i ⟨by omega, by omega⟩ ?_
      rw [← hre]
      with_reducible (refine mv_i ?_; refine mv_i ?_; refine mv_i ?_; refine idxb_i t48 (by assumption) (by omega) ?_; refine ldb_i t48 r4 (by assumption) (by omega) ?_; refine mv_i ?_)
      rw [hg]
      rcases hp : rP m k with _ | _
      · rw [hp, if_neg (by simp)] at hrs
        with_reducible (refine gd_ft ?_; refine gd_ft ?_; refine pick_f ?_; refine cnd_f ?_; refine mv_i ?_; refine mv_i ?_; refine idxb_i t48 (by assumption) (by omega) ?_; refine ldb_i t48 r4 (by assumption) (by omega) ?_)
        rw [hg, hp]
        with_reducible (refine cnd_f ?_)
        refine hk' _ _ ⟨by rw [hrs], rfl, by rw [hrs]; exact hs0, by rw [hrs]; omega, fun i hi hpi => ?_⟩
        by_cases q : i = k
        · subst q; rw [hp] at hpi; cases hpi
        · exact hneg i (by omega) hpi
      · rw [hp, if_pos rfl] at hrs
        with_reducible (refine gd_tt ?_; refine mv_i ?_; refine gd_tt ?_)
        refine lss_i (fun hn => ?_) (fun hn => ?_)
        · with_reducible (refine pick_t ?_; refine cnd_t ?_; refine mv_i ?_; refine mv_i ?_; refine ret2 ?_)
          refine ⟨pall4, ?_⟩
          have : finE m pr ks ps = 30 := by
            unfold finE
            rw [if_pos (.inl ⟨(k : Int), idxs_mem.mpr ⟨k, rfl, hk2, hp⟩, hn⟩)]
          rw [eP, R3, this, if_neg (by decide)]
        · with_reducible (refine pick_t ?_; refine cnd_f ?_; refine mv_i ?_; refine mv_i ?_; refine idxb_i t48 (by assumption) (by omega) ?_; refine ldb_i t48 r4 (by assumption) (by omega) ?_)
          rw [hg, hp]
          with_reducible (refine cnd_t ?_; refine mv_i ?_; refine mv_i ?_)
          refine add_i ⟨by omega, by omega⟩ ?_
          with_reducible (refine mv_i ?_)
          refine hk' _ _ ⟨by rw [hrs], rfl, by rw [hrs]; omega, by rw [hrs]; omega, fun i hi hpi => ?_⟩
          by_cases q : i = k
          · subst q; omega
          · exact hneg i (by omega) hpi
    have ek : k = m.steps.length := by omega
    rw [ek] at hs0 hs1 hneg ⊢
    have hnn : ¬ ∃ i ∈ rchL m, restI m pr ps i.toNat < 0 := by
      rintro ⟨i, hi, hn⟩
      obtain ⟨q, rfl, hq, hp⟩ := idxs_mem.mp hi
      have := hneg q hq hp
      rw [Int.toNat_natCast] at hn
      omega
    with_reducible (refine cnd_f ?_; refine mv_i ?_; refine mv_i ?_)
    refine neq_i (fun hq => ?_) (fun hq => ?_)
    · with_reducible (refine cnd_f ?_; refine mv_i ?_; refine mv_i ?_; refine mv_i ?_; refine ret2 ?_)
      refine ⟨pall4, ?_⟩
      have : finE m pr ks ps = 0 := by
        unfold finE
        rw [if_neg (by rintro (hc | hc); exact hnn hc; exact hc hq)]
      rw [eP, R3, this, if_pos rfl]
    · with_reducible (refine cnd_t ?_; refine mv_i ?_; refine mv_i ?_; refine ret2 ?_)
      refine ⟨pall4, ?_⟩
      have : finE m pr ks ps = 30 := by
        unfold finE
        rw [if_pos (.inr hq)]
      rw [eP, R3, this, if_neg (by decide)]
end Go.Proofs.Ytdjoednhfoligaa

set_option linter.unusedSimpArgs false
set_option linter.unusedVariables false
set_option maxRecDepth 100000
namespace Go.Proofs.Ytdjoednhfoligaa
open Go.AM
variable {h h' h0 h1 : Heap} {K : Value → Heap → Prop} {m : Mac}

theorem orE_law (m : Mac) (pr w : List Int) : (mErr m).2 ≠ 0 → orOf [(mErr m).2, prErr m pr, wErr w m.inputs 1200] = (mErr m).2 := fun hz => by rw [or3, if_neg hz]
set_option maxHeartbeats 1000000 in
theorem c3 {a b : Value} {o1 o2 : Option Addr} {l1 k1 l2 k2 : Nat} {pr w ps : List Int} (s : MacV h a m) (sp : IntS h b pr) (sw : IntS h (.slice o1 l1 k1) w) (sq : IntS h (.slice o2 l2 k2) ps) (hl : m.steps.length ≤ 2 ^ 40) (hf : pr.length ≤ 2 ^ 40 ∧ w.length ≤ 2 ^ 40 ∧ ps.length ≤ 2 ^ 40) :
    Runs Try.prog 3 [a, b, .agg #[.slice o1 l1 k1, .slice o2 l2 k2]] h (.bool true) h := by
  refine DetP.forget rfl ?_
  refine w3 ?_
  unfold n3
  obtain ⟨o, l, c, rfl, ss0⟩ := s
  rw [box36]
  refine ok_i rfl ?_
  have p1 := pre_new h [.int .i64 m.states, .int .i64 m.inputs, .int .i64 m.outputs, .int .i64 m.start, .slice o l c] 5
  have hb1 := newArr_get h [.int .i64 m.states, .int .i64 m.inputs, .int .i64 m.outputs, .int .i64 m.start, .slice o l c] 5
  have ss := ss0.mono (Sub.of_pre p1)
  generalize hg1 : newArr h [.int .i64 m.states, .int .i64 m.inputs, .int .i64 m.outputs, .int .i64 m.start, .slice o l c] 5 = g1 at p1 hb1 ss ⊢
  have sp1 := sp.mono (Sub.of_pre p1)
  have sw1 := sw.mono (Sub.of_pre p1)
  have sq1 := sq.mono (Sub.of_pre p1)
  rw [box27]
  refine ok_i rfl ?_
  have p2 := pre_new g1 [.slice o1 l1 k1, .slice o2 l2 k2] 2
  have hr2 := newArr_get g1 [.slice o1 l1 k1, .slice o2 l2 k2] 2
  have hb2 := (Sub.of_pre p2).2 _ _ hb1
  generalize hgi : g1.length = ri at hr2 ⊢
  generalize newArr g1 [.slice o1 l1 k1, .slice o2 l2 k2] 2 = g2 at p2 hr2 hb2 ⊢
  have ss2 := ss.mono (Sub.of_pre p2)
  have sp2 := sp1.mono (Sub.of_pre p2)
  have sw2 := sw1.mono (Sub.of_pre p2)
  have sq2 := sq1.mono (Sub.of_pre p2)
  have m2 := macv_of (m := m) ss2
  with_reducible (refine mv_i ?_)
  refine call_r c14 ?_
  with_reducible (refine not_t ?_; refine cnd_f ?_)
  refine vk_i (ld36 hb2) ?_
  refine ⟨vb_mac ss2, ?_⟩
  refine calld_i (c16 m2 hl) ?_
  rintro x g3 ⟨p3, mx⟩
  refine ⟨p3.imp fun t ht => ht.symm, ?_⟩
  with_reducible (refine mv_i ?_)
  refine calld_r (c17 (sp2.mono (Sub.of_pre p3)) hf.1) ⟨(ownH_pre _ _).imp fun t ht => ht.symm, ?_⟩
  have q4 := (own_only g3 (xs := pr) (by omega)).self
  have p4 := ownH_pre g3 pr
  generalize ownV g3 pr = v4 at q4 ⊢
  generalize ownH g3 pr = g4 at q4 p4 ⊢
  have hr4 := (Sub.of_pre (p3.trans p4)).2 _ _ hr2
  have sw4 := sw2.mono (Sub.of_pre (p3.trans p4))
  with_reducible (refine vk_i (fa27_0 _) ?_; refine ld2_0 r23 (by assumption) ?_; refine ⟨VB_of_ints (by assumption), ?_⟩)
  refine calld_r (c17 sw4 hf.2.1) ⟨(ownH_pre _ _).imp fun t ht => ht.symm, ?_⟩
  have q5 := (own_only g4 (xs := w) (by omega)).self
  have p5 := ownH_pre g4 w
  obtain ⟨o5, l5, k5, e5⟩ := ownV_slice g4 w
  rw [e5] at q5 ⊢
  generalize ownH g4 w = g5 at q5 p5 ⊢
  have hr5 := (Sub.of_pre p5).2 _ _ hr4
  have sq5 := sq2.mono (Sub.of_pre (p3.trans (p4.trans p5)))
  with_reducible (refine vk_i (fa27_1 _) ?_; refine ld2_1 r23 (by assumption) ?_; refine ⟨VB_of_ints (by assumption), ?_⟩)
  refine calld_r (c17 sq5 hf.2.2) ⟨(ownH_pre _ _).imp fun t ht => ht.symm, ?_⟩
  have q6 := (own_only g5 (xs := ps) (by omega)).self
  have p6 := ownH_pre g5 ps
  obtain ⟨o6, l6, k6, e6⟩ := ownV_slice g5 ps
  rw [e6] at q6 ⊢
  generalize ownH g5 ps = g6 at q6 p6 ⊢
  refine vk_i (build27 _ _ _ _ _ _) ?_
  refine calld_i (c15 (mx.mono (Sub.of_pre (p4.trans (p5.trans p6)))) (q4.mono (Sub.of_pre (p5.trans p6))) (q5.mono (Sub.of_pre p6)) q6) ?_
  rintro y g7 ⟨p7, hy⟩
  refine ⟨p7.imp fun t ht => ht.symm, ?_⟩
  have pz := p3.trans (p4.trans (p5.trans (p6.trans p7)))
  have hb7 := (Sub.of_pre pz).2 _ _ hb2
  have hr7 := (Sub.of_pre pz).2 _ _ hr2
  have ss7 := ss2.mono (Sub.of_pre pz)
  have sp7 := sp2.mono (Sub.of_pre pz)
  have sw7 := sw2.mono (Sub.of_pre pz)
  have sq7 := sq2.mono (Sub.of_pre pz)
  have m7 := macv_of (m := m) ss7
  have pall := p1.trans (p2.trans pz)
  obtain ⟨P, E, hPE, hz1, hz2, hz3⟩ : ∃ P E : Int, y = .tuple #[.int .i64 P, .int .i64 E] ∧ ((mErr m).2 ≠ 0 → P = 0 ∧ E = (mErr m).2) ∧ ((mErr m).2 = 0 → prErr m pr ≠ 0 → P = 0 ∧ E = prErr m pr) ∧ ((mErr m).2 = 0 → prErr m pr = 0 → P = rndP m pr w ps ∧ E = rndE m pr w ps) := by
    rw [or3] at hy
    by_cases h1 : (mErr m).2 = 0
    · rw [if_pos h1] at hy
      by_cases h2 : prErr m pr = 0
      · rw [if_pos h2] at hy
        by_cases h3 : wErr w m.inputs 1200 = 0
        · rw [if_neg (by simp [h3])] at hy
          exact ⟨_, _, hy, fun hc => absurd h1 hc, fun _ hc => absurd h2 hc, fun _ _ => ⟨rfl, rfl⟩⟩
        · rw [if_pos h3] at hy
          have e0 : rndE m pr w ps = wErr w m.inputs 1200 := by unfold rndE; rw [if_pos h3]
          have e1 : rndP m pr w ps = 0 := by unfold rndP; rw [e0, if_neg h3]
          exact ⟨_, _, hy, fun hc => absurd h1 hc, fun _ hc => absurd h2 hc, fun _ _ => ⟨e1.symm, e0.symm⟩⟩
      · rw [if_neg h2, if_pos h2] at hy
        exact ⟨_, _, hy, fun hc => absurd h1 hc, fun _ _ => ⟨rfl, rfl⟩, fun _ hc => absurd hc h2⟩
    · rw [if_neg h1, if_pos h1] at hy
      exact ⟨_, _, hy, fun _ => ⟨rfl, rfl⟩, fun hc => absurd hc h1, fun hc => absurd hc h1⟩
  subst hPE
  with_reducible (refine mv_i ?_; refine ex2_0 ?_; refine ex2_1 ?_; refine mv_i ?_; refine mv_i ?_)
  refine vk_i (ld36 hb7) ?_
  refine call_r (c18 m7) ?_
  with_reducible (refine mv_i ?_)
  refine seq_J (fun xs h8 => g7 = h8 ∧ xs = [.int .i64 (if (mErr m).2 = 0 then prErr m pr else (mErr m).2)]) ?_ ?_
  · rintro _ _ ⟨rfl, rfl⟩ _
    show mvK _ _ _
    with_reducible (refine mv_i ?_)
    by_cases h1 : (mErr m).2 = 0
    · rw [if_pos h1]
      have r := right_of h1
      by_cases h2 : prErr m pr = 0
      · obtain ⟨rfl, rfl⟩ := hz3 h1 h2
        refine seq_J (fun xs h8 => g7 <+: h8 ∧ xs = [.int .i64 (rndE m pr w ps), .int .i64 (rndP m pr w ps)]) ?_ ?_
        · rintro _ h8 ⟨p8, rfl⟩ _
          show mvK _ _ _
          have pfin := pall.trans p8
          with_reducible (refine mv_i ?_; refine mv_i ?_)
          refine eql_i (fun _ => ?_) (fun hc => absurd rfl hc)
          with_reducible (refine mv_i ?_; refine gd_tt ?_; refine mv_i ?_; refine gd_tt ?_; refine mv_i ?_; refine gd_tt ?_)
          refine eql_i (fun _ => ?_) (fun hc => absurd rfl hc)
          with_reducible (refine pick_t ?_; refine mv_i ?_; refine ret1 ?_)
          exact ⟨rfl, pfin⟩
        intro k' hk'
        with_reducible (refine mv_i ?_)
        refine eql_i (fun _ => ?_) (fun hc => absurd h2 hc)
        with_reducible (refine cnd_t ?_)
        refine vk_i (ld36 hb7) ?_
        with_reducible (refine mv_i ?_)
        refine vk_i (ld27 hr7) ?_
        refine call_i (c20 m7 r sp7 h2 sw7 sq7) ?_
        rintro _ g8 ⟨p8, rfl⟩
        with_reducible (refine mv_i ?_; refine ex2_0 ?_; refine ex2_1 ?_; refine mv_i ?_; refine mv_i ?_)
        exact hk' _ _ ⟨p8, rfl⟩
      · obtain ⟨rfl, rfl⟩ := hz2 h1 h2
        have pfin := pall
        refine seq_J (fun xs h8 => g7 = h8 ∧ xs = [.int .i64 (prErr m pr), .int .i64 0]) ?_ ?_
        · rintro _ _ ⟨rfl, rfl⟩ _
          show mvK _ _ _
          with_reducible (refine mv_i ?_; refine mv_i ?_)
          refine eql_i (fun _ => ?_) (fun hc => absurd rfl hc)
          with_reducible (refine mv_i ?_; refine gd_tt ?_; refine mv_i ?_; refine gd_tt ?_; refine mv_i ?_; refine gd_tt ?_)
          refine eql_i (fun _ => ?_) (fun hc => absurd rfl hc)
          with_reducible (refine pick_t ?_; refine mv_i ?_; refine ret1 ?_)
          exact ⟨rfl, pfin⟩
        intro k' hk'
        with_reducible (refine mv_i ?_)
        refine eql_i (fun hc => absurd hc h2) (fun _ => ?_)
        with_reducible (refine cnd_f ?_)
        exact hk' _ _ ⟨rfl, rfl⟩
    · rw [if_neg h1]
      obtain ⟨rfl, rfl⟩ := hz1 h1
      have pfin := pall
      refine seq_J (fun xs h8 => g7 = h8 ∧ xs = [.int .i64 (mErr m).2, .int .i64 0]) ?_ ?_
      · rintro _ _ ⟨rfl, rfl⟩ _
        show mvK _ _ _
        with_reducible (refine mv_i ?_; refine mv_i ?_)
        refine eql_i (fun _ => ?_) (fun hc => absurd rfl hc)
        with_reducible (refine mv_i ?_; refine gd_tt ?_; refine mv_i ?_; refine gd_tt ?_; refine mv_i ?_; refine gd_tt ?_)
        refine eql_i (fun _ => ?_) (fun hc => absurd rfl hc)
        with_reducible (refine pick_t ?_; refine mv_i ?_; refine ret1 ?_)
        exact ⟨rfl, pfin⟩
      intro k' hk'
      with_reducible (refine mv_i ?_)
      refine eql_i (fun hc => absurd hc h1) (fun _ => ?_)
      with_reducible (refine cnd_f ?_)
      exact hk' _ _ ⟨rfl, rfl⟩
  intro k' hk'
  with_reducible (refine mv_i ?_)
  refine eql_i (fun h1 => ?_) (fun h1 => ?_)
  · with_reducible (refine cnd_t ?_)
    refine vk_i (ld36 hb7) ?_
    with_reducible (refine mv_i ?_)
    refine call_r (c19 m7 sp7) ?_
    with_reducible (refine mv_i ?_)
    exact hk' _ _ ⟨rfl, by rw [if_pos h1]⟩
  · with_reducible (refine cnd_f ?_)
    exact hk' _ _ ⟨rfl, by rw [if_neg h1]⟩
end Go.Proofs.Ytdjoednhfoligaa

set_option linter.unusedVariables false
set_option maxRecDepth 100000
namespace Go.Proofs.Ytdjoednhfoligaa
open Go.AM

/-! ### examiner/examinerlaw38.CoverAccepts: function 6 -/
def n6 (a0 a1 a2 : Value) (h : Heap) (R : Value → Heap → Prop) : Prop :=
  okK (some (aBox Try.prog 24 a0 h)) fun v3 h =>
  mvK (Value.bool false) h fun v6 h =>
  cK Try.prog 14 [] h fun v11 h =>
  vK (aUn UnOp.not v11) h fun v12 h =>
  cnd v12 (
   mvK (Value.bool false) h fun v6_1 h =>
   retV [some v6_1] R h) (
   vK (aLoad Try.prog 24 v3 h) h fun v14 h =>
   cK Try.prog 16 [v14] h fun v15 h =>
   mvK a1 h fun v16 h =>
   cK Try.prog 30 [v16] h fun v17 h =>
   mvK a2 h fun v18 h =>
   cK Try.prog 17 [v18] h fun v19 h =>
   cK Try.prog 32 [v15, v17, v19] h fun v20 h =>
   mvK v20 h fun v13 h =>
   vK (aExtract v13 0) h fun v21 h =>
   vK (aExtract v13 1) h fun v22 h =>
   mvK v21 h fun v7 h =>
   mvK v22 h fun v8 h =>
   vK (aLoad Try.prog 24 v3 h) h fun v23 h =>
   cK Try.prog 18 [v23] h fun v24 h =>
   mvK v24 h fun v9 h =>
   seqK (fun k0 =>
    mvK v9 h fun v25 h =>
    vK (aBin Try.prog BinOp.eql 3 v25 (Value.int IntKind.i64 0)) h fun v26 h =>
    cnd v26 (
     vK (aLoad Try.prog 24 v3 h) h fun v27 h =>
     mvK a1 h fun v28 h =>
     cK Try.prog 28 [v27, v28] h fun v29 h =>
     mvK v29 h fun v9_1 h =>
     k0 [v9_1] h) (
     k0 [v9] h)) fun x0 h => ∀ jx0 : Tmps,
    let v9_2 : Value := nth x0 0
    mvK (Value.int IntKind.i64 0) h fun v10 h =>
    seqK (fun k1 =>
     mvK v9_2 h fun v30 h =>
     vK (aBin Try.prog BinOp.eql 3 v30 (Value.int IntKind.i64 0)) h fun v31 h =>
     cnd v31 (
      vK (aLoad Try.prog 24 v3 h) h fun v33 h =>
      mvK a1 h fun v34 h =>
      mvK a2 h fun v35 h =>
      cK Try.prog 33 [v33, v34, v35] h fun v36 h =>
      mvK v36 h fun v32 h =>
      vK (aExtract v32 0) h fun v37 h =>
      vK (aExtract v32 1) h fun v38 h =>
      mvK v37 h fun v10_1 h =>
      mvK v38 h fun v9_3 h =>
      k1 [v9_3, v10_1] h) (
      k1 [v9_2, v10] h)) fun x1 h => ∀ jx1 : Tmps,
     let v9_4 : Value := nth x1 0
     let v10_2 : Value := nth x1 1
     mvK v8 h fun v39 h =>
     mvK v9_4 h fun v40 h =>
     vK (aBin Try.prog BinOp.eql 3 v39 v40) h fun v41 h =>
     mvK v41 h fun v42 h =>
     gdK v42 true (fun k2 =>
      mvK v7 h fun v43 h =>
      k2 v43 h) (fun v43_1 h =>
      gdK v42 true (fun k3 =>
       mvK v10_2 h fun v44 h =>
       k3 v44 h) (fun v44_1 h =>
       gdK v42 true (fun k4 =>
        vK (aBin Try.prog BinOp.eql 3 v43_1 v44_1) h fun v45 h =>
        k4 v45 h) (fun v45_1 h =>
        vK (pickV v42 v45_1 (Value.bool false)) h fun v46 h =>
        mvK v46 h fun v6_2 h =>
        retV [some v6_2] R h) h) h) h)
def lv6 (q : Nat) : List Nat := bif Nat.beq q 15 then [1040187904, 9] else bif Nat.beq q 21 then [548682073600, 9, 10] else []
theorem ok6 : lkOK Try.prog lv6 Try.f6 3 (Try.f6.body.getD .skip) 6 = true := by kernel_rfl
theorem e6 (a0 a1 a2 : Value) (h : Heap) (R : Value → Heap → Prop) : n6 a0 a1 a2 h R = wpK Try.prog lv6 (Try.f6.body.getD .skip) (endK Try.prog [.tmp 6] R) (argT [a0, a1, a2]) h := by kernel_rfl
theorem w6 {a0 a1 a2 : Value} {h : Heap} {R : Value → Heap → Prop} (hn : n6 a0 a1 a2 h R) : DetP Try.prog 6 [a0, a1, a2] h R :=
  DetP.of_code (rs := [.tmp 6]) (n := 3) Try.func6 (by kernel_rfl) (by kernel_rfl) lv6 ok6 rfl ((e6 a0 a1 a2 h R) ▸ hn)

/-! ### examiner/cover.CheckCover: function 32 -/
def n32 (a0 a1 a2 : Value) (h : Heap) (R : Value → Heap → Prop) : Prop :=
  okK (some (aBox Try.prog 24 a0 h)) fun v3 h =>
  mvK (Value.int IntKind.i64 0) h fun v6 h =>
  mvK (Value.int IntKind.i64 0) h fun v7 h =>
  vK (aLoad Try.prog 24 v3 h) h fun v25 g =>
  VB h.length v25 ∧ (let h := g
   cKD Try.prog 51 [v25] h fun v26 g =>
   (∃ new, g = h ++ new) ∧ (let h := g
    vK (aLoad Try.prog 24 v3 h) h fun v27 g =>
    VB h.length v27 ∧ (let h := g
     mvK a1 h fun v28 h =>
     cKD Try.prog 67 [v27, v28] h fun v29 g =>
     (∃ new, g = h ++ new) ∧ (let h := g
      okK (aBuildSlice Try.prog 132 2 [(0, v26), (1, v29)] h) fun v30 h =>
      cKD Try.prog 50 [v30] h fun v31 g =>
      (∃ new, g = h ++ new) ∧ (let h := g
       mvK v31 h fun v8 h =>
       mvK v8 h fun v32 h =>
       vK (aBin Try.prog BinOp.neq 29 v32 (Value.int IntKind.i64 0)) h fun v33 h =>
       cnd v33 (
        mvK v8 h fun v34 h =>
        mvK (Value.int IntKind.i64 0) h fun v6_1 h =>
        mvK v34 h fun v7_1 h =>
        retV [some v6_1, some v7_1] R h) (
        vK (aLoad Try.prog 24 v3 h) h fun v35 h =>
        cK Try.prog 54 [v35] h fun v36 h =>
        mvK v36 h fun v9 h =>
        vK (aFieldAddr Try.prog 24 v3 4) h fun v37 h =>
        vK (aLoad Try.prog 22 v37 h) h fun v38 h =>
        vK (aLen Try.prog 22 v38) h fun v39 h =>
        okK (aMakeSlice Try.prog 48 v39 v39 h) fun v40 h =>
        okK (aAlloc Try.prog 48 h) fun v10 h =>
        okK ((aStore Try.prog 48 v10 v40 h).map (undef, ·)) fun _ h =>
        mvK a1 h fun v41 h =>
        vK (aLen Try.prog 45 v41) h fun v42 h =>
        mvK (Value.int IntKind.i64 0) h fun v43 h =>
        ∃ (I7 : List Value → Heap → Prop) (μ7 : List Value → Heap → Nat), I7 [v43] h ∧
        ∀ (h7 : Heap) (j7 : Tmps) (v43_1 : Value), I7 [v43_1] h7 → (let h := h7
         vK (aBin Try.prog BinOp.lss 3 v43_1 v42) h fun v44 h =>
         cnd v44 (
          vK (aIndexAddr Try.prog 45 v41 v43_1) h fun v45 h =>
          vK (aLoad Try.prog 25 v45 h) h fun v46 h =>
          mvK v46 h fun v12 h =>
          mvK v9 h fun v47 h =>
          mvK v12 h fun v48 h =>
          cK Try.prog 55 [v47, v48] h fun v49 h =>
          mvK v49 h fun v13 h =>
          mvK v13 h fun v50 h =>
          vK (aLen Try.prog 25 v50) h fun v51 h =>
          mvK v12 h fun v52 h =>
          vK (aLen Try.prog 25 v52) h fun v53 h =>
          vK (aBin Try.prog BinOp.lss 3 v51 v53) h fun v54 h =>
          cnd v54 (
           mvK (Value.int IntKind.i64 0) h fun v6_2 h =>
           mvK (Value.int IntKind.i64 23) h fun v7_2 h =>
           retV [some v6_2, some v7_2] R h) (
           mvK v13 h fun v55 h =>
           vK (aLen Try.prog 25 v55) h fun v56 h =>
           mvK (Value.int IntKind.i64 0) h fun v57 h =>
           ∃ (I13 : List Value → Heap → Prop) (μ13 : List Value → Heap → Nat), I13 [v57] h ∧
           ∀ (h13 : Heap) (j13 : Tmps) (v57_1 : Value), I13 [v57_1] h13 → (let h := h13
            vK (aBin Try.prog BinOp.lss 3 v57_1 v56) h fun v58 h =>
            cnd v58 (
             vK (aIndexAddr Try.prog 25 v55 v57_1) h fun v59 h =>
             vK (aLoad Try.prog 3 v59 h) h fun v60 h =>
             mvK v60 h fun v15 h =>
             vK (aLoad Try.prog 48 v10 h) h fun v61 h =>
             mvK v15 h fun v62 h =>
             vK (aIndexAddr Try.prog 48 v61 v62) h fun v63 h =>
             okK ((aStore Try.prog 4 v63 (Value.bool true) h).map (undef, ·)) fun _ h =>
             vK (aBin Try.prog BinOp.add 3 v57_1 (Value.int IntKind.i64 1)) h fun v64 h =>
             mvK v64 h fun v57_2 h =>
             I13 [v57_2] h ∧ μ13 [v57_2] h < μ13 [v57_1] h13) (
             vK (aBin Try.prog BinOp.add 3 v43_1 (Value.int IntKind.i64 1)) h fun v65 h =>
             mvK v65 h fun v43_2 h =>
             I7 [v43_2] h ∧ μ7 [v43_2] h < μ7 [v43_1] h7)))) (
          mvK v9 h fun v66 h =>
          cK Try.prog 68 [v66] h fun v67 h =>
          mvK v67 h fun v16 h =>
          mvK (Value.func (Fn.func 69) #[] #[v10]) h fun v68 h =>
          mvK v68 h fun v17 h =>
          mvK v16 h fun v69 h =>
          vK (nilV v69) h fun v70 h =>
          vK (aFieldAddr Try.prog 106 v70 1) h fun v71 h =>
          vK (aLoad Try.prog 25 v71 h) h fun v72 h =>
          mvK v17 h fun v73 h =>
          cK Try.prog 62 [v72, v73] h fun v74 h =>
          vK (aUn UnOp.not v74) h fun v75 h =>
          cK Try.prog 61 [v75, (Value.int IntKind.i64 11)] h fun v76 h =>
          mvK a2 h fun v77 h =>
          vK (aLen Try.prog 25 v77) h fun v78 h =>
          mvK a1 h fun v79 h =>
          vK (aLen Try.prog 45 v79) h fun v80 h =>
          vK (aBin Try.prog BinOp.eql 3 v78 v80) h fun v81 h =>
          cK Try.prog 61 [v81, (Value.int IntKind.i64 6)] h fun v82 h =>
          okK (aBuildSlice Try.prog 132 2 [(0, v76), (1, v82)] h) fun v83 h =>
          cK Try.prog 50 [v83] h fun v84 h =>
          mvK v84 h fun v18 h =>
          mvK v18 h fun v85 h =>
          vK (aBin Try.prog BinOp.neq 29 v85 (Value.int IntKind.i64 0)) h fun v86 h =>
          cnd v86 (
           mvK v18 h fun v87 h =>
           mvK (Value.int IntKind.i64 0) h fun v6_3 h =>
           mvK v87 h fun v7_3 h =>
           retV [some v6_3, some v7_3] R h) (
           mvK a2 h fun v88 h =>
           vK (aLen Try.prog 25 v88) h fun v89 h =>
           mvK (Value.int IntKind.i64 0) h fun v90 h =>
           ∃ (I24 : List Value → Heap → Prop) (μ24 : List Value → Heap → Nat), I24 [v90] h ∧
           ∀ (h24 : Heap) (j24 : Tmps) (v90_1 : Value), I24 [v90_1] h24 → (let h := h24
            vK (aBin Try.prog BinOp.lss 3 v90_1 v89) h fun v91 h =>
            cnd v91 (
             mvK v90_1 h fun v92 h =>
             vK (aIndexAddr Try.prog 25 v88 v90_1) h fun v93 h =>
             vK (aLoad Try.prog 3 v93 h) h fun v94 h =>
             mvK v92 h fun v19 h =>
             mvK v94 h fun v20 h =>
             mvK v16 h fun v95 h =>
             vK (nilV v95) h fun v96 h =>
             vK (aFieldAddr Try.prog 106 v96 1) h fun v97 h =>
             vK (aLoad Try.prog 25 v97 h) h fun v98 h =>
             mvK v20 h fun v99 h =>
             cK Try.prog 57 [v98, v99] h fun v100 h =>
             vK (aUn UnOp.not v100) h fun v101 h =>
             cnd v101 (
              mvK (Value.int IntKind.i64 0) h fun v6_4 h =>
              mvK (Value.int IntKind.i64 3) h fun v7_4 h =>
              retV [some v6_4, some v7_4] R h) (
              mvK v19 h fun v102 h =>
              vK (aBin Try.prog BinOp.gtr 3 v102 (Value.int IntKind.i64 0)) h fun v103 h =>
              mvK v103 h fun v104 h =>
              gdK v104 true (fun k0 =>
               mvK v20 h fun v105 h =>
               k0 v105 h) (fun v105_1 h =>
               gdK v104 true (fun k1 =>
                mvK a2 h fun v106 h =>
                k1 v106 h) (fun v106_1 h =>
                gdK v104 true (fun k2 =>
                 mvK v19 h fun v107 h =>
                 k2 v107 h) (fun v107_1 h =>
                 gdK v104 true (fun k3 =>
                  vK (aBin Try.prog BinOp.sub 3 v107_1 (Value.int IntKind.i64 1)) h fun v108 h =>
                  k3 v108 h) (fun v108_1 h =>
                  gdK v104 true (fun k4 =>
                   vK (aIndexAddr Try.prog 25 v106_1 v108_1) h fun v109 h =>
                   k4 v109 h) (fun v109_1 h =>
                   gdK v104 true (fun k5 =>
                    vK (aLoad Try.prog 3 v109_1 h) h fun v110 h =>
                    k5 v110 h) (fun v110_1 h =>
                    gdK v104 true (fun k6 =>
                     vK (aBin Try.prog BinOp.leq 3 v105_1 v110_1) h fun v111 h =>
                     k6 v111 h) (fun v111_1 h =>
                     vK (pickV v104 v111_1 (Value.bool false)) h fun v112 h =>
                     cnd v112 (
                      mvK (Value.int IntKind.i64 0) h fun v6_5 h =>
                      mvK (Value.int IntKind.i64 14) h fun v7_5 h =>
                      retV [some v6_5, some v7_5] R h) (
                      vK (aBin Try.prog BinOp.add 3 v90_1 (Value.int IntKind.i64 1)) h fun v113 h =>
                      mvK v113 h fun v90_2 h =>
                      I24 [v90_2] h ∧ μ24 [v90_2] h < μ24 [v90_1] h24)) h) h) h) h) h) h) h)) (
             mvK a2 h fun v114 h =>
             vK (aLen Try.prog 25 v114) h fun v115 h =>
             mvK (Value.int IntKind.i64 0) h fun v116 h =>
             ∃ (I32 : List Value → Heap → Prop) (μ32 : List Value → Heap → Nat), I32 [v116] h ∧
             ∀ (h32 : Heap) (j32 : Tmps) (v116_1 : Value), I32 [v116_1] h32 → (let h := h32
              vK (aBin Try.prog BinOp.lss 3 v116_1 v115) h fun v117 h =>
              cnd v117 (
               mvK v116_1 h fun v118 h =>
               vK (aIndexAddr Try.prog 25 v114 v116_1) h fun v119 h =>
               vK (aLoad Try.prog 3 v119 h) h fun v120 h =>
               mvK v118 h fun v21 h =>
               mvK v120 h fun v22 h =>
               mvK a2 h fun v121 h =>
               mvK v21 h fun v122 h =>
               vK (aSlice Try.prog 25 v121 none (some v122) none h) h fun v123 h =>
               vK (aLen Try.prog 25 v123) h fun v124 h =>
               mvK (Value.int IntKind.i64 0) h fun v125 h =>
               ∃ (I35 : List Value → Heap → Prop) (μ35 : List Value → Heap → Nat), I35 [v125] h ∧
               ∀ (h35 : Heap) (j35 : Tmps) (v125_1 : Value), I35 [v125_1] h35 → (let h := h35
                vK (aBin Try.prog BinOp.lss 3 v125_1 v124) h fun v126 h =>
                cnd v126 (
                 vK (aIndexAddr Try.prog 25 v123 v125_1) h fun v127 h =>
                 vK (aLoad Try.prog 3 v127 h) h fun v128 h =>
                 mvK v128 h fun v24 h =>
                 mvK v16 h fun v129 h =>
                 mvK v22 h fun v130 h =>
                 mvK v24 h fun v131 h =>
                 cK Try.prog 70 [v129, v130, v131] h fun v132 h =>
                 mvK v132 h fun v133 h =>
                 gdK v133 false (fun k7 =>
                  mvK v16 h fun v134 h =>
                  k7 v134 h) (fun v134_1 h =>
                  gdK v133 false (fun k8 =>
                   mvK v24 h fun v135 h =>
                   k8 v135 h) (fun v135_1 h =>
                   gdK v133 false (fun k9 =>
                    mvK v22 h fun v136 h =>
                    k9 v136 h) (fun v136_1 h =>
                    gdK v133 false (fun k10 =>
                     cK Try.prog 70 [v134_1, v135_1, v136_1] h fun v137 h =>
                     k10 v137 h) (fun v137_1 h =>
                     vK (pickV v133 (Value.bool true) v137_1) h fun v138 h =>
                     cnd v138 (
                      mvK (Value.int IntKind.i64 0) h fun v6_6 h =>
                      mvK (Value.int IntKind.i64 30) h fun v7_6 h =>
                      retV [some v6_6, some v7_6] R h) (
                      vK (aBin Try.prog BinOp.add 3 v125_1 (Value.int IntKind.i64 1)) h fun v139 h =>
                      mvK v139 h fun v125_2 h =>
                      I35 [v125_2] h ∧ μ35 [v125_2] h < μ35 [v125_1] h35)) h) h) h) h) (
                 vK (aBin Try.prog BinOp.add 3 v116_1 (Value.int IntKind.i64 1)) h fun v140 h =>
                 mvK v140 h fun v116_2 h =>
                 I32 [v116_2] h ∧ μ32 [v116_2] h < μ32 [v116_1] h32))) (
               mvK a1 h fun v141 h =>
               vK (aLen Try.prog 45 v141) h fun v142 h =>
               mvK v142 h fun v6_7 h =>
               mvK (Value.int IntKind.i64 0) h fun v7_7 h =>
               retV [some v6_7, some v7_7] R h)))))))))))))
def lv32 (q : Nat) : List Nat := bif Nat.beq q 14 then [73786967498745229504, 43] else bif Nat.beq q 26 then [36749372959343280128, 57] else bif Nat.beq q 48 then [20769186196199271228741710419329216, 90] else bif Nat.beq q 64 then [2787593066739578156134722727593103943794880, 116] else bif Nat.beq q 70 then [1393754039612298829038049470214593639874752, 125] else []
theorem ok32 : lkOK Try.prog lv32 Try.f32 3 (Try.f32.body.getD .skip) 32 = true := by kernel_rfl
theorem e32 (a0 a1 a2 : Value) (h : Heap) (R : Value → Heap → Prop) : n32 a0 a1 a2 h R = wpK Try.prog lv32 (Try.f32.body.getD .skip) (endK Try.prog [.tmp 6, .tmp 7] R) (argT [a0, a1, a2]) h := by kernel_rfl
theorem w32 {a0 a1 a2 : Value} {h : Heap} {R : Value → Heap → Prop} (hn : n32 a0 a1 a2 h R) : DetP Try.prog 32 [a0, a1, a2] h R :=
  DetP.of_code (rs := [.tmp 6, .tmp 7]) (n := 3) Try.func32 (by kernel_rfl) (by kernel_rfl) lv32 ok32 rfl ((e32 a0 a1 a2 h R) ▸ hn)

/-! ### examiner/examinerref38.CoverErr: function 33 -/
def n33 (a0 a1 a2 : Value) (h : Heap) (R : Value → Heap → Prop) : Prop :=
  okK (some (aBox Try.prog 24 a0 h)) fun v3 h =>
  mvK (Value.int IntKind.i64 0) h fun v6 h =>
  mvK (Value.int IntKind.i64 0) h fun v7 h =>
  mvK (Value.int IntKind.i64 0) h fun v8 h =>
  ∃ (I2 : List Value → Heap → Prop) (μ2 : List Value → Heap → Nat), I2 [v8] h ∧
  ∀ (h2 : Heap) (j2 : Tmps) (v8_1 : Value), I2 [v8_1] h2 → (let h := h2
   mvK v8_1 h fun v17 h =>
   mvK a1 h fun v18 h =>
   vK (aLen Try.prog 45 v18) h fun v19 h =>
   vK (aBin Try.prog BinOp.lss 3 v17 v19) h fun v20 h =>
   cnd v20 (
    vK (aLoad Try.prog 24 v3 h) h fun v23 g =>
    VB h.length v23 ∧ (let h := g
     vK (aFieldAddr Try.prog 24 v3 3) h fun v24 h =>
     vK (aLoad Try.prog 3 v24 h) h fun v25 g =>
     VB h.length v25 ∧ (let h := g
      mvK a1 h fun v26 h =>
      mvK v8_1 h fun v27 h =>
      vK (aIndexAddr Try.prog 45 v26 v27) h fun v28 h =>
      vK (aLoad Try.prog 25 v28 h) h fun v29 g =>
      VB h.length v29 ∧ (let h := g
       cKD Try.prog 46 [v23, v25, v29] h fun v30 g =>
       (∃ new, g = h ++ new) ∧ (let h := g
        vK (aLen Try.prog 25 v30) h fun v31 h =>
        mvK a1 h fun v32 h =>
        mvK v8_1 h fun v33 h =>
        vK (aIndexAddr Try.prog 45 v32 v33) h fun v34 h =>
        vK (aLoad Try.prog 25 v34 h) h fun v35 g =>
        VB h.length v35 ∧ (let h := g
         vK (aLen Try.prog 25 v35) h fun v36 h =>
         vK (aBin Try.prog BinOp.neq 3 v31 v36) h fun v37 h =>
         cnd v37 (
          mvK (Value.int IntKind.i64 0) h fun v6_1 h =>
          mvK (Value.int IntKind.i64 23) h fun v7_1 h =>
          retV [some v6_1, some v7_1] R h) (
          mvK v8_1 h fun v21 h =>
          vK (aBin Try.prog BinOp.add 3 v21 (Value.int IntKind.i64 1)) h fun v22 h =>
          mvK v22 h fun v8_2 h =>
          I2 [v8_2] h ∧ μ2 [v8_2] h < μ2 [v8_1] h2))))))) (
    vK (aLoad Try.prog 24 v3 h) h fun v38 h =>
    mvK a1 h fun v39 h =>
    cK Try.prog 31 [v38, v39] h fun v40 h =>
    mvK v40 h fun v9 h =>
    vK (aLoad Try.prog 24 v3 h) h fun v42 h =>
    cK Try.prog 26 [v42] h fun v43 h =>
    mvK v43 h fun v41 h =>
    vK (aExtract v41 0) h fun v44 h =>
    vK (aExtract v41 1) h fun v45 h =>
    mvK v44 h fun v10 h =>
    mvK v45 h fun v11 h =>
    mvK (Value.int IntKind.i64 0) h fun v12 h =>
    ∃ (I9 : List Value → Heap → Prop) (μ9 : List Value → Heap → Nat), I9 [v12] h ∧
    ∀ (h9 : Heap) (j9 : Tmps) (v12_1 : Value), I9 [v12_1] h9 → (let h := h9
     mvK v12_1 h fun v46 h =>
     vK (aFieldAddr Try.prog 24 v3 4) h fun v47 h =>
     vK (aLoad Try.prog 22 v47 h) h fun v48 h =>
     vK (aLen Try.prog 22 v48) h fun v49 h =>
     vK (aBin Try.prog BinOp.lss 3 v46 v49) h fun v50 h =>
     cnd v50 (
      mvK v11 h fun v53 h =>
      mvK v12_1 h fun v54 h =>
      vK (aIndexAddr Try.prog 48 v53 v54) h fun v55 h =>
      vK (aLoad Try.prog 4 v55 h) h fun v56 h =>
      mvK v56 h fun v57 h =>
      gdK v57 true (fun k0 =>
       mvK v9 h fun v58 h =>
       k0 v58 h) (fun v58_1 h =>
       gdK v57 true (fun k1 =>
        mvK v12_1 h fun v59 h =>
        k1 v59 h) (fun v59_1 h =>
        gdK v57 true (fun k2 =>
         vK (aIndexAddr Try.prog 25 v58_1 v59_1) h fun v60 h =>
         k2 v60 h) (fun v60_1 h =>
         gdK v57 true (fun k3 =>
          vK (aLoad Try.prog 3 v60_1 h) h fun v61 h =>
          k3 v61 h) (fun v61_1 h =>
          gdK v57 true (fun k4 =>
           vK (aBin Try.prog BinOp.eql 3 v61_1 (Value.int IntKind.i64 0)) h fun v62 h =>
           k4 v62 h) (fun v62_1 h =>
           vK (pickV v57 v62_1 (Value.bool false)) h fun v63 h =>
           cnd v63 (
            mvK (Value.int IntKind.i64 0) h fun v6_2 h =>
            mvK (Value.int IntKind.i64 11) h fun v7_2 h =>
            retV [some v6_2, some v7_2] R h) (
            mvK v12_1 h fun v51 h =>
            vK (aBin Try.prog BinOp.add 3 v51 (Value.int IntKind.i64 1)) h fun v52 h =>
            mvK v52 h fun v12_2 h =>
            I9 [v12_2] h ∧ μ9 [v12_2] h < μ9 [v12_1] h9)) h) h) h) h) h) (
      mvK a2 h fun v64 h =>
      vK (aLen Try.prog 25 v64) h fun v65 h =>
      mvK a1 h fun v66 h =>
      vK (aLen Try.prog 45 v66) h fun v67 h =>
      vK (aBin Try.prog BinOp.neq 3 v65 v67) h fun v68 h =>
      cnd v68 (
       mvK (Value.int IntKind.i64 0) h fun v6_3 h =>
       mvK (Value.int IntKind.i64 6) h fun v7_3 h =>
       retV [some v6_3, some v7_3] R h) (
       mvK (Value.int IntKind.i64 0) h fun v13 h =>
       ∃ (I16 : List Value → Heap → Prop) (μ16 : List Value → Heap → Nat), I16 [v13] h ∧
       ∀ (h16 : Heap) (j16 : Tmps) (v13_1 : Value), I16 [v13_1] h16 → (let h := h16
        mvK v13_1 h fun v69 h =>
        mvK a2 h fun v70 h =>
        vK (aLen Try.prog 25 v70) h fun v71 h =>
        vK (aBin Try.prog BinOp.lss 3 v69 v71) h fun v72 h =>
        cnd v72 (
         mvK a2 h fun v75 h =>
         mvK v13_1 h fun v76 h =>
         vK (aIndexAddr Try.prog 25 v75 v76) h fun v77 h =>
         vK (aLoad Try.prog 3 v77 h) h fun v78 g =>
         VB h.length v78 ∧ (let h := g
          vK (aFieldAddr Try.prog 24 v3 4) h fun v79 h =>
          vK (aLoad Try.prog 22 v79 h) h fun v80 g =>
          VB h.length v80 ∧ (let h := g
           vK (aLen Try.prog 22 v80) h fun v81 h =>
           vK (aBin Try.prog BinOp.sub 3 v81 (Value.int IntKind.i64 1)) h fun v82 h =>
           cKD Try.prog 22 [v78, (Value.int IntKind.i64 0), v82] h fun v83 g =>
           (∃ new, g = h ++ new) ∧ (let h := g
            vK (aUn UnOp.not v83) h fun v84 h =>
            mvK v84 h fun v85 h =>
            gdK v85 false (fun k5 =>
             mvK v11 h fun v86 h =>
             k5 v86 h) (fun v86_1 h =>
             gdK v85 false (fun k6 =>
              mvK a2 h fun v87 h =>
              k6 v87 h) (fun v87_1 h =>
              gdK v85 false (fun k7 =>
               mvK v13_1 h fun v88 h =>
               k7 v88 h) (fun v88_1 h =>
               gdK v85 false (fun k8 =>
                vK (aIndexAddr Try.prog 25 v87_1 v88_1) h fun v89 h =>
                k8 v89 h) (fun v89_1 h =>
                gdK v85 false (fun k9 =>
                 vK (aLoad Try.prog 3 v89_1 h) h fun v90 g =>
                 VB h.length v90 ∧ (let h := g
                  k9 v90 h)) (fun v90_1 h =>
                 gdK v85 false (fun k10 =>
                  vK (aIndexAddr Try.prog 48 v86_1 v90_1) h fun v91 h =>
                  k10 v91 h) (fun v91_1 h =>
                  gdK v85 false (fun k11 =>
                   vK (aLoad Try.prog 4 v91_1 h) h fun v92 g =>
                   VB h.length v92 ∧ (let h := g
                    k11 v92 h)) (fun v92_1 h =>
                   gdK v85 false (fun k12 =>
                    vK (aUn UnOp.not v92_1) h fun v93 h =>
                    k12 v93 h) (fun v93_1 h =>
                    vK (pickV v85 (Value.bool true) v93_1) h fun v94 h =>
                    cnd v94 (
                     mvK (Value.int IntKind.i64 0) h fun v6_4 h =>
                     mvK (Value.int IntKind.i64 3) h fun v7_4 h =>
                     retV [some v6_4, some v7_4] R h) (
                     mvK v13_1 h fun v95 h =>
                     vK (aBin Try.prog BinOp.gtr 3 v95 (Value.int IntKind.i64 0)) h fun v96 h =>
                     mvK v96 h fun v97 h =>
                     gdK v97 true (fun k13 =>
                      mvK a2 h fun v98 h =>
                      k13 v98 h) (fun v98_1 h =>
                      gdK v97 true (fun k14 =>
                       mvK v13_1 h fun v99 h =>
                       k14 v99 h) (fun v99_1 h =>
                       gdK v97 true (fun k15 =>
                        vK (aBin Try.prog BinOp.sub 3 v99_1 (Value.int IntKind.i64 1)) h fun v100 h =>
                        k15 v100 h) (fun v100_1 h =>
                        gdK v97 true (fun k16 =>
                         vK (aIndexAddr Try.prog 25 v98_1 v100_1) h fun v101 h =>
                         k16 v101 h) (fun v101_1 h =>
                         gdK v97 true (fun k17 =>
                          vK (aLoad Try.prog 3 v101_1 h) h fun v102 g =>
                          VB h.length v102 ∧ (let h := g
                           k17 v102 h)) (fun v102_1 h =>
                          gdK v97 true (fun k18 =>
                           mvK a2 h fun v103 h =>
                           k18 v103 h) (fun v103_1 h =>
                           gdK v97 true (fun k19 =>
                            mvK v13_1 h fun v104 h =>
                            k19 v104 h) (fun v104_1 h =>
                            gdK v97 true (fun k20 =>
                             vK (aIndexAddr Try.prog 25 v103_1 v104_1) h fun v105 h =>
                             k20 v105 h) (fun v105_1 h =>
                             gdK v97 true (fun k21 =>
                              vK (aLoad Try.prog 3 v105_1 h) h fun v106 g =>
                              VB h.length v106 ∧ (let h := g
                               k21 v106 h)) (fun v106_1 h =>
                              gdK v97 true (fun k22 =>
                               vK (aBin Try.prog BinOp.geq 3 v102_1 v106_1) h fun v107 h =>
                               k22 v107 h) (fun v107_1 h =>
                               vK (pickV v97 v107_1 (Value.bool false)) h fun v108 h =>
                               cnd v108 (
                                mvK (Value.int IntKind.i64 0) h fun v6_5 h =>
                                mvK (Value.int IntKind.i64 14) h fun v7_5 h =>
                                retV [some v6_5, some v7_5] R h) (
                                mvK v13_1 h fun v73 h =>
                                vK (aBin Try.prog BinOp.add 3 v73 (Value.int IntKind.i64 1)) h fun v74 h =>
                                mvK v74 h fun v13_2 h =>
                                I16 [v13_2] h ∧ μ16 [v13_2] h < μ16 [v13_1] h16)) h) h) h) h) h) h) h) h) h) h)) h) h) h) h) h) h) h) h)))) (
         mvK (Value.int IntKind.i64 0) h fun v14 h =>
         ∃ (I23 : List Value → Heap → Prop) (μ23 : List Value → Heap → Nat), I23 [v14] h ∧
         ∀ (h23 : Heap) (j23 : Tmps) (v14_1 : Value), I23 [v14_1] h23 → (let h := h23
          mvK v14_1 h fun v109 h =>
          mvK a2 h fun v110 h =>
          vK (aLen Try.prog 25 v110) h fun v111 h =>
          vK (aBin Try.prog BinOp.lss 3 v109 v111) h fun v112 h =>
          cnd v112 (
           vK (aLoad Try.prog 24 v3 h) h fun v115 g =>
           VB h.length v115 ∧ (let h := g
            mvK a2 h fun v116 h =>
            mvK v14_1 h fun v117 h =>
            vK (aIndexAddr Try.prog 25 v116 v117) h fun v118 h =>
            vK (aLoad Try.prog 3 v118 h) h fun v119 g =>
            VB h.length v119 ∧ (let h := g
             cKD Try.prog 24 [v115, v119] h fun v120 g =>
             (∃ new, g = h ++ new) ∧ (let h := g
              mvK v120 h fun v15 h =>
              mvK (Value.int IntKind.i64 0) h fun v16 h =>
              ∃ (I27 : List Value → Heap → Prop) (μ27 : List Value → Heap → Nat), I27 [v16] h ∧
              ∀ (h27 : Heap) (j27 : Tmps) (v16_1 : Value), I27 [v16_1] h27 → (let h := h27
               mvK v16_1 h fun v121 h =>
               mvK a2 h fun v122 h =>
               vK (aLen Try.prog 25 v122) h fun v123 h =>
               vK (aBin Try.prog BinOp.lss 3 v121 v123) h fun v124 h =>
               cnd v124 (
                mvK v16_1 h fun v127 h =>
                mvK v14_1 h fun v128 h =>
                vK (aBin Try.prog BinOp.neq 3 v127 v128) h fun v129 h =>
                mvK v129 h fun v130 h =>
                gdK v130 true (fun k23 =>
                 mvK v15 h fun v131 h =>
                 k23 v131 h) (fun v131_1 h =>
                 gdK v130 true (fun k24 =>
                  mvK a2 h fun v132 h =>
                  k24 v132 h) (fun v132_1 h =>
                  gdK v130 true (fun k25 =>
                   mvK v16_1 h fun v133 h =>
                   k25 v133 h) (fun v133_1 h =>
                   gdK v130 true (fun k26 =>
                    vK (aIndexAddr Try.prog 25 v132_1 v133_1) h fun v134 h =>
                    k26 v134 h) (fun v134_1 h =>
                    gdK v130 true (fun k27 =>
                     vK (aLoad Try.prog 3 v134_1 h) h fun v135 h =>
                     k27 v135 h) (fun v135_1 h =>
                     gdK v130 true (fun k28 =>
                      cK Try.prog 47 [v131_1, v135_1] h fun v136 h =>
                      k28 v136 h) (fun v136_1 h =>
                      vK (pickV v130 v136_1 (Value.bool false)) h fun v137 h =>
                      cnd v137 (
                       mvK (Value.int IntKind.i64 0) h fun v6_6 h =>
                       mvK (Value.int IntKind.i64 30) h fun v7_6 h =>
                       retV [some v6_6, some v7_6] R h) (
                       mvK v16_1 h fun v125 h =>
                       vK (aBin Try.prog BinOp.add 3 v125 (Value.int IntKind.i64 1)) h fun v126 h =>
                       mvK v126 h fun v16_2 h =>
                       I27 [v16_2] h ∧ μ27 [v16_2] h < μ27 [v16_1] h27)) h) h) h) h) h) h) (
                mvK v14_1 h fun v113 h =>
                vK (aBin Try.prog BinOp.add 3 v113 (Value.int IntKind.i64 1)) h fun v114 h =>
                mvK v114 h fun v14_2 h =>
                I23 [v14_2] h ∧ μ23 [v14_2] h < μ23 [v14_1] h23)))))) (
           mvK a1 h fun v138 h =>
           vK (aLen Try.prog 45 v138) h fun v139 h =>
           mvK v139 h fun v6_7 h =>
           mvK (Value.int IntKind.i64 0) h fun v7_7 h =>
           retV [some v6_7, some v7_7] R h)))))))))
def lv33 (q : Nat) : List Nat := bif Nat.beq q 4 then [274877776320, 8] else bif Nat.beq q 18 then [18446673704965378240, 12] else bif Nat.beq q 32 then [649037107316263157755953335509184, 13] else bif Nat.beq q 46 then [348449143078003879269642144443818607493312, 14] else bif Nat.beq q 54 then [348446485271049416754749790396010087907520, 16] else []
theorem ok33 : lkOK Try.prog lv33 Try.f33 3 (Try.f33.body.getD .skip) 33 = true := by kernel_rfl
theorem e33 (a0 a1 a2 : Value) (h : Heap) (R : Value → Heap → Prop) : n33 a0 a1 a2 h R = wpK Try.prog lv33 (Try.f33.body.getD .skip) (endK Try.prog [.tmp 6, .tmp 7] R) (argT [a0, a1, a2]) h := by kernel_rfl
theorem w33 {a0 a1 a2 : Value} {h : Heap} {R : Value → Heap → Prop} (hn : n33 a0 a1 a2 h R) : DetP Try.prog 33 [a0, a1, a2] h R :=
  DetP.of_code (rs := [.tmp 6, .tmp 7]) (n := 3) Try.func33 (by kernel_rfl) (by kernel_rfl) lv33 ok33 rfl ((e33 a0 a1 a2 h R) ▸ hn)

/-! ### examiner/cover.orderOf: function 68 -/
def n68 (a0 : Value) (h : Heap) (R : Value → Heap → Prop) : Prop :=
  mvK (Value.pointer none) h fun v2 h =>
  mvK a0 h fun v5 h =>
  mvK a0 h fun v6 h =>
  cK Try.prog 60 [v6] h fun v7 h =>
  okK (some (.map (some h.length), newMap h)) fun v8 h =>
  vK (aBuild Try.prog 106 [(0, v5), (1, v7), (2, v8)]) h fun v9 h =>
  okK (some (aBox Try.prog 106 v9 h)) fun v10 h =>
  mvK v10 h fun v3 h =>
  mvK a0 h fun v11 h =>
  vK (nilV v11) h fun v12 h =>
  vK (aFieldAddr Try.prog 92 v12 0) h fun v13 h =>
  vK (aFieldAddr Try.prog 24 v13 0) h fun v14 h =>
  vK (aLoad Try.prog 3 v14 h) h fun v15 h =>
  mvK (Value.int IntKind.i64 0) h fun v16 h =>
  ∃ (I3 : List Value → Heap → Prop) (μ3 : List Value → Heap → Nat), I3 [v16] h ∧
  ∀ (h3 : Heap) (j3 : Tmps) (v16_1 : Value), I3 [v16_1] h3 → (let h := h3
   vK (aBin Try.prog BinOp.lss 3 v16_1 v15) h fun v17 h =>
   cnd v17 (
    mvK v16_1 h fun v18 h =>
    mvK v18 h fun v4 h =>
    mvK v3 h fun v19 h =>
    vK (nilV v19) h fun v20 h =>
    vK (aFieldAddr Try.prog 106 v20 2) h fun v21 h =>
    vK (aLoad Try.prog 104 v21 h) h fun v22 g =>
    VB h.length v22 ∧ (let h := g
     mvK v4 h fun v23 h =>
     mvK a0 h fun v24 h =>
     mvK v4 h fun v25 h =>
     cKD Try.prog 64 [v24, v25] h fun v26 g =>
     (∃ new, g = h ++ new) ∧ (let h := g
      okK ((aMapUpd Try.prog 104 v22 v23 v26 h).map (undef, ·)) fun _ h =>
      (True) ∧ (
       vK (aBin Try.prog BinOp.add 3 v16_1 (Value.int IntKind.i64 1)) h fun v27 h =>
       mvK v27 h fun v16_2 h =>
       I3 [v16_2] h ∧ μ3 [v16_2] h < μ3 [v16_1] h3)))) (
    mvK v3 h fun v28 h =>
    mvK v28 h fun v2_1 h =>
    retV [some v2_1] R h))
def lv68 (q : Nat) : List Nat := bif Nat.beq q 6 then [268369936, 16] else []
theorem ok68 : lkOK Try.prog lv68 Try.f68 1 (Try.f68.body.getD .skip) 68 = true := by kernel_rfl
theorem e68 (a0 : Value) (h : Heap) (R : Value → Heap → Prop) : n68 a0 h R = wpK Try.prog lv68 (Try.f68.body.getD .skip) (endK Try.prog [.tmp 2] R) (argT [a0]) h := by kernel_rfl
theorem w68 {a0 : Value} {h : Heap} {R : Value → Heap → Prop} (hn : n68 a0 h R) : DetP Try.prog 68 [a0] h R :=
  DetP.of_code (rs := [.tmp 2]) (n := 1) Try.func68 (by kernel_rfl) (by kernel_rfl) lv68 ok68 rfl ((e68 a0 h R) ▸ hn)

/-! ### examiner/cover.CheckCover$1: function 69 -/
def n69 (a0 a1 : Value) (h : Heap) (R : Value → Heap → Prop) : Prop :=
  mvK (Value.bool false) h fun v3 h =>
  vK (aLoad Try.prog 48 a1 h) h fun v4 h =>
  mvK a0 h fun v5 h =>
  vK (aIndexAddr Try.prog 48 v4 v5) h fun v6 h =>
  vK (aLoad Try.prog 4 v6 h) h fun v7 h =>
  vK (aUn UnOp.not v7) h fun v8 h =>
  mvK v8 h fun v3_1 h =>
  retV [some v3_1] R h
def lv69 (q : Nat) : List Nat := []
theorem ok69 : lkOK Try.prog lv69 Try.f69 2 (Try.f69.body.getD .skip) 69 = true := by kernel_rfl
theorem e69 (a0 a1 : Value) (h : Heap) (R : Value → Heap → Prop) : n69 a0 a1 h R = wpK Try.prog lv69 (Try.f69.body.getD .skip) (endK Try.prog [.tmp 3] R) (argT [a0, a1]) h := by kernel_rfl
theorem w69 {a0 a1 : Value} {h : Heap} {R : Value → Heap → Prop} (hn : n69 a0 a1 h R) : DetP Try.prog 69 [a0, a1] h R :=
  DetP.of_code (rs := [.tmp 3]) (n := 2) Try.func69 (by kernel_rfl) (by kernel_rfl) lv69 ok69 rfl ((e69 a0 a1 h R) ▸ hn)

/-! ### (*examiner/cover.order).follows: function 70 -/
def n70 (a0 a1 a2 : Value) (h : Heap) (R : Value → Heap → Prop) : Prop :=
  mvK (Value.bool false) h fun v6 h =>
  mvK a0 h fun v7 h =>
  vK (nilV v7) h fun v8 h =>
  vK (aFieldAddr Try.prog 106 v8 2) h fun v9 h =>
  vK (aLoad Try.prog 104 v9 h) h fun v10 g =>
  VB h.length v10 ∧ (let h := g
   mvK a0 h fun v11 h =>
   vK (nilV v11) h fun v12 h =>
   vK (aFieldAddr Try.prog 106 v12 0) h fun v13 h =>
   vK (aLoad Try.prog 89 v13 h) h fun v14 g =>
   VB h.length v14 ∧ (let h := g
    vK (nilV v14) h fun v15 h =>
    vK (aFieldAddr Try.prog 92 v15 0) h fun v16 h =>
    vK (aFieldAddr Try.prog 24 v16 4) h fun v17 h =>
    vK (aLoad Try.prog 22 v17 h) h fun v18 g =>
    VB h.length v18 ∧ (let h := g
     mvK a1 h fun v19 h =>
     vK (aIndexAddr Try.prog 22 v18 v19) h fun v20 h =>
     vK (aFieldAddr Try.prog 76 v20 3) h fun v21 h =>
     vK (aLoad Try.prog 3 v21 h) h fun v22 g =>
     VB h.length v22 ∧ (let h := g
      vK (aLookup Try.prog 104 v10 v22 false h) h fun v23 g =>
      VB h.length v23 ∧ (let h := g
       mvK a0 h fun v24 h =>
       vK (nilV v24) h fun v25 h =>
       vK (aFieldAddr Try.prog 106 v25 0) h fun v26 h =>
       vK (aLoad Try.prog 89 v26 h) h fun v27 g =>
       VB h.length v27 ∧ (let h := g
        vK (nilV v27) h fun v28 h =>
        vK (aFieldAddr Try.prog 92 v28 0) h fun v29 h =>
        vK (aFieldAddr Try.prog 24 v29 4) h fun v30 h =>
        vK (aLoad Try.prog 22 v30 h) h fun v31 g =>
        VB h.length v31 ∧ (let h := g
         mvK a2 h fun v32 h =>
         vK (aIndexAddr Try.prog 22 v31 v32) h fun v33 h =>
         vK (aFieldAddr Try.prog 76 v33 0) h fun v34 h =>
         vK (aLoad Try.prog 3 v34 h) h fun v35 g =>
         VB h.length v35 ∧ (let h := g
          vK (aIndexAddr Try.prog 48 v23 v35) h fun v36 h =>
          vK (aLoad Try.prog 4 v36 h) h fun v37 g =>
          VB h.length v37 ∧ (let h := g
           mvK v37 h fun v6_1 h =>
           retV [some v6_1] R h)))))))))
def lv70 (q : Nat) : List Nat := []
theorem ok70 : lkOK Try.prog lv70 Try.f70 3 (Try.f70.body.getD .skip) 70 = true := by kernel_rfl
theorem e70 (a0 a1 a2 : Value) (h : Heap) (R : Value → Heap → Prop) : n70 a0 a1 a2 h R = wpK Try.prog lv70 (Try.f70.body.getD .skip) (endK Try.prog [.tmp 6] R) (argT [a0, a1, a2]) h := by kernel_rfl
theorem w70 {a0 a1 a2 : Value} {h : Heap} {R : Value → Heap → Prop} (hn : n70 a0 a1 a2 h R) : DetP Try.prog 70 [a0, a1, a2] h R :=
  DetP.of_code (rs := [.tmp 6]) (n := 3) Try.func70 (by kernel_rfl) (by kernel_rfl) lv70 ok70 rfl ((e70 a0 a1 a2 h R) ▸ hn)

end Go.Proofs.Ytdjoednhfoligaa

set_option linter.unusedSimpArgs false
set_option linter.unusedVariables false
set_option maxRecDepth 100000
namespace Go.Proofs.Ytdjoednhfoligaa
open Go.AM
variable {h h' h0 h1 : Heap} {K : Value → Heap → Prop} {m : Mac}

/-! ### the order of the reached steps -/
theorem mp104 : mapIntB Try.prog 104 = true := by kernel_rfl
theorem r104 : isPlain Try.prog 104 = true := by kernel_rfl
theorem fa106_0 (i : Nat) : aFieldAddr Try.prog 106 (.pointer (some ⟨i, 0, none⟩)) 0 = some (.pointer (some ⟨i, 0, none⟩)) := by kernel_rfl
theorem fa106_1 (i : Nat) : aFieldAddr Try.prog 106 (.pointer (some ⟨i, 0, none⟩)) 1 = some (.pointer (some ⟨i, 1, none⟩)) := by kernel_rfl
theorem fa106_2 (i : Nat) : aFieldAddr Try.prog 106 (.pointer (some ⟨i, 0, none⟩)) 2 = some (.pointer (some ⟨i, 2, none⟩)) := by kernel_rfl
theorem r89 : isPlain Try.prog 89 = true := by kernel_rfl
theorem build106 (gi mi : Nat) (o : Option Addr) (l c : Nat) : aBuild Try.prog 106 [(0, .pointer (some ⟨gi, 0, none⟩)), (1, .slice o l c), (2, .map (some mi))] = some (.agg #[.pointer (some ⟨gi, 0, none⟩), .slice o l c, .map (some mi)]) := by kernel_rfl
theorem box106 (a b c : Value) (h : Heap) : aBox Try.prog 106 (.agg #[a, b, c]) h = (.pointer (some ⟨h.length, 0, none⟩), newArr h [a, b, c] 3) := by kernel_rfl
/-- Can a step be taken after another one? -/
noncomputable def follB (m : Mac) (a b : Nat) : Bool := (rchB m (m.steps.getD a dst).to).getD (m.steps.getD b dst).fr.toNat false
structure Ord (oi : Nat) (h : Heap) (m : Mac) (gi : Nat) (sv : Value) (mi : Nat) (es : List (Value × Value)) : Prop where
  box : h[oi]? = some (.arr ⟨[.pointer (some ⟨gi, 0, none⟩), sv, .map (some mi)], 3, false⟩)
  steps : IntS h sv (rchL m)
  map : h[mi]? = some (.map es)
  idx : IdxK 0 es
  len : es.length = m.states.toNat
  rows : ∀ s, s < m.states.toNat → ∃ k v, es[s]? = some (k, v) ∧ BoolS h v (rchB m (s : Int))
theorem Ord.pre {oi gi mi : Nat} {sv : Value} {es : List (Value × Value)} (o : Ord oi h m gi sv mi es) (p : h <+: h') : Ord oi h' m gi sv mi es :=
  ⟨pre_get p o.box, o.steps.mono (Sub.of_pre p), pre_get p o.map, o.idx, o.len, fun s hs => by
    obtain ⟨k, v, h1, h2⟩ := o.rows s hs
    exact ⟨k, v, h1, h2.mono (Sub.of_pre p)⟩⟩
theorem VB_gr {gi : Nat} {st by_ fr : Value} (g : Graph gi h m st by_ fr) : VB h.length (.pointer (some ⟨gi, 0, none⟩)) := (List.getElem?_eq_some_iff.mp g.cells).1
theorem c68 {gi : Nat} {st by_ fr : Value} (g : Graph gi h m st by_ fr) (r : Right m) :
    DetP Try.prog 68 [.pointer (some ⟨gi, 0, none⟩)] h fun v h' => h <+: h' ∧ ∃ oi sv mi es, v = .pointer (some ⟨oi, 0, none⟩) ∧ Ord oi h' m gi sv mi es := by
  obtain ⟨b1, b2, b3, b4, b5, b6⟩ := r.bounds
  have hfew := r.few
  have hsl : m.steps.length ≤ 320 := by
    have : m.states * m.inputs ≤ 40 * 8 := Int.mul_le_mul b2 b4 (by omega) (by omega)
    omega
  refine w68 ?_
  unfold n68
  with_reducible (refine mv_i ?_; refine mv_i ?_; refine mv_i ?_)
  refine call_i (c60 g r) ?_
  rintro sv g1 ⟨p1, q1⟩
  have s1 := q1.self
  obtain ⟨o, l, c, rfl⟩ := seg_slice s1
  refine ok_i rfl ?_
  have hm2 := newMap_get g1
  have p2 := p1.trans (pre_map g1)
  have hml : h.length ≤ g1.length := p1.length_le
  have s2 := s1.mono (Sub.of_pre (pre_map g1))
  generalize hmi : g1.length = mi at hm2 hml ⊢
  generalize newMap g1 = g2 at p2 hm2 s2 ⊢
  refine vk_i (build106 _ _ _ _ _) ?_
  rw [box106]
  refine ok_i rfl ?_
  have hb3 := newArr_get g2 [.pointer (some ⟨gi, 0, none⟩), .slice o l c, .map (some mi)] 3
  have p3 := p2.trans (pre_new g2 [.pointer (some ⟨gi, 0, none⟩), .slice o l c, .map (some mi)] 3)
  have hm3 := pre_get (pre_new g2 [.pointer (some ⟨gi, 0, none⟩), .slice o l c, .map (some mi)] 3) hm2
  have s3 := s2.mono (Sub.of_pre (pre_new g2 [.pointer (some ⟨gi, 0, none⟩), .slice o l c, .map (some mi)] 3))
  generalize hoi : g2.length = oi at hb3 ⊢
  generalize newArr g2 [.pointer (some ⟨gi, 0, none⟩), .slice o l c, .map (some mi)] 3 = g3 at p3 hb3 hm3 s3 ⊢
  have gr3 := g.mono (Sub.of_pre p3)
  with_reducible (refine mv_i ?_; refine mv_i ?_; refine nil_i ?_; refine vk_i (fa92_0 _) ?_; refine vk_i (fa36_0 _) ?_; refine ldgr r3 (by assumption) rfl ?_; refine mv_i ?_)
  refine loop1 m.states.toNat (fun k h2 => h <+: h2 ∧ Sub g3 h2 ∧ ∃ es, h2[mi]? = some (.map es) ∧ IdxK 0 es ∧ es.length = k ∧ ∀ s, s < k → ∃ key v, es[s]? = some (key, v) ∧ BoolS h2 v (rchB m (s : Int))) ⟨p3, Sub.refl _, [], hm3, IdxK.nil _, rfl, fun s hs => by omega⟩ ?_
  rintro k h2 _ hk ⟨ph, sb, es, hm, hix, hlen, hrow⟩
  have gr2 := g.mono (Sub.of_pre ph)
  have hb2 := sb.2 _ _ hb3
  skip
  refine lss_i (fun hlt => ?_) (fun hge => ?_)
  · with_reducible (refine cnd_t ?_; refine mv_i ?_; refine mv_i ?_; refine mv_i ?_; refine nil_i ?_)
    refine vk_i (fa106_2 _) ?_
    refine ld3_2 r104 (by assumption) ?_
    refine ⟨VB_map hm, ?_⟩
    with_reducible (refine mv_i ?_; refine mv_i ?_; refine mv_i ?_)
    refine calld_i (c64 gr2 r (by omega) (by omega)) ?_
    rintro v h3 ⟨p4, q4⟩
    refine ⟨p4.imp fun t ht => ht.symm, ?_⟩
    have sv4 := q4.self
    have hm4 := pre_get p4 hm
    subst hlen
    refine mup_i mp104 hm4 hix ?_
    refine ⟨trivial, ?_⟩
    have sbm := Sub.setMap (es' := es ++ [(.int .i64 (es.length : Int), v)]) hm4
    have pm := pre_set (ph.trans p4) hml (.map (es ++ [(.int .i64 (es.length : Int), v)]))
    have hmn : (h3.set mi (.map (es ++ [(.int .i64 (es.length : Int), v)])))[mi]? = some (.map (es ++ [(.int .i64 (es.length : Int), v)])) := by
      simp [(List.getElem?_eq_some_iff.mp hm4).1]
    with_reducible (refine inc_i (by omega) ?_; refine mv_i ?_)
    refine next1 (by omega) ⟨pm, (sb.trans (Sub.of_pre p4)).trans sbm, _, hmn, by simpa using hix.snoc v, by simp, fun s hs => ?_⟩
    by_cases q : s < es.length
    · obtain ⟨key, v', e1, e2⟩ := hrow s q
      exact ⟨key, v', by rw [List.getElem?_append_left q]; exact e1, e2.mono ((Sub.of_pre p4).trans sbm)⟩
    · have : s = es.length := by omega
      subst this
      exact ⟨.int .i64 (es.length : Int), v, by simp, sv4.mono sbm⟩
  · with_reducible (refine cnd_f ?_; refine mv_i ?_; refine mv_i ?_; refine ret1 ?_)
    exact ⟨ph, oi, _, mi, es, rfl, hb2, s3.mono sb, hm, hix, by omega, fun s hs => hrow s (by omega)⟩
theorem c70 {oi gi mi : Nat} {sv st by_ fr : Value} {es : List (Value × Value)} {a b : Int} (o : Ord oi h m gi sv mi es) (g : Graph gi h m st by_ fr) (r : Right m) (a0 : 0 ≤ a) (a1 : a < m.steps.length) (b0 : 0 ≤ b) (b1 : b < m.steps.length) :
    Runs Try.prog 70 [.pointer (some ⟨oi, 0, none⟩), .int .i64 a, .int .i64 b] h (.bool (follB m a.toNat b.toNat)) h := by
  obtain ⟨b1, b2, b3, b4, b5, b6⟩ := r.bounds
  have hfew := r.few
  have hsl : m.steps.length ≤ 320 := by
    have : m.states * m.inputs ≤ 40 * 8 := Int.mul_le_mul b2 b4 (by omega) (by omega)
    omega
  have gst := g.steps
  have hbx := o.box
  have hsa := r.st (show a.toNat < m.steps.length by omega)
  have hsb := r.st (show b.toNat < m.steps.length by omega)
  obtain ⟨key, row, hrow, srow⟩ := o.rows (m.steps.getD a.toNat dst).to.toNat (by omega)
  rw [show (((m.steps.getD a.toNat dst).to.toNat : Nat) : Int) = (m.steps.getD a.toNat dst).to by omega] at srow
  have hlb := rchB_len (m := m) (m.steps.getD a.toNat dst).to
  refine DetP.runs (w70 ?_)
  unfold n70
  with_reducible (refine mv_i ?_; refine mv_i ?_; refine nil_i ?_)
  refine vk_i (fa106_2 _) ?_
  refine ld3_2 r104 (by assumption) ?_
  refine ⟨VB_map o.map, ?_⟩
  with_reducible (refine mv_i ?_; refine nil_i ?_)
  refine vk_i (fa106_0 _) ?_
  refine ld3_0 r89 (by assumption) ?_
  refine ⟨VB_gr g, ?_⟩
  with_reducible (refine nil_i ?_; refine vk_i (fa92_0 _) ?_; refine vk_i (fa36_4 _) ?_; refine ldgr r34 (by assumption) rfl ?_; refine ⟨VB_of_steps (by assumption), ?_⟩; refine mv_i ?_; refine idxzst t34 (by assumption) (by omega) (by omega) ?_; refine fae_i st63 (by assumption) (by omega) (by omega) ?_; refine ldto dst st63 (by assumption) (by omega) ?_; refine ⟨vbi _ _, ?_⟩)
  refine look_z mp104 o.map o.idx (by omega) hrow ?_
  refine ⟨VB_of_bools srow, ?_⟩
  with_reducible (refine mv_i ?_; refine nil_i ?_)
  refine vk_i (fa106_0 _) ?_
  refine ld3_0 r89 (by assumption) ?_
  refine ⟨VB_gr g, ?_⟩
  with_reducible (refine nil_i ?_; refine vk_i (fa92_0 _) ?_; refine vk_i (fa36_4 _) ?_; refine ldgr r34 (by assumption) rfl ?_; refine ⟨VB_of_steps (by assumption), ?_⟩; refine mv_i ?_; refine idxzst t34 (by assumption) (by omega) (by omega) ?_; refine fae_i st63 (by assumption) (by omega) (by omega) ?_; refine ldfr dst st63 (by assumption) (by omega) ?_; refine ⟨vbi _ _, ?_⟩; refine idxzb t48 (by assumption) (by omega) (by omega) ?_; refine ldb_i t48 r4 (by assumption) (by omega) ?_; refine ⟨vbb _ _, ?_⟩; refine mv_i ?_; refine ret1 ?_)
  exact ⟨rfl, rfl⟩
theorem c69 {bi : Nat} {x : Int} {v : Value} {bs : List Bool} (hi : h[bi]? = some (.arr ⟨[v], 1, false⟩)) (s : BoolS h v bs) (h0 : 0 ≤ x) (hx : x < bs.length) : Runs Try.prog 69 [.int .i64 x, .pointer (some ⟨bi, 0, none⟩)] h (.bool (!bs.getD x.toNat false)) h := by
  refine DetP.runs (w69 ?_)
  unfold n69
  have hr : isPlain Try.prog 48 = true := by kernel_rfl
  with_reducible (refine mv_i ?_)
  refine ld1_0 hr hi ?_
  with_reducible (refine mv_i ?_; refine idxzb t48 (by assumption) (by omega) (by omega) ?_; refine ldb_i t48 r4 (by assumption) (by omega) ?_)
  exact ⟨rfl, rfl⟩
end Go.Proofs.Ytdjoednhfoligaa

set_option linter.unusedSimpArgs false
set_option linter.unusedVariables false
set_option maxRecDepth 100000
namespace Go.Proofs.Ytdjoednhfoligaa
open Go.AM
variable {h h' h0 h1 : Heap} {K : Value → Heap → Prop} {m : Mac}

/-! ### covers -/
/-- A step is taken by one of the words. -/
def tkn (m : Mac) (ws : List (List Int)) (i : Nat) : Prop := ∃ w ∈ ws, i ∈ takenI m.steps m.start w
def marks (bs : List Bool) (ks : List Nat) : List Bool := ks.foldl (fun bs k => bs.set k true) bs
theorem marks_len (ks : List Nat) : ∀ bs : List Bool, (marks bs ks).length = bs.length := by
  induction ks with
  | nil => intro bs; rfl
  | cons k ks ih => intro bs; show (marks (bs.set k true) ks).length = _; rw [ih]; simp
theorem marks_at (ks : List Nat) : ∀ (bs : List Bool) (i : Nat), i < bs.length → ((marks bs ks).getD i false = true ↔ bs.getD i false = true ∨ i ∈ ks) := by
  induction ks with
  | nil => intro bs i _; simp [marks]
  | cons k ks ih =>
    intro bs i hi
    have e : marks bs (k :: ks) = marks (bs.set k true) ks := rfl
    rw [e, ih (bs.set k true) i (by simpa using hi)]
    by_cases q : i = k
    · subst q
      rw [gd_set hi]
      simp
    · rw [gd_set_ne q]
      simp [q]
theorem marks_take {bs : List Bool} {ks : List Nat} {j : Nat} (hj : j < ks.length) : marks bs (ks.take (j + 1)) = (marks bs (ks.take j)).set (ks.getD j 0) true := by
  rw [take_gd 0 hj]
  unfold marks
  rw [List.foldl_append]
  rfl
def takenB (m : Mac) (ws : List (List Int)) : List Bool := ws.foldl (fun bs w => marks bs (takenI m.steps m.start w)) (List.replicate m.steps.length false)
theorem tB_aux (ws : List (List Int)) : ∀ bs : List Bool, (ws.foldl (fun bs w => marks bs (takenI m.steps m.start w)) bs).length = bs.length ∧ ∀ i, i < bs.length → ((ws.foldl (fun bs w => marks bs (takenI m.steps m.start w)) bs).getD i false = true ↔ bs.getD i false = true ∨ tkn m ws i) := by
  induction ws with
  | nil => intro bs; exact ⟨rfl, fun i _ => by simp [tkn]⟩
  | cons w ws ih =>
    intro bs
    have hl := marks_len (takenI m.steps m.start w) bs
    obtain ⟨h1, h2⟩ := ih (marks bs (takenI m.steps m.start w))
    refine ⟨by simpa only [List.foldl_cons, hl] using h1, fun i hi => ?_⟩
    simp only [List.foldl_cons]
    rw [h2 i (by omega), marks_at _ _ _ hi]
    simp only [tkn, List.mem_cons, exists_eq_or_imp]
    rw [or_assoc]
theorem takenB_len (ws : List (List Int)) : (takenB m ws).length = m.steps.length := by
  unfold takenB
  rw [(tB_aux ws _).1]; simp
theorem takenB_at {ws : List (List Int)} {i : Nat} (hi : i < m.steps.length) : (takenB m ws).getD i false = true ↔ tkn m ws i := by
  unfold takenB
  rw [(tB_aux ws _).2 i (by simpa using hi)]
  simp [List.getD, hi]
theorem takenB_take {ws : List (List Int)} {k : Nat} (hk : k < ws.length) : takenB m (ws.take (k + 1)) = marks (takenB m (ws.take k)) (takenI m.steps m.start (ws.getD k [])) := by
  rw [take_gd [] hk]
  unfold takenB
  rw [List.foldl_append]
  rfl
def usBad (m : Mac) (us : List Int) : Prop := ∃ i j, j < i ∧ i < us.length ∧ (follB m (us.getD i 0).toNat (us.getD j 0).toNat = true ∨ follB m (us.getD j 0).toNat (us.getD i 0).toNat = true)
open Classical in
noncomputable def usAt (m : Mac) (us : List Int) (i : Nat) : Option Int := if us.getD i 0 ∈ rchL m then (if 0 < i ∧ us.getD i 0 ≤ us.getD (i - 1) 0 then some 14 else none) else some 3
noncomputable def usE (m : Mac) (us : List Int) : Int := (firstOf (usAt m us) us.length).getD 0
open Classical in
noncomputable def midC (m : Mac) (ws : List (List Int)) (us : List Int) : Int := if ∃ i ∈ rchL m, ¬ tkn m ws i.toNat then 11 else if us.length ≠ ws.length then 6 else 0
def cutW (m : Mac) (ws : List (List Int)) : Prop := ∃ k, k < ws.length ∧ (takenI m.steps m.start (ws.getD k [])).length ≠ (ws.getD k []).length
open Classical in
noncomputable def covE (m : Mac) (ws : List (List Int)) (us : List Int) : Int :=
  if cutW m ws then 23 else if midC m ws us ≠ 0 then midC m ws us else if usE m us ≠ 0 then usE m us else if usBad m us then 30 else 0
noncomputable def covP (m : Mac) (ws : List (List Int)) (us : List Int) : Int := if covE m ws us = 0 then (ws.length : Int) else 0
noncomputable def covT (m : Mac) (ws : List (List Int)) (us : List Int) : Value := .tuple #[.int .i64 (covP m ws us), .int .i64 (covE m ws us)]
variable {ws : List (List Int)} {us : List Int}
theorem covT_ne {e : Int} (he : covE m ws us = e) (hz : e ≠ 0) : covT m ws us = .tuple #[.int .i64 0, .int .i64 e] := by
  unfold covT covP; rw [he, if_neg hz]
theorem cov23 {k : Nat} (hk : k < ws.length) (hc : (takenI m.steps m.start (ws.getD k [])).length ≠ (ws.getD k []).length) : covT m ws us = .tuple #[.int .i64 0, .int .i64 23] :=
  covT_ne (by unfold covE; rw [if_pos ⟨k, hk, hc⟩]) (by decide)
theorem covM (h1 : ∀ k, k < ws.length → (takenI m.steps m.start (ws.getD k [])).length = (ws.getD k []).length) (h2 : midC m ws us ≠ 0) : covT m ws us = .tuple #[.int .i64 0, .int .i64 (midC m ws us)] :=
  covT_ne (by unfold covE; rw [if_neg (fun ⟨k, hk, hc⟩ => hc (h1 k hk)), if_pos h2]) h2
theorem covU {k : Nat} {e : Int} (h1 : ∀ k, k < ws.length → (takenI m.steps m.start (ws.getD k [])).length = (ws.getD k []).length) (h2 : midC m ws us = 0) (h3 : ∀ j, j < k → usAt m us j = none) (hk : k < us.length) (he : usAt m us k = some e) (hz : e ≠ 0) : covT m ws us = .tuple #[.int .i64 0, .int .i64 e] := by
  have : usE m us = e := by unfold usE; rw [firstOf_some h3 hk he]; rfl
  refine covT_ne ?_ hz
  unfold covE
  rw [if_neg (fun ⟨k, hk, hc⟩ => hc (h1 k hk)), if_neg (by simp [h2]), this, if_pos hz]
theorem covF (h1 : ∀ k, k < ws.length → (takenI m.steps m.start (ws.getD k [])).length = (ws.getD k []).length) (h2 : midC m ws us = 0) (h3 : ∀ j, j < us.length → usAt m us j = none) : (usBad m us → covT m ws us = .tuple #[.int .i64 0, .int .i64 30]) ∧ (¬ usBad m us → covT m ws us = .tuple #[.int .i64 (ws.length : Int), .int .i64 0]) := by
  have : usE m us = 0 := by unfold usE; rw [firstOf_none h3]; rfl
  refine ⟨fun hb => covT_ne ?_ (by decide), fun hb => ?_⟩
  · unfold covE
    rw [if_neg (fun ⟨k, hk, hc⟩ => hc (h1 k hk)), if_neg (by simp [h2]), if_neg (by simp [this]), if_pos hb]
  · have e : covE m ws us = 0 := by
      unfold covE
      rw [if_neg (fun ⟨k, hk, hc⟩ => hc (h1 k hk)), if_neg (by simp [h2]), if_neg (by simp [this]), if_neg hb]
    unfold covT covP; rw [e, if_pos rfl]
theorem us_in {k : Nat} (hz : usAt m us k = none) : us.getD k 0 ∈ rchL m := by
  unfold usAt at hz
  split at hz
  · assumption
  · cases hz
theorem midC_or (r : Right m) : orOf [if (!((rchL m).any fun x => !(takenB m ws).getD x.toNat false)) = true then 0 else 11, if decide ((us.length : Int) = (ws.length : Int)) = true then 0 else 6] = midC m ws us := by
  have e1 : (!((rchL m).any fun x => !(takenB m ws).getD x.toNat false)) = true ↔ ¬ ∃ i ∈ rchL m, ¬ tkn m ws i.toNat := by
    rw [Bool.not_eq_true', ← Bool.not_eq_true, List.any_eq_true]
    refine not_congr (exists_congr fun i => and_congr_right fun hi => ?_)
    have := rchL_in r hi
    rw [Bool.not_eq_true', ← takenB_at (m := m) (ws := ws) (show i.toNat < m.steps.length by omega), Bool.not_eq_true]
  rw [or2]
  unfold midC
  by_cases h1 : ∃ i ∈ rchL m, ¬ tkn m ws i.toNat
  · rw [if_pos h1, if_neg (fun hc => e1.mp hc h1), if_neg (show ¬ (11 : Int) = 0 by decide)]
  · rw [if_neg h1, if_pos (e1.mpr h1), if_pos rfl]
    by_cases h2 : us.length = ws.length
    · rw [if_pos (decide_eq_true (by omega)), if_neg (by simp [h2])]
    · rw [if_neg (show ¬ decide ((us.length : Int) = (ws.length : Int)) = true by rw [decide_eq_false (by omega)]; simp), if_pos h2]
theorem rep_mapB (n : Nat) (x : Bool) : List.replicate n (Value.bool x) = (List.replicate n x).map .bool := by simp
theorem set_mapB {xs : List Bool} {n : Nat} {x : Bool} : (xs.map Value.bool).set n (.bool x) = (xs.set n x).map .bool := by rw [List.map_set]
theorem s48 : szOf Try.prog 48 = some 1 := by kernel_rfl
theorem al48 (h : Heap) : aAlloc Try.prog 48 h = some (.pointer (some ⟨h.length, 0, none⟩), newArr h [.slice none 0 0] 1) := by kernel_rfl
theorem sto48 (g : Heap) (o : Option Addr) (l c : Nat) : aStore Try.prog 48 (.pointer (some ⟨g.length, 0, none⟩)) (.slice o l c) (newArr g [.slice none 0 0] 1) = some (newArr g [.slice o l c] 1) := by
  have := st_i (P := Try.prog) (e := 48) (h := newArr g [.slice none 0 0] 1) (y := .slice o l c) (off := 0) (K := fun _ h' => some h' = some (newArr g [.slice o l c] 1)) s48 (newArr_get _ _ _) rfl (by simp) rfl rfl (by rw [← newArr_set g [.slice none 0 0] [.slice o l c] 1]; rfl)
  have := this.out
  cases hq : aStore Try.prog 48 (.pointer (some ⟨g.length, 0, none⟩)) (.slice o l c) (newArr g [.slice none 0 0] 1) with
  | none => rw [hq] at this; exact this.elim
  | some x => rw [hq] at this; exact this
theorem r48 : isPlain Try.prog 48 = true := by kernel_rfl
end Go.Proofs.Ytdjoednhfoligaa

set_option linter.unusedSimpArgs false
set_option linter.unusedVariables false
set_option maxRecDepth 100000
namespace Go.Proofs.Ytdjoednhfoligaa
open Go.AM
variable {h h' h0 h1 : Heap} {K : Value → Heap → Prop} {m : Mac} {ws : List (List Int)} {us : List Int}

set_option maxHeartbeats 4000000 in
theorem c32 {a b : Value} {o1 : Option Addr} {l1 k1 : Nat} (s : MacV h a m) (sw : RowsS h b ws) (su : IntS h (.slice o1 l1 k1) us) (hcap : l1 ≤ capOf l1 k1) :
    DetP Try.prog 32 [a, b, .slice o1 l1 k1] h fun v h' => h <+: h' ∧ v = if orOf [(mErr m).2, wsE ws m.inputs] ≠ 0 then .tuple #[.int .i64 0, .int .i64 (orOf [(mErr m).2, wsE ws m.inputs])] else covT m ws us := by
  refine w32 ?_
  unfold n32
  obtain ⟨o, l, c, rfl, ss0⟩ := s
  rw [box36]
  refine ok_i rfl ?_
  have p1 := pre_new h [.int .i64 m.states, .int .i64 m.inputs, .int .i64 m.outputs, .int .i64 m.start, .slice o l c] 5
  have hb1 := newArr_get h [.int .i64 m.states, .int .i64 m.inputs, .int .i64 m.outputs, .int .i64 m.start, .slice o l c] 5
  have ss := ss0.mono (Sub.of_pre p1)
  generalize hg1 : newArr h [.int .i64 m.states, .int .i64 m.inputs, .int .i64 m.outputs, .int .i64 m.start, .slice o l c] 5 = g1 at p1 hb1 ss ⊢
  have sw1 := sw.mono (Sub.of_pre p1)
  have su1 := su.mono (Sub.of_pre p1)
  have mv1 : MacV g1 (.agg #[.int .i64 m.states, .int .i64 m.inputs, .int .i64 m.outputs, .int .i64 m.start, .slice o l c]) m := macv_of ss
  with_reducible (refine mv_i ?_; refine mv_i ?_)
  refine vk_i (ld36 hb1) ?_
  refine ⟨vb_mac ss, ?_⟩
  refine calld_r (c51 mv1) ⟨⟨[], by simp⟩, ?_⟩
  refine vk_i (ld36 hb1) ?_
  refine ⟨vb_mac ss, ?_⟩
  with_reducible (refine mv_i ?_)
  refine calld_r (c67 mv1 sw1) ⟨⟨[], by simp⟩, ?_⟩
  refine ok_i (bs94_2 _ _ _) ?_
  have p2 := pre_new g1 [.int .i64 (mErr m).2, .int .i64 (wsE ws m.inputs)] 1
  have sx : IntS (newArr g1 [.int .i64 (mErr m).2, .int .i64 (wsE ws m.inputs)] 1) (.slice (some ⟨g1.length, 0, none⟩) 2 3) [(mErr m).2, wsE ws m.inputs] := Seg.new 3 (by rfl) (by simp)
  generalize newArr g1 [.int .i64 (mErr m).2, .int .i64 (wsE ws m.inputs)] 1 = g2 at p2 sx ⊢
  refine calld_r (c50 sx) ⟨⟨[], by simp⟩, ?_⟩
  generalize he : orOf [(mErr m).2, wsE ws m.inputs] = e
  with_reducible (refine mv_i ?_; refine mv_i ?_)
  refine neq_i (fun hz => ?_) (fun hz => ?_)
  rotate_left
  · with_reducible (refine cnd_t ?_; refine mv_i ?_; refine mv_i ?_; refine mv_i ?_; refine ret2 ?_)
    exact ⟨p1.trans p2, by rw [if_pos hz]⟩
  subst hz
  rw [if_neg (by simp)]
  rw [or2] at he
  have he1 : (mErr m).2 = 0 := by by_cases q : (mErr m).2 = 0 <;> simp_all
  rw [if_pos he1] at he
  have r := right_of he1
  obtain ⟨hw1, hw2⟩ := wsE_zero he
  obtain ⟨b1, b2, b3, b4, b5, b6⟩ := r.bounds
  have hfew := r.few
  have hsl : m.steps.length ≤ 320 := by
    have : m.states * m.inputs ≤ 40 * 8 := Int.mul_le_mul b2 b4 (by omega) (by omega)
    omega
  have hb2 := (Sub.of_pre p2).2 _ _ hb1
  with_reducible (refine cnd_f ?_)
  refine vk_i (ld36 hb2) ?_
  refine call_i (c54 (mv1.mono (Sub.of_pre p2)) r) ?_
  rintro _ g3 ⟨p3, gi, st, by_, fr, rfl, sst, og⟩
  have gr : Graph gi g3 m st by_ fr := og.self (sst.mono (Sub.of_pre p3))
  have hb3 := (Sub.of_pre p3).2 _ _ hb2
  have ss3 := ss.mono (Sub.of_pre (p2.trans p3))
  have sw3 := sw1.mono (Sub.of_pre (p2.trans p3))
  have su3 := su1.mono (Sub.of_pre (p2.trans p3))
  have pall := p1.trans (p2.trans p3)
  with_reducible (refine mv_i ?_; refine vk_i (fa36_4 _) ?_; refine ld5_4 r34 (by assumption) ?_; refine lenst t34 (by assumption) ?_)
  refine mk1_i (n := m.steps.length) t48 z4 (by omega) ⟨by omega, by omega⟩ ?_
  rw [Int.toNat_natCast, rep_mapB]
  have o0 := (Owns.start (fun _ => []) oneE (List.prefix_refl g3)).add 0 ((List.replicate m.steps.length false).map .bool) 1 rfl
  generalize hoi : g3.length = oi at o0 ⊢
  generalize newArr g3 ((List.replicate m.steps.length false).map .bool) 1 = g4 at o0 ⊢
  refine ok_i (al48 _) ?_
  refine ok_i (v := undef) (h' := newArr g4 [.slice (some ⟨oi, 0, none⟩) m.steps.length (m.steps.length + 1)] 1) (by rw [sto48]; rfl) ?_
  obtain ⟨N, C0, o1', n0, n1, c00, c01⟩ : ∃ N C, Owns g3 (newArr g4 [.slice (some ⟨oi, 0, none⟩) m.steps.length (m.steps.length + 1)] 1) N C oneE ∧ N 0 = some oi ∧ N 1 = some g4.length ∧ C 0 = (takenB m (ws.take 0)).map .bool ∧ C 1 = [.slice (some ⟨oi, 0, none⟩) m.steps.length (m.steps.length + 1)] :=
    ⟨_, _, o0.add 1 [.slice (some ⟨oi, 0, none⟩) m.steps.length (m.steps.length + 1)] 1 rfl, by rw [upN_ne (by decide), upN_self], upN_self _ _ _, by rw [upN_ne (by decide), upN_self]; rfl, upN_self _ _ _⟩
  clear o0
  generalize hbi : g4.length = bi at n1 ⊢
  generalize newArr g4 [.slice (some ⟨oi, 0, none⟩) m.steps.length (m.steps.length + 1)] 1 = g5 at o1' ⊢
  have sw4 := sw3.mono o1'.sub
  with_reducible (refine mv_i ?_; refine lenr_i t22 (by assumption) ?_; refine mv_i ?_)
  refine loop1 ws.length (fun k h2 => ∃ C, Owns g3 h2 N C oneE ∧ C 0 = (takenB m (ws.take k)).map .bool ∧ C 1 = [.slice (some ⟨oi, 0, none⟩) m.steps.length (m.steps.length + 1)] ∧ ∀ j, j < k → (takenI m.steps m.start (ws.getD j [])).length = (ws.getD j []).length) ⟨_, o1', c00, c01, fun j hj => by omega⟩ ?_
  rintro k h2 _ hk ⟨C, o2, c0, c1, hJ⟩
  have sw5 := sw3.mono o2.sub
  have gr2 := gr.mono o2.sub
  skip
  refine lss_i (fun hlt => ?_) (fun hge => ?_)
  · have hkl : k < ws.length := by omega
    with_reducible (refine cnd_t ?_; refine idxr_i t22 (by assumption) (by omega) ?_)
    refine ldr_i t22 r23 sw5 (by omega) fun row srow => ?_
    with_reducible (refine mv_i ?_; refine mv_i ?_; refine mv_i ?_)
    have hwk := hw2 k hkl
    have hwl := (w_ok hwk).1
    refine call_i (c55 gr2 r srow (inW_of r hwk) (by omega)) ?_
    rintro v h3 ⟨p3', q3⟩
    have fz := Frz.of_only o2 p3' q3
    have o3 := o2.ext p3'
    have srow3 := srow.mono (Sub.of_pre p3')
    have hkl2 := takenI_len (l := m.steps) (ws.getD k []) m.start
    have hkin := takenI_has (l := m.steps) (f := m.start) (w := ws.getD k [])
    have htk := takenB_take (m := m) hkl
    have hcut := cov23 (m := m) (us := us) hkl
    generalize hks : takenI m.steps m.start (ws.getD k []) = ks at fz hkl2 hkin htk hcut
    have hcl : (takenB m (ws.take k)).length = m.steps.length := takenB_len _
    generalize takenB m (ws.take k) = bs at c0 htk hcl
    have sv := fz.self
    have hml : (ks.map fun k : Nat => (k : Int)).length = ks.length := by simp
    with_reducible (refine mv_i ?_; refine mv_i ?_; refine leni_i t23 (by assumption) ?_; refine mv_i ?_; refine leni_i t23 (by assumption) ?_)
    refine lss_i (fun hll => ?_) (fun hll => ?_)
    · with_reducible (refine cnd_t ?_; refine mv_i ?_; refine mv_i ?_; refine ret2 ?_)
      exact ⟨pall.trans o3.pre, (hcut (by omega)).symm⟩
    with_reducible (refine cnd_f ?_; refine mv_i ?_; refine leni_i t23 (by assumption) ?_; refine mv_i ?_)
    refine loop1 ks.length (fun j h4 => ∃ C, Owns g3 h4 N C oneE ∧ Frz N h4 (fun g => IntS g v (ks.map fun k : Nat => (k : Int))) ∧ C 0 = (marks bs (ks.take j)).map .bool ∧ C 1 = [.slice (some ⟨oi, 0, none⟩) m.steps.length (m.steps.length + 1)]) ⟨C, o3, fz, by simpa [marks] using c0, c1⟩ ?_
    rintro j h4 _ hj ⟨C, o4, fz4, c0, c1⟩
    have sv := fz4.self
    have hbl := marks_len (ks.take j) bs
    have sc : BoolS h4 (.slice (some ⟨oi, 0, none⟩) m.steps.length (m.steps.length + 1)) (marks bs (ks.take j)) := by
      have := LS.bools o4 (v := .slice (some ⟨oi, 0, none⟩) m.steps.length (m.steps.length + 1)) (xs := marks bs (ks.take j)) (l := 0) (by have := LS.whole (C := C) (c := m.steps.length + 1) n0 (k := m.steps.length) (by rw [c0, List.length_map]; omega); rw [c0] at this; exact this) rfl (by omega)
      exact this
    skip
    refine lss_i (fun hlt2 => ?_) (fun hge => ?_)
    · have hj2 : j < ks.length := by omega
      have hz : (ks.map fun k : Nat => (k : Int)).getD j 0 = ((ks.getD j 0 : Nat) : Int) := by simp [List.getD, hj2]
      have hkj : ks.getD j 0 < m.steps.length := hkin _ (gd_mem 0 hj2)
      with_reducible (refine cnd_t ?_)
      refine idxi_i t23 sv (by omega) ?_
      refine ldi_i t23 r3 sv (by omega) ?_
      rw [hz]
      with_reducible (refine mv_i ?_)
      refine ldl r48 o4 n1 (by rw [c1]; rfl) ?_
      with_reducible (refine mv_i ?_)
      refine idxb_i t48 sc (by omega) ?_
      rw [elt_at1]
      refine stl s4 o4 n0 (by rw [c0, List.length_map]; omega) rfl rfl fun o5 => ?_
      have fz5 := fz4.set n0 (.arr ⟨(C 0).set (ks.getD j 0) (.bool true), oneE 0, false⟩)
      with_reducible (refine inc_i (by omega) ?_; refine mv_i ?_)
      refine next1 hj2 ⟨_, o5, fz5, ?_, ?_⟩
      · rw [upN_self, c0, marks_take hj2, set_mapB]
      · rw [upN_ne (by decide)]; exact c1
    · have ej : j = ks.length := by omega
      subst ej
      rw [List.take_of_length_le (Nat.le_refl _), ← htk] at c0
      with_reducible (refine cnd_f ?_; refine inc_i (by omega) ?_; refine mv_i ?_)
      refine next1 hkl ⟨C, o4, c0, c1, fun q hq => ?_⟩
      by_cases e : q = k
      · subst e; rw [hks]; omega
      · exact hJ q (by omega)
  have ek : k = ws.length := by omega
  subst ek
  rw [List.take_of_length_le (Nat.le_refl _)] at c0
  have hbl := takenB_len (m := m) ws
  have sc : BoolS h2 (.slice (some ⟨oi, 0, none⟩) m.steps.length (m.steps.length + 1)) (takenB m ws) := by
    have := LS.bools o2 (v := .slice (some ⟨oi, 0, none⟩) m.steps.length (m.steps.length + 1)) (xs := takenB m ws) (l := 0) (by have := LS.whole (C := C) (c := m.steps.length + 1) n0 (k := m.steps.length) (by rw [c0, List.length_map]; omega); rw [c0] at this; exact this) rfl (by omega)
    exact this
  have hbx : h2[bi]? = some (.arr ⟨[.slice (some ⟨oi, 0, none⟩) m.steps.length (m.steps.length + 1)], 1, false⟩) := by
    have := o2.get n1
    rw [c1] at this
    exact this
  have su2 := su3.mono o2.sub
  have pall2 := pall.trans o2.pre
  clear o2 c0 c1 o1' n0 n1
  with_reducible (refine cnd_f ?_; refine mv_i ?_)
  refine call_i (c68 gr2 r) ?_
  rintro _ g6 ⟨p6, qi, sv, mi, es, rfl, od⟩
  have gr6 := gr2.mono (Sub.of_pre p6)
  have sc6 := sc.mono (Sub.of_pre p6)
  have sw6 := sw5.mono (Sub.of_pre p6)
  have su6 := su2.mono (Sub.of_pre p6)
  have hbx6 := (Sub.of_pre p6).2 _ _ hbx
  have pall6 := pall2.trans p6
  have hod := od.box
  have hsl := od.steps
  have hLin := fun i => rchL_in (i := i) r
  with_reducible (refine mv_i ?_; refine mv_i ?_; refine mv_i ?_; refine mv_i ?_; refine nil_i ?_; refine vk_i (fa106_1 _) ?_; refine ld3_1 r23 (by assumption) ?_; refine mv_i ?_)
  refine call_r (c62g (caps := #[.pointer (some ⟨bi, 0, none⟩)]) hsl fun x hx => c69 hbx6 sc6 (hLin x hx).1 (by have := (hLin x hx).2; omega)) ?_
  refine AM.not_i ?_
  refine call_r (c61 _ _) ?_
  with_reducible (refine mv_i ?_; refine leni_i t23 (by assumption) ?_; refine mv_i ?_; refine lenr_i t22 (by assumption) ?_)
  refine eql_b ?_
  refine call_r (c61 _ _) ?_
  have hmid := midC_or (ws := ws) (us := us) r
  generalize (if (!((rchL m).any fun x => !(takenB m ws).getD x.toNat false)) = true then (0 : Int) else 11) = t1 at hmid ⊢
  generalize (if decide ((us.length : Int) = (ws.length : Int)) = true then (0 : Int) else 6) = t2 at hmid ⊢
  refine ok_i (bs94_2 _ _ _) ?_
  have p7 := pre_new g6 [.int .i64 t1, .int .i64 t2] 1
  have sx7 : IntS (newArr g6 [.int .i64 t1, .int .i64 t2] 1) (.slice (some ⟨g6.length, 0, none⟩) 2 3) [t1, t2] := Seg.new 3 (by rfl) (by simp)
  generalize newArr g6 [.int .i64 t1, .int .i64 t2] 1 = g7 at p7 sx7 ⊢
  refine call_r (c50 sx7) ?_
  rw [hmid]
  have gr7 := gr6.mono (Sub.of_pre p7)
  have su7 := su6.mono (Sub.of_pre p7)
  have sw7 := sw6.mono (Sub.of_pre p7)
  have pall7 := pall6.trans p7
  have od7 := od.pre p7
  have hod7 := od7.box
  have hsl7 := od7.steps
  clear od hod hsl hmid sx7 sx
  with_reducible (refine mv_i ?_; refine mv_i ?_)
  refine neq_i (fun hm => ?_) (fun hm => ?_)
  rotate_left
  · with_reducible (refine cnd_t ?_; refine mv_i ?_; refine mv_i ?_; refine mv_i ?_; refine ret2 ?_)
    exact ⟨pall7, (covM (fun q hq => hJ q hq) hm).symm⟩
  have hU := fun {k : Nat} {e : Int} => covU (m := m) (ws := ws) (us := us) (k := k) (e := e) (fun q hq => hJ q hq) hm
  have hF := covF (m := m) (ws := ws) (us := us) (fun q hq => hJ q hq) hm
  have ltu := su7.lt
  with_reducible (refine cnd_f ?_; refine mv_i ?_; refine leni_i t23 (by assumption) ?_; refine mv_i ?_)
  refine loop1 us.length (fun k h2 => g7 = h2 ∧ ∀ j, j < k → usAt m us j = none) ⟨rfl, fun j hj => by omega⟩ ?_
  rintro k _ _ hk ⟨rfl, hA⟩
  skip
  refine lss_i (fun hlt => ?_) (fun hge => ?_)
  · have hk2 : k < us.length := by omega
    with_reducible (refine cnd_t ?_; refine mv_i ?_; refine idxi_i t23 (by assumption) (by omega) ?_; refine ldi_i t23 r3 (by assumption) (by omega) ?_; refine mv_i ?_; refine mv_i ?_; refine mv_i ?_; refine nil_i ?_; refine vk_i (fa106_1 _) ?_; refine ld3_1 r23 (by assumption) ?_; refine mv_i ?_)
    refine call_r (c57 hsl7) ?_
    refine AM.not_i ?_
    by_cases hmem : us.getD k 0 ∈ rchL m
    · rw [decide_eq_true hmem, Bool.not_true]
      with_reducible (refine cnd_f ?_; refine mv_i ?_)
      refine gtr_i (fun hpos => ?_) (fun hpos => ?_)
      · have e1 : ((k : Int) - 1).toNat = k - 1 := by omega
        with_reducible (refine mv_i ?_; refine gd_tt ?_; refine mv_i ?_; refine gd_tt ?_; refine mv_i ?_; refine gd_tt ?_; refine mv_i ?_; refine gd_tt ?_)
        refine sub_i ⟨by omega, by omega⟩ ?_
        with_reducible (refine gd_tt ?_; refine idxzi t23 (by assumption) (by omega) (by omega) ?_; refine gd_tt ?_; refine ldi_i t23 r3 (by assumption) (by omega) ?_; refine gd_tt ?_)
        refine leq_i (fun hle => ?_) (fun hle => ?_)
        · rw [e1] at hle
          with_reducible (refine pick_t ?_; refine cnd_t ?_; refine mv_i ?_; refine mv_i ?_; refine ret2 ?_)
          exact ⟨pall7, (hU hA hk2 (by unfold usAt; rw [if_pos hmem, if_pos ⟨by omega, hle⟩]) (by decide)).symm⟩
        · rw [e1] at hle
          with_reducible (refine pick_t ?_; refine cnd_f ?_; refine inc_i (by omega) ?_; refine mv_i ?_)
          refine next1 hk2 ⟨rfl, fun j hj => ?_⟩
          by_cases q : j = k
          · subst q; unfold usAt; rw [if_pos hmem, if_neg (fun hc => hle hc.2)]
          · exact hA j (by omega)
      · with_reducible (refine mv_i ?_; refine gd_ft ?_; refine gd_ft ?_; refine gd_ft ?_; refine gd_ft ?_; refine gd_ft ?_; refine gd_ft ?_; refine gd_ft ?_; refine pick_f ?_; refine cnd_f ?_; refine inc_i (by omega) ?_; refine mv_i ?_)
        refine next1 hk2 ⟨rfl, fun j hj => ?_⟩
        by_cases q : j = k
        · subst q; unfold usAt; rw [if_pos hmem, if_neg (fun hc => by omega)]
        · exact hA j (by omega)
    · rw [decide_eq_false hmem, Bool.not_false]
      with_reducible (refine cnd_t ?_; refine mv_i ?_; refine mv_i ?_; refine ret2 ?_)
      exact ⟨pall7, (hU hA hk2 (by unfold usAt; rw [if_neg hmem]) (by decide)).symm⟩
  have ek : k = us.length := by omega
  subst ek
  obtain ⟨hF1, hF2⟩ := hF hA
  have hu := fun i (hi : i < us.length) => hLin _ (us_in (hA i hi))
  with_reducible (refine cnd_f ?_; refine mv_i ?_; refine leni_i t23 (by assumption) ?_; refine mv_i ?_)
  refine loop1 us.length (fun k h2 => g7 = h2 ∧ ∀ i, i < k → ∀ j, j < i → follB m (us.getD i 0).toNat (us.getD j 0).toNat = false ∧ follB m (us.getD j 0).toNat (us.getD i 0).toNat = false) ⟨rfl, fun j hj => by omega⟩ ?_
  rintro k _ _ hk ⟨rfl, hB⟩
  skip
  refine lss_i (fun hlt => ?_) (fun hge => ?_)
  · have hk2 : k < us.length := by omega
    with_reducible (refine cnd_t ?_; refine mv_i ?_; refine idxi_i t23 (by assumption) (by omega) ?_; refine ldi_i t23 r3 (by assumption) (by omega) ?_; refine mv_i ?_; refine mv_i ?_; refine mv_i ?_; refine mv_i ?_)
    refine head_i t23 su7 hcap (by omega) (k := k) (by omega) fun y sy => ?_
    have hyl : (us.take k).length = k := by simp; omega
    with_reducible (refine leni_i t23 (by assumption) ?_; refine mv_i ?_)
    refine loop1 k (fun q h2 => g7 = h2 ∧ ∀ j, j < q → follB m (us.getD k 0).toNat (us.getD j 0).toNat = false ∧ follB m (us.getD j 0).toNat (us.getD k 0).toNat = false) ⟨rfl, fun j hj => by omega⟩ ?_
    rintro q _ _ hq ⟨rfl, hC⟩
    skip
    refine lss_i (fun hlt2 => ?_) (fun hge2 => ?_)
    · have hq2 : q < k := by omega
      have hgq : (us.take k).getD q 0 = us.getD q 0 := by simp [List.getD, List.getElem?_take, hq2]
      obtain ⟨u0, u1⟩ := hu k hk2
      obtain ⟨v0, v1⟩ := hu q (by omega)
      with_reducible (refine cnd_t ?_; refine idxi_i t23 (by assumption) (by omega) ?_; refine ldi_i t23 r3 (by assumption) (by omega) ?_; refine mv_i ?_; refine mv_i ?_; refine mv_i ?_; refine mv_i ?_)
      rw [hgq]
      refine call_r (c70 od7 gr7 r u0 u1 v0 v1) ?_
      with_reducible (refine mv_i ?_)
      rcases hf1 : follB m (us.getD k 0).toNat (us.getD q 0).toNat with _ | _
      · with_reducible (refine gd_ff ?_; refine mv_i ?_; refine gd_ff ?_; refine mv_i ?_; refine gd_ff ?_; refine mv_i ?_; refine gd_ff ?_)
        refine call_r (c70 od7 gr7 r v0 v1 u0 u1) ?_
        with_reducible (refine pick_f ?_)
        rcases hf2 : follB m (us.getD q 0).toNat (us.getD k 0).toNat with _ | _
        · with_reducible (refine cnd_f ?_; refine inc_i (by omega) ?_; refine mv_i ?_)
          refine next1 hq2 ⟨rfl, fun j hj => ?_⟩
          by_cases e : j = q
          · subst e; exact ⟨hf1, hf2⟩
          · exact hC j (by omega)
        · with_reducible (refine cnd_t ?_; refine mv_i ?_; refine mv_i ?_; refine ret2 ?_)
          exact ⟨pall7, (hF1 ⟨k, q, hq2, hk2, .inr hf2⟩).symm⟩
      · with_reducible (refine gd_tf ?_; refine gd_tf ?_; refine gd_tf ?_; refine gd_tf ?_; refine pick_t ?_; refine cnd_t ?_; refine mv_i ?_; refine mv_i ?_; refine ret2 ?_)
        exact ⟨pall7, (hF1 ⟨k, q, hq2, hk2, .inl hf1⟩).symm⟩
    · with_reducible (refine cnd_f ?_; refine inc_i (by omega) ?_; refine mv_i ?_)
      refine next1 hk2 ⟨rfl, fun i hi => ?_⟩
      by_cases e : i = k
      · subst e; exact fun j hj => hC j (by omega)
      · exact hB i (by omega)
  · with_reducible (refine cnd_f ?_; refine mv_i ?_; refine lenr_i t22 (by assumption) ?_; refine mv_i ?_; refine mv_i ?_; refine ret2 ?_)
    refine ⟨pall7, (hF2 ?_).symm⟩
    rintro ⟨i, j, hj, hi, hb⟩
    obtain ⟨b1', b2'⟩ := hB i (by omega) j hj
    rcases hb with hb | hb
    · rw [b1'] at hb; cases hb
    · rw [b2'] at hb; cases hb
end Go.Proofs.Ytdjoednhfoligaa

set_option linter.unusedSimpArgs false
set_option linter.unusedVariables false
set_option maxRecDepth 100000
namespace Go.Proofs.Ytdjoednhfoligaa
open Go.AM
variable {h h' h0 h1 : Heap} {K : Value → Heap → Prop} {m : Mac} {ws : List (List Int)} {us : List Int}

theorem bumps_z (ks : List Nat) : ∀ cs : List Int, (∀ k, 0 ≤ cs.getD k 0) → (∀ k, 0 ≤ (bumps cs ks).getD k 0) ∧ ∀ i, i < cs.length → ((bumps cs ks).getD i 0 = 0 ↔ cs.getD i 0 = 0 ∧ ¬ i ∈ ks) := by
  induction ks with
  | nil => intro cs hc; exact ⟨hc, fun i _ => by simp [bumps]⟩
  | cons k ks ih =>
    intro cs hc
    have hb : ∀ i, (bump cs k).getD i 0 = if i = k ∧ i < cs.length then cs.getD k 0 + 1 else cs.getD i 0 := by
      intro i
      unfold bump
      by_cases q : i = k
      · subst q
        by_cases q2 : i < cs.length
        · rw [if_pos ⟨rfl, q2⟩, gd_set q2]
        · rw [if_neg (fun hc => q2 hc.2)]
          rw [List.set_eq_of_length_le (by omega)]
      · rw [if_neg (fun hc => q hc.1), gd_set_ne q]
    have hc' : ∀ i, 0 ≤ (bump cs k).getD i 0 := by
      intro i
      rw [hb i]
      have h1 := hc i
      have h2 := hc k
      split <;> omega
    obtain ⟨h1, h2⟩ := ih (bump cs k) hc'
    refine ⟨h1, fun i hi => ?_⟩
    show (bumps (bump cs k) ks).getD i 0 = 0 ↔ _
    rw [h2 i (by rw [bump_len]; exact hi), hb i]
    have := hc k
    by_cases q : i = k
    · subst q
      rw [if_pos ⟨rfl, hi⟩]
      constructor
      · rintro ⟨h3, _⟩; omega
      · rintro ⟨_, h4⟩; exact absurd (by simp) h4
    · rw [if_neg (fun hc => q hc.1)]
      simp [q]
theorem tBy_aux (ws : List (List Int)) : ∀ cs : List Int, (∀ k, 0 ≤ cs.getD k 0) → ∀ i, i < cs.length → ((ws.foldl (fun cs w => bumps cs (takenI m.steps m.start w)) cs).getD i 0 = 0 ↔ cs.getD i 0 = 0 ∧ ¬ tkn m ws i) := by
  induction ws with
  | nil => intro cs _ i _; simp [tkn]
  | cons w ws ih =>
    intro cs hc i hi
    obtain ⟨h1, h2⟩ := bumps_z (takenI m.steps m.start w) cs hc
    rw [List.foldl_cons, ih _ h1 i (by rw [bumps_len]; exact hi), h2 i hi]
    simp only [tkn, List.mem_cons, exists_eq_or_imp, not_or, and_assoc]
theorem takenBy_z {i : Nat} (hi : i < m.steps.length) : (takenBy m ws).getD i 0 = 0 ↔ ¬ tkn m ws i := by
  unfold takenBy
  rw [tBy_aux ws _ (fun k => by simp [List.getD, List.getElem?_replicate]; split <;> simp) i (by simpa using hi)]
  simp [List.getD, hi]
theorem rchL_mem {z : Int} : z ∈ rchL m ↔ 0 ≤ z ∧ z < m.steps.length ∧ rP m z.toNat = true := by
  rw [rchL_is, idxs_mem]
  constructor
  · rintro ⟨k, rfl, h1, h2⟩; exact ⟨by omega, by omega, by simpa using h2⟩
  · rintro ⟨h0, h1, h2⟩; exact ⟨z.toNat, by omega, by omega, h2⟩
theorem aft_mem {z y : Int} (hz : z ∈ rchL m) (hy : y ∈ rchL m) : y ∈ aftL m z ↔ follB m z.toNat y.toNat = true := by
  obtain ⟨_, _, hz3⟩ := rchL_mem.mp hz
  obtain ⟨y0, y1, _⟩ := rchL_mem.mp hy
  unfold rP at hz3
  unfold aftL
  rw [if_pos hz3]
  unfold leav follB
  rw [idxs_mem]
  constructor
  · rintro ⟨k, rfl, h1, h2⟩; simpa using h2
  · intro h2; exact ⟨y.toNat, by omega, by omega, h2⟩
theorem aftL_len (z : Int) : (aftL m z).length ≤ m.steps.length := by
  unfold aftL
  split
  · exact idxs_len _ _
  · simp
set_option maxHeartbeats 4000000 in
theorem c33 {a b c0 : Value} (s : MacV h a m) (r : Right m) (sw : RowsS h b ws) (su : IntS h c0 us) (hz : wsE ws m.inputs = 0) :
    DetP Try.prog 33 [a, b, c0] h fun v h' => h <+: h' ∧ v = covT m ws us := by
  obtain ⟨hw1, hw2⟩ := wsE_zero hz
  obtain ⟨b1, b2, b3, b4, b5, b6⟩ := r.bounds
  have hfew := r.few
  have hsl : m.steps.length ≤ 320 := by
    have : m.states * m.inputs ≤ 40 * 8 := Int.mul_le_mul b2 b4 (by omega) (by omega)
    omega
  refine w33 ?_
  unfold n33
  obtain ⟨o, l, c, rfl, ss0⟩ := s
  rw [box36]
  refine ok_i rfl ?_
  have p1 := pre_new h [.int .i64 m.states, .int .i64 m.inputs, .int .i64 m.outputs, .int .i64 m.start, .slice o l c] 5
  have hb1 := newArr_get h [.int .i64 m.states, .int .i64 m.inputs, .int .i64 m.outputs, .int .i64 m.start, .slice o l c] 5
  have ss := ss0.mono (Sub.of_pre p1)
  generalize hg1 : newArr h [.int .i64 m.states, .int .i64 m.inputs, .int .i64 m.outputs, .int .i64 m.start, .slice o l c] 5 = g1 at p1 hb1 ss ⊢
  have sw1 := sw.mono (Sub.of_pre p1)
  have su1 := su.mono (Sub.of_pre p1)
  have ltu := su.lt
  with_reducible (refine mv_i ?_; refine mv_i ?_; refine mv_i ?_)
  refine loop1 ws.length (fun k h2 => g1 <+: h2 ∧ ∀ j, j < k → (takenI m.steps m.start (ws.getD j [])).length = (ws.getD j []).length) ⟨List.prefix_refl _, fun j hj => by omega⟩ ?_
  rintro k h2 _ hk ⟨p2, hJ⟩
  have sw2 := sw1.mono (Sub.of_pre p2)
  have hb2 := (Sub.of_pre p2).2 _ _ hb1
  have ss2 := ss.mono (Sub.of_pre p2)
  with_reducible (refine mv_i ?_; refine mv_i ?_; refine lenr_i t22 (by assumption) ?_)
  refine lss_i (fun hlt => ?_) (fun hge => ?_)
  · have hkl : k < ws.length := by omega
    have hwl := (w_ok (hw2 k hkl)).1
    with_reducible (refine cnd_t ?_)
    refine vk_i (ld36 hb2) ?_
    refine ⟨vb_mac ss2, ?_⟩
    with_reducible (refine vk_i (fa36_3 _) ?_; refine ld5_3 r3 (by assumption) ?_; refine ⟨vbi _ _, ?_⟩; refine mv_i ?_; refine mv_i ?_; refine idxr_i t22 (by assumption) (by omega) ?_)
    refine ldr_i t22 r23 sw2 (by omega) fun row srow => ?_
    with_reducible (refine ⟨VB_of_ints (by assumption), ?_⟩)
    refine calld_i (c46 (macv_of ss2) srow (by omega)) ?_
    rintro v h3 ⟨p3, q3⟩
    refine ⟨p3.imp fun t ht => ht.symm, ?_⟩
    have sv := q3.self
    have sw3 := sw2.mono (Sub.of_pre p3)
    have hml : ((takenI m.steps m.start (ws.getD k [])).map fun k : Nat => (k : Int)).length = (takenI m.steps m.start (ws.getD k [])).length := by simp
    with_reducible (refine leni_i t23 (by assumption) ?_; refine mv_i ?_; refine mv_i ?_; refine idxr_i t22 (by assumption) (by omega) ?_)
    refine ldr_i t22 r23 sw3 (by omega) fun row2 srow2 => ?_
    with_reducible (refine ⟨VB_of_ints (by assumption), ?_⟩; refine leni_i t23 (by assumption) ?_)
    refine neq_i (fun hl => ?_) (fun hl => ?_)
    · with_reducible (refine cnd_f ?_; refine mv_i ?_; refine inc_i (by omega) ?_; refine mv_i ?_)
      refine next1 hkl ⟨p2.trans p3, fun j hj => ?_⟩
      by_cases q : j = k
      · subst q; omega
      · exact hJ j (by omega)
    · with_reducible (refine cnd_t ?_; refine mv_i ?_; refine mv_i ?_; refine ret2 ?_)
      exact ⟨p1.trans (p2.trans p3), (cov23 hkl (by omega)).symm⟩
  have ek : k = ws.length := by omega
  subst ek
  with_reducible (refine cnd_f ?_)
  refine vk_i (ld36 hb2) ?_
  with_reducible (refine mv_i ?_)
  refine call_i (c31 (macv_of ss2) r sw2 hz) ?_
  rintro tv g3 ⟨p3, q3⟩
  have st3 := q3.self
  clear q3
  have hb3 := (Sub.of_pre p3).2 _ _ hb2
  have ss3 := ss2.mono (Sub.of_pre p3)
  with_reducible (refine mv_i ?_)
  refine vk_i (ld36 hb3) ?_
  refine call_i (c26 (macv_of (m := m) ss3) r) ?_
  rintro _ g4 ⟨p4, x0, yv, rfl, q4⟩
  have sy4 := q4.self.2
  clear q4
  have hyl : ((List.range m.steps.length).map fun k => (rchB m m.start).getD (m.steps.getD k dst).fr.toNat false).length = m.steps.length := by simp
  have hyg : ∀ k, k < m.steps.length → ((List.range m.steps.length).map fun k => (rchB m m.start).getD (m.steps.getD k dst).fr.toNat false).getD k false = rP m k := fun k hk => by simp [List.getD, hk, rP]
  generalize ((List.range m.steps.length).map fun k => (rchB m m.start).getD (m.steps.getD k dst).fr.toNat false) = yl at sy4 hyl hyg
  have hb4 := (Sub.of_pre p4).2 _ _ hb3
  have ss4 := ss3.mono (Sub.of_pre p4)
  have st4 := st3.mono (Sub.of_pre p4)
  have htl : (takenBy m ws).length = m.steps.length := takenBy_len _
  have pall4 := p1.trans (p2.trans (p3.trans p4))
  have su4 := su1.mono (Sub.of_pre (p2.trans (p3.trans p4)))
  have sw4 := sw2.mono (Sub.of_pre (p3.trans p4))
  have hM := covM (m := m) (ws := ws) (us := us) (fun q hq => hJ q hq)
  with_reducible (refine mv_i ?_; refine ex2_0 ?_; refine ex2_1 ?_; refine mv_i ?_; refine mv_i ?_; refine mv_i ?_)
  refine loop1 m.steps.length (fun k h2 => g4 = h2 ∧ ∀ j, j < k → rP m j = true → tkn m ws j) ⟨rfl, fun j hj => by omega⟩ ?_
  rintro k _ _ hk ⟨rfl, hT⟩
  with_reducible (refine mv_i ?_; refine vk_i (fa36_4 _) ?_; refine ld5_4 r34 (by assumption) ?_; refine lenst t34 (by assumption) ?_)
  refine lss_i (fun hlt => ?_) (fun hge => ?_)
  · have hk2 : k < m.steps.length := by omega
    have hg := hyg k hk2
    have hmem : (k : Int) ∈ rchL m ↔ rP m k = true := by rw [rchL_mem]; simp [hk2]
    with_reducible (refine cnd_t ?_; refine mv_i ?_; refine mv_i ?_)
    refine idxb_i t48 sy4 (by omega) ?_
    refine ldb_i t48 r4 sy4 (by omega) ?_
    rw [hg]
    rcases hp : rP m k with _ | _
    · with_reducible (refine mv_i ?_; refine gd_ft ?_; refine gd_ft ?_; refine gd_ft ?_; refine gd_ft ?_; refine gd_ft ?_; refine pick_f ?_; refine cnd_f ?_; refine mv_i ?_; refine inc_i (by omega) ?_; refine mv_i ?_)
      refine next1 hk2 ⟨rfl, fun j hj hr => ?_⟩
      by_cases q : j = k
      · subst q; rw [hp] at hr; cases hr
      · exact hT j (by omega) hr
    · with_reducible (refine mv_i ?_; refine gd_tt ?_; refine mv_i ?_; refine gd_tt ?_; refine mv_i ?_; refine gd_tt ?_; refine idxi_i t23 (by assumption) (by omega) ?_; refine gd_tt ?_; refine ldi_i t23 r3 (by assumption) (by omega) ?_; refine gd_tt ?_)
      refine eql_i (fun he => ?_) (fun he => ?_)
      · have : midC m ws us = 11 := by
          unfold midC
          rw [if_pos ⟨(k : Int), hmem.mpr hp, by rw [Int.toNat_natCast]; exact (takenBy_z hk2).mp he⟩]
        rw [this] at hM
        with_reducible (refine pick_t ?_; refine cnd_t ?_; refine mv_i ?_; refine mv_i ?_; refine ret2 ?_)
        exact ⟨pall4, (hM (by decide)).symm⟩
      · with_reducible (refine pick_t ?_; refine cnd_f ?_; refine mv_i ?_; refine inc_i (by omega) ?_; refine mv_i ?_)
        refine next1 hk2 ⟨rfl, fun j hj hr => ?_⟩
        by_cases q : j = k
        · subst q
          exact Classical.byContradiction fun hc => he ((takenBy_z hk2).mpr hc)
        · exact hT j (by omega) hr
  have hmis : ¬ ∃ i ∈ rchL m, ¬ tkn m ws i.toNat := by
    rintro ⟨i, hi, hn⟩
    obtain ⟨i0, i1, i2⟩ := rchL_mem.mp hi
    exact hn (hT _ (by omega) i2)
  with_reducible (refine cnd_f ?_; refine mv_i ?_; refine leni_i t23 (by assumption) ?_; refine mv_i ?_; refine lenr_i t22 (by assumption) ?_)
  refine neq_i (fun hl => ?_) (fun hl => ?_)
  rotate_left
  · have : midC m ws us = 6 := by
      unfold midC
      rw [if_neg hmis, if_pos (by omega)]
    rw [this] at hM
    with_reducible (refine cnd_t ?_; refine mv_i ?_; refine mv_i ?_; refine ret2 ?_)
    exact ⟨pall4, (hM (by decide)).symm⟩
  have hm : midC m ws us = 0 := by
    unfold midC
    rw [if_neg hmis, if_neg (by simp; omega)]
  clear hM
  have hU := fun {k : Nat} {e : Int} => covU (m := m) (ws := ws) (us := us) (k := k) (e := e) (fun q hq => hJ q hq) hm
  have hF := covF (m := m) (ws := ws) (us := us) (fun q hq => hJ q hq) hm
  with_reducible (refine cnd_f ?_; refine mv_i ?_)
  refine loop1 us.length (fun k h2 => g4 = h2 ∧ ∀ j, j < k → usAt m us j = none) ⟨rfl, fun j hj => by omega⟩ ?_
  rintro k _ _ hk ⟨rfl, hA⟩
  with_reducible (refine mv_i ?_; refine mv_i ?_; refine leni_i t23 (by assumption) ?_)
  refine lss_i (fun hlt => ?_) (fun hge => ?_)
  · have hk2 : k < us.length := by omega
    with_reducible (refine cnd_t ?_; refine mv_i ?_; refine mv_i ?_; refine idxi_i t23 (by assumption) (by omega) ?_; refine ldi_i t23 r3 (by assumption) (by omega) ?_; refine ⟨vbi _ _, ?_⟩; refine vk_i (fa36_4 _) ?_; refine ld5_4 r34 (by assumption) ?_; refine ⟨VB_of_steps (by assumption), ?_⟩; refine lenst t34 (by assumption) ?_)
    refine sub_i ⟨by omega, by omega⟩ ?_
    refine calld_r (c22 _ _ _) ⟨⟨[], by simp⟩, ?_⟩
    refine AM.not_i ?_
    rcases hin : inR (us.getD k 0) 0 ((m.steps.length : Int) - 1) with _ | _
    · rw [Bool.not_false]
      have hmem : ¬ us.getD k 0 ∈ rchL m := by
        intro hc
        obtain ⟨z0, z1, _⟩ := rchL_mem.mp hc
        unfold inR at hin
        rw [decide_eq_false_iff_not] at hin
        exact hin ⟨z0, by omega⟩
      with_reducible (refine mv_i ?_; refine gd_tf ?_; refine gd_tf ?_; refine gd_tf ?_; refine gd_tf ?_; refine gd_tf ?_; refine gd_tf ?_; refine gd_tf ?_; refine gd_tf ?_; refine pick_t ?_; refine cnd_t ?_; refine mv_i ?_; refine mv_i ?_; refine ret2 ?_)
      exact ⟨pall4, (hU hA hk2 (by unfold usAt; rw [if_neg hmem]) (by decide)).symm⟩
    · rw [Bool.not_true]
      unfold inR at hin
      rw [decide_eq_true_eq] at hin
      obtain ⟨z0, z1⟩ := hin
      have hg := hyg (us.getD k 0).toNat (by omega)
      with_reducible (refine mv_i ?_; refine gd_ff ?_; refine mv_i ?_; refine gd_ff ?_; refine mv_i ?_; refine gd_ff ?_; refine mv_i ?_; refine gd_ff ?_; refine idxi_i t23 (by assumption) (by omega) ?_; refine gd_ff ?_; refine ldi_i t23 r3 (by assumption) (by omega) ?_; refine ⟨vbi _ _, ?_⟩; refine gd_ff ?_; refine idxzb t48 (by assumption) (by omega) (by omega) ?_; refine gd_ff ?_; refine ldb_i t48 r4 (by assumption) (by omega) ?_; refine ⟨vbb _ _, ?_⟩; refine gd_ff ?_)
      rw [hg]
      refine AM.not_i ?_
      rcases hp : rP m (us.getD k 0).toNat with _ | _
      · rw [Bool.not_false]
        have hmem : ¬ us.getD k 0 ∈ rchL m := by
          intro hc
          obtain ⟨_, _, z2⟩ := rchL_mem.mp hc
          rw [hp] at z2; cases z2
        with_reducible (refine pick_f ?_; refine cnd_t ?_; refine mv_i ?_; refine mv_i ?_; refine ret2 ?_)
        exact ⟨pall4, (hU hA hk2 (by unfold usAt; rw [if_neg hmem]) (by decide)).symm⟩
      · rw [Bool.not_true]
        have hmem : us.getD k 0 ∈ rchL m := rchL_mem.mpr ⟨z0, by omega, hp⟩
        with_reducible (refine pick_f ?_; refine cnd_f ?_; refine mv_i ?_)
        refine gtr_i (fun hpos => ?_) (fun hpos => ?_)
        · have e1 : ((k : Int) - 1).toNat = k - 1 := by omega
          with_reducible (refine mv_i ?_; refine gd_tt ?_; refine mv_i ?_; refine gd_tt ?_; refine mv_i ?_; refine gd_tt ?_)
          refine sub_i ⟨by omega, by omega⟩ ?_
          with_reducible (refine gd_tt ?_; refine idxzi t23 (by assumption) (by omega) (by omega) ?_; refine gd_tt ?_; refine ldi_i t23 r3 (by assumption) (by omega) ?_; refine ⟨vbi _ _, ?_⟩; refine gd_tt ?_; refine mv_i ?_; refine gd_tt ?_; refine mv_i ?_; refine gd_tt ?_; refine idxi_i t23 (by assumption) (by omega) ?_; refine gd_tt ?_; refine ldi_i t23 r3 (by assumption) (by omega) ?_; refine ⟨vbi _ _, ?_⟩; refine gd_tt ?_)
          refine geq_i (fun hle => ?_) (fun hle => ?_)
          · rw [e1] at hle
            with_reducible (refine pick_t ?_; refine cnd_t ?_; refine mv_i ?_; refine mv_i ?_; refine ret2 ?_)
            exact ⟨pall4, (hU hA hk2 (by unfold usAt; rw [if_pos hmem, if_pos ⟨by omega, hle⟩]) (by decide)).symm⟩
          · rw [e1] at hle
            with_reducible (refine pick_t ?_; refine cnd_f ?_; refine mv_i ?_; refine inc_i (by omega) ?_; refine mv_i ?_)
            refine next1 hk2 ⟨rfl, fun j hj => ?_⟩
            by_cases q : j = k
            · subst q; unfold usAt; rw [if_pos hmem, if_neg (fun hc => hle hc.2)]
            · exact hA j (by omega)
        · with_reducible (refine mv_i ?_; refine gd_ft ?_; refine gd_ft ?_; refine gd_ft ?_; refine gd_ft ?_; refine gd_ft ?_; refine gd_ft ?_; refine gd_ft ?_; refine gd_ft ?_; refine gd_ft ?_; refine gd_ft ?_; refine pick_f ?_; refine cnd_f ?_; refine mv_i ?_; refine inc_i (by omega) ?_; refine mv_i ?_)
          refine next1 hk2 ⟨rfl, fun j hj => ?_⟩
          by_cases q : j = k
          · subst q; unfold usAt; rw [if_pos hmem, if_neg (fun hc => by omega)]
          · exact hA j (by omega)
  have ek : k = us.length := by omega
  subst ek
  obtain ⟨hF1, hF2⟩ := hF hA
  have hu := fun i (hi : i < us.length) => us_in (hA i hi)
  with_reducible (refine cnd_f ?_; refine mv_i ?_)
  refine loop1 us.length (fun k h2 => g4 <+: h2 ∧ ∀ i, i < k → ∀ j, j < us.length → j ≠ i → follB m (us.getD i 0).toNat (us.getD j 0).toNat = false) ⟨List.prefix_refl _, fun j hj => by omega⟩ ?_
  rintro k h5 _ hk ⟨p5, hB⟩
  have su5 := su4.mono (Sub.of_pre p5)
  have sw5 := sw4.mono (Sub.of_pre p5)
  have hb5 := (Sub.of_pre p5).2 _ _ hb4
  have ss5 := ss4.mono (Sub.of_pre p5)
  with_reducible (refine mv_i ?_; refine mv_i ?_; refine leni_i t23 (by assumption) ?_)
  refine lss_i (fun hlt => ?_) (fun hge => ?_)
  · have hk2 : k < us.length := by omega
    obtain ⟨u0, u1, _⟩ := rchL_mem.mp (hu k hk2)
    with_reducible (refine cnd_t ?_)
    refine vk_i (ld36 hb5) ?_
    refine ⟨vb_mac ss5, ?_⟩
    with_reducible (refine mv_i ?_; refine mv_i ?_; refine idxi_i t23 (by assumption) (by omega) ?_; refine ldi_i t23 r3 (by assumption) (by omega) ?_; refine ⟨vbi _ _, ?_⟩)
    refine calld_i (c24 (macv_of ss5) r u0 u1) ?_
    rintro av h6 ⟨p6, q6⟩
    refine ⟨p6.imp fun t ht => ht.symm, ?_⟩
    have sa := q6.self
    have su6 := su5.mono (Sub.of_pre p6)
    have hal := aftL_len (m := m) (us.getD k 0)
    with_reducible (refine mv_i ?_; refine mv_i ?_)
    refine loop1 us.length (fun q h2 => h6 = h2 ∧ ∀ j, j < q → j ≠ k → follB m (us.getD k 0).toNat (us.getD j 0).toNat = false) ⟨rfl, fun j hj => by omega⟩ ?_
    rintro q _ _ hq ⟨rfl, hC⟩
    with_reducible (refine mv_i ?_; refine mv_i ?_; refine leni_i t23 (by assumption) ?_)
    refine lss_i (fun hlt2 => ?_) (fun hge2 => ?_)
    · have hq2 : q < us.length := by omega
      have ham := aft_mem (hu k hk2) (hu q hq2)
      with_reducible (refine cnd_t ?_; refine mv_i ?_; refine mv_i ?_)
      refine neq_i (fun he => ?_) (fun he => ?_)
      · with_reducible (refine mv_i ?_; refine gd_ft ?_; refine gd_ft ?_; refine gd_ft ?_; refine gd_ft ?_; refine gd_ft ?_; refine gd_ft ?_; refine pick_f ?_; refine cnd_f ?_; refine mv_i ?_; refine inc_i (by omega) ?_; refine mv_i ?_)
        refine next1 hq2 ⟨rfl, fun j hj hn => ?_⟩
        by_cases e : j = q
        · omega
        · exact hC j (by omega) hn
      · with_reducible (refine mv_i ?_; refine gd_tt ?_; refine mv_i ?_; refine gd_tt ?_; refine mv_i ?_; refine gd_tt ?_; refine mv_i ?_; refine gd_tt ?_; refine idxi_i t23 (by assumption) (by omega) ?_; refine gd_tt ?_; refine ldi_i t23 r3 (by assumption) (by omega) ?_; refine gd_tt ?_)
        refine call_r (c47 sa) ?_
        rcases hf : follB m (us.getD k 0).toNat (us.getD q 0).toNat with _ | _
        · rw [decide_eq_false (fun hc => by rw [ham, hf] at hc; cases hc)]
          with_reducible (refine pick_t ?_; refine cnd_f ?_; refine mv_i ?_; refine inc_i (by omega) ?_; refine mv_i ?_)
          refine next1 hq2 ⟨rfl, fun j hj hn => ?_⟩
          by_cases e : j = q
          · subst e; exact hf
          · exact hC j (by omega) hn
        · rw [decide_eq_true (ham.mpr hf)]
          with_reducible (refine pick_t ?_; refine cnd_t ?_; refine mv_i ?_; refine mv_i ?_; refine ret2 ?_)
          refine ⟨pall4.trans (p5.trans p6), (hF1 ?_).symm⟩
          by_cases e : q < k
          · exact ⟨k, q, e, hk2, .inl hf⟩
          · exact ⟨q, k, by omega, hq2, .inr hf⟩
    · with_reducible (refine cnd_f ?_; refine mv_i ?_; refine inc_i (by omega) ?_; refine mv_i ?_)
      refine next1 hk2 ⟨p5.trans p6, fun i hi => ?_⟩
      by_cases e : i = k
      · subst e; exact fun j hj hn => hC j (by omega) hn
      · exact hB i (by omega)
  · with_reducible (refine cnd_f ?_; refine mv_i ?_; refine lenr_i t22 (by assumption) ?_; refine mv_i ?_; refine mv_i ?_; refine ret2 ?_)
    refine ⟨pall4.trans p5, (hF2 ?_).symm⟩
    rintro ⟨i, j, hj, hi, hb⟩
    rcases hb with hb | hb
    · rw [hB i (by omega) j (by omega) (by omega)] at hb; cases hb
    · rw [hB j (by omega) i (by omega) (by omega)] at hb; cases hb
end Go.Proofs.Ytdjoednhfoligaa

set_option linter.unusedSimpArgs false
set_option linter.unusedVariables false
set_option maxRecDepth 100000
namespace Go.Proofs.Ytdjoednhfoligaa
open Go.AM
variable {h h' h0 h1 : Heap} {K : Value → Heap → Prop} {m : Mac} {ws : List (List Int)} {us : List Int}

theorem ownV_cap (h : Heap) (xs : List Int) : ∃ o l c, ownV h xs = .slice o l c ∧ l ≤ capOf l c := by
  unfold ownV
  split
  · exact ⟨_, _, _, rfl, Nat.zero_le _⟩
  · exact ⟨_, _, _, rfl, by simp [capOf]⟩
set_option maxHeartbeats 1000000 in
theorem c6 {a b c0 : Value} (s : MacV h a m) (sw : RowsS h b ws) (su : IntS h c0 us) (hl : m.steps.length ≤ 2 ^ 40) (hf : Few ws) (hf2 : us.length ≤ 2 ^ 40) :
    Runs Try.prog 6 [a, b, c0] h (.bool true) h := by
  refine DetP.forget rfl ?_
  refine w6 ?_
  unfold n6
  obtain ⟨o, l, c, rfl, ss0⟩ := s
  rw [box36]
  refine ok_i rfl ?_
  have p1 := pre_new h [.int .i64 m.states, .int .i64 m.inputs, .int .i64 m.outputs, .int .i64 m.start, .slice o l c] 5
  have hb1 := newArr_get h [.int .i64 m.states, .int .i64 m.inputs, .int .i64 m.outputs, .int .i64 m.start, .slice o l c] 5
  have ss := ss0.mono (Sub.of_pre p1)
  generalize hg1 : newArr h [.int .i64 m.states, .int .i64 m.inputs, .int .i64 m.outputs, .int .i64 m.start, .slice o l c] 5 = g1 at p1 hb1 ss ⊢
  have sw1 := sw.mono (Sub.of_pre p1)
  have su1 := su.mono (Sub.of_pre p1)
  have mv1 : MacV g1 (.agg #[.int .i64 m.states, .int .i64 m.inputs, .int .i64 m.outputs, .int .i64 m.start, .slice o l c]) m := macv_of ss
  with_reducible (refine mv_i ?_)
  refine call_r c14 ?_
  with_reducible (refine not_t ?_; refine cnd_f ?_)
  refine vk_i (ld36 hb1) ?_
  refine call_i (c16 mv1 hl) ?_
  rintro x g3 ⟨p3, mx⟩
  with_reducible (refine mv_i ?_)
  refine call_i (c30 (sw1.mono (Sub.of_pre p3)) hf) ?_
  rintro w2 g4 ⟨p4, q4, _⟩
  have su4 := su1.mono (Sub.of_pre (p3.trans p4))
  with_reducible (refine mv_i ?_)
  refine call_r (c17 su4 hf2) ?_
  have q5 := (own_only g4 (xs := us) (by omega)).self
  have p5 := ownH_pre g4 us
  obtain ⟨o5, l5, k5, e5, hcap⟩ := ownV_cap g4 us
  rw [e5] at q5 ⊢
  generalize ownH g4 us = g5 at q5 p5 ⊢
  skip
  refine call_i (c32 (mx.mono (Sub.of_pre (p4.trans p5))) (q4.mono (Sub.of_pre p5)) q5 hcap) ?_
  rintro y g7 ⟨p7, hy⟩
  have pz := p3.trans (p4.trans (p5.trans p7))
  have hb7 := (Sub.of_pre pz).2 _ _ hb1
  have ss7 := ss.mono (Sub.of_pre pz)
  have sw7 := sw1.mono (Sub.of_pre pz)
  have su7 := su1.mono (Sub.of_pre pz)
  have m7 := macv_of (m := m) ss7
  have pall := p1.trans pz
  obtain ⟨P, E, rfl, hz1, hz2, hz3⟩ : ∃ P E : Int, y = .tuple #[.int .i64 P, .int .i64 E] ∧ ((mErr m).2 ≠ 0 → P = 0 ∧ E = (mErr m).2) ∧ ((mErr m).2 = 0 → wsE ws m.inputs ≠ 0 → P = 0 ∧ E = wsE ws m.inputs) ∧ ((mErr m).2 = 0 → wsE ws m.inputs = 0 → P = covP m ws us ∧ E = covE m ws us) := by
    rw [or2] at hy
    by_cases h1 : (mErr m).2 = 0
    · rw [if_pos h1] at hy
      by_cases h2 : wsE ws m.inputs = 0
      · rw [if_neg (by simp [h2])] at hy
        exact ⟨_, _, hy, fun hc => absurd h1 hc, fun _ hc => absurd h2 hc, fun _ _ => ⟨rfl, rfl⟩⟩
      · rw [if_pos h2] at hy
        exact ⟨_, _, hy, fun hc => absurd h1 hc, fun _ _ => ⟨rfl, rfl⟩, fun _ hc => absurd hc h2⟩
    · rw [if_neg h1, if_pos h1] at hy
      exact ⟨_, _, hy, fun _ => ⟨rfl, rfl⟩, fun hc => absurd hc h1, fun hc => absurd hc h1⟩
  with_reducible (refine mv_i ?_; refine ex2_0 ?_; refine ex2_1 ?_; refine mv_i ?_; refine mv_i ?_)
  refine vk_i (ld36 hb7) ?_
  refine call_r (c18 m7) ?_
  with_reducible (refine mv_i ?_)
  refine seq_J (fun xs h8 => g7 = h8 ∧ xs = [.int .i64 (if (mErr m).2 = 0 then wsE ws m.inputs else (mErr m).2)]) ?_ ?_
  · rintro _ _ ⟨rfl, rfl⟩ _
    show mvK _ _ _
    with_reducible (refine mv_i ?_)
    by_cases h1 : (mErr m).2 = 0
    · rw [if_pos h1]
      have r := right_of h1
      by_cases h2 : wsE ws m.inputs = 0
      · obtain ⟨rfl, rfl⟩ := hz3 h1 h2
        refine seq_J (fun xs h8 => g7 <+: h8 ∧ xs = [.int .i64 (covE m ws us), .int .i64 (covP m ws us)]) ?_ ?_
        · rintro _ h8 ⟨p8, rfl⟩ _
          show mvK _ _ _
          have pfin := pall.trans p8
          with_reducible (refine mv_i ?_; refine mv_i ?_)
          refine eql_i (fun _ => ?_) (fun hc => absurd rfl hc)
          with_reducible (refine mv_i ?_; refine gd_tt ?_; refine mv_i ?_; refine gd_tt ?_; refine mv_i ?_; refine gd_tt ?_)
          refine eql_i (fun _ => ?_) (fun hc => absurd rfl hc)
          with_reducible (refine pick_t ?_; refine mv_i ?_; refine ret1 ?_)
          exact ⟨rfl, pfin⟩
        intro k' hk'
        with_reducible (refine mv_i ?_)
        refine eql_i (fun _ => ?_) (fun hc => absurd h2 hc)
        with_reducible (refine cnd_t ?_)
        refine vk_i (ld36 hb7) ?_
        with_reducible (refine mv_i ?_; refine mv_i ?_)
        refine call_i (c33 m7 r sw7 su7 h2) ?_
        rintro _ g8 ⟨p8, rfl⟩
        unfold covT
        with_reducible (refine mv_i ?_; refine ex2_0 ?_; refine ex2_1 ?_; refine mv_i ?_; refine mv_i ?_)
        exact hk' _ _ ⟨p8, rfl⟩
      · obtain ⟨rfl, rfl⟩ := hz2 h1 h2
        have pfin := pall
        refine seq_J (fun xs h8 => g7 = h8 ∧ xs = [.int .i64 (wsE ws m.inputs), .int .i64 0]) ?_ ?_
        · rintro _ _ ⟨rfl, rfl⟩ _
          show mvK _ _ _
          with_reducible (refine mv_i ?_; refine mv_i ?_)
          refine eql_i (fun _ => ?_) (fun hc => absurd rfl hc)
          with_reducible (refine mv_i ?_; refine gd_tt ?_; refine mv_i ?_; refine gd_tt ?_; refine mv_i ?_; refine gd_tt ?_)
          refine eql_i (fun _ => ?_) (fun hc => absurd rfl hc)
          with_reducible (refine pick_t ?_; refine mv_i ?_; refine ret1 ?_)
          exact ⟨rfl, pfin⟩
        intro k' hk'
        with_reducible (refine mv_i ?_)
        refine eql_i (fun hc => absurd hc h2) (fun _ => ?_)
        with_reducible (refine cnd_f ?_)
        exact hk' _ _ ⟨rfl, rfl⟩
    · rw [if_neg h1]
      obtain ⟨rfl, rfl⟩ := hz1 h1
      have pfin := pall
      refine seq_J (fun xs h8 => g7 = h8 ∧ xs = [.int .i64 (mErr m).2, .int .i64 0]) ?_ ?_
      · rintro _ _ ⟨rfl, rfl⟩ _
        show mvK _ _ _
        with_reducible (refine mv_i ?_; refine mv_i ?_)
        refine eql_i (fun _ => ?_) (fun hc => absurd rfl hc)
        with_reducible (refine mv_i ?_; refine gd_tt ?_; refine mv_i ?_; refine gd_tt ?_; refine mv_i ?_; refine gd_tt ?_)
        refine eql_i (fun _ => ?_) (fun hc => absurd rfl hc)
        with_reducible (refine pick_t ?_; refine mv_i ?_; refine ret1 ?_)
        exact ⟨rfl, pfin⟩
      intro k' hk'
      with_reducible (refine mv_i ?_)
      refine eql_i (fun hc => absurd hc h1) (fun _ => ?_)
      with_reducible (refine cnd_f ?_)
      exact hk' _ _ ⟨rfl, rfl⟩
  intro k' hk'
  with_reducible (refine mv_i ?_)
  refine eql_i (fun h1 => ?_) (fun h1 => ?_)
  · with_reducible (refine cnd_t ?_)
    refine vk_i (ld36 hb7) ?_
    with_reducible (refine mv_i ?_)
    refine call_r (c28 m7 sw7) ?_
    with_reducible (refine mv_i ?_)
    exact hk' _ _ ⟨rfl, by rw [if_pos h1]⟩
  · with_reducible (refine cnd_f ?_)
    exact hk' _ _ ⟨rfl, by rw [if_neg h1]⟩
end Go.Proofs.Ytdjoednhfoligaa
