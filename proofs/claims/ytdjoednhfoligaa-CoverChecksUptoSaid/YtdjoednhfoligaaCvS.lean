import Derived.Test.YtdjoednhfoligaaCvR
set_option linter.unusedSimpArgs false
set_option linter.unusedVariables false
set_option maxRecDepth 100000
namespace Go.Proofs.Ytdjoednhfoligaa
open Go.AM
variable {h h' h0 h1 : Heap} {K : Value → Heap → Prop} {m : Mac}

noncomputable def rP (m : Mac) (k : Nat) : Bool := (rchB m m.start).getD (m.steps.getD k dst).fr.toNat false
theorem rchL_is : rchL m = idxs (rP m) m.steps.length := rfl
theorem last_end {ks : List Nat} {k : Nat} (hk : ks.length = k + 1) : endI m ks = (m.steps.getD (ks.getD k 0) dst).to := by
  have := endI_take (m := m) (ks := ks) (j := k) (by omega)
  rw [List.take_of_length_le (by omega)] at this
  exact this
theorem restS_succ {pr ps : List Int} {j : Nat} : restS m pr ps (idxs (rP m) (j + 1)) = if rP m j = true then restS m pr ps (idxs (rP m) j) + restI m pr ps j else restS m pr ps (idxs (rP m) j) := by
  rw [idxs_succ]
  split
  · simp [restS]
  · rfl
set_option maxHeartbeats 4000000 in
theorem c20 {a b : Value} {o1 o2 : Option Addr} {l1 k1 l2 k2 : Nat} {pr w ps : List Int} (s : MacV h a m) (r : Right m) (sp : IntS h b pr) (he2 : prErr m pr = 0) (sw : IntS h (.slice o1 l1 k1) w) (sq : IntS h (.slice o2 l2 k2) ps) :
    DetP Try.prog 20 [a, b, .agg #[.slice o1 l1 k1, .slice o2 l2 k2]] h fun v h' => h <+: h' ∧ v = .tuple #[.int .i64 (rndP m pr w ps), .int .i64 (rndE m pr w ps)] := by
  obtain ⟨hpl, hpo⟩ := prOK_of he2
  obtain ⟨b1, b2, b3, b4, b5, b6⟩ := r.bounds
  have hfew := r.few
  have hsl : m.steps.length ≤ 320 := by
    have : m.states * m.inputs ≤ 40 * 8 := Int.mul_le_mul b2 b4 (by omega) (by omega)
    omega
  have ltq := sq.lt
  refine w20 ?_
  unfold n20
  obtain ⟨o, l, c, rfl, ss0⟩ := s
  rw [box36]
  refine ok_i rfl ?_
  have p1 := pre_new h [.int .i64 m.states, .int .i64 m.inputs, .int .i64 m.outputs, .int .i64 m.start, .slice o l c] 5
  have hb1 := newArr_get h [.int .i64 m.states, .int .i64 m.inputs, .int .i64 m.outputs, .int .i64 m.start, .slice o l c] 5
  have ss := ss0.mono (Sub.of_pre p1)
  generalize hg1 : newArr h [.int .i64 m.states, .int .i64 m.inputs, .int .i64 m.outputs, .int .i64 m.start, .slice o l c] 5 = g1 at p1 hb1 ss ⊢
  have sp1 := sp.mono (Sub.of_pre p1)
  have sw1 := sw.mono (Sub.of_pre p1)
  have sq1 := sq.mono (Sub.of_pre p1)
  rw [box27]
  refine ok_i rfl ?_
  have p2 := pre_new g1 [.slice o1 l1 k1, .slice o2 l2 k2] 2
  have hr2 := newArr_get g1 [.slice o1 l1 k1, .slice o2 l2 k2] 2
  have hb2 := (Sub.of_pre p2).2 _ _ hb1
  generalize hgi : g1.length = ri at hr2 ⊢
  generalize newArr g1 [.slice o1 l1 k1, .slice o2 l2 k2] 2 = g2 at p2 hr2 hb2 ⊢
  have ss2 := ss.mono (Sub.of_pre p2)
  have sp2 := sp1.mono (Sub.of_pre p2)
  have sw2 := sw1.mono (Sub.of_pre p2)
  have sq2 := sq1.mono (Sub.of_pre p2)
  have m2 := macv_of (m := m) ss2
  have eP : rndP m pr w ps = if rndE m pr w ps = 0 then priceI pr (takenI m.steps m.start w) else 0 := rfl
  with_reducible (refine mv_i ?_; refine mv_i ?_; refine vk_i (fa27_0 _) ?_; refine ld2_0 r23 (by assumption) ?_; refine vk_i (fa36_1 _) ?_; refine ld5_1 r3 (by assumption) ?_)
  refine call_r (c41 sw2) ?_
  with_reducible (refine mv_i ?_; refine mv_i ?_)
  refine neq_i (fun he3 => ?_) (fun he3 => ?_)
  rotate_left
  · with_reducible (refine cnd_t ?_; refine mv_i ?_; refine mv_i ?_; refine mv_i ?_; refine ret2 ?_)
    refine ⟨p1.trans p2, ?_⟩
    have : rndE m pr w ps = wErr w m.inputs 1200 := by unfold rndE; rw [if_pos he3]
    rw [eP, this, if_neg he3]
  have hiw := inW_of r he3
  have hwl := (w_ok he3).1
  with_reducible (refine cnd_f ?_)
  refine vk_i (ld36 hb2) ?_
  with_reducible (refine vk_i (fa36_3 _) ?_; refine ld5_3 r3 (by assumption) ?_; refine vk_i (fa27_0 _) ?_; refine ld2_0 r23 (by assumption) ?_)
  refine call_i (c46 m2 sw2 (by omega)) ?_
  rintro tv g3 ⟨p3, q3⟩
  have st3 := q3.self
  clear q3
  have hb3 := (Sub.of_pre p3).2 _ _ hb2
  have hr3 := (Sub.of_pre p3).2 _ _ hr2
  have ss3 := ss2.mono (Sub.of_pre p3)
  have sp3 := sp2.mono (Sub.of_pre p3)
  have sw3 := sw2.mono (Sub.of_pre p3)
  have sq3 := sq2.mono (Sub.of_pre p3)
  have hkin := takenI_has (l := m.steps) (f := m.start) (w := w)
  have hklen := takenI_len (l := m.steps) w m.start
  have R1 := rnd1 (pr := pr) (ps := ps) he3
  have R2 := rnd2 (pr := pr) (ps := ps) he3
  have R3 := rnd3 (pr := pr) (ps := ps) he3
  have hml : ((takenI m.steps m.start w).map fun k : Nat => (k : Int)).length = (takenI m.steps m.start w).length := by simp
  have pall := p1.trans (p2.trans p3)
  generalize hks : takenI m.steps m.start w = ks at *
  with_reducible (refine mv_i ?_; refine mv_i ?_; refine leni_i t23 (by assumption) ?_; refine vk_i (fa27_0 _) ?_; refine ld2_0 r23 (by assumption) ?_; refine leni_i t23 (by assumption) ?_)
  refine neq_i (fun hl => ?_) (fun hl => ?_)
  rotate_left
  · with_reducible (refine cnd_t ?_; refine mv_i ?_; refine mv_i ?_; refine ret2 ?_)
    refine ⟨pall, ?_⟩
    have e0 := R1 (by omega)
    rw [eP, e0, if_neg (by decide)]
  have hkl : ks.length = w.length := by omega
  have R2 := R2 hkl
  have R3 := R3 hkl
  have gtail : ks.length = 0 → endI m ks = m.start := fun h0 => by
    have : ks = [] := List.length_eq_zero_iff.mp h0
    subst this; rfl
  with_reducible (refine cnd_f ?_; refine mv_i ?_; refine leni_i t23 (by assumption) ?_)
  refine gtr_i (fun hpos => ?_) (fun hpos => ?_)
  · obtain ⟨n, hn⟩ : ∃ n, ks.length = n + 1 := ⟨ks.length - 1, by omega⟩
    have hle := last_end (m := m) hn
    have hz : (ks.map fun k : Nat => (k : Int)).getD n 0 = ((ks.getD n 0 : Nat) : Int) := by simp [List.getD, show n < ks.length by omega]
    have hkj : ks.getD n 0 < m.steps.length := hkin _ (gd_mem 0 (by omega))
    with_reducible (refine mv_i ?_; refine gd_tt ?_; refine vk_i (fa36_4 _) ?_; refine gd_tt ?_; refine ld5_4 r34 (by assumption) ?_; refine ⟨VB_of_steps (by assumption), ?_⟩; refine gd_tt ?_; refine mv_i ?_; refine gd_tt ?_; refine mv_i ?_; refine gd_tt ?_; refine leni_i t23 (by assumption) ?_; refine gd_tt ?_)
    refine sub_i ⟨by omega, by omega⟩ ?_
    rw [show (((ks.map fun k : Nat => (k : Int)).length : Int) - 1) = (n : Int) by omega]
    with_reducible (refine gd_tt ?_; refine idxi_i t23 (by assumption) (by omega) ?_; refine gd_tt ?_; refine ldi_i t23 r3 (by assumption) (by omega) ?_; refine ⟨vbi _ _, ?_⟩; refine gd_tt ?_; refine idxzst t34 (by assumption) (by omega) (by omega) ?_; refine gd_tt ?_; refine fae_i st63 (by assumption) (by omega) (by omega) ?_; refine gd_tt ?_; refine ldto dst st63 (by assumption) (by omega) ?_; refine ⟨vbi _ _, ?_⟩; refine gd_tt ?_; refine vk_i (fa36_3 _) ?_; refine gd_tt ?_; refine ld5_3 r3 (by assumption) ?_; refine ⟨vbi _ _, ?_⟩; refine gd_tt ?_)
    rw [hz, Int.toNat_natCast]
    skip
    refine neq_i (fun hend => ?_) (fun hend => ?_)
    · rw [← hle] at hend
      have R4 : midE m ks ps = if ∃ i ∈ rchL m, ¬ i ∈ ks.map fun k : Nat => (k : Int) then 11 else if (ps.length : Int) ≠ m.states then 6 else if ∃ x ∈ ps, inR x (-1000) 1000 = false then 21 else 0 := by
        unfold midE; rw [if_neg (fun hc => hc hend)]
      with_reducible (refine pick_t ?_; refine cnd_f ?_)
      refine vk_i (ld36 hb3) ?_
      refine call_i (c26 (macv_of (m := m) ss3) r) ?_
      rintro _ g4 ⟨p4, x0, yv, rfl, q4⟩
      have sy4 := q4.self.2
      clear q4
      have hyl : ((List.range m.steps.length).map fun k => (rchB m m.start).getD (m.steps.getD k dst).fr.toNat false).length = m.steps.length := by simp
      have hyg : ∀ k, k < m.steps.length → ((List.range m.steps.length).map fun k => (rchB m m.start).getD (m.steps.getD k dst).fr.toNat false).getD k false = rP m k := fun k hk => by simp [List.getD, hk, rP]
      generalize ((List.range m.steps.length).map fun k => (rchB m m.start).getD (m.steps.getD k dst).fr.toNat false) = yl at sy4 hyl hyg
      have hb4 := (Sub.of_pre p4).2 _ _ hb3
      have hr4 := (Sub.of_pre p4).2 _ _ hr3
      have ss4 := ss3.mono (Sub.of_pre p4)
      have sp4 := sp3.mono (Sub.of_pre p4)
      have sq4 := sq3.mono (Sub.of_pre p4)
      have st4 := st3.mono (Sub.of_pre p4)
      have pall4 := pall.trans p4
      with_reducible (refine mv_i ?_; refine ex2_0 ?_; refine ex2_1 ?_; refine mv_i ?_; refine mv_i ?_; refine mv_i ?_)
      refine loop1 m.steps.length (fun k h2 => g4 = h2 ∧ ∀ j, j < k → rP m j = true → (j : Int) ∈ ks.map fun k : Nat => (k : Int)) ⟨rfl, fun j hj => by omega⟩ ?_
      rintro k _ _ hk ⟨rfl, hJ⟩
      with_reducible (refine mv_i ?_; refine vk_i (fa36_4 _) ?_; refine ld5_4 r34 (by assumption) ?_; refine lenst t34 (by assumption) ?_)
      refine lss_i (fun hlt => ?_) (fun hge => ?_)
      · have hk2 : k < m.steps.length := by omega
        have hg := hyg k hk2
        have nx : (rP m k = true → (k : Int) ∈ ks.map fun k : Nat => (k : Int)) → ∀ j, j < k + 1 → rP m j = true → (j : Int) ∈ ks.map fun k : Nat => (k : Int) := by
          intro hc j hj hp
          by_cases q : j = k
          · subst q; exact hc hp
          · exact hJ j (by omega) hp
        with_reducible (refine cnd_t ?_; refine mv_i ?_; refine mv_i ?_; refine idxb_i t48 (by assumption) (by omega) ?_; refine ldb_i t48 r4 (by assumption) (by omega) ?_; refine mv_i ?_)
        rw [hg]
        rcases hp : rP m k with _ | _
        · with_reducible (refine gd_ft ?_; refine gd_ft ?_; refine gd_ft ?_; refine gd_ft ?_; refine pick_f ?_; refine cnd_f ?_; refine mv_i ?_; refine inc_i (by omega) ?_; refine mv_i ?_)
          exact next1 hk2 ⟨rfl, nx fun hc => by rw [hp] at hc; cases hc⟩
        · with_reducible (refine gd_tt ?_; refine mv_i ?_; refine gd_tt ?_; refine mv_i ?_; refine gd_tt ?_)
          refine call_r (c47 st4) ?_
          by_cases hin : (k : Int) ∈ ks.map fun k : Nat => (k : Int)
          · rw [decide_eq_true hin]
            with_reducible (refine gd_tt ?_; refine not_t ?_; refine pick_t ?_; refine cnd_f ?_; refine mv_i ?_; refine inc_i (by omega) ?_; refine mv_i ?_)
            exact next1 hk2 ⟨rfl, nx fun _ => hin⟩
          · rw [decide_eq_false hin]
            with_reducible (refine gd_tt ?_; refine not_f ?_; refine pick_t ?_; refine cnd_t ?_; refine mv_i ?_; refine mv_i ?_; refine ret2 ?_)
            refine ⟨pall4, ?_⟩
            rw [if_pos ⟨(k : Int), idxs_mem.mpr ⟨k, rfl, hk2, hp⟩, hin⟩] at R4
            have e0 := R2 (by rw [R4]; decide)
            rw [eP, e0, R4, if_neg (by decide)]
      have hno : ¬ ∃ i ∈ rchL m, ¬ i ∈ ks.map fun k : Nat => (k : Int) := by
        rintro ⟨i, hi, hn⟩
        obtain ⟨j, rfl, hj, hp⟩ := idxs_mem.mp hi
        exact hn (hJ j (by omega) hp)
      rw [if_neg hno] at R4
      with_reducible (refine cnd_f ?_; refine vk_i (fa27_1 _) ?_; refine ld2_1 r23 (by assumption) ?_; refine leni_i t23 (by assumption) ?_; refine vk_i (fa36_0 _) ?_; refine ld5_0 r3 (by assumption) ?_)
      refine neq_i (fun hps => ?_) (fun hps => ?_)
      rotate_left
      · with_reducible (refine cnd_t ?_; refine mv_i ?_; refine mv_i ?_; refine ret2 ?_)
        refine ⟨pall4, ?_⟩
        rw [if_pos hps] at R4
        have e0 := R2 (by rw [R4]; decide)
        rw [eP, e0, R4, if_neg (by decide)]
      rw [if_neg (fun hc => hc hps)] at R4
      with_reducible (refine cnd_f ?_; refine mv_i ?_)
      refine loop1 ps.length (fun k h2 => g4 = h2 ∧ ∀ j, j < k → inR (ps.getD j 0) (-1000) 1000 = true) ⟨rfl, fun j hj => by omega⟩ ?_
      rintro k2 _ _ hk2 ⟨rfl, hJ2⟩
      with_reducible (refine mv_i ?_; refine vk_i (fa36_0 _) ?_; refine ld5_0 r3 (by assumption) ?_)
      refine lss_i (fun hlt => ?_) (fun hge2 => ?_)
      · have hk3 : k2 < ps.length := by omega
        with_reducible (refine cnd_t ?_; refine vk_i (fa27_1 _) ?_; refine ld2_1 r23 (by assumption) ?_; refine mv_i ?_; refine idxi_i t23 (by assumption) (by omega) ?_; refine ldi_i t23 r3 (by assumption) (by omega) ?_)
        refine call_r (c22 _ _ _) ?_
        cases hz : inR (ps.getD k2 0) (-1000) 1000 with
        | true =>
          with_reducible (refine not_t ?_; refine cnd_f ?_; refine mv_i ?_; refine inc_i (by omega) ?_; refine mv_i ?_)
          refine next1 hk3 ⟨rfl, fun j hj => ?_⟩
          by_cases q : j = k2
          · subst q; exact hz
          · exact hJ2 j (by omega)
        | false =>
          with_reducible (refine not_f ?_; refine cnd_t ?_; refine mv_i ?_; refine mv_i ?_; refine ret2 ?_)
          refine ⟨pall4, ?_⟩
          rw [if_pos ⟨_, gd_mem 0 hk3, hz⟩] at R4
          have e0 := R2 (by rw [R4]; decide)
          rw [eP, e0, R4, if_neg (by decide)]
      have hbd : ¬ ∃ x ∈ ps, inR x (-1000) 1000 = false := by
        rintro ⟨x, hx, hn⟩
        obtain ⟨j, hj, he⟩ := mem_gd 0 hx
        have := hJ2 j (by omega)
        rw [he, hn] at this
        cases this
      rw [if_neg hbd] at R4
      have R3 := R3 R4
      have hpb := psOK_of hbd
      with_reducible (refine cnd_f ?_; refine mv_i ?_; refine mv_i ?_)
      refine loop2 ks.length (fun j pv h2 => g4 = h2 ∧ pv = .int .i64 (priceI pr (ks.take j)) ∧ 0 ≤ priceI pr (ks.take j) ∧ priceI pr (ks.take j) ≤ 20 * j) ⟨rfl, rfl, by simp [priceI], by simp [priceI]⟩ ?_
      rintro j _ _ _ hj ⟨rfl, rfl, hp0, hp1⟩
      with_reducible (refine mv_i ?_; refine mv_i ?_; refine leni_i t23 (by assumption) ?_)
      refine lss_i (fun hlt2 => ?_) (fun hge3 => ?_)
      · have hj2 : j < ks.length := by omega
        have hz : (ks.map fun k : Nat => (k : Int)).getD j 0 = ((ks.getD j 0 : Nat) : Int) := by simp [List.getD, hj2]
        have hkj : ks.getD j 0 < m.steps.length := hkin _ (gd_mem 0 hj2)
        have hpk := hpo (ks.getD j 0)
        have hpt := priceI_take (pr := pr) hj2
        with_reducible (refine cnd_t ?_; refine mv_i ?_; refine mv_i ?_; refine mv_i ?_; refine mv_i ?_; refine idxi_i t23 (by assumption) (by omega) ?_; refine ldi_i t23 r3 (by assumption) (by omega) ?_; refine idxzi t23 (by assumption) (by omega) (by omega) ?_; refine ldi_i t23 r3 (by assumption) (by omega) ?_)
        rw [hz, Int.toNat_natCast]
        refine add_i ⟨by omega, by omega⟩ ?_
        with_reducible (refine mv_i ?_; refine mv_i ?_; refine inc_i (by omega) ?_; refine mv_i ?_)
        exact next2 hj2 ⟨rfl, by rw [hpt], by omega, by push_cast; omega⟩
      have ej : j = ks.length := by omega
      rw [ej, List.take_of_length_le (Nat.le_refl _)] at hp0 hp1 ⊢
      with_reducible (refine cnd_f ?_; refine mv_i ?_; refine mv_i ?_)
      refine loop2 m.steps.length (fun k sv h2 => g4 = h2 ∧ sv = .int .i64 (restS m pr ps (idxs (rP m) k)) ∧ 0 ≤ restS m pr ps (idxs (rP m) k) ∧ restS m pr ps (idxs (rP m) k) ≤ 2020 * k ∧ ∀ i, i < k → rP m i = true → 0 ≤ restI m pr ps i) ⟨rfl, rfl, by simp [restS, idxs], by simp [restS, idxs], fun i hi => by omega⟩ ?_
      rintro k _ _ _ hk ⟨rfl, rfl, hs0, hs1, hneg⟩
      with_reducible (refine mv_i ?_; refine vk_i (fa36_4 _) ?_; refine ld5_4 r34 (by assumption) ?_; refine lenst t34 (by assumption) ?_)
      refine lss_i (fun hlt3 => ?_) (fun hge3 => ?_)
      · have hk2 : k < m.steps.length := by omega
        have hg := hyg k hk2
        have hst := r.st hk2
        have hpz := hpo k
        have ha := hpb (m.steps.getD k dst).fr.toNat
        have hb := hpb (m.steps.getD k dst).to.toNat
        have hrb := restI_b (m := m) hpo hpb k
        have hre : restI m pr ps k = pr.getD k 0 + ps.getD (m.steps.getD k dst).fr.toNat 0 - ps.getD (m.steps.getD k dst).to.toNat 0 := rfl
        have hrs := restS_succ (m := m) (pr := pr) (ps := ps) (j := k)
        refine cnd_t ?_
        refine seq_J (fun xs h4 => xs = [.int .i64 (restS m pr ps (idxs (rP m) (k + 1)))] ∧ h4 = g4 ∧ 0 ≤ restS m pr ps (idxs (rP m) (k + 1)) ∧ restS m pr ps (idxs (rP m) (k + 1)) ≤ 2020 * (k + 1) ∧ ∀ i, i < k + 1 → rP m i = true → 0 ≤ restI m pr ps i) ?_ ?_
        · rintro _ _ ⟨rfl, rfl, a1, a2, a3⟩ _
          show mvK _ _ _
          with_reducible (refine mv_i ?_; refine inc_i (by omega) ?_; refine mv_i ?_)
          exact next2 hk2 ⟨rfl, rfl, a1, by push_cast; omega, a3⟩
        intro k' hk'
        with_reducible (refine mv_i ?_; refine mv_i ?_; refine idxi_i t23 (by assumption) (by omega) ?_; refine ldi_i t23 r3 (by assumption) (by omega) ?_; refine ⟨vbi _ _, ?_⟩; refine vk_i (fa27_1 _) ?_; refine ld2_1 r23 (by assumption) ?_; refine ⟨VB_of_ints (by assumption), ?_⟩; refine vk_i (fa36_4 _) ?_; refine ld5_4 r34 (by assumption) ?_; refine ⟨VB_of_steps (by assumption), ?_⟩; refine mv_i ?_; refine idxst t34 (by assumption) (by omega) ?_; refine fae_i st63 (by assumption) (by omega) (by omega) ?_; refine ldfr dst st63 (by assumption) (by omega) ?_; refine ⟨vbi _ _, ?_⟩; refine idxzi t23 (by assumption) (by omega) (by omega) ?_; refine ldi_i t23 r3 (by assumption) (by omega) ?_; refine ⟨vbi _ _, ?_⟩)
        refine add_i ⟨by omega, by omega⟩ ?_
        with_reducible (refine vk_i (fa27_1 _) ?_; refine ld2_1 r23 (by assumption) ?_; refine ⟨VB_of_ints (by assumption), ?_⟩; refine vk_i (fa36_4 _) ?_; refine ld5_4 r34 (by assumption) ?_; refine ⟨VB_of_steps (by assumption), ?_⟩; refine mv_i ?_; refine idxst t34 (by assumption) (by omega) ?_; refine fae_i st63 (by assumption) (by omega) (by omega) ?_; refine ldto dst st63 (by assumption) (by omega) ?_; refine ⟨vbi _ _, ?_⟩; refine idxzi t23 (by assumption) (by omega) (by omega) ?_; refine ldi_i t23 r3 (by assumption) (by omega) ?_; refine ⟨vbi _ _, ?_⟩)
        refine sub_i ⟨by omega, by omega⟩ ?_
        rw [← hre]
        with_reducible (refine mv_i ?_; refine mv_i ?_; refine mv_i ?_; refine idxb_i t48 (by assumption) (by omega) ?_; refine ldb_i t48 r4 (by assumption) (by omega) ?_; refine mv_i ?_)
        rw [hg]
        rcases hp : rP m k with _ | _
        · rw [hp, if_neg (by simp)] at hrs
          with_reducible (refine gd_ft ?_; refine gd_ft ?_; refine pick_f ?_; refine cnd_f ?_; refine mv_i ?_; refine mv_i ?_; refine idxb_i t48 (by assumption) (by omega) ?_; refine ldb_i t48 r4 (by assumption) (by omega) ?_)
          rw [hg, hp]
          with_reducible (refine cnd_f ?_)
          refine hk' _ _ ⟨by rw [hrs], rfl, by rw [hrs]; exact hs0, by rw [hrs]; omega, fun i hi hpi => ?_⟩
          by_cases q : i = k
          · subst q; rw [hp] at hpi; cases hpi
          · exact hneg i (by omega) hpi
        · rw [hp, if_pos rfl] at hrs
          with_reducible (refine gd_tt ?_; refine mv_i ?_; refine gd_tt ?_)
          refine lss_i (fun hn => ?_) (fun hn => ?_)
          · with_reducible (refine pick_t ?_; refine cnd_t ?_; refine mv_i ?_; refine mv_i ?_; refine ret2 ?_)
            refine ⟨pall4, ?_⟩
            have : finE m pr ks ps = 30 := by
              unfold finE
              rw [if_pos (.inl ⟨(k : Int), idxs_mem.mpr ⟨k, rfl, hk2, hp⟩, hn⟩)]
            rw [eP, R3, this, if_neg (by decide)]
          · with_reducible (refine pick_t ?_; refine cnd_f ?_; refine mv_i ?_; refine mv_i ?_; refine idxb_i t48 (by assumption) (by omega) ?_; refine ldb_i t48 r4 (by assumption) (by omega) ?_)
            rw [hg, hp]
            with_reducible (refine cnd_t ?_; refine mv_i ?_; refine mv_i ?_)
            refine add_i ⟨by omega, by omega⟩ ?_
            with_reducible (refine mv_i ?_)
            refine hk' _ _ ⟨by rw [hrs], rfl, by rw [hrs]; omega, by rw [hrs]; omega, fun i hi hpi => ?_⟩
            by_cases q : i = k
            · subst q; omega
            · exact hneg i (by omega) hpi
      have ek : k = m.steps.length := by omega
      rw [ek] at hs0 hs1 hneg ⊢
      have hnn : ¬ ∃ i ∈ rchL m, restI m pr ps i.toNat < 0 := by
        rintro ⟨i, hi, hn⟩
        obtain ⟨q, rfl, hq, hp⟩ := idxs_mem.mp hi
        have := hneg q hq hp
        rw [Int.toNat_natCast] at hn
        omega
      with_reducible (refine cnd_f ?_; refine mv_i ?_; refine mv_i ?_)
      refine neq_i (fun hq => ?_) (fun hq => ?_)
      · with_reducible (refine cnd_f ?_; refine mv_i ?_; refine mv_i ?_; refine mv_i ?_; refine ret2 ?_)
        refine ⟨pall4, ?_⟩
        have : finE m pr ks ps = 0 := by
          unfold finE
          rw [if_neg (by rintro (hc | hc); exact hnn hc; exact hc hq)]
        rw [eP, R3, this, if_pos rfl]
      · with_reducible (refine cnd_t ?_; refine mv_i ?_; refine mv_i ?_; refine ret2 ?_)
        refine ⟨pall4, ?_⟩
        have : finE m pr ks ps = 30 := by
          unfold finE
          rw [if_pos (.inr hq)]
        rw [eP, R3, this, if_neg (by decide)]
    · rw [← hle] at hend
      with_reducible (refine pick_t ?_; refine cnd_t ?_; refine mv_i ?_; refine mv_i ?_; refine ret2 ?_)
      refine ⟨pall, ?_⟩
      have : midE m ks ps = 39 := by unfold midE; rw [if_pos hend]
      have e0 := R2 (by rw [this]; decide)
      rw [eP, e0, this, if_neg (by decide)]
  · have hend := gtail (by omega)
    have R4 : midE m ks ps = if ∃ i ∈ rchL m, ¬ i ∈ ks.map fun k : Nat => (k : Int) then 11 else if (ps.length : Int) ≠ m.states then 6 else if ∃ x ∈ ps, inR x (-1000) 1000 = false then 21 else 0 := by
      unfold midE; rw [if_neg (fun hc => hc hend)]
    with_reducible (refine mv_i ?_; refine gd_ft ?_; refine gd_ft ?_; refine gd_ft ?_; refine gd_ft ?_; refine gd_ft ?_; refine gd_ft ?_; refine gd_ft ?_; refine gd_ft ?_; refine gd_ft ?_; refine gd_ft ?_; refine gd_ft ?_; refine gd_ft ?_; refine gd_ft ?_; refine gd_ft ?_; refine pick_f ?_; refine cnd_f ?_)
    refine vk_i (ld36 hb3) ?_
    refine call_i (c26 (macv_of (m := m) ss3) r) ?_
    rintro _ g4 ⟨p4, x0, yv, rfl, q4⟩
    have sy4 := q4.self.2
    clear q4
    have hyl : ((List.range m.steps.length).map fun k => (rchB m m.start).getD (m.steps.getD k dst).fr.toNat false).length = m.steps.length := by simp
    have hyg : ∀ k, k < m.steps.length → ((List.range m.steps.length).map fun k => (rchB m m.start).getD (m.steps.getD k dst).fr.toNat false).getD k false = rP m k := fun k hk => by simp [List.getD, hk, rP]
    generalize ((List.range m.steps.length).map fun k => (rchB m m.start).getD (m.steps.getD k dst).fr.toNat false) = yl at sy4 hyl hyg
    have hb4 := (Sub.of_pre p4).2 _ _ hb3
    have hr4 := (Sub.of_pre p4).2 _ _ hr3
    have ss4 := ss3.mono (Sub.of_pre p4)
    have sp4 := sp3.mono (Sub.of_pre p4)
    have sq4 := sq3.mono (Sub.of_pre p4)
    have st4 := st3.mono (Sub.of_pre p4)
    have pall4 := pall.trans p4
    with_reducible (refine mv_i ?_; refine ex2_0 ?_; refine ex2_1 ?_; refine mv_i ?_; refine mv_i ?_; refine mv_i ?_)
    refine loop1 m.steps.length (fun k h2 => g4 = h2 ∧ ∀ j, j < k → rP m j = true → (j : Int) ∈ ks.map fun k : Nat => (k : Int)) ⟨rfl, fun j hj => by omega⟩ ?_
    rintro k _ _ hk ⟨rfl, hJ⟩
    with_reducible (refine mv_i ?_; refine vk_i (fa36_4 _) ?_; refine ld5_4 r34 (by assumption) ?_; refine lenst t34 (by assumption) ?_)
    refine lss_i (fun hlt => ?_) (fun hge => ?_)
    · have hk2 : k < m.steps.length := by omega
      have hg := hyg k hk2
      have nx : (rP m k = true → (k : Int) ∈ ks.map fun k : Nat => (k : Int)) → ∀ j, j < k + 1 → rP m j = true → (j : Int) ∈ ks.map fun k : Nat => (k : Int) := by
        intro hc j hj hp
        by_cases q : j = k
        · subst q; exact hc hp
        · exact hJ j (by omega) hp
      with_reducible (refine cnd_t ?_; refine mv_i ?_; refine mv_i ?_; refine idxb_i t48 (by assumption) (by omega) ?_; refine ldb_i t48 r4 (by assumption) (by omega) ?_; refine mv_i ?_)
      rw [hg]
      rcases hp : rP m k with _ | _
      · with_reducible (refine gd_ft ?_; refine gd_ft ?_; refine gd_ft ?_; refine gd_ft ?_; refine pick_f ?_; refine cnd_f ?_; refine mv_i ?_; refine inc_i (by omega) ?_; refine mv_i ?_)
        exact next1 hk2 ⟨rfl, nx fun hc => by rw [hp] at hc; cases hc⟩
      · with_reducible (refine gd_tt ?_; refine mv_i ?_; refine gd_tt ?_; refine mv_i ?_; refine gd_tt ?_)
        refine call_r (c47 st4) ?_
        by_cases hin : (k : Int) ∈ ks.map fun k : Nat => (k : Int)
        · rw [decide_eq_true hin]
          with_reducible (refine gd_tt ?_; refine not_t ?_; refine pick_t ?_; refine cnd_f ?_; refine mv_i ?_; refine inc_i (by omega) ?_; refine mv_i ?_)
          exact next1 hk2 ⟨rfl, nx fun _ => hin⟩
        · rw [decide_eq_false hin]
          with_reducible (refine gd_tt ?_; refine not_f ?_; refine pick_t ?_; refine cnd_t ?_; refine mv_i ?_; refine mv_i ?_; refine ret2 ?_)
          refine ⟨pall4, ?_⟩
          rw [if_pos ⟨(k : Int), idxs_mem.mpr ⟨k, rfl, hk2, hp⟩, hin⟩] at R4
          have e0 := R2 (by rw [R4]; decide)
          rw [eP, e0, R4, if_neg (by decide)]
    have hno : ¬ ∃ i ∈ rchL m, ¬ i ∈ ks.map fun k : Nat => (k : Int) := by
      rintro ⟨i, hi, hn⟩
      obtain ⟨j, rfl, hj, hp⟩ := idxs_mem.mp hi
      exact hn (hJ j (by omega) hp)
    rw [if_neg hno] at R4
    with_reducible (refine cnd_f ?_; refine vk_i (fa27_1 _) ?_; refine ld2_1 r23 (by assumption) ?_; refine leni_i t23 (by assumption) ?_; refine vk_i (fa36_0 _) ?_; refine ld5_0 r3 (by assumption) ?_)
    refine neq_i (fun hps => ?_) (fun hps => ?_)
    rotate_left
    · with_reducible (refine cnd_t ?_; refine mv_i ?_; refine mv_i ?_; refine ret2 ?_)
      refine ⟨pall4, ?_⟩
      rw [if_pos hps] at R4
      have e0 := R2 (by rw [R4]; decide)
      rw [eP, e0, R4, if_neg (by decide)]
    rw [if_neg (fun hc => hc hps)] at R4
    with_reducible (refine cnd_f ?_; refine mv_i ?_)
    refine loop1 ps.length (fun k h2 => g4 = h2 ∧ ∀ j, j < k → inR (ps.getD j 0) (-1000) 1000 = true) ⟨rfl, fun j hj => by omega⟩ ?_
    rintro k2 _ _ hk2 ⟨rfl, hJ2⟩
    with_reducible (refine mv_i ?_; refine vk_i (fa36_0 _) ?_; refine ld5_0 r3 (by assumption) ?_)
    refine lss_i (fun hlt => ?_) (fun hge2 => ?_)
    · have hk3 : k2 < ps.length := by omega
      with_reducible (refine cnd_t ?_; refine vk_i (fa27_1 _) ?_; refine ld2_1 r23 (by assumption) ?_; refine mv_i ?_; refine idxi_i t23 (by assumption) (by omega) ?_; refine ldi_i t23 r3 (by assumption) (by omega) ?_)
      refine call_r (c22 _ _ _) ?_
      cases hz : inR (ps.getD k2 0) (-1000) 1000 with
      | true =>
        with_reducible (refine not_t ?_; refine cnd_f ?_; refine mv_i ?_; refine inc_i (by omega) ?_; refine mv_i ?_)
        refine next1 hk3 ⟨rfl, fun j hj => ?_⟩
        by_cases q : j = k2
        · subst q; exact hz
        · exact hJ2 j (by omega)
      | false =>
        with_reducible (refine not_f ?_; refine cnd_t ?_; refine mv_i ?_; refine mv_i ?_; refine ret2 ?_)
        refine ⟨pall4, ?_⟩
        rw [if_pos ⟨_, gd_mem 0 hk3, hz⟩] at R4
        have e0 := R2 (by rw [R4]; decide)
        rw [eP, e0, R4, if_neg (by decide)]
    have hbd : ¬ ∃ x ∈ ps, inR x (-1000) 1000 = false := by
      rintro ⟨x, hx, hn⟩
      obtain ⟨j, hj, he⟩ := mem_gd 0 hx
      have := hJ2 j (by omega)
      rw [he, hn] at this
      cases this
    rw [if_neg hbd] at R4
    have R3 := R3 R4
    have hpb := psOK_of hbd
    with_reducible (refine cnd_f ?_; refine mv_i ?_; refine mv_i ?_)
    refine loop2 ks.length (fun j pv h2 => g4 = h2 ∧ pv = .int .i64 (priceI pr (ks.take j)) ∧ 0 ≤ priceI pr (ks.take j) ∧ priceI pr (ks.take j) ≤ 20 * j) ⟨rfl, rfl, by simp [priceI], by simp [priceI]⟩ ?_
    rintro j _ _ _ hj ⟨rfl, rfl, hp0, hp1⟩
    with_reducible (refine mv_i ?_; refine mv_i ?_; refine leni_i t23 (by assumption) ?_)
    refine lss_i (fun hlt2 => ?_) (fun hge3 => ?_)
    · have hj2 : j < ks.length := by omega
      have hz : (ks.map fun k : Nat => (k : Int)).getD j 0 = ((ks.getD j 0 : Nat) : Int) := by simp [List.getD, hj2]
      have hkj : ks.getD j 0 < m.steps.length := hkin _ (gd_mem 0 hj2)
      have hpk := hpo (ks.getD j 0)
      have hpt := priceI_take (pr := pr) hj2
      with_reducible (refine cnd_t ?_; refine mv_i ?_; refine mv_i ?_; refine mv_i ?_; refine mv_i ?_; refine idxi_i t23 (by assumption) (by omega) ?_; refine ldi_i t23 r3 (by assumption) (by omega) ?_; refine idxzi t23 (by assumption) (by omega) (by omega) ?_; refine ldi_i t23 r3 (by assumption) (by omega) ?_)
      rw [hz, Int.toNat_natCast]
      refine add_i ⟨by omega, by omega⟩ ?_
      with_reducible (refine mv_i ?_; refine mv_i ?_; refine inc_i (by omega) ?_; refine mv_i ?_)
      exact next2 hj2 ⟨rfl, by rw [hpt], by omega, by push_cast; omega⟩
    have ej : j = ks.length := by omega
    rw [ej, List.take_of_length_le (Nat.le_refl _)] at hp0 hp1 ⊢
    with_reducible (refine cnd_f ?_; refine mv_i ?_; refine mv_i ?_)
    refine loop2 m.steps.length (fun k sv h2 => g4 = h2 ∧ sv = .int .i64 (restS m pr ps (idxs (rP m) k)) ∧ 0 ≤ restS m pr ps (idxs (rP m) k) ∧ restS m pr ps (idxs (rP m) k) ≤ 2020 * k ∧ ∀ i, i < k → rP m i = true → 0 ≤ restI m pr ps i) ⟨rfl, rfl, by simp [restS, idxs], by simp [restS, idxs], fun i hi => by omega⟩ ?_
    rintro k _ _ _ hk ⟨rfl, rfl, hs0, hs1, hneg⟩
    with_reducible (refine mv_i ?_; refine vk_i (fa36_4 _) ?_; refine ld5_4 r34 (by assumption) ?_; refine lenst t34 (by assumption) ?_)
    refine lss_i (fun hlt3 => ?_) (fun hge3 => ?_)
    · have hk2 : k < m.steps.length := by omega
      have hg := hyg k hk2
      have hst := r.st hk2
      have hpz := hpo k
      have ha := hpb (m.steps.getD k dst).fr.toNat
      have hb := hpb (m.steps.getD k dst).to.toNat
      have hrb := restI_b (m := m) hpo hpb k
      have hre : restI m pr ps k = pr.getD k 0 + ps.getD (m.steps.getD k dst).fr.toNat 0 - ps.getD (m.steps.getD k dst).to.toNat 0 := rfl
      have hrs := restS_succ (m := m) (pr := pr) (ps := ps) (j := k)
      refine cnd_t ?_
      refine seq_J (fun xs h4 => xs = [.int .i64 (restS m pr ps (idxs (rP m) (k + 1)))] ∧ h4 = g4 ∧ 0 ≤ restS m pr ps (idxs (rP m) (k + 1)) ∧ restS m pr ps (idxs (rP m) (k + 1)) ≤ 2020 * (k + 1) ∧ ∀ i, i < k + 1 → rP m i = true → 0 ≤ restI m pr ps i) ?_ ?_
      · rintro _ _ ⟨rfl, rfl, a1, a2, a3⟩ _
        show mvK _ _ _
        with_reducible (refine mv_i ?_; refine inc_i (by omega) ?_; refine mv_i ?_)
        exact next2 hk2 ⟨rfl, rfl, a1, by push_cast; omega, a3⟩
      intro k' hk'
      with_reducible (refine mv_i ?_; refine mv_i ?_; refine idxi_i t23 (by assumption) (by omega) ?_; refine ldi_i t23 r3 (by assumption) (by omega) ?_; refine ⟨vbi _ _, ?_⟩; refine vk_i (fa27_1 _) ?_; refine ld2_1 r23 (by assumption) ?_; refine ⟨VB_of_ints (by assumption), ?_⟩; refine vk_i (fa36_4 _) ?_; refine ld5_4 r34 (by assumption) ?_; refine ⟨VB_of_steps (by assumption), ?_⟩; refine mv_i ?_; refine idxst t34 (by assumption) (by omega) ?_; refine fae_i st63 (by assumption) (by omega) (by omega) ?_; refine ldfr dst st63 (by assumption) (by omega) ?_; refine ⟨vbi _ _, ?_⟩; refine idxzi t23 (by assumption) (by omega) (by omega) ?_; refine ldi_i t23 r3 (by assumption) (by omega) ?_; refine ⟨vbi _ _, ?_⟩)
      refine add_i ⟨by omega, by omega⟩ ?_
      with_reducible (refine vk_i (fa27_1 _) ?_; refine ld2_1 r23 (by assumption) ?_; refine ⟨VB_of_ints (by assumption), ?_⟩; refine vk_i (fa36_4 _) ?_; refine ld5_4 r34 (by assumption) ?_; refine ⟨VB_of_steps (by assumption), ?_⟩; refine mv_i ?_; refine idxst t34 (by assumption) (by omega) ?_; refine fae_i st63 (by assumption) (by omega) (by omega) ?_; refine ldto dst st63 (by assumption) (by omega) ?_; refine ⟨vbi _ _, ?_⟩; refine idxzi t23 (by assumption) (by omega) (by omega) ?_; refine ldi_i t23 r3 (by assumption) (by omega) ?_; refine ⟨vbi _ _, ?_⟩)
      refine sub_i ⟨by omega, by omega⟩ ?_
      rw [← hre]
      with_reducible (refine mv_i ?_; refine mv_i ?_; refine mv_i ?_; refine idxb_i t48 (by assumption) (by omega) ?_; refine ldb_i t48 r4 (by assumption) (by omega) ?_; refine mv_i ?_)
      rw [hg]
      rcases hp : rP m k with _ | _
      · rw [hp, if_neg (by simp)] at hrs
        with_reducible (refine gd_ft ?_; refine gd_ft ?_; refine pick_f ?_; refine cnd_f ?_; refine mv_i ?_; refine mv_i ?_; refine idxb_i t48 (by assumption) (by omega) ?_; refine ldb_i t48 r4 (by assumption) (by omega) ?_)
        rw [hg, hp]
        with_reducible (refine cnd_f ?_)
        refine hk' _ _ ⟨by rw [hrs], rfl, by rw [hrs]; exact hs0, by rw [hrs]; omega, fun i hi hpi => ?_⟩
        by_cases q : i = k
        · subst q; rw [hp] at hpi; cases hpi
        · exact hneg i (by omega) hpi
      · rw [hp, if_pos rfl] at hrs
        with_reducible (refine gd_tt ?_; refine mv_i ?_; refine gd_tt ?_)
        refine lss_i (fun hn => ?_) (fun hn => ?_)
        · with_reducible (refine pick_t ?_; refine cnd_t ?_; refine mv_i ?_; refine mv_i ?_; refine ret2 ?_)
          refine ⟨pall4, ?_⟩
          have : finE m pr ks ps = 30 := by
            unfold finE
            rw [if_pos (.inl ⟨(k : Int), idxs_mem.mpr ⟨k, rfl, hk2, hp⟩, hn⟩)]
          rw [eP, R3, this, if_neg (by decide)]
        · with_reducible (refine pick_t ?_; refine cnd_f ?_; refine mv_i ?_; refine mv_i ?_; refine idxb_i t48 (by assumption) (by omega) ?_; refine ldb_i t48 r4 (by assumption) (by omega) ?_)
          rw [hg, hp]
          with_reducible (refine cnd_t ?_; refine mv_i ?_; refine mv_i ?_)
          refine add_i ⟨by omega, by omega⟩ ?_
          with_reducible (refine mv_i ?_)
          refine hk' _ _ ⟨by rw [hrs], rfl, by rw [hrs]; omega, by rw [hrs]; omega, fun i hi hpi => ?_⟩
          by_cases q : i = k
          · subst q; omega
          · exact hneg i (by omega) hpi
    have ek : k = m.steps.length := by omega
    rw [ek] at hs0 hs1 hneg ⊢
    have hnn : ¬ ∃ i ∈ rchL m, restI m pr ps i.toNat < 0 := by
      rintro ⟨i, hi, hn⟩
      obtain ⟨q, rfl, hq, hp⟩ := idxs_mem.mp hi
      have := hneg q hq hp
      rw [Int.toNat_natCast] at hn
      omega
    with_reducible (refine cnd_f ?_; refine mv_i ?_; refine mv_i ?_)
    refine neq_i (fun hq => ?_) (fun hq => ?_)
    · with_reducible (refine cnd_f ?_; refine mv_i ?_; refine mv_i ?_; refine mv_i ?_; refine ret2 ?_)
      refine ⟨pall4, ?_⟩
      have : finE m pr ks ps = 0 := by
        unfold finE
        rw [if_neg (by rintro (hc | hc); exact hnn hc; exact hc hq)]
      rw [eP, R3, this, if_pos rfl]
    · with_reducible (refine cnd_t ?_; refine mv_i ?_; refine mv_i ?_; refine ret2 ?_)
      refine ⟨pall4, ?_⟩
      have : finE m pr ks ps = 30 := by
        unfold finE
        rw [if_pos (.inr hq)]
      rw [eP, R3, this, if_neg (by decide)]
end Go.Proofs.Ytdjoednhfoligaa
