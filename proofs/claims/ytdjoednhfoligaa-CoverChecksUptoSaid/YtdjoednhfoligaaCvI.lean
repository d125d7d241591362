import Derived.Test.YtdjoednhfoligaaCvH
set_option linter.unusedSimpArgs false
set_option linter.unusedVariables false
set_option maxRecDepth 100000
namespace Go.Proofs.Ytdjoednhfoligaa
open Go.AM
variable {h h' h0 h1 : Heap} {K : Value → Heap → Prop} {m : Mac}

/-! ### errors of words -/
def wsE (ws : List (List Int)) (n : Int) : Int := if 80 < ws.length then 2 else (firstOf (fun i => nz (wErr (ws.getD i []) n 1200)) ws.length).getD 0
theorem wsE_none {ws : List (List Int)} {n : Int} (hg : ¬ 80 < ws.length) (hJ : ∀ j, j < ws.length → wErr (ws.getD j []) n 1200 = 0) : wsE ws n = 0 := by
  unfold wsE
  rw [if_neg hg, firstOf_none (fun j hj => by simp only [nz]; rw [if_pos (hJ j hj)])]
  rfl
theorem wsE_some {ws : List (List Int)} {n : Int} {k : Nat} (hg : ¬ 80 < ws.length) (hJ : ∀ j, j < k → wErr (ws.getD j []) n 1200 = 0) (hk : k < ws.length) (he : ¬ wErr (ws.getD k []) n 1200 = 0) : wsE ws n = wErr (ws.getD k []) n 1200 := by
  unfold wsE
  rw [if_neg hg, firstOf_some (e := wErr (ws.getD k []) n 1200) (fun j hj => by simp only [nz]; rw [if_pos (hJ j hj)]) hk (by simp only [nz]; rw [if_neg he])]
  rfl
theorem wsE_zero {ws : List (List Int)} {n : Int} (hz : wsE ws n = 0) : ws.length ≤ 80 ∧ ∀ j, j < ws.length → wErr (ws.getD j []) n 1200 = 0 := by
  unfold wsE at hz
  split at hz
  · cases hz
  · refine ⟨by omega, ?_⟩
    cases hf : firstOf (fun i => nz (wErr (ws.getD i []) n 1200)) ws.length with
    | none =>
      intro j hj
      have := firstOf_not hf j hj
      simp only [nz] at this
      split at this
      · assumption
      · cases this
    | some e =>
      rw [hf] at hz
      obtain ⟨k, hk, he⟩ := firstOf_is hf
      simp only [nz] at he
      split at he
      · cases he
      · cases he
        exact absurd hz (by assumption)
theorem w_ok {w : List Int} {n most : Int} (hz : wErr w n most = 0) : (w.length : Int) ≤ most ∧ ∀ x ∈ w, inR x 0 (pm n) = true := by
  unfold wErr at hz
  split at hz
  · cases hz
  · split at hz
    · rename_i h1 h2
      exact ⟨by omega, fun x hx => List.all_eq_true.mp h2 x hx⟩
    · cases hz
theorem inW_of (r : Right m) {w : List Int} {most : Int} (hz : wErr w m.inputs most = 0) : inW m w := by
  obtain ⟨b1, b2, b3, b4, b5, b6⟩ := r.bounds
  intro x hx
  have := (w_ok hz).2 x hx
  rw [pm_eq b3 (by omega)] at this
  unfold inR at this
  simp only [decide_eq_true_eq] at this
  omega
theorem c67 {a b : Value} {ws : List (List Int)} (s : MacV h a m) (sw : RowsS h b ws) : Runs Try.prog 67 [a, b] h (.int .i64 (wsE ws m.inputs)) h := by
  have ltw := sw.lt
  refine DetP.forget rfl ?_
  refine w67 ?_
  unfold n67
  obtain ⟨o, l, c, rfl, ss0⟩ := s
  rw [box36]
  refine ok_i rfl ?_
  have p1 := pre_new h [.int .i64 m.states, .int .i64 m.inputs, .int .i64 m.outputs, .int .i64 m.start, .slice o l c] 5
  have hb1 := newArr_get h [.int .i64 m.states, .int .i64 m.inputs, .int .i64 m.outputs, .int .i64 m.start, .slice o l c] 5
  have ss := ss0.mono (Sub.of_pre p1)
  generalize hg1 : newArr h [.int .i64 m.states, .int .i64 m.inputs, .int .i64 m.outputs, .int .i64 m.start, .slice o l c] 5 = g1 at p1 hb1 ss ⊢
  have sw1 := sw.mono (Sub.of_pre p1)
  have mv1 : MacV g1 (.agg #[.int .i64 m.states, .int .i64 m.inputs, .int .i64 m.outputs, .int .i64 m.start, .slice o l c]) m := macv_of ss
  with_reducible (refine mv_i ?_; refine mv_i ?_; refine lenr_i t22 (by assumption) ?_)
  refine gtr_i (fun hg => ?_) (fun hg => ?_)
  · with_reducible (refine cnd_t ?_; refine mv_i ?_; refine ret1 ?_)
    exact ⟨by unfold wsE; rw [if_pos (by omega)], p1⟩
  · with_reducible (refine cnd_f ?_; refine mv_i ?_; refine lenr_i t22 (by assumption) ?_; refine mv_i ?_)
    refine loop1 ws.length (fun k h2 => g1 = h2 ∧ ∀ j, j < k → wErr (ws.getD j []) m.inputs 1200 = 0) ⟨rfl, fun j hj => by omega⟩ ?_
    rintro k _ _ hk ⟨rfl, hJ⟩
    skip
    refine lss_i (fun hlt => ?_) (fun hge => ?_)
    · with_reducible (refine cnd_t ?_; refine idxr_i t22 (by assumption) (by omega) ?_)
      refine ldr_i t22 r23 sw1 (by omega) fun row srow => ?_
      with_reducible (refine mv_i ?_)
      refine vk_i (ld36 hb1) ?_
      with_reducible (refine mv_i ?_)
      refine call_r (c53 mv1 srow) ?_
      with_reducible (refine mv_i ?_; refine mv_i ?_)
      refine neq_i (fun he => ?_) (fun he => ?_)
      · with_reducible (refine cnd_f ?_; refine inc_i (by omega) ?_; refine mv_i ?_)
        refine next1 (by omega) ⟨rfl, fun j hj => ?_⟩
        by_cases q : j = k
        · subst q; exact he
        · exact hJ j (by omega)
      · with_reducible (refine cnd_t ?_; refine mv_i ?_; refine mv_i ?_; refine ret1 ?_)
        exact ⟨by rw [wsE_some (by omega) hJ (by omega) he], p1⟩
    · with_reducible (refine cnd_f ?_; refine mv_i ?_; refine ret1 ?_)
      exact ⟨by rw [wsE_none (by omega) fun j hj => hJ j (by omega)], p1⟩
theorem c28 {a b : Value} {ws : List (List Int)} (s : MacV h a m) (sw : RowsS h b ws) : Runs Try.prog 28 [a, b] h (.int .i64 (wsE ws m.inputs)) h := by
  have ltw := sw.lt
  refine DetP.forget rfl ?_
  refine w28 ?_
  unfold n28
  obtain ⟨o, l, c, rfl, ss0⟩ := s
  rw [box36]
  refine ok_i rfl ?_
  have p1 := pre_new h [.int .i64 m.states, .int .i64 m.inputs, .int .i64 m.outputs, .int .i64 m.start, .slice o l c] 5
  have hb1 := newArr_get h [.int .i64 m.states, .int .i64 m.inputs, .int .i64 m.outputs, .int .i64 m.start, .slice o l c] 5
  have ss := ss0.mono (Sub.of_pre p1)
  generalize hg1 : newArr h [.int .i64 m.states, .int .i64 m.inputs, .int .i64 m.outputs, .int .i64 m.start, .slice o l c] 5 = g1 at p1 hb1 ss ⊢
  have sw1 := sw.mono (Sub.of_pre p1)
  with_reducible (refine mv_i ?_; refine mv_i ?_; refine lenr_i t22 (by assumption) ?_)
  refine gtr_i (fun hg => ?_) (fun hg => ?_)
  · with_reducible (refine cnd_t ?_; refine mv_i ?_; refine ret1 ?_)
    exact ⟨by unfold wsE; rw [if_pos (by omega)], p1⟩
  · with_reducible (refine cnd_f ?_; refine mv_i ?_)
    refine loop1 ws.length (fun k h2 => g1 = h2 ∧ ∀ j, j < k → wErr (ws.getD j []) m.inputs 1200 = 0) ⟨rfl, fun j hj => by omega⟩ ?_
    rintro k _ _ hk ⟨rfl, hJ⟩
    with_reducible (refine mv_i ?_; refine mv_i ?_; refine lenr_i t22 (by assumption) ?_)
    refine lss_i (fun hlt => ?_) (fun hge => ?_)
    · with_reducible (refine cnd_t ?_; refine mv_i ?_; refine mv_i ?_; refine idxr_i t22 (by assumption) (by omega) ?_)
      refine ldr_i t22 r23 sw1 (by omega) fun row srow => ?_
      with_reducible (refine ⟨VB_of_ints (by assumption), ?_⟩; refine vk_i (fa36_1 _) ?_; refine ld5_1 r3 (by assumption) ?_; refine ⟨vbi _ _, ?_⟩)
      refine calld_r (c41 srow) ?_
      with_reducible (refine ⟨⟨[], (List.append_nil _).symm⟩, ?_⟩; refine mv_i ?_; refine mv_i ?_)
      refine neq_i (fun he => ?_) (fun he => ?_)
      · with_reducible (refine cnd_f ?_; refine mv_i ?_; refine inc_i (by omega) ?_; refine mv_i ?_)
        refine next1 (by omega) ⟨rfl, fun j hj => ?_⟩
        by_cases q : j = k
        · subst q; exact he
        · exact hJ j (by omega)
      · with_reducible (refine cnd_t ?_; refine mv_i ?_; refine mv_i ?_; refine ret1 ?_)
        exact ⟨by rw [wsE_some (by omega) hJ (by omega) he], p1⟩
    · with_reducible (refine cnd_f ?_; refine mv_i ?_; refine ret1 ?_)
      exact ⟨by rw [wsE_none (by omega) fun j hj => hJ j (by omega)], p1⟩

/-! ### steps counted -/
def bump (cs : List Int) (k : Nat) : List Int := cs.set k (cs.getD k 0 + 1)
def bumps (cs : List Int) (ks : List Nat) : List Int := ks.foldl bump cs
theorem bump_len (cs : List Int) (k : Nat) : (bump cs k).length = cs.length := by simp [bump]
theorem bumps_len (ks : List Nat) : ∀ cs : List Int, (bumps cs ks).length = cs.length := by
  induction ks with
  | nil => intro cs; rfl
  | cons k ks ih => intro cs; simp only [bumps, List.foldl_cons]; exact (ih _).trans (bump_len cs k)
theorem bumps_take {cs : List Int} {ks : List Nat} {j : Nat} (hj : j < ks.length) : bumps cs (ks.take (j + 1)) = bump (bumps cs (ks.take j)) (ks.getD j 0) := by
  rw [take_gd 0 hj]; simp [bumps]
def small (cs : List Int) (b : Int) : Prop := ∀ k, 0 ≤ cs.getD k 0 ∧ cs.getD k 0 ≤ b
theorem bump_small {cs : List Int} {b : Int} (s : small cs b) (k : Nat) : small (bump cs k) (b + 1) := by
  intro j
  unfold bump
  by_cases q : k = j
  · subst q
    by_cases hk : k < cs.length
    · have := s k
      simp [List.getD, List.getElem?_set, hk] at this ⊢
      omega
    · have := s k
      simp [List.getD, List.getElem?_set, hk] at this ⊢
      omega
  · have := s j
    simp [List.getD, List.getElem?_set, q] at this ⊢
    omega
def takenBy (m : Mac) (ws : List (List Int)) : List Int := ws.foldl (fun cs w => bumps cs (takenI m.steps m.start w)) (List.replicate m.steps.length 0)
theorem takenBy_len (ws : List (List Int)) : (takenBy m ws).length = m.steps.length := by
  unfold takenBy
  have : ∀ (ws : List (List Int)) (cs : List Int), (ws.foldl (fun cs w => bumps cs (takenI m.steps m.start w)) cs).length = cs.length := by
    intro ws
    induction ws with
    | nil => intro cs; rfl
    | cons w ws ih => intro cs; simp only [List.foldl_cons]; rw [ih, bumps_len]
  rw [this]; simp
theorem takenBy_take {ws : List (List Int)} {k : Nat} (hk : k < ws.length) : takenBy m (ws.take (k + 1)) = bumps (takenBy m (ws.take k)) (takenI m.steps m.start (ws.getD k [])) := by
  rw [take_gd [] hk]; simp [takenBy]
def oneE : Nat → Nat := fun _ => 1
theorem rep_map (n : Nat) (x : Int) : List.replicate n (Value.int .i64 x) = (List.replicate n x).map (.int .i64) := by simp
theorem c29 {a b : Value} {ws : List (List Int)} (s : MacV h a m) (sw : RowsS h b ws) :
    DetP Try.prog 29 [a, b] h fun v h' => h <+: h' ∧ if orOf [(mErr m).2, wsE ws m.inputs] ≠ 0 then v = .tuple #[.slice none 0 0, .int .i64 (orOf [(mErr m).2, wsE ws m.inputs])] else ∃ r, v = .tuple #[r, .int .i64 0] ∧ Only h h' fun g => IntS g r (takenBy m ws) := by
  refine w29 ?_
  unfold n29
  obtain ⟨o, l, c, rfl, ss0⟩ := s
  rw [box36]
  refine ok_i rfl ?_
  have p1 := pre_new h [.int .i64 m.states, .int .i64 m.inputs, .int .i64 m.outputs, .int .i64 m.start, .slice o l c] 5
  have hb1 := newArr_get h [.int .i64 m.states, .int .i64 m.inputs, .int .i64 m.outputs, .int .i64 m.start, .slice o l c] 5
  have ss := ss0.mono (Sub.of_pre p1)
  generalize hg1 : newArr h [.int .i64 m.states, .int .i64 m.inputs, .int .i64 m.outputs, .int .i64 m.start, .slice o l c] 5 = g1 at p1 hb1 ss ⊢
  have sw1 := sw.mono (Sub.of_pre p1)
  have mv1 : MacV g1 (.agg #[.int .i64 m.states, .int .i64 m.inputs, .int .i64 m.outputs, .int .i64 m.start, .slice o l c]) m := macv_of ss
  with_reducible (refine mv_i ?_; refine mv_i ?_)
  refine vk_i (ld36 hb1) ?_
  refine ⟨vb_mac ss, ?_⟩
  refine calld_r (c51 mv1) ⟨⟨[], by simp⟩, ?_⟩
  refine vk_i (ld36 hb1) ?_
  refine ⟨vb_mac ss, ?_⟩
  with_reducible (refine mv_i ?_)
  refine calld_r (c67 mv1 sw1) ⟨⟨[], by simp⟩, ?_⟩
  refine ok_i (bs94_2 _ _ _) ?_
  have p2 := pre_new g1 [.int .i64 (mErr m).2, .int .i64 (wsE ws m.inputs)] 1
  have sx : IntS (newArr g1 [.int .i64 (mErr m).2, .int .i64 (wsE ws m.inputs)] 1) (.slice (some ⟨g1.length, 0, none⟩) 2 3) [(mErr m).2, wsE ws m.inputs] := Seg.new 3 (by rfl) (by simp)
  generalize newArr g1 [.int .i64 (mErr m).2, .int .i64 (wsE ws m.inputs)] 1 = g2 at p2 sx ⊢
  refine calld_r (c50 sx) ⟨⟨[], by simp⟩, ?_⟩
  generalize he : orOf [(mErr m).2, wsE ws m.inputs] = e
  with_reducible (refine mv_i ?_; refine mv_i ?_)
  refine neq_i (fun hz => ?_) (fun hz => ?_)
  · subst hz
    rw [or2] at he
    have he1 : (mErr m).2 = 0 := by by_cases q : (mErr m).2 = 0 <;> simp_all
    rw [if_pos he1] at he
    have r := right_of he1
    obtain ⟨hw1, hw2⟩ := wsE_zero he
    obtain ⟨b1, b2, b3, b4, b5, b6⟩ := r.bounds
    have hfew := r.few
    have hsl : m.steps.length ≤ 320 := by
      have : m.states * m.inputs ≤ 40 * 8 := Int.mul_le_mul b2 b4 (by omega) (by omega)
      omega
    have hb2 := (Sub.of_pre p2).2 _ _ hb1
    with_reducible (refine cnd_f ?_)
    refine vk_i (ld36 hb2) ?_
    refine call_i (c54 (mv1.mono (Sub.of_pre p2)) r) ?_
    rintro _ g3 ⟨p3, gi, st, by_, fr, rfl, sst, og⟩
    have gr : Graph gi g3 m st by_ fr := og.self (sst.mono (Sub.of_pre p3))
    have hb3 := (Sub.of_pre p3).2 _ _ hb2
    have ss3 := ss.mono (Sub.of_pre (p2.trans p3))
    have sw3 := sw1.mono (Sub.of_pre (p2.trans p3))
    with_reducible (refine mv_i ?_; refine vk_i (fa36_4 _) ?_; refine ld5_4 r34 (by assumption) ?_; refine lenst t34 (by assumption) ?_)
    refine mk1_i (n := m.steps.length) t23 z3 (by omega) ⟨by omega, by omega⟩ ?_
    rw [Int.toNat_natCast, rep_map]
    have o0 := (Owns.start (fun _ => []) oneE (List.prefix_refl g3)).add 0 ((List.replicate m.steps.length (0 : Int)).map (.int .i64)) 1 rfl
    generalize hoi : g3.length = oi at o0 ⊢
    generalize newArr g3 ((List.replicate m.steps.length (0 : Int)).map (.int .i64)) 1 = g4 at o0 ⊢
    have sw4 := sw3.mono o0.sub
    with_reducible (refine mv_i ?_; refine mv_i ?_; refine lenr_i t22 (by assumption) ?_; refine mv_i ?_)
    refine loop1 ws.length (fun k h2 => ∃ N C, Owns g3 h2 N C oneE ∧ N 0 = some oi ∧ C 0 = (takenBy m (ws.take k)).map (.int .i64) ∧ small (takenBy m (ws.take k)) (1200 * k)) ⟨_, _, o0, upN_self _ _ _, by rw [upN_self]; rfl, fun j => ?_⟩ ?_
    · show 0 ≤ (List.replicate m.steps.length (0 : Int)).getD j 0 ∧ (List.replicate m.steps.length (0 : Int)).getD j 0 ≤ _
      simp [List.getD, List.getElem?_replicate]
      split <;> simp
    rintro k h2 _ hk ⟨N, C, o2, n0, c0, hsm⟩
    have sw5 := sw3.mono o2.sub
    skip
    refine lss_i (fun hlt => ?_) (fun hge => ?_)
    · have hkl : k < ws.length := by omega
      with_reducible (refine cnd_t ?_; refine idxr_i t22 (by assumption) (by omega) ?_)
      refine ldr_i t22 r23 sw5 (by omega) fun row srow => ?_
      with_reducible (refine mv_i ?_; refine mv_i ?_; refine mv_i ?_)
      have hwk := hw2 k hkl
      have hwl := (w_ok hwk).1
      refine call_i (c55 (gr.mono o2.sub) r srow (inW_of r hwk) (by omega)) ?_
      rintro v h3 ⟨p3', q3⟩
      have fz := Frz.of_only o2 p3' q3
      have o3 := o2.ext p3'
      have hkl2 := takenI_len (l := m.steps) (ws.getD k []) m.start
      have hkin := takenI_has (l := m.steps) (f := m.start) (w := ws.getD k [])
      have htk := takenBy_take (m := m) hkl
      generalize hks : takenI m.steps m.start (ws.getD k []) = ks at fz hkl2 hkin htk
      have hcl : (takenBy m (ws.take k)).length = m.steps.length := takenBy_len _
      generalize takenBy m (ws.take k) = cs at c0 hsm htk hcl
      have sv := fz.self
      with_reducible (refine leni_i t23 (by assumption) ?_; refine mv_i ?_)
      refine loop1 ks.length (fun j h4 => ∃ C, Owns g3 h4 N C oneE ∧ Frz N h4 (fun g => IntS g v (ks.map fun k : Nat => (k : Int))) ∧ C 0 = (bumps cs (ks.take j)).map (.int .i64) ∧ small (bumps cs (ks.take j)) (1200 * k + j)) ⟨C, o3, fz, c0, by simpa [bumps] using hsm⟩ ?_
      rintro j h4 _ hj ⟨C, o4, fz4, c0, hsm⟩
      have sv := fz4.self
      have hml : (ks.map fun k : Nat => (k : Int)).length = ks.length := by simp
      have hbl := bumps_len (ks.take j) cs
      have sc : IntS h4 (.slice (some ⟨oi, 0, none⟩) m.steps.length (m.steps.length + 1)) (bumps cs (ks.take j)) := by
        have := LS.ints o4 (v := .slice (some ⟨oi, 0, none⟩) m.steps.length (m.steps.length + 1)) (xs := bumps cs (ks.take j)) (l := 0) (by have := LS.whole (C := C) (c := m.steps.length + 1) n0 (k := m.steps.length) (by rw [c0, List.length_map]; omega); rw [c0] at this; exact this) rfl (by omega)
        exact this
      have sm := hsm (ks.getD j 0)
      skip
      refine lss_i (fun hlt2 => ?_) (fun hge => ?_)
      · have hj2 : j < ks.length := by omega
        have hz : (ks.map fun k : Nat => (k : Int)).getD j 0 = ((ks.getD j 0 : Nat) : Int) := by simp [List.getD, hj2]
        have hkj : ks.getD j 0 < m.steps.length := hkin _ (gd_mem 0 hj2)
        with_reducible (refine cnd_t ?_)
        refine idxi_i t23 sv (by omega) ?_
        refine ldi_i t23 r3 sv (by omega) ?_
        rw [hz]
        with_reducible (refine mv_i ?_; refine mv_i ?_; refine mv_i ?_; refine idxi_i t23 (by assumption) (by omega) ?_; refine ldi_i t23 r3 (by assumption) (by omega) ?_)
        refine add_i ⟨by omega, by omega⟩ ?_
        with_reducible (refine idxi_i t23 (by assumption) (by omega) ?_)
        rw [elt_at1]
        refine stl s3 o4 n0 (by rw [c0, List.length_map]; omega) rfl rfl fun o5 => ?_
        have fz5 := fz4.set n0 (.arr ⟨(C 0).set (ks.getD j 0) (.int .i64 ((bumps cs (ks.take j)).getD (ks.getD j 0) 0 + 1)), oneE 0, false⟩)
        with_reducible (refine inc_i (by omega) ?_; refine mv_i ?_)
        refine next1 hj2 ⟨_, o5, fz5, ?_, ?_⟩
        · rw [upN_self, c0, bumps_take hj2, bump, set_map]
        · rw [bumps_take hj2]
          have := bump_small hsm (ks.getD j 0)
          intro q
          have := this q
          push_cast
          omega
      · have ej : j = ks.length := by omega
        subst ej
        rw [List.take_of_length_le (Nat.le_refl _), ← htk] at c0 hsm
        with_reducible (refine cnd_f ?_; refine inc_i (by omega) ?_; refine mv_i ?_)
        refine next1 hkl ⟨N, C, o4, n0, c0, fun q => ?_⟩
        have := hsm q
        push_cast
        omega
    · have ek : k = ws.length := by omega
      subst ek
      rw [List.take_of_length_le (Nat.le_refl _)] at c0
      with_reducible (refine cnd_f ?_; refine mv_i ?_; refine mv_i ?_; refine mv_i ?_; refine ret2 ?_)
      refine ⟨p1.trans (p2.trans (p3.trans o2.pre)), ?_⟩
      rw [if_neg (by simp)]
      refine ⟨_, rfl, Only.from (p1.trans (p2.trans p3)) (o2.only fun g og => ?_)⟩
      have hcl : (takenBy m ws).length = m.steps.length := takenBy_len _
      have := LS.ints og (v := .slice (some ⟨oi, 0, none⟩) m.steps.length (m.steps.length + 1)) (xs := takenBy m ws) (l := 0) (by have := LS.whole (C := C) (c := m.steps.length + 1) n0 (k := m.steps.length) (by rw [c0, List.length_map]; omega); rw [c0] at this; exact this) rfl (by omega)
      exact this
  · with_reducible (refine cnd_t ?_; refine mv_i ?_; refine mv_i ?_; refine mv_i ?_; refine ret2 ?_)
    exact ⟨p1.trans p2, by rw [if_pos hz]⟩
end Go.Proofs.Ytdjoednhfoligaa
