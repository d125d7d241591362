import Derived.Test.YtdjoednhfoligaaCvI
set_option linter.unusedSimpArgs false
set_option linter.unusedVariables false
set_option maxRecDepth 100000
namespace Go.Proofs.Ytdjoednhfoligaa
open Go.AM
variable {h h' h0 h1 : Heap} {K : Value → Heap → Prop} {m : Mac}

theorem c31 {a b : Value} {ws : List (List Int)} (s : MacV h a m) (r : Right m) (sw : RowsS h b ws) (hz : wsE ws m.inputs = 0) :
    DetP Try.prog 31 [a, b] h fun v h' => h <+: h' ∧ Only h h' fun g => IntS g v (takenBy m ws) := by
  obtain ⟨hw1, hw2⟩ := wsE_zero hz
  obtain ⟨b1, b2, b3, b4, b5, b6⟩ := r.bounds
  have hfew := r.few
  have hsl : m.steps.length ≤ 320 := by
    have : m.states * m.inputs ≤ 40 * 8 := Int.mul_le_mul b2 b4 (by omega) (by omega)
    omega
  refine w31 ?_
  unfold n31
  obtain ⟨o, l, c, rfl, ss0⟩ := s
  rw [box36]
  refine ok_i rfl ?_
  have p1 := pre_new h [.int .i64 m.states, .int .i64 m.inputs, .int .i64 m.outputs, .int .i64 m.start, .slice o l c] 5
  have hb1 := newArr_get h [.int .i64 m.states, .int .i64 m.inputs, .int .i64 m.outputs, .int .i64 m.start, .slice o l c] 5
  have ss := ss0.mono (Sub.of_pre p1)
  generalize hg1 : newArr h [.int .i64 m.states, .int .i64 m.inputs, .int .i64 m.outputs, .int .i64 m.start, .slice o l c] 5 = g1 at p1 hb1 ss ⊢
  have sw1 := sw.mono (Sub.of_pre p1)
  with_reducible (refine mv_i ?_; refine vk_i (fa36_4 _) ?_; refine ld5_4 r34 (by assumption) ?_; refine lenst t34 (by assumption) ?_)
  refine mk1_i (n := m.steps.length) t23 z3 (by omega) ⟨by omega, by omega⟩ ?_
  rw [Int.toNat_natCast, rep_map]
  have o0 := (Owns.start (fun _ => []) oneE (List.prefix_refl g1)).add 0 ((List.replicate m.steps.length (0 : Int)).map (.int .i64)) 1 rfl
  generalize hoi : g1.length = oi at o0 ⊢
  generalize newArr g1 ((List.replicate m.steps.length (0 : Int)).map (.int .i64)) 1 = g4 at o0 ⊢
  with_reducible (refine mv_i ?_; refine mv_i ?_)
  refine loop1 ws.length (fun k h2 => ∃ N C, Owns g1 h2 N C oneE ∧ N 0 = some oi ∧ C 0 = (takenBy m (ws.take k)).map (.int .i64) ∧ small (takenBy m (ws.take k)) (1200 * k)) ⟨_, _, o0, upN_self _ _ _, by rw [upN_self]; rfl, fun j => ?_⟩ ?_
  · show 0 ≤ (List.replicate m.steps.length (0 : Int)).getD j 0 ∧ (List.replicate m.steps.length (0 : Int)).getD j 0 ≤ _
    simp [List.getD, List.getElem?_replicate]
    split <;> simp
  rintro k h2 _ hk ⟨N, C, o2, n0, c0, hsm⟩
  have sw5 := sw1.mono o2.sub
  have hb5 := o2.sub.2 _ _ hb1
  have ss5 := ss.mono o2.sub
  with_reducible (refine mv_i ?_; refine mv_i ?_; refine lenr_i t22 (by assumption) ?_)
  refine lss_i (fun hlt => ?_) (fun hge => ?_)
  · have hkl : k < ws.length := by omega
    with_reducible (refine cnd_t ?_)
    refine vk_i (ld36 hb5) ?_
    refine ⟨vb_mac ss5, ?_⟩
    with_reducible (refine vk_i (fa36_3 _) ?_; refine ld5_3 r3 (by assumption) ?_; refine ⟨vbi _ _, ?_⟩; refine mv_i ?_; refine mv_i ?_; refine idxr_i t22 (by assumption) (by omega) ?_)
    refine ldr_i t22 r23 sw5 (by omega) fun row srow => ?_
    with_reducible (refine ⟨VB_of_ints (by assumption), ?_⟩)
    have hwk := hw2 k hkl
    have hwl := (w_ok hwk).1
    refine calld_i (c46 (macv_of ss5) srow (by omega)) ?_
    rintro v h3 ⟨p3', q3⟩
    have fz := Frz.of_only o2 p3' q3
    refine ⟨p3'.imp fun t ht => ht.symm, ?_⟩
    have o3 := o2.ext p3'
    have hkl2 := takenI_len (l := m.steps) (ws.getD k []) m.start
    have hkin := takenI_has (l := m.steps) (f := m.start) (w := ws.getD k [])
    have htk := takenBy_take (m := m) hkl
    generalize hks : takenI m.steps m.start (ws.getD k []) = ks at fz hkl2 hkin htk
    have hcl : (takenBy m (ws.take k)).length = m.steps.length := takenBy_len _
    generalize takenBy m (ws.take k) = cs at c0 hsm htk hcl
    have sv := fz.self
    with_reducible (refine mv_i ?_; refine mv_i ?_)
    refine loop1 ks.length (fun j h4 => ∃ C, Owns g1 h4 N C oneE ∧ Frz N h4 (fun g => IntS g v (ks.map fun k : Nat => (k : Int))) ∧ C 0 = (bumps cs (ks.take j)).map (.int .i64) ∧ small (bumps cs (ks.take j)) (1200 * k + j)) ⟨C, o3, fz, c0, by simpa [bumps] using hsm⟩ ?_
    rintro j h4 _ hj ⟨C, o4, fz4, c0, hsm⟩
    have sv := fz4.self
    have hml : (ks.map fun k : Nat => (k : Int)).length = ks.length := by simp
    have hbl := bumps_len (ks.take j) cs
    have sc : IntS h4 (.slice (some ⟨oi, 0, none⟩) m.steps.length (m.steps.length + 1)) (bumps cs (ks.take j)) := by
      have := LS.ints o4 (v := .slice (some ⟨oi, 0, none⟩) m.steps.length (m.steps.length + 1)) (xs := bumps cs (ks.take j)) (l := 0) (by have := LS.whole (C := C) (c := m.steps.length + 1) n0 (k := m.steps.length) (by rw [c0, List.length_map]; omega); rw [c0] at this; exact this) rfl (by omega)
      exact this
    have sm := hsm (ks.getD j 0)
    with_reducible (refine mv_i ?_; refine mv_i ?_; refine leni_i t23 (by assumption) ?_)
    refine lss_i (fun hlt2 => ?_) (fun hge => ?_)
    · have hj2 : j < ks.length := by omega
      have hz : (ks.map fun k : Nat => (k : Int)).getD j 0 = ((ks.getD j 0 : Nat) : Int) := by simp [List.getD, hj2]
      have hkj : ks.getD j 0 < m.steps.length := hkin _ (gd_mem 0 hj2)
      with_reducible (refine cnd_t ?_; refine mv_i ?_; refine mv_i ?_; refine mv_i ?_; refine idxi_i t23 (by assumption) (by omega) ?_; refine ldi_i t23 r3 (by assumption) (by omega) ?_; refine ⟨vbi _ _, ?_⟩; refine mv_i ?_; refine mv_i ?_; refine mv_i ?_; refine idxi_i t23 (by assumption) (by omega) ?_; refine ldi_i t23 r3 (by assumption) (by omega) ?_; refine ⟨vbi _ _, ?_⟩; refine idxzi t23 (by assumption) (by omega) (by omega) ?_; refine ldi_i t23 r3 (by assumption) (by omega) ?_; refine ⟨vbi _ _, ?_⟩)
      rw [hz, Int.toNat_natCast]
      refine add_i ⟨by omega, by omega⟩ ?_
      with_reducible (refine idxi_i t23 (by assumption) (by omega) ?_)
      rw [elt_at1]
      refine stl s3 o4 n0 (by rw [c0, List.length_map]; omega) rfl rfl fun o5 => ?_
      have fz5 := fz4.set n0 (.arr ⟨(C 0).set (ks.getD j 0) (.int .i64 ((bumps cs (ks.take j)).getD (ks.getD j 0) 0 + 1)), oneE 0, false⟩)
      with_reducible (refine ⟨trivial, ?_⟩; refine mv_i ?_; refine inc_i (by omega) ?_; refine mv_i ?_)
      refine next1 hj2 ⟨_, o5, fz5, ?_, ?_⟩
      · rw [upN_self, c0, bumps_take hj2, bump, set_map]
      · rw [bumps_take hj2]
        have := bump_small hsm (ks.getD j 0)
        intro q
        have := this q
        push_cast
        omega
    · have ej : j = ks.length := by omega
      subst ej
      rw [List.take_of_length_le (Nat.le_refl _), ← htk] at c0 hsm
      with_reducible (refine cnd_f ?_; refine mv_i ?_; refine inc_i (by omega) ?_; refine mv_i ?_)
      refine next1 hkl ⟨N, C, o4, n0, c0, fun q => ?_⟩
      have := hsm q
      push_cast
      omega
  · have ek : k = ws.length := by omega
    subst ek
    rw [List.take_of_length_le (Nat.le_refl _)] at c0
    with_reducible (refine cnd_f ?_; refine mv_i ?_; refine mv_i ?_; refine ret1 ?_)
    refine ⟨p1.trans o2.pre, Only.from p1 (o2.only fun g og => ?_)⟩
    have hcl : (takenBy m ws).length = m.steps.length := takenBy_len _
    have := LS.ints og (v := .slice (some ⟨oi, 0, none⟩) m.steps.length (m.steps.length + 1)) (xs := takenBy m ws) (l := 0) (by have := LS.whole (C := C) (c := m.steps.length + 1) n0 (k := m.steps.length) (by rw [c0, List.length_map]; omega); rw [c0] at this; exact this) rfl (by omega)
    exact this
end Go.Proofs.Ytdjoednhfoligaa
