import Derived.Test.YtkgdclcmfnhbmaaMcE
set_option linter.unusedSimpArgs false
set_option linter.unusedVariables false
set_option maxRecDepth 100000
namespace Go.Proofs.Ytkgdclcmfnhbmaa
open Go.AM
variable {h h' h0 : Heap}

theorem vb_mac {m : Mac} {o : Option Addr} {l c : Nat} (s : StepsS h (.slice o l c) m.steps) : VB h.length (.agg #[.int .i64 m.states, .int .i64 m.inputs, .int .i64 m.outputs, .int .i64 m.start, .slice o l c]) := by
  intro x hx
  simp at hx
  rcases hx with rfl | rfl | rfl | rfl | rfl
  · trivial
  · trivial
  · trivial
  · trivial
  · rcases s.2 with ⟨oo, cc, e, e2, _⟩ | ⟨i, oo, cc, a, e, e1, _⟩
    · cases e
      cases oo with
      | none => trivial
      | some p => exact e2 p rfl
    · cases e
      exact (List.getElem?_eq_some_iff.mp e1).1
theorem pe_nil : aBin Try.prog .eql 119 (.pointer none) (.pointer none) = some (.bool true) := by kernel_rfl
theorem pe_some (a : Addr) : aBin Try.prog .eql 119 (.pointer (some a)) (.pointer none) = some (.bool false) := by kernel_rfl
theorem stepAt_to (l : List St) (f n : Int) : stepTo l l.length f n = stepAt l f n := rfl
theorem w_in {w : List Int} {n : Int} (hz : wErr w n 60 = 0) : w.length ≤ 60 ∧ ∀ k, k < w.length → inR (w.getD k 0) 0 (pm n) = true := by
  unfold wErr at hz
  split at hz
  · cases hz
  · split at hz
    · rename_i h1 h2
      refine ⟨by omega, fun k hk => ?_⟩
      rw [List.all_eq_true] at h2
      exact h2 _ (gd_mem 0 hk)
    · cases hz
theorem c66 {a b : Value} {m : Mac} {f : Int} {w : List Int} (s : MacV h a m) (r : Right m) (hm : (mErr m).2 = 0) (sw : IntS h b w) (hf : 0 ≤ f ∧ f < m.states) (hw : wErr w m.inputs 60 = 0) :
    DetP Try.prog 66 [a, .int .i64 f, b] h fun v h' => h <+: h' ∧ ∃ x y, v = .tuple #[x, y, .int .i64 0] ∧ IntS h' x (outsOf m f w) ∧ IntS h' y (stsOf m f w) := by
  obtain ⟨b1, b2, b3, b4, b5, b6⟩ := r.bounds
  obtain ⟨hwl, hwr⟩ := w_in hw
  rw [pm_eq b3 (by omega)] at hwr
  refine w66 ?_
  unfold n66
  obtain ⟨o, l, c, rfl, ss⟩ := s
  have lt := ss.lt
  rw [box36]
  refine ok_i rfl ?_
  have p1 := pre_new h [.int .i64 m.states, .int .i64 m.inputs, .int .i64 m.outputs, .int .i64 m.start, .slice o l c] 5
  have hb1 := newArr_get h [.int .i64 m.states, .int .i64 m.inputs, .int .i64 m.outputs, .int .i64 m.start, .slice o l c] 5
  have ss1 := ss.mono (Sub.of_pre p1)
  have sw1 := sw.mono (Sub.of_pre p1)
  generalize newArr h [.int .i64 m.states, .int .i64 m.inputs, .int .i64 m.outputs, .int .i64 m.start, .slice o l c] 5 = g0 at p1 hb1 ss1 sw1 ⊢
  (with_reducible repeat first|refine mv_i ?_|refine cnd_t ?_|refine cnd_f ?_|refine gd_tt ?_|refine gd_ff ?_|refine gd_tf ?_|refine gd_ft ?_|refine gd_u ?_|refine pick_t ?_|refine pick_f ?_|refine not_t ?_|refine not_f ?_|refine nil_i ?_|refine ret1 ?_|refine ret2 ?_|refine ret0 ?_|refine ret3 ?_|refine ex2_0 ?_|refine ex2_1 ?_|refine ex3_0 ?_|refine ex3_1 ?_|refine ex3_2 ?_)
  refine vk_i (ld36 hb1) ?_
  refine ⟨vb_mac ss1, ?_⟩
  refine calld_r (c82 (macv_of ss1)) ⟨⟨[], by simp⟩, ?_⟩
  rw [hm]
  (with_reducible repeat first|refine mv_i ?_|refine cnd_t ?_|refine cnd_f ?_|refine gd_tt ?_|refine gd_ff ?_|refine gd_tf ?_|refine gd_ft ?_|refine gd_u ?_|refine pick_t ?_|refine pick_f ?_|refine not_t ?_|refine not_f ?_|refine nil_i ?_|refine ret1 ?_|refine ret2 ?_|refine ret0 ?_|refine ret3 ?_|refine ex2_0 ?_|refine ex2_1 ?_|refine ex3_0 ?_|refine ex3_1 ?_|refine ex3_2 ?_|refine vk_i (fa36_0 _) ?_|refine vk_i (fa36_1 _) ?_|refine vk_i (fa36_2 _) ?_|refine vk_i (fa36_3 _) ?_|refine vk_i (fa36_4 _) ?_|refine vk_i (fa63_0 _) ?_|refine vk_i (fa63_1 _) ?_|refine vk_i (fa63_2 _) ?_|refine vk_i (fa63_3 _) ?_|refine ld4_0 r3 (by assumption) ?_|refine ld4_1 r3 (by assumption) ?_|refine ld4_2 r3 (by assumption) ?_|refine ld4_3 r3 (by assumption) ?_|refine ld5_0 r3 (by assumption) ?_|refine ld5_1 r3 (by assumption) ?_|refine ld5_2 r3 (by assumption) ?_|refine ld5_3 r3 (by assumption) ?_|refine ld5_4 r34 (by assumption) ?_|refine fae_i st63 (by assumption) (by omega) (by omega) ?_|refine ldf_i st63 (by assumption) (by omega) (by omega) dst ?_|refine ⟨vbi _ _, ?_⟩)
  refine subw_i ?_
  refine calld_r (c78 _ _ _) ⟨⟨[], by simp⟩, ?_⟩
  have e1 : inR f 0 (pm m.states) = true := by rw [pm_eq b1 (by omega)]; simp [inR]; omega
  rw [e1]
  refine calld_r (c83 _ _) ⟨⟨[], by simp⟩, ?_⟩
  (with_reducible repeat first|refine mv_i ?_|refine cnd_t ?_|refine cnd_f ?_|refine gd_tt ?_|refine gd_ff ?_|refine gd_tf ?_|refine gd_ft ?_|refine gd_u ?_|refine pick_t ?_|refine pick_f ?_|refine not_t ?_|refine not_f ?_|refine nil_i ?_|refine ret1 ?_|refine ret2 ?_|refine ret0 ?_|refine ret3 ?_|refine ex2_0 ?_|refine ex2_1 ?_|refine ex3_0 ?_|refine ex3_1 ?_|refine ex3_2 ?_|refine vk_i (fa36_0 _) ?_|refine vk_i (fa36_1 _) ?_|refine vk_i (fa36_2 _) ?_|refine vk_i (fa36_3 _) ?_|refine vk_i (fa36_4 _) ?_|refine vk_i (fa63_0 _) ?_|refine vk_i (fa63_1 _) ?_|refine vk_i (fa63_2 _) ?_|refine vk_i (fa63_3 _) ?_|refine ld4_0 r3 (by assumption) ?_|refine ld4_1 r3 (by assumption) ?_|refine ld4_2 r3 (by assumption) ?_|refine ld4_3 r3 (by assumption) ?_|refine ld5_0 r3 (by assumption) ?_|refine ld5_1 r3 (by assumption) ?_|refine ld5_2 r3 (by assumption) ?_|refine ld5_3 r3 (by assumption) ?_|refine ld5_4 r34 (by assumption) ?_|refine fae_i st63 (by assumption) (by omega) (by omega) ?_|refine ldf_i st63 (by assumption) (by omega) (by omega) dst ?_|refine ⟨vbi _ _, ?_⟩)
  refine calld_r (c84 sw1) ⟨⟨[], by simp⟩, ?_⟩
  rw [hw]
  refine ok_i (bs94_3 _ _ _ _) ?_
  refine calld_r (c37 (xs := [_, _, _]) (Seg.new 4 (by rfl) (by simp))) ⟨⟨[], by simp⟩, ?_⟩
  have p2 := p1.trans (pre_new g0 [.int .i64 0, .int .i64 (if true = true then 0 else 3), .int .i64 0] 1)
  have e2 : orOf [0, if true = true then 0 else 3, 0] = 0 := by rw [or3]; simp
  rw [e2]
  have hb2 := (Sub.of_pre (pre_new g0 [.int .i64 0, .int .i64 (if true = true then 0 else 3), .int .i64 0] 1)).2 _ _ hb1
  generalize newArr g0 [.int .i64 0, .int .i64 (if true = true then 0 else 3), .int .i64 0] 1 = g1 at p2 hb2 ⊢
  have ss2 := ss.mono (Sub.of_pre p2)
  have sw2 := sw.mono (Sub.of_pre p2)
  (with_reducible repeat first|refine mv_i ?_|refine cnd_t ?_|refine cnd_f ?_|refine gd_tt ?_|refine gd_ff ?_|refine gd_tf ?_|refine gd_ft ?_|refine gd_u ?_|refine pick_t ?_|refine pick_f ?_|refine not_t ?_|refine not_f ?_|refine nil_i ?_|refine ret1 ?_|refine ret2 ?_|refine ret0 ?_|refine ret3 ?_|refine ex2_0 ?_|refine ex2_1 ?_|refine ex3_0 ?_|refine ex3_1 ?_|refine ex3_2 ?_)
  refine neq_i (fun _ => ?_) (fun hne => absurd rfl hne)
  (with_reducible repeat first|refine mv_i ?_|refine cnd_t ?_|refine cnd_f ?_|refine gd_tt ?_|refine gd_ff ?_|refine gd_tf ?_|refine gd_ft ?_|refine gd_u ?_|refine pick_t ?_|refine pick_f ?_|refine not_t ?_|refine not_f ?_|refine nil_i ?_|refine ret1 ?_|refine ret2 ?_|refine ret0 ?_|refine ret3 ?_|refine ex2_0 ?_|refine ex2_1 ?_|refine ex3_0 ?_|refine ex3_1 ?_|refine ex3_2 ?_)
  refine vk_i (ld36 hb2) ?_
  refine call_i (c85 (macv_of ss2) r) ?_
  rintro _ g2 ⟨rfl, box, T⟩
  have p3 := p2.trans T.pre
  generalize hS : m.states.toNat = S at T ⊢
  generalize hI : m.inputs.toNat = I at T ⊢
  generalize hN : g1.length = N at T ⊢
  have sw3 := sw.mono (Sub.of_pre p3)
  (with_reducible repeat first|refine mv_i ?_|refine cnd_t ?_|refine cnd_f ?_|refine gd_tt ?_|refine gd_ff ?_|refine gd_tf ?_|refine gd_ft ?_|refine gd_u ?_|refine pick_t ?_|refine pick_f ?_|refine not_t ?_|refine not_f ?_|refine nil_i ?_|refine ret1 ?_|refine ret2 ?_|refine ret0 ?_|refine ret3 ?_|refine ex2_0 ?_|refine ex2_1 ?_|refine ex3_0 ?_|refine ex3_1 ?_|refine ex3_2 ?_)
  refine seq_J (fun xs h4 => ∃ x y, xs = [x, y] ∧ h <+: h4 ∧ IntS h4 x (outsOf m f w) ∧ IntS h4 y (stsOf m f w)) ?_ ?_
  · rintro _ h4 ⟨x, y, rfl, q1, q2, q3⟩ _
    (with_reducible repeat first|refine mv_i ?_|refine cnd_t ?_|refine cnd_f ?_|refine gd_tt ?_|refine gd_ff ?_|refine gd_tf ?_|refine gd_ft ?_|refine gd_u ?_|refine pick_t ?_|refine pick_f ?_|refine not_t ?_|refine not_f ?_|refine nil_i ?_|refine ret1 ?_|refine ret2 ?_|refine ret0 ?_|refine ret3 ?_|refine ex2_0 ?_|refine ex2_1 ?_|refine ex3_0 ?_|refine ex3_1 ?_|refine ex3_2 ?_)
    exact ⟨q1, x, y, rfl, q2, q3⟩
  · intro k' hk'
    (with_reducible repeat first|refine mv_i ?_|refine cnd_t ?_|refine cnd_f ?_|refine gd_tt ?_|refine gd_ff ?_|refine gd_tf ?_|refine gd_ft ?_|refine gd_u ?_|refine pick_t ?_|refine pick_f ?_|refine not_t ?_|refine not_f ?_|refine nil_i ?_|refine ret1 ?_|refine ret2 ?_|refine ret0 ?_|refine ret3 ?_|refine ex2_0 ?_|refine ex2_1 ?_|refine ex3_0 ?_|refine ex3_1 ?_|refine ex3_2 ?_)
    refine leni_i t23 sw3 ?_
    (with_reducible repeat first|refine mv_i ?_|refine cnd_t ?_|refine cnd_f ?_|refine gd_tt ?_|refine gd_ff ?_|refine gd_tf ?_|refine gd_ft ?_|refine gd_u ?_|refine pick_t ?_|refine pick_f ?_|refine not_t ?_|refine not_f ?_|refine nil_i ?_|refine ret1 ?_|refine ret2 ?_|refine ret0 ?_|refine ret3 ?_|refine ex2_0 ?_|refine ex2_1 ?_|refine ex3_0 ?_|refine ex3_1 ?_|refine ex3_2 ?_)
    refine loop4 w.length (fun k fv x y h3 => ∃ (ks : List Nat) (g : Int), fv = .int .i64 g ∧ 0 ≤ g ∧ g < m.states ∧ Walk m.steps f (w.take k) ks g ∧
      Two 1 1 g2 h3 x k (ks.map fun k => .int .i64 (m.steps.getD k dst).out) y k (ks.map fun k => .int .i64 (m.steps.getD k dst).to)) ⟨[], f, rfl, hf.1, hf.2, .nil f, Two.nil 1 1 (List.prefix_refl _)⟩ ?_
    rintro k _ x y h3 _ hk ⟨ks, g, rfl, g1', g2', hwk, tw⟩
    have sb := Sub.of_pre tw.fst.pre
    have sw4 := sw3.mono sb
    have hkl := hwk.length
    rw [List.length_take] at hkl
    have fin : takenI m.steps f w = ks → k' [x, y] h3 := by
      intro e
      refine hk' _ _ ⟨x, y, rfl, p3.trans tw.fst.pre, ?_, ?_⟩
      · unfold outsOf IntS
        rw [e, List.length_map, List.map_map]
        have := tw.fst.seg
        rwa [show k = ks.length by omega] at this
      · unfold stsOf IntS
        rw [e, List.length_map, List.map_map]
        have := tw.snd.seg
        rwa [show k = ks.length by omega] at this
    (with_reducible repeat first|refine mv_i ?_|refine cnd_t ?_|refine cnd_f ?_|refine gd_tt ?_|refine gd_ff ?_|refine gd_tf ?_|refine gd_ft ?_|refine gd_u ?_|refine pick_t ?_|refine pick_f ?_|refine not_t ?_|refine not_f ?_|refine nil_i ?_|refine ret1 ?_|refine ret2 ?_|refine ret0 ?_|refine ret3 ?_|refine ex2_0 ?_|refine ex2_1 ?_|refine ex3_0 ?_|refine ex3_1 ?_|refine ex3_2 ?_)
    refine lss_i (fun hlt => ?_) (fun hge => ?_)
    · have hk2 : k < w.length := by omega
      have hrest := hwk.rest (w.drop k)
      rw [List.take_append_drop, drop_cons' hk2] at hrest
      have hin := hwr k hk2
      simp only [inR, decide_eq_true_eq] at hin
      obtain ⟨gn, rfl⟩ : ∃ gn : Nat, g = (gn : Int) := ⟨_, (Int.toNat_of_nonneg g1').symm⟩
      obtain ⟨n, en⟩ : ∃ n : Nat, w.getD k 0 = (n : Int) := ⟨_, (Int.toNat_of_nonneg hin.1).symm⟩
      have hg : gn < S := by omega
      have hn : n < I := by omega
      have htb := sb.2 _ _ T.tb
      have hrw := sb.2 _ _ (T.rw gn hg)
      (with_reducible repeat first|refine mv_i ?_|refine cnd_t ?_|refine cnd_f ?_|refine gd_tt ?_|refine gd_ff ?_|refine gd_tf ?_|refine gd_ft ?_|refine gd_u ?_|refine pick_t ?_|refine pick_f ?_|refine not_t ?_|refine not_f ?_|refine nil_i ?_|refine ret1 ?_|refine ret2 ?_|refine ret0 ?_|refine ret3 ?_|refine ex2_0 ?_|refine ex2_1 ?_|refine ex3_0 ?_|refine ex3_1 ?_|refine ex3_2 ?_)
      refine idxi_i (k := k) t23 sw4 hk2 ?_
      refine ldi_i (k := k) t23 r3 sw4 hk2 ?_
      rw [en]
      (with_reducible repeat first|refine mv_i ?_|refine cnd_t ?_|refine cnd_f ?_|refine gd_tt ?_|refine gd_ff ?_|refine gd_tf ?_|refine gd_ft ?_|refine gd_u ?_|refine pick_t ?_|refine pick_f ?_|refine not_t ?_|refine not_f ?_|refine nil_i ?_|refine ret1 ?_|refine ret2 ?_|refine ret0 ?_|refine ret3 ?_|refine ex2_0 ?_|refine ex2_1 ?_|refine ex3_0 ?_|refine ex3_1 ?_|refine ex3_2 ?_)
      refine idx_i (k := gn) t117 (seg_range (c := S + 1) htb (by omega)) hg ?_
      refine ld_i t117 r120 (seg_range (c := S + 1) htb (by omega)) hg (y := .slice (some ⟨N + 2 + gn, 0, none⟩) I (I + 1)) (by simp [hg]) ?_
      (with_reducible repeat first|refine mv_i ?_|refine cnd_t ?_|refine cnd_f ?_|refine gd_tt ?_|refine gd_ff ?_|refine gd_tf ?_|refine gd_ft ?_|refine gd_u ?_|refine pick_t ?_|refine pick_f ?_|refine not_t ?_|refine not_f ?_|refine nil_i ?_|refine ret1 ?_|refine ret2 ?_|refine ret0 ?_|refine ret3 ?_|refine ex2_0 ?_|refine ex2_1 ?_|refine ex3_0 ?_|refine ex3_1 ?_|refine ex3_2 ?_)
      refine idx_i (k := n) t120 (seg_range (c := I + 1) hrw (by omega)) hn ?_
      refine ld_i t120 r119 (seg_range (c := I + 1) hrw (by omega)) hn (y := cellP N S m.steps m.steps.length gn n) (by simp [hn]) ?_
      unfold cellP
      rw [stepAt_to]
      rw [en] at hrest
      cases hst : stepAt m.steps (gn : Int) (n : Int) with
      | none =>
        (with_reducible repeat first|refine mv_i ?_|refine cnd_t ?_|refine cnd_f ?_|refine gd_tt ?_|refine gd_ff ?_|refine gd_tf ?_|refine gd_ft ?_|refine gd_u ?_|refine pick_t ?_|refine pick_f ?_|refine not_t ?_|refine not_f ?_|refine nil_i ?_|refine ret1 ?_|refine ret2 ?_|refine ret0 ?_|refine ret3 ?_|refine ex2_0 ?_|refine ex2_1 ?_|refine ex3_0 ?_|refine ex3_1 ?_|refine ex3_2 ?_)
        refine vk_i pe_nil ?_
        (with_reducible repeat first|refine mv_i ?_|refine cnd_t ?_|refine cnd_f ?_|refine gd_tt ?_|refine gd_ff ?_|refine gd_tf ?_|refine gd_ft ?_|refine gd_u ?_|refine pick_t ?_|refine pick_f ?_|refine not_t ?_|refine not_f ?_|refine nil_i ?_|refine ret1 ?_|refine ret2 ?_|refine ret0 ?_|refine ret3 ?_|refine ex2_0 ?_|refine ex2_1 ?_|refine ex3_0 ?_|refine ex3_1 ?_|refine ex3_2 ?_)
        refine fin ?_
        rw [hrest]; simp only [takenI, hst, List.append_nil]
      | some j =>
        obtain ⟨hj, _⟩ := stepAt_lt hst
        obtain ⟨q1, q2, q3, q4, q5, q6⟩ := r.st hj
        have hob : h3[N + 2 + S + j]? = some (.arr ⟨[.int .i64 (m.steps.getD j dst).fr, .int .i64 (m.steps.getD j dst).inp, .int .i64 (m.steps.getD j dst).out, .int .i64 (m.steps.getD j dst).to], 4, false⟩) := sb.2 _ _ (T.ob j hj)
        (with_reducible repeat first|refine mv_i ?_|refine cnd_t ?_|refine cnd_f ?_|refine gd_tt ?_|refine gd_ff ?_|refine gd_tf ?_|refine gd_ft ?_|refine gd_u ?_|refine pick_t ?_|refine pick_f ?_|refine not_t ?_|refine not_f ?_|refine nil_i ?_|refine ret1 ?_|refine ret2 ?_|refine ret0 ?_|refine ret3 ?_|refine ex2_0 ?_|refine ex2_1 ?_|refine ex3_0 ?_|refine ex3_1 ?_|refine ex3_2 ?_)
        refine vk_i (pe_some _) ?_
        (with_reducible repeat first|refine mv_i ?_|refine cnd_t ?_|refine cnd_f ?_|refine gd_tt ?_|refine gd_ff ?_|refine gd_tf ?_|refine gd_ft ?_|refine gd_u ?_|refine pick_t ?_|refine pick_f ?_|refine not_t ?_|refine not_f ?_|refine nil_i ?_|refine ret1 ?_|refine ret2 ?_|refine ret0 ?_|refine ret3 ?_|refine ex2_0 ?_|refine ex2_1 ?_|refine ex3_0 ?_|refine ex3_1 ?_|refine ex3_2 ?_|refine vk_i (fa36_0 _) ?_|refine vk_i (fa36_1 _) ?_|refine vk_i (fa36_2 _) ?_|refine vk_i (fa36_3 _) ?_|refine vk_i (fa36_4 _) ?_|refine vk_i (fa63_0 _) ?_|refine vk_i (fa63_1 _) ?_|refine vk_i (fa63_2 _) ?_|refine vk_i (fa63_3 _) ?_|refine ld4_0 r3 (by assumption) ?_|refine ld4_1 r3 (by assumption) ?_|refine ld4_2 r3 (by assumption) ?_|refine ld4_3 r3 (by assumption) ?_|refine ld5_0 r3 (by assumption) ?_|refine ld5_1 r3 (by assumption) ?_|refine ld5_2 r3 (by assumption) ?_|refine ld5_3 r3 (by assumption) ?_|refine ld5_4 r34 (by assumption) ?_|refine fae_i st63 (by assumption) (by omega) (by omega) ?_|refine ldf_i st63 (by assumption) (by omega) (by omega) dst ?_|refine ⟨vbi _ _, ?_⟩)
        refine ok_i (bs23_1 _ _) ?_
        have tw4 := tw.ext (pre_new h3 [.int .i64 (m.steps.getD j dst).out] 1)
        refine app_i t23 tw4.fst (Seg.new (n := 1) 2 (by simp) (by omega)) (by simp [Value.oneCell']) (by omega) ⟨by omega, by omega⟩ fun x' h5 o5 s5 => ?_
        have tw5 := tw4.app o5 s5
        (with_reducible repeat first|refine mv_i ?_|refine cnd_t ?_|refine cnd_f ?_|refine gd_tt ?_|refine gd_ff ?_|refine gd_tf ?_|refine gd_ft ?_|refine gd_u ?_|refine pick_t ?_|refine pick_f ?_|refine not_t ?_|refine not_f ?_|refine nil_i ?_|refine ret1 ?_|refine ret2 ?_|refine ret0 ?_|refine ret3 ?_|refine ex2_0 ?_|refine ex2_1 ?_|refine ex3_0 ?_|refine ex3_1 ?_|refine ex3_2 ?_)
        refine ok_i (bs23_1 _ _) ?_
        have tw6 := (tw5.ext (pre_new h5 [.int .i64 (m.steps.getD j dst).to] 1)).symm
        refine app_i t23 tw6.fst (Seg.new (n := 1) 2 (by simp) (by omega)) (by simp [Value.oneCell']) (by omega) ⟨by omega, by omega⟩ fun y' h7 o7 s7 => ?_
        have tw7 := (tw6.app o7 s7).symm
        (with_reducible repeat first|refine mv_i ?_|refine cnd_t ?_|refine cnd_f ?_|refine gd_tt ?_|refine gd_ff ?_|refine gd_tf ?_|refine gd_ft ?_|refine gd_u ?_|refine pick_t ?_|refine pick_f ?_|refine not_t ?_|refine not_f ?_|refine nil_i ?_|refine ret1 ?_|refine ret2 ?_|refine ret0 ?_|refine ret3 ?_|refine ex2_0 ?_|refine ex2_1 ?_|refine ex3_0 ?_|refine ex3_1 ?_|refine ex3_2 ?_)
        refine inc_i (by omega) ?_
        (with_reducible repeat first|refine mv_i ?_|refine cnd_t ?_|refine cnd_f ?_|refine gd_tt ?_|refine gd_ff ?_|refine gd_tf ?_|refine gd_ft ?_|refine gd_u ?_|refine pick_t ?_|refine pick_f ?_|refine not_t ?_|refine not_f ?_|refine nil_i ?_|refine ret1 ?_|refine ret2 ?_|refine ret0 ?_|refine ret3 ?_|refine ex2_0 ?_|refine ex2_1 ?_|refine ex3_0 ?_|refine ex3_1 ?_|refine ex3_2 ?_)
        refine next4 hk2 ⟨ks ++ [j], _, rfl, q3, q4, ?_, ?_⟩
        · rw [take_gd 0 hk2, en]
          exact .snoc hwk hst
        · simpa using tw7
    · have ek : k = w.length := by omega
      subst ek
      have hrest := hwk.rest []
      rw [List.take_of_length_le (Nat.le_refl _)] at hrest
      (with_reducible repeat first|refine mv_i ?_|refine cnd_t ?_|refine cnd_f ?_|refine gd_tt ?_|refine gd_ff ?_|refine gd_tf ?_|refine gd_ft ?_|refine gd_u ?_|refine pick_t ?_|refine pick_f ?_|refine not_t ?_|refine not_f ?_|refine nil_i ?_|refine ret1 ?_|refine ret2 ?_|refine ret0 ?_|refine ret3 ?_|refine ex2_0 ?_|refine ex2_1 ?_|refine ex3_0 ?_|refine ex3_1 ?_|refine ex3_2 ?_)
      exact fin (by simpa [takenI] using hrest)
theorem c67 {a b : Value} {xs ys : List Int} (s : IntS h a xs) (s2 : IntS h b ys) : Runs Try.prog 67 [a, b] h (.bool (decide (xs = ys))) h := by
  have lt := s.lt
  have lt2 := s2.lt
  refine DetP.runs (w67 ?_)
  unfold n67
  (with_reducible repeat first|refine mv_i ?_|refine cnd_t ?_|refine cnd_f ?_|refine gd_tt ?_|refine gd_ff ?_|refine gd_tf ?_|refine gd_ft ?_|refine gd_u ?_|refine pick_t ?_|refine pick_f ?_|refine not_t ?_|refine not_f ?_|refine nil_i ?_|refine ret1 ?_|refine ret2 ?_|refine ret0 ?_|refine ret3 ?_|refine ex2_0 ?_|refine ex2_1 ?_|refine ex3_0 ?_|refine ex3_1 ?_|refine ex3_2 ?_)
  refine leni_i t23 s ?_
  (with_reducible repeat first|refine mv_i ?_|refine cnd_t ?_|refine cnd_f ?_|refine gd_tt ?_|refine gd_ff ?_|refine gd_tf ?_|refine gd_ft ?_|refine gd_u ?_|refine pick_t ?_|refine pick_f ?_|refine not_t ?_|refine not_f ?_|refine nil_i ?_|refine ret1 ?_|refine ret2 ?_|refine ret0 ?_|refine ret3 ?_|refine ex2_0 ?_|refine ex2_1 ?_|refine ex3_0 ?_|refine ex3_1 ?_|refine ex3_2 ?_)
  refine leni_i t23 s2 ?_
  refine neq_i (fun hl => ?_) (fun hl => ?_)
  · (with_reducible repeat first|refine mv_i ?_|refine cnd_t ?_|refine cnd_f ?_|refine gd_tt ?_|refine gd_ff ?_|refine gd_tf ?_|refine gd_ft ?_|refine gd_u ?_|refine pick_t ?_|refine pick_f ?_|refine not_t ?_|refine not_f ?_|refine nil_i ?_|refine ret1 ?_|refine ret2 ?_|refine ret0 ?_|refine ret3 ?_|refine ex2_0 ?_|refine ex2_1 ?_|refine ex3_0 ?_|refine ex3_1 ?_|refine ex3_2 ?_)
    refine leni_i t23 s ?_
    (with_reducible repeat first|refine mv_i ?_|refine cnd_t ?_|refine cnd_f ?_|refine gd_tt ?_|refine gd_ff ?_|refine gd_tf ?_|refine gd_ft ?_|refine gd_u ?_|refine pick_t ?_|refine pick_f ?_|refine not_t ?_|refine not_f ?_|refine nil_i ?_|refine ret1 ?_|refine ret2 ?_|refine ret0 ?_|refine ret3 ?_|refine ex2_0 ?_|refine ex2_1 ?_|refine ex3_0 ?_|refine ex3_1 ?_|refine ex3_2 ?_)
    refine loop1 xs.length (fun k h2 => h2 = h ∧ ∀ j, j < k → xs.getD j 0 = ys.getD j 0) ⟨rfl, fun j hj => by omega⟩ ?_
    rintro k _ _ hk ⟨rfl, hJ⟩
    (with_reducible repeat first|refine mv_i ?_|refine cnd_t ?_|refine cnd_f ?_|refine gd_tt ?_|refine gd_ff ?_|refine gd_tf ?_|refine gd_ft ?_|refine gd_u ?_|refine pick_t ?_|refine pick_f ?_|refine not_t ?_|refine not_f ?_|refine nil_i ?_|refine ret1 ?_|refine ret2 ?_|refine ret0 ?_|refine ret3 ?_|refine ex2_0 ?_|refine ex2_1 ?_|refine ex3_0 ?_|refine ex3_1 ?_|refine ex3_2 ?_)
    refine lss_i (fun hlt => ?_) (fun hge => ?_)
    · (with_reducible repeat first|refine mv_i ?_|refine cnd_t ?_|refine cnd_f ?_|refine gd_tt ?_|refine gd_ff ?_|refine gd_tf ?_|refine gd_ft ?_|refine gd_u ?_|refine pick_t ?_|refine pick_f ?_|refine not_t ?_|refine not_f ?_|refine nil_i ?_|refine ret1 ?_|refine ret2 ?_|refine ret0 ?_|refine ret3 ?_|refine ex2_0 ?_|refine ex2_1 ?_|refine ex3_0 ?_|refine ex3_1 ?_|refine ex3_2 ?_)
      refine idxi_i (k := k) t23 s (by omega) ?_
      refine ldi_i (k := k) t23 r3 s (by omega) ?_
      refine ⟨trivial, ?_⟩
      (with_reducible repeat first|refine mv_i ?_|refine cnd_t ?_|refine cnd_f ?_|refine gd_tt ?_|refine gd_ff ?_|refine gd_tf ?_|refine gd_ft ?_|refine gd_u ?_|refine pick_t ?_|refine pick_f ?_|refine not_t ?_|refine not_f ?_|refine nil_i ?_|refine ret1 ?_|refine ret2 ?_|refine ret0 ?_|refine ret3 ?_|refine ex2_0 ?_|refine ex2_1 ?_|refine ex3_0 ?_|refine ex3_1 ?_|refine ex3_2 ?_)
      refine idxi_i (k := k) t23 s2 (by omega) ?_
      refine ldi_i (k := k) t23 r3 s2 (by omega) ?_
      refine ⟨trivial, ?_⟩
      refine neq_i (fun he => ?_) (fun he => ?_)
      · (with_reducible repeat first|refine mv_i ?_|refine cnd_t ?_|refine cnd_f ?_|refine gd_tt ?_|refine gd_ff ?_|refine gd_tf ?_|refine gd_ft ?_|refine gd_u ?_|refine pick_t ?_|refine pick_f ?_|refine not_t ?_|refine not_f ?_|refine nil_i ?_|refine ret1 ?_|refine ret2 ?_|refine ret0 ?_|refine ret3 ?_|refine ex2_0 ?_|refine ex2_1 ?_|refine ex3_0 ?_|refine ex3_1 ?_|refine ex3_2 ?_)
        refine inc_i (by omega) ?_
        (with_reducible repeat first|refine mv_i ?_|refine cnd_t ?_|refine cnd_f ?_|refine gd_tt ?_|refine gd_ff ?_|refine gd_tf ?_|refine gd_ft ?_|refine gd_u ?_|refine pick_t ?_|refine pick_f ?_|refine not_t ?_|refine not_f ?_|refine nil_i ?_|refine ret1 ?_|refine ret2 ?_|refine ret0 ?_|refine ret3 ?_|refine ex2_0 ?_|refine ex2_1 ?_|refine ex3_0 ?_|refine ex3_1 ?_|refine ex3_2 ?_)
        refine next1 (by omega) ⟨rfl, fun j hj => ?_⟩
        by_cases q : j = k
        · subst q; exact he
        · exact hJ j (by omega)
      · (with_reducible repeat first|refine mv_i ?_|refine cnd_t ?_|refine cnd_f ?_|refine gd_tt ?_|refine gd_ff ?_|refine gd_tf ?_|refine gd_ft ?_|refine gd_u ?_|refine pick_t ?_|refine pick_f ?_|refine not_t ?_|refine not_f ?_|refine nil_i ?_|refine ret1 ?_|refine ret2 ?_|refine ret0 ?_|refine ret3 ?_|refine ex2_0 ?_|refine ex2_1 ?_|refine ex3_0 ?_|refine ex3_1 ?_|refine ex3_2 ?_)
        refine ⟨?_, rfl⟩
        have : ¬ xs = ys := fun e => he (by rw [e])
        simp [this]
    · (with_reducible repeat first|refine mv_i ?_|refine cnd_t ?_|refine cnd_f ?_|refine gd_tt ?_|refine gd_ff ?_|refine gd_tf ?_|refine gd_ft ?_|refine gd_u ?_|refine pick_t ?_|refine pick_f ?_|refine not_t ?_|refine not_f ?_|refine nil_i ?_|refine ret1 ?_|refine ret2 ?_|refine ret0 ?_|refine ret3 ?_|refine ex2_0 ?_|refine ex2_1 ?_|refine ex3_0 ?_|refine ex3_1 ?_|refine ex3_2 ?_)
      refine ⟨?_, rfl⟩
      have : xs = ys := by
        refine List.ext_getElem (by omega) fun j h1 h2 => ?_
        have := hJ j (by omega)
        rw [gd_at 0 h1, gd_at 0 h2] at this
        exact this
      simp [this]
  · (with_reducible repeat first|refine mv_i ?_|refine cnd_t ?_|refine cnd_f ?_|refine gd_tt ?_|refine gd_ff ?_|refine gd_tf ?_|refine gd_ft ?_|refine gd_u ?_|refine pick_t ?_|refine pick_f ?_|refine not_t ?_|refine not_f ?_|refine nil_i ?_|refine ret1 ?_|refine ret2 ?_|refine ret0 ?_|refine ret3 ?_|refine ex2_0 ?_|refine ex2_1 ?_|refine ex3_0 ?_|refine ex3_1 ?_|refine ex3_2 ?_)
    refine ⟨?_, rfl⟩
    have : ¬ xs = ys := fun e => hl (by rw [e])
    simp [this]
end Go.Proofs.Ytkgdclcmfnhbmaa
