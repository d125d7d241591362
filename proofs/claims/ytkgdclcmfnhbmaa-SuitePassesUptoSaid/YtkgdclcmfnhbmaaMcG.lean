import Derived.Test.YtkgdclcmfnhbmaaMcF
import Derived.Test.YtkgdclcmfnhbmaaSpA
set_option linter.unusedSimpArgs false
set_option linter.unusedVariables false
set_option maxRecDepth 100000
namespace Go.Proofs.Ytkgdclcmfnhbmaa
open Go.AM
variable {h h' h0 : Heap}

/-! ### words for which machines differ -/
def difAt (m1 m2 : Mac) (ws : List (List Int)) (i : Nat) : Option Nat := if outsOf m1 m1.start (ws.getD i []) = outsOf m2 m2.start (ws.getD i []) then none else some i
def passN (m1 m2 : Mac) (ws : List (List Int)) : Nat := (firstOf (difAt m1 m2 ws) ws.length).getD ws.length
theorem pass_all {m1 m2 : Mac} {ws : List (List Int)} (hJ : ∀ j, j < ws.length → difAt m1 m2 ws j = none) : passN m1 m2 ws = ws.length := by unfold passN; rw [firstOf_none hJ]; rfl
theorem pass_at {m1 m2 : Mac} {ws : List (List Int)} {k : Nat} (hJ : ∀ j, j < k → difAt m1 m2 ws j = none) (hk : k < ws.length) (hd : ¬ outsOf m1 m1.start (ws.getD k []) = outsOf m2 m2.start (ws.getD k [])) : passN m1 m2 ws = k := by
  unfold passN; rw [firstOf_some hJ hk (e := k) (by unfold difAt; exact if_neg hd)]; rfl
theorem pass_le (m1 m2 : Mac) (ws : List (List Int)) : passN m1 m2 ws ≤ ws.length := by
  unfold passN
  cases hf : firstOf (difAt m1 m2 ws) ws.length with
  | none => exact Nat.le_refl _
  | some k =>
    obtain ⟨j, hj, hd⟩ := firstOf_is hf
    unfold difAt at hd
    split at hd
    · cases hd
    · cases hd; exact Nat.le_of_lt hj
theorem c48 {a b c : Value} {m1 m2 : Mac} {ws : List (List Int)} (s1 : MacV h a m1) (s2 : MacV h b m2) (sw : RowsS h c ws) (e1 : (mErr m1).2 = 0) (e2 : (mErr m2).2 = 0)
    (hw1 : ∀ w ∈ ws, wErr w m1.inputs 60 = 0) (hw2 : ∀ w ∈ ws, wErr w m2.inputs 60 = 0) : Runs Try.prog 48 [a, b, c] h (.int .i64 (passN m1 m2 ws : Nat)) h := by
  have r1 := right_of e1
  have r2 := right_of e2
  have hst1 := r1.bounds
  have hst2 := r2.bounds
  have lt := sw.lt
  refine DetP.forget rfl ?_
  refine w48 ?_
  unfold n48
  obtain ⟨o, l, cc, rfl, ss1⟩ := s1
  obtain ⟨o', l', cc', rfl, ss2⟩ := s2
  rw [box36]
  refine ok_i rfl ?_
  have p1 := pre_new h [.int .i64 m1.states, .int .i64 m1.inputs, .int .i64 m1.outputs, .int .i64 m1.start, .slice o l cc] 5
  have hb1 := newArr_get h [.int .i64 m1.states, .int .i64 m1.inputs, .int .i64 m1.outputs, .int .i64 m1.start, .slice o l cc] 5
  generalize newArr h [.int .i64 m1.states, .int .i64 m1.inputs, .int .i64 m1.outputs, .int .i64 m1.start, .slice o l cc] 5 = g1 at p1 hb1 ⊢
  rw [box36]
  refine ok_i rfl ?_
  have p2 := pre_new g1 [.int .i64 m2.states, .int .i64 m2.inputs, .int .i64 m2.outputs, .int .i64 m2.start, .slice o' l' cc'] 5
  have hb2 := newArr_get g1 [.int .i64 m2.states, .int .i64 m2.inputs, .int .i64 m2.outputs, .int .i64 m2.start, .slice o' l' cc'] 5
  have hb12 := (Sub.of_pre p2).2 _ _ hb1
  generalize newArr g1 [.int .i64 m2.states, .int .i64 m2.inputs, .int .i64 m2.outputs, .int .i64 m2.start, .slice o' l' cc'] 5 = g2 at p2 hb2 hb12 ⊢
  have p12 := p1.trans p2
  have sw2 := sw.mono (Sub.of_pre p12)
  (with_reducible repeat first|refine mv_i ?_|refine cnd_t ?_|refine cnd_f ?_|refine gd_tt ?_|refine gd_ff ?_|refine gd_tf ?_|refine gd_ft ?_|refine gd_u ?_|refine pick_t ?_|refine pick_f ?_|refine not_t ?_|refine not_f ?_|refine nil_i ?_|refine ret1 ?_|refine ret2 ?_|refine ret0 ?_|refine ret3 ?_|refine ex2_0 ?_|refine ex2_1 ?_|refine ex3_0 ?_|refine ex3_1 ?_|refine ex3_2 ?_)
  refine lenr_i t22 sw2 ?_
  (with_reducible repeat first|refine mv_i ?_|refine cnd_t ?_|refine cnd_f ?_|refine gd_tt ?_|refine gd_ff ?_|refine gd_tf ?_|refine gd_ft ?_|refine gd_u ?_|refine pick_t ?_|refine pick_f ?_|refine not_t ?_|refine not_f ?_|refine nil_i ?_|refine ret1 ?_|refine ret2 ?_|refine ret0 ?_|refine ret3 ?_|refine ex2_0 ?_|refine ex2_1 ?_|refine ex3_0 ?_|refine ex3_1 ?_|refine ex3_2 ?_)
  refine loop1 ws.length (fun k h2 => g2 <+: h2 ∧ ∀ j, j < k → difAt m1 m2 ws j = none) ⟨List.prefix_refl _, fun j hj => by omega⟩ ?_
  rintro k h2 _ hk ⟨p3, hJ⟩
  have sw3 := sw2.mono (Sub.of_pre p3)
  have hb13 := (Sub.of_pre p3).2 _ _ hb12
  have hb23 := (Sub.of_pre p3).2 _ _ hb2
  (with_reducible repeat first|refine mv_i ?_|refine cnd_t ?_|refine cnd_f ?_|refine gd_tt ?_|refine gd_ff ?_|refine gd_tf ?_|refine gd_ft ?_|refine gd_u ?_|refine pick_t ?_|refine pick_f ?_|refine not_t ?_|refine not_f ?_|refine nil_i ?_|refine ret1 ?_|refine ret2 ?_|refine ret0 ?_|refine ret3 ?_|refine ex2_0 ?_|refine ex2_1 ?_|refine ex3_0 ?_|refine ex3_1 ?_|refine ex3_2 ?_)
  refine lss_i (fun hlt => ?_) (fun hge => ?_)
  · have hk2 : k < ws.length := by omega
    have hwk := hw1 _ (gd_mem [] hk2)
    have hwk2 := hw2 _ (gd_mem [] hk2)
    (with_reducible repeat first|refine mv_i ?_|refine cnd_t ?_|refine cnd_f ?_|refine gd_tt ?_|refine gd_ff ?_|refine gd_tf ?_|refine gd_ft ?_|refine gd_u ?_|refine pick_t ?_|refine pick_f ?_|refine not_t ?_|refine not_f ?_|refine nil_i ?_|refine ret1 ?_|refine ret2 ?_|refine ret0 ?_|refine ret3 ?_|refine ex2_0 ?_|refine ex2_1 ?_|refine ex3_0 ?_|refine ex3_1 ?_|refine ex3_2 ?_)
    refine idxr_i (k := k) t22 sw3 hk2 ?_
    refine ldr_i (k := k) t22 r23 sw3 hk2 fun r hr => ?_
    (with_reducible repeat first|refine mv_i ?_|refine cnd_t ?_|refine cnd_f ?_|refine gd_tt ?_|refine gd_ff ?_|refine gd_tf ?_|refine gd_ft ?_|refine gd_u ?_|refine pick_t ?_|refine pick_f ?_|refine not_t ?_|refine not_f ?_|refine nil_i ?_|refine ret1 ?_|refine ret2 ?_|refine ret0 ?_|refine ret3 ?_|refine ex2_0 ?_|refine ex2_1 ?_|refine ex3_0 ?_|refine ex3_1 ?_|refine ex3_2 ?_)
    refine vk_i (ld36 hb13) ?_
    (with_reducible repeat first|refine mv_i ?_|refine cnd_t ?_|refine cnd_f ?_|refine gd_tt ?_|refine gd_ff ?_|refine gd_tf ?_|refine gd_ft ?_|refine gd_u ?_|refine pick_t ?_|refine pick_f ?_|refine not_t ?_|refine not_f ?_|refine nil_i ?_|refine ret1 ?_|refine ret2 ?_|refine ret0 ?_|refine ret3 ?_|refine ex2_0 ?_|refine ex2_1 ?_|refine ex3_0 ?_|refine ex3_1 ?_|refine ex3_2 ?_|refine vk_i (fa36_0 _) ?_|refine vk_i (fa36_1 _) ?_|refine vk_i (fa36_2 _) ?_|refine vk_i (fa36_3 _) ?_|refine vk_i (fa36_4 _) ?_|refine vk_i (fa63_0 _) ?_|refine vk_i (fa63_1 _) ?_|refine vk_i (fa63_2 _) ?_|refine vk_i (fa63_3 _) ?_|refine ld4_0 r3 (by assumption) ?_|refine ld4_1 r3 (by assumption) ?_|refine ld4_2 r3 (by assumption) ?_|refine ld4_3 r3 (by assumption) ?_|refine ld5_0 r3 (by assumption) ?_|refine ld5_1 r3 (by assumption) ?_|refine ld5_2 r3 (by assumption) ?_|refine ld5_3 r3 (by assumption) ?_|refine ld5_4 r34 (by assumption) ?_|refine fae_i st63 (by assumption) (by omega) (by omega) ?_|refine ldf_i st63 (by assumption) (by omega) (by omega) dst ?_|refine ⟨vbi _ _, ?_⟩)
    have ssa := ss1.mono (Sub.of_pre (p12.trans p3))
    refine call_i (c66 (macv_of ssa) r1 e1 hr ⟨by omega, by omega⟩ hwk) ?_
    rintro _ h3 ⟨p4, x1, y1, rfl, sx1, _⟩
    have hb24 := (Sub.of_pre p4).2 _ _ hb23
    (with_reducible repeat first|refine mv_i ?_|refine cnd_t ?_|refine cnd_f ?_|refine gd_tt ?_|refine gd_ff ?_|refine gd_tf ?_|refine gd_ft ?_|refine gd_u ?_|refine pick_t ?_|refine pick_f ?_|refine not_t ?_|refine not_f ?_|refine nil_i ?_|refine ret1 ?_|refine ret2 ?_|refine ret0 ?_|refine ret3 ?_|refine ex2_0 ?_|refine ex2_1 ?_|refine ex3_0 ?_|refine ex3_1 ?_|refine ex3_2 ?_)
    refine vk_i (ld36 hb24) ?_
    (with_reducible repeat first|refine mv_i ?_|refine cnd_t ?_|refine cnd_f ?_|refine gd_tt ?_|refine gd_ff ?_|refine gd_tf ?_|refine gd_ft ?_|refine gd_u ?_|refine pick_t ?_|refine pick_f ?_|refine not_t ?_|refine not_f ?_|refine nil_i ?_|refine ret1 ?_|refine ret2 ?_|refine ret0 ?_|refine ret3 ?_|refine ex2_0 ?_|refine ex2_1 ?_|refine ex3_0 ?_|refine ex3_1 ?_|refine ex3_2 ?_|refine vk_i (fa36_0 _) ?_|refine vk_i (fa36_1 _) ?_|refine vk_i (fa36_2 _) ?_|refine vk_i (fa36_3 _) ?_|refine vk_i (fa36_4 _) ?_|refine vk_i (fa63_0 _) ?_|refine vk_i (fa63_1 _) ?_|refine vk_i (fa63_2 _) ?_|refine vk_i (fa63_3 _) ?_|refine ld4_0 r3 (by assumption) ?_|refine ld4_1 r3 (by assumption) ?_|refine ld4_2 r3 (by assumption) ?_|refine ld4_3 r3 (by assumption) ?_|refine ld5_0 r3 (by assumption) ?_|refine ld5_1 r3 (by assumption) ?_|refine ld5_2 r3 (by assumption) ?_|refine ld5_3 r3 (by assumption) ?_|refine ld5_4 r34 (by assumption) ?_|refine fae_i st63 (by assumption) (by omega) (by omega) ?_|refine ldf_i st63 (by assumption) (by omega) (by omega) dst ?_|refine ⟨vbi _ _, ?_⟩)
    have ssb := ss2.mono (Sub.of_pre ((p12.trans p3).trans p4))
    refine call_i (c66 (macv_of ssb) r2 e2 (hr.mono (Sub.of_pre p4)) ⟨by omega, by omega⟩ hwk2) ?_
    rintro _ h4 ⟨p5, x2, y2, rfl, sx2, _⟩
    (with_reducible repeat first|refine mv_i ?_|refine cnd_t ?_|refine cnd_f ?_|refine gd_tt ?_|refine gd_ff ?_|refine gd_tf ?_|refine gd_ft ?_|refine gd_u ?_|refine pick_t ?_|refine pick_f ?_|refine not_t ?_|refine not_f ?_|refine nil_i ?_|refine ret1 ?_|refine ret2 ?_|refine ret0 ?_|refine ret3 ?_|refine ex2_0 ?_|refine ex2_1 ?_|refine ex3_0 ?_|refine ex3_1 ?_|refine ex3_2 ?_)
    refine call_r (c67 (sx1.mono (Sub.of_pre p5)) sx2) ?_
    by_cases hd : outsOf m1 m1.start (ws.getD k []) = outsOf m2 m2.start (ws.getD k [])
    · rw [decide_eq_true hd]
      (with_reducible repeat first|refine mv_i ?_|refine cnd_t ?_|refine cnd_f ?_|refine gd_tt ?_|refine gd_ff ?_|refine gd_tf ?_|refine gd_ft ?_|refine gd_u ?_|refine pick_t ?_|refine pick_f ?_|refine not_t ?_|refine not_f ?_|refine nil_i ?_|refine ret1 ?_|refine ret2 ?_|refine ret0 ?_|refine ret3 ?_|refine ex2_0 ?_|refine ex2_1 ?_|refine ex3_0 ?_|refine ex3_1 ?_|refine ex3_2 ?_)
      refine inc_i (by omega) ?_
      (with_reducible repeat first|refine mv_i ?_|refine cnd_t ?_|refine cnd_f ?_|refine gd_tt ?_|refine gd_ff ?_|refine gd_tf ?_|refine gd_ft ?_|refine gd_u ?_|refine pick_t ?_|refine pick_f ?_|refine not_t ?_|refine not_f ?_|refine nil_i ?_|refine ret1 ?_|refine ret2 ?_|refine ret0 ?_|refine ret3 ?_|refine ex2_0 ?_|refine ex2_1 ?_|refine ex3_0 ?_|refine ex3_1 ?_|refine ex3_2 ?_)
      refine next1 hk2 ⟨(p3.trans p4).trans p5, fun j hj => ?_⟩
      by_cases q : j = k
      · subst q; unfold difAt; exact if_pos hd
      · exact hJ j (by omega)
    · rw [decide_eq_false hd]
      (with_reducible repeat first|refine mv_i ?_|refine cnd_t ?_|refine cnd_f ?_|refine gd_tt ?_|refine gd_ff ?_|refine gd_tf ?_|refine gd_ft ?_|refine gd_u ?_|refine pick_t ?_|refine pick_f ?_|refine not_t ?_|refine not_f ?_|refine nil_i ?_|refine ret1 ?_|refine ret2 ?_|refine ret0 ?_|refine ret3 ?_|refine ex2_0 ?_|refine ex2_1 ?_|refine ex3_0 ?_|refine ex3_1 ?_|refine ex3_2 ?_)
      exact ⟨by rw [pass_at hJ hk2 hd], ((p12.trans p3).trans p4).trans p5⟩
  · (with_reducible repeat first|refine mv_i ?_|refine cnd_t ?_|refine cnd_f ?_|refine gd_tt ?_|refine gd_ff ?_|refine gd_tf ?_|refine gd_ft ?_|refine gd_u ?_|refine pick_t ?_|refine pick_f ?_|refine not_t ?_|refine not_f ?_|refine nil_i ?_|refine ret1 ?_|refine ret2 ?_|refine ret0 ?_|refine ret3 ?_|refine ex2_0 ?_|refine ex2_1 ?_|refine ex3_0 ?_|refine ex3_1 ?_|refine ex3_2 ?_)
    refine lenr_i t22 sw3 ?_
    (with_reducible repeat first|refine mv_i ?_|refine cnd_t ?_|refine cnd_f ?_|refine gd_tt ?_|refine gd_ff ?_|refine gd_tf ?_|refine gd_ft ?_|refine gd_u ?_|refine pick_t ?_|refine pick_f ?_|refine not_t ?_|refine not_f ?_|refine nil_i ?_|refine ret1 ?_|refine ret2 ?_|refine ret0 ?_|refine ret3 ?_|refine ex2_0 ?_|refine ex2_1 ?_|refine ex3_0 ?_|refine ex3_1 ?_|refine ex3_2 ?_)
    exact ⟨by rw [pass_all (fun j hj => hJ j (by omega))], p12.trans p3⟩

/-! ### Passes -/
def code4 (a b c d : Int) : Int := if a = 0 then (if b = 0 then (if c = 0 then d else c) else b) else a
theorem or4 (a b c d : Int) : orOf [a, b, c, d] = code4 a b c d := by
  have e : List.range 4 = [0, 1, 2, 3] := rfl
  simp only [orOf, List.length_cons, List.length_nil, firstOf, nz, code4]
  by_cases ha : a = 0 <;> by_cases hb : b = 0 <;> by_cases hc : c = 0 <;> by_cases hd : d = 0 <;> simp [ha, hb, hc, hd, e]
theorem bs94_4 (a b c d : Int) (h : Heap) : aBuildSlice Try.prog 94 4 [(0, .int .i64 a), (1, .int .i64 b), (2, .int .i64 c), (3, .int .i64 d)] h = some (.slice (some ⟨h.length, 0, none⟩) 4 5, newArr h [.int .i64 a, .int .i64 b, .int .i64 c, .int .i64 d] 1) := by kernel_rfl
def pCode (m1 m2 : Mac) (ws : List (List Int)) : Int := code4 (mErr m1).2 (mErr m2).2 (if m1.inputs = m2.inputs then 0 else 6) (sErr ws m1.inputs)
structure Good (m1 m2 : Mac) (ws : List (List Int)) : Prop where
  e1 : (mErr m1).2 = 0
  e2 : (mErr m2).2 = 0
  inp : m1.inputs = m2.inputs
  se : sErr ws m1.inputs = 0
theorem good_of {m1 m2 : Mac} {ws : List (List Int)} (hz : pCode m1 m2 ws = 0) : Good m1 m2 ws := by
  unfold pCode code4 at hz
  by_cases h1 : (mErr m1).2 = 0
  · rw [if_pos h1] at hz
    by_cases h2 : (mErr m2).2 = 0
    · rw [if_pos h2] at hz
      by_cases h3 : m1.inputs = m2.inputs
      · rw [if_pos h3, if_pos rfl] at hz
        exact ⟨h1, h2, h3, hz⟩
      · rw [if_neg h3, if_neg (by omega)] at hz
        omega
    · rw [if_neg h2] at hz; exact absurd hz h2
  · rw [if_neg h1] at hz; exact absurd hz h1
theorem s_words {ws : List (List Int)} {n : Int} (hz : sErr ws n = 0) : ∀ w ∈ ws, wErr w n 60 = 0 := by
  unfold sErr at hz
  split at hz
  · cases hz
  · intro w hw
    obtain ⟨j, hj, rfl⟩ := mem_gd [] hw
    cases hf : firstOf (fun i => nz (wErr (ws.getD i []) n 60)) ws.length with
    | none =>
      have := firstOf_not hf j hj
      unfold nz at this
      split at this
      · assumption
      · cases this
    | some e =>
      rw [hf] at hz
      obtain ⟨k, _, hk⟩ := firstOf_is hf
      unfold nz at hk
      split at hk
      · cases hk
      · rename_i hne; cases hk; exact absurd hz hne
def pRes (m1 m2 : Mac) (ws : List (List Int)) : Int × Int := if pCode m1 m2 ws = 0 then ((passN m1 m2 ws : Int), if passN m1 m2 ws = ws.length then 0 else 29) else (0, pCode m1 m2 ws)
theorem c18 {a b c : Value} {m1 m2 : Mac} {ws : List (List Int)} (s1 : MacV h a m1) (s2 : MacV h b m2) (sw : RowsS h c ws) : Runs Try.prog 18 [a, b, c] h (pairV (pRes m1 m2 ws)) h := by
  have lt := sw.lt
  refine DetP.forget rfl ?_
  refine w18 ?_
  unfold n18
  obtain ⟨o, l, cc, rfl, ss1⟩ := s1
  obtain ⟨o', l', cc', rfl, ss2⟩ := s2
  rw [box36]
  refine ok_i rfl ?_
  have p1 := pre_new h [.int .i64 m1.states, .int .i64 m1.inputs, .int .i64 m1.outputs, .int .i64 m1.start, .slice o l cc] 5
  have hb1 := newArr_get h [.int .i64 m1.states, .int .i64 m1.inputs, .int .i64 m1.outputs, .int .i64 m1.start, .slice o l cc] 5
  generalize newArr h [.int .i64 m1.states, .int .i64 m1.inputs, .int .i64 m1.outputs, .int .i64 m1.start, .slice o l cc] 5 = g1 at p1 hb1 ⊢
  rw [box36]
  refine ok_i rfl ?_
  have p2 := pre_new g1 [.int .i64 m2.states, .int .i64 m2.inputs, .int .i64 m2.outputs, .int .i64 m2.start, .slice o' l' cc'] 5
  have hb2 := newArr_get g1 [.int .i64 m2.states, .int .i64 m2.inputs, .int .i64 m2.outputs, .int .i64 m2.start, .slice o' l' cc'] 5
  have hb12 := (Sub.of_pre p2).2 _ _ hb1
  generalize newArr g1 [.int .i64 m2.states, .int .i64 m2.inputs, .int .i64 m2.outputs, .int .i64 m2.start, .slice o' l' cc'] 5 = g2 at p2 hb2 hb12 ⊢
  have p12 := p1.trans p2
  have ssa := ss1.mono (Sub.of_pre p12)
  have ssb := ss2.mono (Sub.of_pre p12)
  have sw2 := sw.mono (Sub.of_pre p12)
  (with_reducible repeat first|refine mv_i ?_|refine cnd_t ?_|refine cnd_f ?_|refine gd_tt ?_|refine gd_ff ?_|refine gd_tf ?_|refine gd_ft ?_|refine gd_u ?_|refine pick_t ?_|refine pick_f ?_|refine not_t ?_|refine not_f ?_|refine nil_i ?_|refine ret1 ?_|refine ret2 ?_|refine ret0 ?_|refine ret3 ?_|refine ex2_0 ?_|refine ex2_1 ?_|refine ex3_0 ?_|refine ex3_1 ?_|refine ex3_2 ?_)
  refine vk_i (ld36 hb12) ?_
  refine ⟨vb_mac ssa, ?_⟩
  refine calld_r (c46 (macv_of ssa)) ⟨⟨[], by simp⟩, ?_⟩
  (with_reducible repeat first|refine mv_i ?_|refine cnd_t ?_|refine cnd_f ?_|refine gd_tt ?_|refine gd_ff ?_|refine gd_tf ?_|refine gd_ft ?_|refine gd_u ?_|refine pick_t ?_|refine pick_f ?_|refine not_t ?_|refine not_f ?_|refine nil_i ?_|refine ret1 ?_|refine ret2 ?_|refine ret0 ?_|refine ret3 ?_|refine ex2_0 ?_|refine ex2_1 ?_|refine ex3_0 ?_|refine ex3_1 ?_|refine ex3_2 ?_)
  refine vk_i (ld36 hb2) ?_
  refine ⟨vb_mac ssb, ?_⟩
  refine calld_r (c46 (macv_of ssb)) ⟨⟨[], by simp⟩, ?_⟩
  (with_reducible repeat first|refine mv_i ?_|refine cnd_t ?_|refine cnd_f ?_|refine gd_tt ?_|refine gd_ff ?_|refine gd_tf ?_|refine gd_ft ?_|refine gd_u ?_|refine pick_t ?_|refine pick_f ?_|refine not_t ?_|refine not_f ?_|refine nil_i ?_|refine ret1 ?_|refine ret2 ?_|refine ret0 ?_|refine ret3 ?_|refine ex2_0 ?_|refine ex2_1 ?_|refine ex3_0 ?_|refine ex3_1 ?_|refine ex3_2 ?_|refine vk_i (fa36_0 _) ?_|refine vk_i (fa36_1 _) ?_|refine vk_i (fa36_2 _) ?_|refine vk_i (fa36_3 _) ?_|refine vk_i (fa36_4 _) ?_|refine vk_i (fa63_0 _) ?_|refine vk_i (fa63_1 _) ?_|refine vk_i (fa63_2 _) ?_|refine vk_i (fa63_3 _) ?_|refine ld4_0 r3 (by assumption) ?_|refine ld4_1 r3 (by assumption) ?_|refine ld4_2 r3 (by assumption) ?_|refine ld4_3 r3 (by assumption) ?_|refine ld5_0 r3 (by assumption) ?_|refine ld5_1 r3 (by assumption) ?_|refine ld5_2 r3 (by assumption) ?_|refine ld5_3 r3 (by assumption) ?_|refine ld5_4 r34 (by assumption) ?_|refine fae_i st63 (by assumption) (by omega) (by omega) ?_|refine ldf_i st63 (by assumption) (by omega) (by omega) dst ?_|refine ⟨vbi _ _, ?_⟩)
  refine eql_b ?_
  refine calld_r (c38 _ _) ⟨⟨[], by simp⟩, ?_⟩
  (with_reducible repeat first|refine mv_i ?_|refine cnd_t ?_|refine cnd_f ?_|refine gd_tt ?_|refine gd_ff ?_|refine gd_tf ?_|refine gd_ft ?_|refine gd_u ?_|refine pick_t ?_|refine pick_f ?_|refine not_t ?_|refine not_f ?_|refine nil_i ?_|refine ret1 ?_|refine ret2 ?_|refine ret0 ?_|refine ret3 ?_|refine ex2_0 ?_|refine ex2_1 ?_|refine ex3_0 ?_|refine ex3_1 ?_|refine ex3_2 ?_|refine vk_i (fa36_0 _) ?_|refine vk_i (fa36_1 _) ?_|refine vk_i (fa36_2 _) ?_|refine vk_i (fa36_3 _) ?_|refine vk_i (fa36_4 _) ?_|refine vk_i (fa63_0 _) ?_|refine vk_i (fa63_1 _) ?_|refine vk_i (fa63_2 _) ?_|refine vk_i (fa63_3 _) ?_|refine ld4_0 r3 (by assumption) ?_|refine ld4_1 r3 (by assumption) ?_|refine ld4_2 r3 (by assumption) ?_|refine ld4_3 r3 (by assumption) ?_|refine ld5_0 r3 (by assumption) ?_|refine ld5_1 r3 (by assumption) ?_|refine ld5_2 r3 (by assumption) ?_|refine ld5_3 r3 (by assumption) ?_|refine ld5_4 r34 (by assumption) ?_|refine fae_i st63 (by assumption) (by omega) (by omega) ?_|refine ldf_i st63 (by assumption) (by omega) (by omega) dst ?_|refine ⟨vbi _ _, ?_⟩)
  refine calld_r (c47 sw2) ⟨⟨[], by simp⟩, ?_⟩
  refine ok_i (bs94_4 _ _ _ _ _) ?_
  refine calld_r (c37 (xs := [_, _, _, _]) (Seg.new 5 (by rfl) (by simp))) ⟨⟨[], by simp⟩, ?_⟩
  have ev : orOf [(mErr m1).2, (mErr m2).2, if decide (m1.inputs = m2.inputs) = true then 0 else 6, sErr ws m1.inputs] = pCode m1 m2 ws := by
    rw [or4]
    unfold pCode
    by_cases e : m1.inputs = m2.inputs
    · rw [decide_eq_true e, if_pos e, if_pos rfl]
    · rw [decide_eq_false e, if_neg e, if_neg (by simp)]
  rw [ev]
  have p3 := pre_new g2 [.int .i64 (mErr m1).2, .int .i64 (mErr m2).2, .int .i64 (if decide (m1.inputs = m2.inputs) = true then 0 else 6), .int .i64 (sErr ws m1.inputs)] 1
  generalize newArr g2 [.int .i64 (mErr m1).2, .int .i64 (mErr m2).2, .int .i64 (if decide (m1.inputs = m2.inputs) = true then 0 else 6), .int .i64 (sErr ws m1.inputs)] 1 = g3 at p3 ⊢
  have p123 := p12.trans p3
  have hb13 := (Sub.of_pre p3).2 _ _ hb12
  have hb23 := (Sub.of_pre p3).2 _ _ hb2
  have ssa3 := ss1.mono (Sub.of_pre p123)
  have ssb3 := ss2.mono (Sub.of_pre p123)
  have sw3 := sw.mono (Sub.of_pre p123)
  (with_reducible repeat first|refine mv_i ?_|refine cnd_t ?_|refine cnd_f ?_|refine gd_tt ?_|refine gd_ff ?_|refine gd_tf ?_|refine gd_ft ?_|refine gd_u ?_|refine pick_t ?_|refine pick_f ?_|refine not_t ?_|refine not_f ?_|refine nil_i ?_|refine ret1 ?_|refine ret2 ?_|refine ret0 ?_|refine ret3 ?_|refine ex2_0 ?_|refine ex2_1 ?_|refine ex3_0 ?_|refine ex3_1 ?_|refine ex3_2 ?_)
  refine neq_i (fun hz => ?_) (fun hz => ?_)
  · have g := good_of hz
    have hwz := s_words g.se
    (with_reducible repeat first|refine mv_i ?_|refine cnd_t ?_|refine cnd_f ?_|refine gd_tt ?_|refine gd_ff ?_|refine gd_tf ?_|refine gd_ft ?_|refine gd_u ?_|refine pick_t ?_|refine pick_f ?_|refine not_t ?_|refine not_f ?_|refine nil_i ?_|refine ret1 ?_|refine ret2 ?_|refine ret0 ?_|refine ret3 ?_|refine ex2_0 ?_|refine ex2_1 ?_|refine ex3_0 ?_|refine ex3_1 ?_|refine ex3_2 ?_)
    refine vk_i (ld36 hb13) ?_
    refine vk_i (ld36 hb23) ?_
    (with_reducible repeat first|refine mv_i ?_|refine cnd_t ?_|refine cnd_f ?_|refine gd_tt ?_|refine gd_ff ?_|refine gd_tf ?_|refine gd_ft ?_|refine gd_u ?_|refine pick_t ?_|refine pick_f ?_|refine not_t ?_|refine not_f ?_|refine nil_i ?_|refine ret1 ?_|refine ret2 ?_|refine ret0 ?_|refine ret3 ?_|refine ex2_0 ?_|refine ex2_1 ?_|refine ex3_0 ?_|refine ex3_1 ?_|refine ex3_2 ?_)
    refine call_r (c48 (macv_of ssa3) (macv_of ssb3) sw3 g.e1 g.e2 hwz (g.inp ▸ hwz)) ?_
    (with_reducible repeat first|refine mv_i ?_|refine cnd_t ?_|refine cnd_f ?_|refine gd_tt ?_|refine gd_ff ?_|refine gd_tf ?_|refine gd_ft ?_|refine gd_u ?_|refine pick_t ?_|refine pick_f ?_|refine not_t ?_|refine not_f ?_|refine nil_i ?_|refine ret1 ?_|refine ret2 ?_|refine ret0 ?_|refine ret3 ?_|refine ex2_0 ?_|refine ex2_1 ?_|refine ex3_0 ?_|refine ex3_1 ?_|refine ex3_2 ?_)
    refine lenr_i t22 sw3 ?_
    refine eql_b ?_
    refine call_r (c38 _ _) ?_
    (with_reducible repeat first|refine mv_i ?_|refine cnd_t ?_|refine cnd_f ?_|refine gd_tt ?_|refine gd_ff ?_|refine gd_tf ?_|refine gd_ft ?_|refine gd_u ?_|refine pick_t ?_|refine pick_f ?_|refine not_t ?_|refine not_f ?_|refine nil_i ?_|refine ret1 ?_|refine ret2 ?_|refine ret0 ?_|refine ret3 ?_|refine ex2_0 ?_|refine ex2_1 ?_|refine ex3_0 ?_|refine ex3_1 ?_|refine ex3_2 ?_)
    refine ⟨?_, p123⟩
    unfold pRes
    rw [if_pos hz]
    unfold pairV
    by_cases e : passN m1 m2 ws = ws.length
    · rw [if_pos e, decide_eq_true (by omega)]; rfl
    · rw [if_neg e, decide_eq_false (by omega)]; rfl
  · (with_reducible repeat first|refine mv_i ?_|refine cnd_t ?_|refine cnd_f ?_|refine gd_tt ?_|refine gd_ff ?_|refine gd_tf ?_|refine gd_ft ?_|refine gd_u ?_|refine pick_t ?_|refine pick_f ?_|refine not_t ?_|refine not_f ?_|refine nil_i ?_|refine ret1 ?_|refine ret2 ?_|refine ret0 ?_|refine ret3 ?_|refine ex2_0 ?_|refine ex2_1 ?_|refine ex3_0 ?_|refine ex3_1 ?_|refine ex3_2 ?_)
    refine ⟨?_, p123⟩
    unfold pRes
    rw [if_neg hz]; rfl
theorem c22 {a b c : Value} {m1 m2 : Mac} {w : List Int} (s1 : MacV h a m1) (s2 : MacV h b m2) (sw : IntS h c w) (hw : w.length ≤ 2 ^ 40) :
    Runs Try.prog 22 [a, b, c] h (.bool (!decide (outsOf m1 m1.start w = outsOf m2 m2.start w))) h := by
  refine DetP.forget rfl ?_
  refine w22 ?_
  unfold n22
  obtain ⟨o, l, cc, rfl, ss1⟩ := s1
  obtain ⟨o', l', cc', rfl, ss2⟩ := s2
  rw [box36]
  refine ok_i rfl ?_
  have p1 := pre_new h [.int .i64 m1.states, .int .i64 m1.inputs, .int .i64 m1.outputs, .int .i64 m1.start, .slice o l cc] 5
  have hb1 := newArr_get h [.int .i64 m1.states, .int .i64 m1.inputs, .int .i64 m1.outputs, .int .i64 m1.start, .slice o l cc] 5
  generalize newArr h [.int .i64 m1.states, .int .i64 m1.inputs, .int .i64 m1.outputs, .int .i64 m1.start, .slice o l cc] 5 = g1 at p1 hb1 ⊢
  rw [box36]
  refine ok_i rfl ?_
  have p2 := pre_new g1 [.int .i64 m2.states, .int .i64 m2.inputs, .int .i64 m2.outputs, .int .i64 m2.start, .slice o' l' cc'] 5
  have hb2 := newArr_get g1 [.int .i64 m2.states, .int .i64 m2.inputs, .int .i64 m2.outputs, .int .i64 m2.start, .slice o' l' cc'] 5
  have hb12 := (Sub.of_pre p2).2 _ _ hb1
  generalize newArr g1 [.int .i64 m2.states, .int .i64 m2.inputs, .int .i64 m2.outputs, .int .i64 m2.start, .slice o' l' cc'] 5 = g2 at p2 hb2 hb12 ⊢
  have p12 := p1.trans p2
  have ssa := ss1.mono (Sub.of_pre p12)
  have sw2 := sw.mono (Sub.of_pre p12)
  (with_reducible repeat first|refine mv_i ?_|refine cnd_t ?_|refine cnd_f ?_|refine gd_tt ?_|refine gd_ff ?_|refine gd_tf ?_|refine gd_ft ?_|refine gd_u ?_|refine pick_t ?_|refine pick_f ?_|refine not_t ?_|refine not_f ?_|refine nil_i ?_|refine ret1 ?_|refine ret2 ?_|refine ret0 ?_|refine ret3 ?_|refine ex2_0 ?_|refine ex2_1 ?_|refine ex3_0 ?_|refine ex3_1 ?_|refine ex3_2 ?_)
  refine vk_i (ld36 hb12) ?_
  (with_reducible repeat first|refine mv_i ?_|refine cnd_t ?_|refine cnd_f ?_|refine gd_tt ?_|refine gd_ff ?_|refine gd_tf ?_|refine gd_ft ?_|refine gd_u ?_|refine pick_t ?_|refine pick_f ?_|refine not_t ?_|refine not_f ?_|refine nil_i ?_|refine ret1 ?_|refine ret2 ?_|refine ret0 ?_|refine ret3 ?_|refine ex2_0 ?_|refine ex2_1 ?_|refine ex3_0 ?_|refine ex3_1 ?_|refine ex3_2 ?_|refine vk_i (fa36_0 _) ?_|refine vk_i (fa36_1 _) ?_|refine vk_i (fa36_2 _) ?_|refine vk_i (fa36_3 _) ?_|refine vk_i (fa36_4 _) ?_|refine vk_i (fa63_0 _) ?_|refine vk_i (fa63_1 _) ?_|refine vk_i (fa63_2 _) ?_|refine vk_i (fa63_3 _) ?_|refine ld4_0 r3 (by assumption) ?_|refine ld4_1 r3 (by assumption) ?_|refine ld4_2 r3 (by assumption) ?_|refine ld4_3 r3 (by assumption) ?_|refine ld5_0 r3 (by assumption) ?_|refine ld5_1 r3 (by assumption) ?_|refine ld5_2 r3 (by assumption) ?_|refine ld5_3 r3 (by assumption) ?_|refine ld5_4 r34 (by assumption) ?_|refine fae_i st63 (by assumption) (by omega) (by omega) ?_|refine ldf_i st63 (by assumption) (by omega) (by omega) dst ?_|refine ⟨vbi _ _, ?_⟩)
  refine call_i (c49 (macv_of ssa) sw2 hw) ?_
  rintro _ g3 ⟨p3, x1, y1, rfl, sx1, _⟩
  have hb23 := (Sub.of_pre p3).2 _ _ hb2
  have ssb := ss2.mono (Sub.of_pre (p12.trans p3))
  (with_reducible repeat first|refine mv_i ?_|refine cnd_t ?_|refine cnd_f ?_|refine gd_tt ?_|refine gd_ff ?_|refine gd_tf ?_|refine gd_ft ?_|refine gd_u ?_|refine pick_t ?_|refine pick_f ?_|refine not_t ?_|refine not_f ?_|refine nil_i ?_|refine ret1 ?_|refine ret2 ?_|refine ret0 ?_|refine ret3 ?_|refine ex2_0 ?_|refine ex2_1 ?_|refine ex3_0 ?_|refine ex3_1 ?_|refine ex3_2 ?_)
  refine vk_i (ld36 hb23) ?_
  (with_reducible repeat first|refine mv_i ?_|refine cnd_t ?_|refine cnd_f ?_|refine gd_tt ?_|refine gd_ff ?_|refine gd_tf ?_|refine gd_ft ?_|refine gd_u ?_|refine pick_t ?_|refine pick_f ?_|refine not_t ?_|refine not_f ?_|refine nil_i ?_|refine ret1 ?_|refine ret2 ?_|refine ret0 ?_|refine ret3 ?_|refine ex2_0 ?_|refine ex2_1 ?_|refine ex3_0 ?_|refine ex3_1 ?_|refine ex3_2 ?_|refine vk_i (fa36_0 _) ?_|refine vk_i (fa36_1 _) ?_|refine vk_i (fa36_2 _) ?_|refine vk_i (fa36_3 _) ?_|refine vk_i (fa36_4 _) ?_|refine vk_i (fa63_0 _) ?_|refine vk_i (fa63_1 _) ?_|refine vk_i (fa63_2 _) ?_|refine vk_i (fa63_3 _) ?_|refine ld4_0 r3 (by assumption) ?_|refine ld4_1 r3 (by assumption) ?_|refine ld4_2 r3 (by assumption) ?_|refine ld4_3 r3 (by assumption) ?_|refine ld5_0 r3 (by assumption) ?_|refine ld5_1 r3 (by assumption) ?_|refine ld5_2 r3 (by assumption) ?_|refine ld5_3 r3 (by assumption) ?_|refine ld5_4 r34 (by assumption) ?_|refine fae_i st63 (by assumption) (by omega) (by omega) ?_|refine ldf_i st63 (by assumption) (by omega) (by omega) dst ?_|refine ⟨vbi _ _, ?_⟩)
  refine call_i (c49 (macv_of ssb) (sw2.mono (Sub.of_pre p3)) hw) ?_
  rintro _ g4 ⟨p4, x2, y2, rfl, sx2, _⟩
  (with_reducible repeat first|refine mv_i ?_|refine cnd_t ?_|refine cnd_f ?_|refine gd_tt ?_|refine gd_ff ?_|refine gd_tf ?_|refine gd_ft ?_|refine gd_u ?_|refine pick_t ?_|refine pick_f ?_|refine not_t ?_|refine not_f ?_|refine nil_i ?_|refine ret1 ?_|refine ret2 ?_|refine ret0 ?_|refine ret3 ?_|refine ex2_0 ?_|refine ex2_1 ?_|refine ex3_0 ?_|refine ex3_1 ?_|refine ex3_2 ?_)
  refine call_r (c26 (sx1.mono (Sub.of_pre p4)) sx2) ?_
  refine AM.not_i ?_
  (with_reducible repeat first|refine mv_i ?_|refine cnd_t ?_|refine cnd_f ?_|refine gd_tt ?_|refine gd_ff ?_|refine gd_tf ?_|refine gd_ft ?_|refine gd_u ?_|refine pick_t ?_|refine pick_f ?_|refine not_t ?_|refine not_f ?_|refine nil_i ?_|refine ret1 ?_|refine ret2 ?_|refine ret0 ?_|refine ret3 ?_|refine ex2_0 ?_|refine ex2_1 ?_|refine ex3_0 ?_|refine ex3_1 ?_|refine ex3_2 ?_)
  exact ⟨rfl, (p12.trans p3).trans p4⟩
theorem c21 {a b c : Value} {m1 m2 : Mac} {ws : List (List Int)} (s1 : MacV h a m1) (s2 : MacV h b m2) (sw : RowsS h c ws) (hw : ∀ w ∈ ws, w.length ≤ 2 ^ 40) : Runs Try.prog 21 [a, b, c] h (.int .i64 (passN m1 m2 ws : Nat)) h := by
  have lt := sw.lt
  refine DetP.forget rfl ?_
  refine w21 ?_
  unfold n21
  obtain ⟨o, l, cc, rfl, ss1⟩ := s1
  obtain ⟨o', l', cc', rfl, ss2⟩ := s2
  rw [box36]
  refine ok_i rfl ?_
  have p1 := pre_new h [.int .i64 m1.states, .int .i64 m1.inputs, .int .i64 m1.outputs, .int .i64 m1.start, .slice o l cc] 5
  have hb1 := newArr_get h [.int .i64 m1.states, .int .i64 m1.inputs, .int .i64 m1.outputs, .int .i64 m1.start, .slice o l cc] 5
  generalize newArr h [.int .i64 m1.states, .int .i64 m1.inputs, .int .i64 m1.outputs, .int .i64 m1.start, .slice o l cc] 5 = g1 at p1 hb1 ⊢
  rw [box36]
  refine ok_i rfl ?_
  have p2 := pre_new g1 [.int .i64 m2.states, .int .i64 m2.inputs, .int .i64 m2.outputs, .int .i64 m2.start, .slice o' l' cc'] 5
  have hb2 := newArr_get g1 [.int .i64 m2.states, .int .i64 m2.inputs, .int .i64 m2.outputs, .int .i64 m2.start, .slice o' l' cc'] 5
  have hb12 := (Sub.of_pre p2).2 _ _ hb1
  generalize newArr g1 [.int .i64 m2.states, .int .i64 m2.inputs, .int .i64 m2.outputs, .int .i64 m2.start, .slice o' l' cc'] 5 = g2 at p2 hb2 hb12 ⊢
  have p12 := p1.trans p2
  have ssa := ss1.mono (Sub.of_pre p12)
  have ssb := ss2.mono (Sub.of_pre p12)
  have sw2 := sw.mono (Sub.of_pre p12)
  (with_reducible repeat first|refine mv_i ?_|refine cnd_t ?_|refine cnd_f ?_|refine gd_tt ?_|refine gd_ff ?_|refine gd_tf ?_|refine gd_ft ?_|refine gd_u ?_|refine pick_t ?_|refine pick_f ?_|refine not_t ?_|refine not_f ?_|refine nil_i ?_|refine ret1 ?_|refine ret2 ?_|refine ret0 ?_|refine ret3 ?_|refine ex2_0 ?_|refine ex2_1 ?_|refine ex3_0 ?_|refine ex3_1 ?_|refine ex3_2 ?_)
  refine loop1 ws.length (fun k h2 => g2 = h2 ∧ ∀ j, j < k → difAt m1 m2 ws j = none) ⟨rfl, fun j hj => by omega⟩ ?_
  rintro k _ _ hk ⟨rfl, hJ⟩
  (with_reducible repeat first|refine mv_i ?_|refine cnd_t ?_|refine cnd_f ?_|refine gd_tt ?_|refine gd_ff ?_|refine gd_tf ?_|refine gd_ft ?_|refine gd_u ?_|refine pick_t ?_|refine pick_f ?_|refine not_t ?_|refine not_f ?_|refine nil_i ?_|refine ret1 ?_|refine ret2 ?_|refine ret0 ?_|refine ret3 ?_|refine ex2_0 ?_|refine ex2_1 ?_|refine ex3_0 ?_|refine ex3_1 ?_|refine ex3_2 ?_)
  refine lenr_i t22 sw2 ?_
  refine lss_i (fun hlt => ?_) (fun hge => ?_)
  · have hk2 : k < ws.length := by omega
    (with_reducible repeat first|refine mv_i ?_|refine cnd_t ?_|refine cnd_f ?_|refine gd_tt ?_|refine gd_ff ?_|refine gd_tf ?_|refine gd_ft ?_|refine gd_u ?_|refine pick_t ?_|refine pick_f ?_|refine not_t ?_|refine not_f ?_|refine nil_i ?_|refine ret1 ?_|refine ret2 ?_|refine ret0 ?_|refine ret3 ?_|refine ex2_0 ?_|refine ex2_1 ?_|refine ex3_0 ?_|refine ex3_1 ?_|refine ex3_2 ?_)
    refine vk_i (ld36 hb12) ?_
    refine ⟨vb_mac ssa, ?_⟩
    refine vk_i (ld36 hb2) ?_
    refine ⟨vb_mac ssb, ?_⟩
    (with_reducible repeat first|refine mv_i ?_|refine cnd_t ?_|refine cnd_f ?_|refine gd_tt ?_|refine gd_ff ?_|refine gd_tf ?_|refine gd_ft ?_|refine gd_u ?_|refine pick_t ?_|refine pick_f ?_|refine not_t ?_|refine not_f ?_|refine nil_i ?_|refine ret1 ?_|refine ret2 ?_|refine ret0 ?_|refine ret3 ?_|refine ex2_0 ?_|refine ex2_1 ?_|refine ex3_0 ?_|refine ex3_1 ?_|refine ex3_2 ?_)
    refine idxr_i (k := k) t22 sw2 hk2 ?_
    refine ldr_i (k := k) t22 r23 sw2 hk2 fun r hr => ?_
    refine ⟨seg_vb hr, ?_⟩
    refine call_r (c22 (macv_of ssa) (macv_of ssb) hr (hw _ (gd_mem [] hk2))) ?_
    by_cases hd : outsOf m1 m1.start (ws.getD k []) = outsOf m2 m2.start (ws.getD k [])
    · rw [decide_eq_true hd]
      refine AM.cnd_f ?_
      (with_reducible repeat first|refine mv_i ?_|refine cnd_t ?_|refine cnd_f ?_|refine gd_tt ?_|refine gd_ff ?_|refine gd_tf ?_|refine gd_ft ?_|refine gd_u ?_|refine pick_t ?_|refine pick_f ?_|refine not_t ?_|refine not_f ?_|refine nil_i ?_|refine ret1 ?_|refine ret2 ?_|refine ret0 ?_|refine ret3 ?_|refine ex2_0 ?_|refine ex2_1 ?_|refine ex3_0 ?_|refine ex3_1 ?_|refine ex3_2 ?_)
      refine inc_i (by omega) ?_
      (with_reducible repeat first|refine mv_i ?_|refine cnd_t ?_|refine cnd_f ?_|refine gd_tt ?_|refine gd_ff ?_|refine gd_tf ?_|refine gd_ft ?_|refine gd_u ?_|refine pick_t ?_|refine pick_f ?_|refine not_t ?_|refine not_f ?_|refine nil_i ?_|refine ret1 ?_|refine ret2 ?_|refine ret0 ?_|refine ret3 ?_|refine ex2_0 ?_|refine ex2_1 ?_|refine ex3_0 ?_|refine ex3_1 ?_|refine ex3_2 ?_)
      refine next1 hk2 ⟨rfl, fun j hj => ?_⟩
      by_cases q : j = k
      · subst q; unfold difAt; exact if_pos hd
      · exact hJ j (by omega)
    · rw [decide_eq_false hd]
      refine AM.cnd_t ?_
      (with_reducible repeat first|refine mv_i ?_|refine cnd_t ?_|refine cnd_f ?_|refine gd_tt ?_|refine gd_ff ?_|refine gd_tf ?_|refine gd_ft ?_|refine gd_u ?_|refine pick_t ?_|refine pick_f ?_|refine not_t ?_|refine not_f ?_|refine nil_i ?_|refine ret1 ?_|refine ret2 ?_|refine ret0 ?_|refine ret3 ?_|refine ex2_0 ?_|refine ex2_1 ?_|refine ex3_0 ?_|refine ex3_1 ?_|refine ex3_2 ?_)
      exact ⟨by rw [pass_at hJ hk2 hd], p12⟩
  · (with_reducible repeat first|refine mv_i ?_|refine cnd_t ?_|refine cnd_f ?_|refine gd_tt ?_|refine gd_ff ?_|refine gd_tf ?_|refine gd_ft ?_|refine gd_u ?_|refine pick_t ?_|refine pick_f ?_|refine not_t ?_|refine not_f ?_|refine nil_i ?_|refine ret1 ?_|refine ret2 ?_|refine ret0 ?_|refine ret3 ?_|refine ex2_0 ?_|refine ex2_1 ?_|refine ex3_0 ?_|refine ex3_1 ?_|refine ex3_2 ?_)
    refine lenr_i t22 sw2 ?_
    (with_reducible repeat first|refine mv_i ?_|refine cnd_t ?_|refine cnd_f ?_|refine gd_tt ?_|refine gd_ff ?_|refine gd_tf ?_|refine gd_ft ?_|refine gd_u ?_|refine pick_t ?_|refine pick_f ?_|refine not_t ?_|refine not_f ?_|refine nil_i ?_|refine ret1 ?_|refine ret2 ?_|refine ret0 ?_|refine ret3 ?_|refine ex2_0 ?_|refine ex2_1 ?_|refine ex3_0 ?_|refine ex3_1 ?_|refine ex3_2 ?_)
    exact ⟨by rw [pass_all (fun j hj => hJ j (by omega))], p12⟩
end Go.Proofs.Ytkgdclcmfnhbmaa
