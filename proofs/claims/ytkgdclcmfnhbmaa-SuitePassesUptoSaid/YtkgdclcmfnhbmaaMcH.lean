import Derived.Test.YtkgdclcmfnhbmaaMcG
set_option linter.unusedSimpArgs false
set_option linter.unusedVariables false
set_option maxRecDepth 100000
namespace Go.Proofs.Ytkgdclcmfnhbmaa
open Go.AM
variable {h h' h0 : Heap}

theorem al36 (h : Heap) : aAlloc Try.prog 36 h = some (.pointer (some ⟨h.length, 0, none⟩), newArr h [.int .i64 0, .int .i64 0, .int .i64 0, .int .i64 0, .slice none 0 0] 5) := by kernel_rfl
theorem bs34_0 (h : Heap) : aBuildSlice Try.prog 34 0 [] h = some (.slice (some ⟨h.length, 0, none⟩) 0 1, newArr h [] 4) := by kernel_rfl
theorem s34 : szOf Try.prog 34 = some 1 := by kernel_rfl
theorem sto36 {g : Heap} {i : Nat} {a b c d e a' b' c' d' : Value} {o : Option Addr} {l k : Nat} (hi : g[i]? = some (.arr ⟨[a, b, c, d, e], 5, false⟩)) {x1 x2 x3 x4 : Int} (h1 : a' = .int .i64 x1) (h2 : b' = .int .i64 x2) (h3 : c' = .int .i64 x3) (h4 : d' = .int .i64 x4) :
    aStore Try.prog 36 (.pointer (some ⟨i, 0, none⟩)) (.agg #[a', b', c', d', .slice o l k]) g = some (g.set i (.arr ⟨[a', b', c', d', .slice o l k], 5, false⟩)) := by
  subst h1 h2 h3 h4
  simp only [aStore, hi, sz36]
  rw [if_pos (by simp [Value.cells, Value.oneCell'])]
  rfl
theorem flat_one (l : List St) : (l.flatMap St.cells).all (·.oneCell') = true := by
  rw [List.all_eq_true]
  intro x hx
  obtain ⟨s, _, hs⟩ := List.mem_flatMap.mp hx
  simp [St.cells] at hs
  rcases hs with rfl | rfl | rfl | rfl <;> rfl
theorem c19 {a : Value} {m : Mac} (s : MacV h a m) (hl : m.steps.length ≤ 2 ^ 40) : DetP Try.prog 19 [a] h fun v h' => h <+: h' ∧ MacV h' v m := by
  refine w19 ?_
  unfold n19
  obtain ⟨o, l, c, rfl, ss⟩ := s
  rw [box36]
  refine ok_i rfl ?_
  have p1 := pre_new h [.int .i64 m.states, .int .i64 m.inputs, .int .i64 m.outputs, .int .i64 m.start, .slice o l c] 5
  have hb1 := newArr_get h [.int .i64 m.states, .int .i64 m.inputs, .int .i64 m.outputs, .int .i64 m.start, .slice o l c] 5
  have L1 := newArr_length h [.int .i64 m.states, .int .i64 m.inputs, .int .i64 m.outputs, .int .i64 m.start, .slice o l c] 5
  generalize newArr h [.int .i64 m.states, .int .i64 m.inputs, .int .i64 m.outputs, .int .i64 m.start, .slice o l c] 5 = g1 at p1 hb1 L1 ⊢
  refine ok_i (al36 _) ?_
  have p2 := pre_new g1 [.int .i64 0, .int .i64 0, .int .i64 0, .int .i64 0, .slice none 0 0] 5
  have hb2 := newArr_get g1 [.int .i64 0, .int .i64 0, .int .i64 0, .int .i64 0, .slice none 0 0] 5
  have L2 := newArr_length g1 [.int .i64 0, .int .i64 0, .int .i64 0, .int .i64 0, .slice none 0 0] 5
  generalize newArr g1 [.int .i64 0, .int .i64 0, .int .i64 0, .int .i64 0, .slice none 0 0] 5 = g2 at p2 hb2 L2 ⊢
  refine ok_i (bs34_0 _) ?_
  have p3 := pre_new g2 [] 4
  have hb3 := newArr_get g2 [] 4
  have L3 := newArr_length g2 [] 4
  generalize newArr g2 [] 4 = g3 at p3 hb3 L3 ⊢
  have p13 := (p1.trans p2).trans p3
  have h1b := (Sub.of_pre (p2.trans p3)).2 _ _ hb1
  have h2b := (Sub.of_pre p3).2 _ _ hb2
  have ss3 := ss.mono (Sub.of_pre p13)
  (with_reducible repeat first|refine mv_i ?_|refine cnd_t ?_|refine cnd_f ?_|refine gd_tt ?_|refine gd_ff ?_|refine gd_tf ?_|refine gd_ft ?_|refine gd_u ?_|refine pick_t ?_|refine pick_f ?_|refine not_t ?_|refine not_f ?_|refine nil_i ?_|refine ret1 ?_|refine ret2 ?_|refine ret0 ?_|refine ret3 ?_|refine ex2_0 ?_|refine ex2_1 ?_|refine ex3_0 ?_|refine ex3_1 ?_|refine ex3_2 ?_|refine vk_i (fa36_0 _) ?_|refine vk_i (fa36_1 _) ?_|refine vk_i (fa36_2 _) ?_|refine vk_i (fa36_3 _) ?_|refine vk_i (fa36_4 _) ?_|refine vk_i (fa63_0 _) ?_|refine vk_i (fa63_1 _) ?_|refine vk_i (fa63_2 _) ?_|refine vk_i (fa63_3 _) ?_|refine ld4_0 r3 (by assumption) ?_|refine ld4_1 r3 (by assumption) ?_|refine ld4_2 r3 (by assumption) ?_|refine ld4_3 r3 (by assumption) ?_|refine ld5_0 r3 (by assumption) ?_|refine ld5_1 r3 (by assumption) ?_|refine ld5_2 r3 (by assumption) ?_|refine ld5_3 r3 (by assumption) ?_|refine ld5_4 r34 (by assumption) ?_|refine fae_i st63 (by assumption) (by omega) (by omega) ?_|refine ldf_i st63 (by assumption) (by omega) (by omega) dst ?_|refine ⟨vbi _ _, ?_⟩)
  have happ : ∃ v6 g4, aAppend Try.prog 34 34 (.slice (some ⟨g2.length, 0, none⟩) 0 1) (.slice o l c) g3 = some (v6, g4) ∧ g3 <+: g4 ∧ StepsS g4 v6 m.steps ∧ ∃ o' l' c', v6 = .slice o' l' c' := by
    have e := own_app t34 g2.length ss3 (flat_one _) ⟨by omega, by omega⟩
    by_cases h0 : m.steps.length = 0
    · rw [if_pos h0] at e
      refine ⟨_, _, e, List.prefix_refl _, ⟨⟨by simp [h0, List.length_eq_zero_iff.mp h0], by omega⟩, .inl ⟨some (g2.length, 0), 1, rfl, fun p hp => ?_, h0⟩⟩, _, _, _, rfl⟩
      cases hp
      show g2.length < g3.length
      omega
    · rw [if_neg h0] at e
      refine ⟨_, _, e, pre_new _ _ _, ?_, _, _, _, rfl⟩
      exact Seg.new 0 ss3.1.1 ss3.1.2
  obtain ⟨v6, g4, eapp, p4, s6, o6, l6, c6, rfl⟩ := happ
  refine ok_i eapp ?_
  have h1b4 := (Sub.of_pre p4).2 _ _ h1b
  have h2b4 := (Sub.of_pre p4).2 _ _ h2b
  (with_reducible repeat first|refine mv_i ?_|refine cnd_t ?_|refine cnd_f ?_|refine gd_tt ?_|refine gd_ff ?_|refine gd_tf ?_|refine gd_ft ?_|refine gd_u ?_|refine pick_t ?_|refine pick_f ?_|refine not_t ?_|refine not_f ?_|refine nil_i ?_|refine ret1 ?_|refine ret2 ?_|refine ret0 ?_|refine ret3 ?_|refine ex2_0 ?_|refine ex2_1 ?_|refine ex3_0 ?_|refine ex3_1 ?_|refine ex3_2 ?_|refine vk_i (fa36_0 _) ?_|refine vk_i (fa36_1 _) ?_|refine vk_i (fa36_2 _) ?_|refine vk_i (fa36_3 _) ?_|refine vk_i (fa36_4 _) ?_|refine vk_i (fa63_0 _) ?_|refine vk_i (fa63_1 _) ?_|refine vk_i (fa63_2 _) ?_|refine vk_i (fa63_3 _) ?_|refine ld4_0 r3 (by assumption) ?_|refine ld4_1 r3 (by assumption) ?_|refine ld4_2 r3 (by assumption) ?_|refine ld4_3 r3 (by assumption) ?_|refine ld5_0 r3 (by assumption) ?_|refine ld5_1 r3 (by assumption) ?_|refine ld5_2 r3 (by assumption) ?_|refine ld5_3 r3 (by assumption) ?_|refine ld5_4 r34 (by assumption) ?_|refine fae_i st63 (by assumption) (by omega) (by omega) ?_|refine ldf_i st63 (by assumption) (by omega) (by omega) dst ?_|refine ⟨vbi _ _, ?_⟩)
  refine st_i s34 h1b4 rfl (by simp) rfl rfl ?_
  have hlt1 := (List.getElem?_eq_some_iff.mp h1b4).1
  have h1c : (g4.set h.length (.arr { (⟨[.int .i64 m.states, .int .i64 m.inputs, .int .i64 m.outputs, .int .i64 m.start, .slice o l c], 5, false⟩ : Arr) with cells := [.int .i64 m.states, .int .i64 m.inputs, .int .i64 m.outputs, .int .i64 m.start, .slice o l c].set 4 (.slice o6 l6 c6) }))[h.length]? = some (.arr ⟨[.int .i64 m.states, .int .i64 m.inputs, .int .i64 m.outputs, .int .i64 m.start, .slice o6 l6 c6], 5, false⟩) := by simp [hlt1]
  have k1 := KeptB.set h.length g4 (.arr { (⟨[.int .i64 m.states, .int .i64 m.inputs, .int .i64 m.outputs, .int .i64 m.start, .slice o l c], 5, false⟩ : Arr) with cells := [.int .i64 m.states, .int .i64 m.inputs, .int .i64 m.outputs, .int .i64 m.start, .slice o l c].set 4 (.slice o6 l6 c6) })
  have p5 := pre_set (p13.trans p4) (Nat.le_refl _) (.arr { (⟨[.int .i64 m.states, .int .i64 m.inputs, .int .i64 m.outputs, .int .i64 m.start, .slice o l c], 5, false⟩ : Arr) with cells := [.int .i64 m.states, .int .i64 m.inputs, .int .i64 m.outputs, .int .i64 m.start, .slice o l c].set 4 (.slice o6 l6 c6) })
  have s7 := s6.keep k1 h1b4 (by simp)
  have h2c := k1.2 g1.length _ (by omega) h2b4
  generalize g4.set h.length (.arr { (⟨[.int .i64 m.states, .int .i64 m.inputs, .int .i64 m.outputs, .int .i64 m.start, .slice o l c], 5, false⟩ : Arr) with cells := [.int .i64 m.states, .int .i64 m.inputs, .int .i64 m.outputs, .int .i64 m.start, .slice o l c].set 4 (.slice o6 l6 c6) }) = g5 at h1c p5 s7 h2c ⊢
  refine vk_i (ld36 h1c) ?_
  refine ok_i (v := undef) (h' := g5.set g1.length (.arr ⟨[.int .i64 m.states, .int .i64 m.inputs, .int .i64 m.outputs, .int .i64 m.start, .slice o6 l6 c6], 5, false⟩)) (by rw [sto36 h2c rfl rfl rfl rfl]; rfl) ?_
  have k2 := KeptB.set g1.length g5 (.arr ⟨[.int .i64 m.states, .int .i64 m.inputs, .int .i64 m.outputs, .int .i64 m.start, .slice o6 l6 c6], 5, false⟩)
  have p6 := pre_set p5 (by omega : h.length ≤ g1.length) (.arr ⟨[.int .i64 m.states, .int .i64 m.inputs, .int .i64 m.outputs, .int .i64 m.start, .slice o6 l6 c6], 5, false⟩)
  have s8 := s7.keep k2 h2c (by simp)
  have hlt2 := (List.getElem?_eq_some_iff.mp h2c).1
  have h2d : (g5.set g1.length (.arr ⟨[.int .i64 m.states, .int .i64 m.inputs, .int .i64 m.outputs, .int .i64 m.start, .slice o6 l6 c6], 5, false⟩))[g1.length]? = some (.arr ⟨[.int .i64 m.states, .int .i64 m.inputs, .int .i64 m.outputs, .int .i64 m.start, .slice o6 l6 c6], 5, false⟩) := by simp [hlt2]
  rw [ld36 h2d]
  refine ret1 ?_
  exact ⟨p6, macv_of s8⟩
theorem c23 {a b : Value} {xs ys : List (List Int)} (s : RowsS h a xs) (s2 : RowsS h b ys) : Runs Try.prog 23 [a, b] h (.bool (decide (xs = ys))) h := by
  have lt := s.lt
  have lt2 := s2.lt
  refine DetP.runs (w23 ?_)
  unfold n23
  (with_reducible repeat first|refine mv_i ?_|refine cnd_t ?_|refine cnd_f ?_|refine gd_tt ?_|refine gd_ff ?_|refine gd_tf ?_|refine gd_ft ?_|refine gd_u ?_|refine pick_t ?_|refine pick_f ?_|refine not_t ?_|refine not_f ?_|refine nil_i ?_|refine ret1 ?_|refine ret2 ?_|refine ret0 ?_|refine ret3 ?_|refine ex2_0 ?_|refine ex2_1 ?_|refine ex3_0 ?_|refine ex3_1 ?_|refine ex3_2 ?_)
  refine lenr_i t22 s ?_
  (with_reducible repeat first|refine mv_i ?_|refine cnd_t ?_|refine cnd_f ?_|refine gd_tt ?_|refine gd_ff ?_|refine gd_tf ?_|refine gd_ft ?_|refine gd_u ?_|refine pick_t ?_|refine pick_f ?_|refine not_t ?_|refine not_f ?_|refine nil_i ?_|refine ret1 ?_|refine ret2 ?_|refine ret0 ?_|refine ret3 ?_|refine ex2_0 ?_|refine ex2_1 ?_|refine ex3_0 ?_|refine ex3_1 ?_|refine ex3_2 ?_)
  refine lenr_i t22 s2 ?_
  refine neq_i (fun hl => ?_) (fun hl => ?_)
  · (with_reducible repeat first|refine mv_i ?_|refine cnd_t ?_|refine cnd_f ?_|refine gd_tt ?_|refine gd_ff ?_|refine gd_tf ?_|refine gd_ft ?_|refine gd_u ?_|refine pick_t ?_|refine pick_f ?_|refine not_t ?_|refine not_f ?_|refine nil_i ?_|refine ret1 ?_|refine ret2 ?_|refine ret0 ?_|refine ret3 ?_|refine ex2_0 ?_|refine ex2_1 ?_|refine ex3_0 ?_|refine ex3_1 ?_|refine ex3_2 ?_)
    refine loop1 xs.length (fun k h2 => h2 = h ∧ ∀ j, j < k → xs.getD j [] = ys.getD j []) ⟨rfl, fun j hj => by omega⟩ ?_
    rintro k _ _ hk ⟨rfl, hJ⟩
    (with_reducible repeat first|refine mv_i ?_|refine cnd_t ?_|refine cnd_f ?_|refine gd_tt ?_|refine gd_ff ?_|refine gd_tf ?_|refine gd_ft ?_|refine gd_u ?_|refine pick_t ?_|refine pick_f ?_|refine not_t ?_|refine not_f ?_|refine nil_i ?_|refine ret1 ?_|refine ret2 ?_|refine ret0 ?_|refine ret3 ?_|refine ex2_0 ?_|refine ex2_1 ?_|refine ex3_0 ?_|refine ex3_1 ?_|refine ex3_2 ?_)
    refine lenr_i t22 s ?_
    refine lss_i (fun hlt => ?_) (fun hge => ?_)
    · (with_reducible repeat first|refine mv_i ?_|refine cnd_t ?_|refine cnd_f ?_|refine gd_tt ?_|refine gd_ff ?_|refine gd_tf ?_|refine gd_ft ?_|refine gd_u ?_|refine pick_t ?_|refine pick_f ?_|refine not_t ?_|refine not_f ?_|refine nil_i ?_|refine ret1 ?_|refine ret2 ?_|refine ret0 ?_|refine ret3 ?_|refine ex2_0 ?_|refine ex2_1 ?_|refine ex3_0 ?_|refine ex3_1 ?_|refine ex3_2 ?_)
      refine idxr_i (k := k) t22 s (by omega) ?_
      refine ldr_i (k := k) t22 r23 s (by omega) fun r hr => ?_
      refine ⟨seg_vb hr, ?_⟩
      (with_reducible repeat first|refine mv_i ?_|refine cnd_t ?_|refine cnd_f ?_|refine gd_tt ?_|refine gd_ff ?_|refine gd_tf ?_|refine gd_ft ?_|refine gd_u ?_|refine pick_t ?_|refine pick_f ?_|refine not_t ?_|refine not_f ?_|refine nil_i ?_|refine ret1 ?_|refine ret2 ?_|refine ret0 ?_|refine ret3 ?_|refine ex2_0 ?_|refine ex2_1 ?_|refine ex3_0 ?_|refine ex3_1 ?_|refine ex3_2 ?_)
      refine idxr_i (k := k) t22 s2 (by omega) ?_
      refine ldr_i (k := k) t22 r23 s2 (by omega) fun r2 hr2 => ?_
      refine ⟨seg_vb hr2, ?_⟩
      refine calld_r (c26 hr hr2) ⟨⟨[], by simp⟩, ?_⟩
      by_cases he : xs.getD k [] = ys.getD k []
      · rw [decide_eq_true he]
        (with_reducible repeat first|refine mv_i ?_|refine cnd_t ?_|refine cnd_f ?_|refine gd_tt ?_|refine gd_ff ?_|refine gd_tf ?_|refine gd_ft ?_|refine gd_u ?_|refine pick_t ?_|refine pick_f ?_|refine not_t ?_|refine not_f ?_|refine nil_i ?_|refine ret1 ?_|refine ret2 ?_|refine ret0 ?_|refine ret3 ?_|refine ex2_0 ?_|refine ex2_1 ?_|refine ex3_0 ?_|refine ex3_1 ?_|refine ex3_2 ?_)
        refine inc_i (by omega) ?_
        (with_reducible repeat first|refine mv_i ?_|refine cnd_t ?_|refine cnd_f ?_|refine gd_tt ?_|refine gd_ff ?_|refine gd_tf ?_|refine gd_ft ?_|refine gd_u ?_|refine pick_t ?_|refine pick_f ?_|refine not_t ?_|refine not_f ?_|refine nil_i ?_|refine ret1 ?_|refine ret2 ?_|refine ret0 ?_|refine ret3 ?_|refine ex2_0 ?_|refine ex2_1 ?_|refine ex3_0 ?_|refine ex3_1 ?_|refine ex3_2 ?_)
        refine next1 (by omega) ⟨rfl, fun j hj => ?_⟩
        by_cases q : j = k
        · subst q; exact he
        · exact hJ j (by omega)
      · rw [decide_eq_false he]
        (with_reducible repeat first|refine mv_i ?_|refine cnd_t ?_|refine cnd_f ?_|refine gd_tt ?_|refine gd_ff ?_|refine gd_tf ?_|refine gd_ft ?_|refine gd_u ?_|refine pick_t ?_|refine pick_f ?_|refine not_t ?_|refine not_f ?_|refine nil_i ?_|refine ret1 ?_|refine ret2 ?_|refine ret0 ?_|refine ret3 ?_|refine ex2_0 ?_|refine ex2_1 ?_|refine ex3_0 ?_|refine ex3_1 ?_|refine ex3_2 ?_)
        refine ⟨?_, rfl⟩
        have : ¬ xs = ys := fun e => he (by rw [e])
        simp [this]
    · (with_reducible repeat first|refine mv_i ?_|refine cnd_t ?_|refine cnd_f ?_|refine gd_tt ?_|refine gd_ff ?_|refine gd_tf ?_|refine gd_ft ?_|refine gd_u ?_|refine pick_t ?_|refine pick_f ?_|refine not_t ?_|refine not_f ?_|refine nil_i ?_|refine ret1 ?_|refine ret2 ?_|refine ret0 ?_|refine ret3 ?_|refine ex2_0 ?_|refine ex2_1 ?_|refine ex3_0 ?_|refine ex3_1 ?_|refine ex3_2 ?_)
      refine ⟨?_, rfl⟩
      have : xs = ys := by
        refine List.ext_getElem (by omega) fun j h1 h2 => ?_
        have := hJ j (by omega)
        rw [gd_at [] h1, gd_at [] h2] at this
        exact this
      simp [this]
  · (with_reducible repeat first|refine mv_i ?_|refine cnd_t ?_|refine cnd_f ?_|refine gd_tt ?_|refine gd_ff ?_|refine gd_tf ?_|refine gd_ft ?_|refine gd_u ?_|refine pick_t ?_|refine pick_f ?_|refine not_t ?_|refine not_f ?_|refine nil_i ?_|refine ret1 ?_|refine ret2 ?_|refine ret0 ?_|refine ret3 ?_|refine ex2_0 ?_|refine ex2_1 ?_|refine ex3_0 ?_|refine ex3_1 ?_|refine ex3_2 ?_)
    refine ⟨?_, rfl⟩
    have : ¬ xs = ys := fun e => hl (by rw [e])
    simp [this]

/-! ### a suite of one word -/
theorem drop_consV {row : List Value} {k : Nat} (hk : k < row.length) : row.drop k = row.getD k undef :: row.drop (k + 1) := by
  rw [gd_at undef hk]; exact List.drop_eq_getElem_cons hk
theorem sub1_i {x : Value} {xss : List (List Int)} {k : Nat} {o : Option Addr} {l : Nat} {K : Value → Heap → Prop} (s : RowsS h x xss) (hx : x = .slice o l 0) (hk : k < xss.length)
    (hK : ∀ y, RowsS h y [xss.getD k []] → K y h) : vK (aSlice Try.prog 22 x (some (.int .i64 (k : Int))) (some (.int .i64 ((k + 1 : Nat) : Int))) none h) h K := by
  obtain ⟨rs, h1, h2, h3⟩ := s
  obtain ⟨hu, hsz, _⟩ := sliceT_of t22
  have lt := h2.1.2
  rcases h2.2 with ⟨_, _, _, _, e⟩ | ⟨i, oo, c, a, rfl, e1, e2, e3, e4⟩
  · omega
  · cases hx
    simp only [Nat.mul_one] at e3 e4
    have hr := h3 k hk
    refine vk_i (v := .slice (some ⟨i, oo + k, none⟩) 1 0) ?_ (hK _ ⟨[rs.getD k undef], rfl, ⟨⟨rfl, by simp⟩, .inr ⟨i, oo + k, 0, a, rfl, e1, e2, by simp; omega, ?_⟩⟩, ?_⟩)
    · simp only [aSlice, hu, hsz, e1, e2, if_true, aBoundO, aBound, capOf]
      rw [if_pos ⟨by omega, by omega⟩]
      simp only
      rw [if_pos ⟨by omega, by omega⟩]
      simp
    · simp only [List.length_singleton, Nat.mul_one]
      rw [← List.drop_drop]
      have := congrArg (List.drop k) e4
      rw [List.drop_take] at this
      have e5 := congrArg (List.take 1) this
      rw [List.take_take, Nat.min_eq_left (by omega)] at e5
      rw [e5, drop_consV (show k < rs.length by omega)]
      rfl
    · intro j hj
      have : j = 0 := by simpa using hj
      subst this
      exact hr
end Go.Proofs.Ytkgdclcmfnhbmaa
