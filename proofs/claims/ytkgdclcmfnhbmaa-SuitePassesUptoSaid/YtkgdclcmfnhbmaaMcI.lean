import Derived.Test.YtkgdclcmfnhbmaaMcH
set_option linter.unusedSimpArgs false
set_option linter.unusedVariables false
set_option maxRecDepth 100000
namespace Go.Proofs.Ytkgdclcmfnhbmaa
open Go.AM
variable {h h' h0 : Heap}

/-! ### lists of machines -/
theorem t43 : sliceT Try.prog 43 36 5 56 = true := by kernel_rfl
def dmac : Mac := ⟨0, 0, 0, 0, []⟩
theorem sto36n (g : Heap) (a b c d : Int) (o : Option Addr) (l k : Nat) : aStore Try.prog 36 (.pointer (some ⟨g.length, 0, none⟩)) (.agg #[.int .i64 a, .int .i64 b, .int .i64 c, .int .i64 d, .slice o l k]) (newArr g [.int .i64 0, .int .i64 0, .int .i64 0, .int .i64 0, .slice none 0 0] 5) = some (newArr g [.int .i64 a, .int .i64 b, .int .i64 c, .int .i64 d, .slice o l k] 5) := by
  simp only [aStore, newArr_get, sz36]
  rw [if_pos (by simp [Value.cells, Value.oneCell'])]
  congr 1
  simp only [newArr]
  rw [List.set_append_right _ _ (Nat.le_refl _), Nat.sub_self]
  rfl
def macC (m : Mac) (s : Value) : List Value := [.int .i64 m.states, .int .i64 m.inputs, .int .i64 m.outputs, .int .i64 m.start, s]
def MacsS (h : Heap) (v : Value) (ms : List Mac) : Prop := ∃ rs : List (List Value), rs.length = ms.length ∧ Seg 5 h v ms.length rs.flatten ∧ (∀ r ∈ rs, r.length = 5) ∧
  ∀ k, k < ms.length → ∃ o l c, rs.getD k [] = macC (ms.getD k dmac) (.slice o l c) ∧ StepsS h (.slice o l c) (ms.getD k dmac).steps
theorem MacsS.mono {v : Value} {ms : List Mac} (s : MacsS h v ms) (hs : Sub h h') : MacsS h' v ms := by
  obtain ⟨rs, h1, h2, h3, h4⟩ := s
  refine ⟨rs, h1, h2.mono hs, h3, fun k hk => ?_⟩
  obtain ⟨o, l, c, e1, e2⟩ := h4 k hk
  exact ⟨o, l, c, e1, e2.mono hs⟩
theorem MacsS.lt {v : Value} {ms : List Mac} (s : MacsS h v ms) : ms.length ≤ 2 ^ 50 := by
  obtain ⟨rs, h1, h2, h3, h4⟩ := s; exact h2.1.2
theorem lenm_i {h1 : Heap} {x : Value} {K : Value → Heap → Prop} {ms : List Mac} (s : MacsS h1 x ms) (hk : K (.int .i64 (ms.length : Int)) h) : vK (aLen Try.prog 43 x) h K := by
  obtain ⟨rs, _, h2, _⟩ := s
  exact len_i t43 h2 hk
theorem idxm_i {h1 : Heap} {x : Value} {K : Value → Heap → Prop} {ms : List Mac} {k : Nat} (s : MacsS h1 x ms) (hk : k < ms.length) (hK : K (elt 5 x k) h) : vK (aIndexAddr Try.prog 43 x (.int .i64 (k : Int))) h K := by
  obtain ⟨rs, _, h2, _⟩ := s
  exact idx_i t43 h2 hk hK
theorem flat5 : ∀ (rs : List (List Value)), (∀ r ∈ rs, r.length = 5) → ∀ k, k < rs.length → (rs.flatten.drop (k * 5)).take 5 = rs.getD k []
  | [], _, k, hk => by simp at hk
  | r :: rs, hr, 0, _ => by
    have := hr r (by simp)
    simp [List.flatten_cons, ← this]
  | r :: rs, hr, k + 1, hk => by
    have h5 := hr r (by simp)
    have := flat5 rs (fun q hq => hr q (by simp [hq])) k (by simpa using hk)
    rw [List.flatten_cons, show (k + 1) * 5 = r.length + k * 5 by omega, ← List.drop_drop, List.drop_left]
    simpa using this
theorem ldm_i {x : Value} {K : Value → Heap → Prop} {ms : List Mac} {k : Nat} (s : MacsS h x ms) (hk : k < ms.length)
    (hK : ∀ o l c, StepsS h (.slice o l c) (ms.getD k dmac).steps → K (.agg #[.int .i64 (ms.getD k dmac).states, .int .i64 (ms.getD k dmac).inputs, .int .i64 (ms.getD k dmac).outputs, .int .i64 (ms.getD k dmac).start, .slice o l c]) h) :
    vK (aLoad Try.prog 36 (elt 5 x k) h) h K := by
  obtain ⟨rs, h1, h2, h3, h4⟩ := s
  obtain ⟨o, l, c, e1, e2⟩ := h4 k hk
  have hr := row36
  split at hr
  · rename_i dd hd
    refine vk_i ?_ (hK o l c e2)
    rcases h2.2 with ⟨_, _, rfl, _, e0⟩ | ⟨i, oo, cc, a, rfl, g1, g2, g3, g4⟩
    · omega
    · simp only [aLoad, elt, g1, hd, sz36]
      rw [if_pos hr, if_pos (by omega)]
      have := flat5 rs h3 k (by omega)
      rw [e1, ← g4, List.drop_take, List.take_take, Nat.min_eq_left (by omega), List.drop_drop] at this
      rw [this]; rfl
  · cases hr
theorem bs43_2 {m1 m2 : Mac} {o o' : Option Addr} {l c l' c' : Nat} (h : Heap) : aBuildSlice Try.prog 43 2 [(0, .agg #[.int .i64 m1.states, .int .i64 m1.inputs, .int .i64 m1.outputs, .int .i64 m1.start, .slice o l c]), (1, .agg #[.int .i64 m2.states, .int .i64 m2.inputs, .int .i64 m2.outputs, .int .i64 m2.start, .slice o' l' c'])] h = some (.slice (some ⟨h.length, 0, none⟩) 2 3, newArr h (macC m1 (.slice o l c) ++ macC m2 (.slice o' l' c')) 5) := by kernel_rfl
theorem macs2 {m1 m2 : Mac} {o o' : Option Addr} {l c l' c' : Nat} (s1 : StepsS h (.slice o l c) m1.steps) (s2 : StepsS h (.slice o' l' c') m2.steps) : MacsS (newArr h (macC m1 (.slice o l c) ++ macC m2 (.slice o' l' c')) 5) (.slice (some ⟨h.length, 0, none⟩) 2 3) [m1, m2] := by
  refine ⟨[macC m1 (.slice o l c), macC m2 (.slice o' l' c')], rfl, ?_, ?_, ?_⟩
  · have : [macC m1 (.slice o l c), macC m2 (.slice o' l' c')].flatten = macC m1 (.slice o l c) ++ macC m2 (.slice o' l' c') := by simp
    rw [this]
    exact Seg.new 3 (by rfl) (by simp)
  · intro r hr
    simp at hr
    rcases hr with rfl | rfl <;> rfl
  · intro k hk
    have hk' : k = 0 ∨ k = 1 := by simp at hk; omega
    rcases hk' with rfl | rfl
    · exact ⟨o, l, c, rfl, s1.mono (Sub.of_pre (pre_new _ _ _))⟩
    · exact ⟨o', l', c', rfl, s2.mono (Sub.of_pre (pre_new _ _ _))⟩

/-! ### what a suite catches -/
def cAt (m y : Mac) : Int := orOf [(mErr y).2, if decide (m.inputs = y.inputs) = true then 0 else 6]
def cHead (m : Mac) (ms : List Mac) : Int := orOf [(mErr m).2, if decide ((ms.length : Int) ≤ 12) = true then 0 else 2]
def cFirst (m : Mac) (ms : List Mac) : Option Int := firstOf (fun i => nz (cAt m (ms.getD i dmac))) ms.length
def cCode (m : Mac) (ms : List Mac) (ws : List (List Int)) : Int := if cHead m ms ≠ 0 then cHead m ms else (cFirst m ms).getD (sErr ws m.inputs)
def difB (m y : Mac) (ws : List (List Int)) (i : Nat) : Bool := !decide (outsOf m m.start (ws.getD i []) = outsOf y y.start (ws.getD i []))
def caughtN (m y : Mac) (ws : List (List Int)) (k : Nat) : List Int := ((List.range k).filter (difB m y ws)).map fun i : Nat => (i : Int)
theorem caughtN_succ (m y : Mac) (ws : List (List Int)) (k : Nat) : caughtN m y ws (k + 1) = if difB m y ws k = true then caughtN m y ws k ++ [(k : Int)] else caughtN m y ws k := by
  unfold caughtN
  rw [List.range_succ, List.filter_append]
  by_cases e : difB m y ws k = true
  · rw [if_pos e]; simp [e]
  · rw [if_neg e]; simp [e]
theorem caughtN_len (m y : Mac) (ws : List (List Int)) (k : Nat) : (caughtN m y ws k).length ≤ k := by
  unfold caughtN
  rw [List.length_map]
  have := List.length_filter_le (difB m y ws) (List.range k)
  simpa using this
theorem pass_one {m y : Mac} {ws : List (List Int)} (k : Nat) : passN m y [ws.getD k []] = if difB m y ws k = true then 0 else 1 := by
  unfold passN difB
  have e : List.range 1 = [0] := rfl
  have e0 : [ws.getD k []].getD 0 [] = ws.getD k [] := rfl
  simp only [firstOf, List.length_singleton, e, List.findSome?_cons, List.findSome?_nil, difAt, e0]
  by_cases hd : outsOf m m.start (ws.getD k []) = outsOf y y.start (ws.getD k [])
  · rw [if_pos hd, decide_eq_true hd]; rfl
  · rw [if_neg hd, decide_eq_false hd]; rfl
def caughtR (m : Mac) (ms : List Mac) (ws : List (List Int)) : List (List Int) := if cCode m ms ws = 0 then ms.map fun y => caughtN m y ws ws.length else []
theorem c20 {a b : Value} {c : Value} {m : Mac} {ms : List Mac} {ws : List (List Int)} {oc : Option Addr} {lc : Nat} (s1 : MacV h a m) (s2 : MacsS h b ms) (sw : RowsS h c ws) (hc : c = .slice oc lc 0) :
    DetP Try.prog 20 [a, b, c] h fun v h' => h <+: h' ∧ ∃ x, v = .tuple #[x, .int .i64 (cCode m ms ws)] ∧ RowsS h' x (caughtR m ms ws) := by
  have lt := sw.lt
  have ltm := s2.lt
  refine w20 ?_
  unfold n20
  obtain ⟨o, l, cc, rfl, ss1⟩ := s1
  have bad : ∀ {g : Heap} {e : Int}, h <+: g → cCode m ms ws = e → e ≠ 0 → h <+: g ∧ ∃ x, Value.tuple #[.slice none 0 0, .int .i64 e] = .tuple #[x, .int .i64 (cCode m ms ws)] ∧ RowsS g x (caughtR m ms ws) := by
    intro g e hp he h0
    refine ⟨hp, .slice none 0 0, by rw [he], ?_⟩
    unfold caughtR
    rw [if_neg (by rw [he]; exact h0)]
    exact ⟨[], rfl, Seg.nil 1 g, fun k hk => by simp at hk⟩
  rw [box36]
  refine ok_i rfl ?_
  have p1 := pre_new h [.int .i64 m.states, .int .i64 m.inputs, .int .i64 m.outputs, .int .i64 m.start, .slice o l cc] 5
  have hb1 := newArr_get h [.int .i64 m.states, .int .i64 m.inputs, .int .i64 m.outputs, .int .i64 m.start, .slice o l cc] 5
  generalize hi0 : h.length = i0 at hb1 ⊢
  generalize newArr h [.int .i64 m.states, .int .i64 m.inputs, .int .i64 m.outputs, .int .i64 m.start, .slice o l cc] 5 = g1 at p1 hb1 ⊢
  have ssa := ss1.mono (Sub.of_pre p1)
  (with_reducible repeat first|refine mv_i ?_|refine cnd_t ?_|refine cnd_f ?_|refine gd_tt ?_|refine gd_ff ?_|refine gd_tf ?_|refine gd_ft ?_|refine gd_u ?_|refine pick_t ?_|refine pick_f ?_|refine not_t ?_|refine not_f ?_|refine nil_i ?_|refine ret1 ?_|refine ret2 ?_|refine ret0 ?_|refine ret3 ?_|refine ex2_0 ?_|refine ex2_1 ?_|refine ex3_0 ?_|refine ex3_1 ?_|refine ex3_2 ?_)
  refine vk_i (ld36 hb1) ?_
  refine call_r (c46 (macv_of ssa)) ?_
  (with_reducible repeat first|refine mv_i ?_|refine cnd_t ?_|refine cnd_f ?_|refine gd_tt ?_|refine gd_ff ?_|refine gd_tf ?_|refine gd_ft ?_|refine gd_u ?_|refine pick_t ?_|refine pick_f ?_|refine not_t ?_|refine not_f ?_|refine nil_i ?_|refine ret1 ?_|refine ret2 ?_|refine ret0 ?_|refine ret3 ?_|refine ex2_0 ?_|refine ex2_1 ?_|refine ex3_0 ?_|refine ex3_1 ?_|refine ex3_2 ?_)
  refine lenm_i s2 ?_
  refine leq_b ?_
  refine call_r (c38 _ _) ?_
  refine ok_i (bs94_2 _ _ _) ?_
  refine call_r (c37 (xs := [_, _]) (Seg.new 3 (by rfl) (by simp))) ?_
  have ev : orOf [(mErr m).2, if decide ((ms.length : Int) ≤ 12) = true then 0 else 2] = cHead m ms := rfl
  rw [ev]
  have p2 := p1.trans (pre_new g1 [.int .i64 (mErr m).2, .int .i64 (if decide ((ms.length : Int) ≤ 12) = true then 0 else 2)] 1)
  have hb2 := (Sub.of_pre (pre_new g1 [.int .i64 (mErr m).2, .int .i64 (if decide ((ms.length : Int) ≤ 12) = true then 0 else 2)] 1)).2 _ _ hb1
  generalize newArr g1 [.int .i64 (mErr m).2, .int .i64 (if decide ((ms.length : Int) ≤ 12) = true then 0 else 2)] 1 = g2 at p2 hb2 ⊢
  (with_reducible repeat first|refine mv_i ?_|refine cnd_t ?_|refine cnd_f ?_|refine gd_tt ?_|refine gd_ff ?_|refine gd_tf ?_|refine gd_ft ?_|refine gd_u ?_|refine pick_t ?_|refine pick_f ?_|refine not_t ?_|refine not_f ?_|refine nil_i ?_|refine ret1 ?_|refine ret2 ?_|refine ret0 ?_|refine ret3 ?_|refine ex2_0 ?_|refine ex2_1 ?_|refine ex3_0 ?_|refine ex3_1 ?_|refine ex3_2 ?_)
  refine neq_i (fun hz => ?_) (fun hz => ?_)
  rotate_left
  · (with_reducible repeat first|refine mv_i ?_|refine cnd_t ?_|refine cnd_f ?_|refine gd_tt ?_|refine gd_ff ?_|refine gd_tf ?_|refine gd_ft ?_|refine gd_u ?_|refine pick_t ?_|refine pick_f ?_|refine not_t ?_|refine not_f ?_|refine nil_i ?_|refine ret1 ?_|refine ret2 ?_|refine ret0 ?_|refine ret3 ?_|refine ex2_0 ?_|refine ex2_1 ?_|refine ex3_0 ?_|refine ex3_1 ?_|refine ex3_2 ?_)
    exact bad p2 (by unfold cCode; rw [if_pos hz]) hz
  have hm12 : ms.length ≤ 12 := by
    unfold cHead at hz
    rw [or2] at hz
    split at hz
    · by_cases e : (ms.length : Int) ≤ 12
      · omega
      · rw [decide_eq_false e] at hz; simp at hz
    · rename_i hne; exact absurd hz hne
  have hme : (mErr m).2 = 0 := by
    unfold cHead at hz
    rw [or2] at hz
    split at hz
    · assumption
    · exact hz
  (with_reducible repeat first|refine mv_i ?_|refine cnd_t ?_|refine cnd_f ?_|refine gd_tt ?_|refine gd_ff ?_|refine gd_tf ?_|refine gd_ft ?_|refine gd_u ?_|refine pick_t ?_|refine pick_f ?_|refine not_t ?_|refine not_f ?_|refine nil_i ?_|refine ret1 ?_|refine ret2 ?_|refine ret0 ?_|refine ret3 ?_|refine ex2_0 ?_|refine ex2_1 ?_|refine ex3_0 ?_|refine ex3_1 ?_|refine ex3_2 ?_)
  refine lenm_i s2 ?_
  (with_reducible repeat first|refine mv_i ?_|refine cnd_t ?_|refine cnd_f ?_|refine gd_tt ?_|refine gd_ff ?_|refine gd_tf ?_|refine gd_ft ?_|refine gd_u ?_|refine pick_t ?_|refine pick_f ?_|refine not_t ?_|refine not_f ?_|refine nil_i ?_|refine ret1 ?_|refine ret2 ?_|refine ret0 ?_|refine ret3 ?_|refine ex2_0 ?_|refine ex2_1 ?_|refine ex3_0 ?_|refine ex3_1 ?_|refine ex3_2 ?_)
  refine loop1 ms.length (fun k h2 => g2 <+: h2 ∧ ∀ j, j < k → nz (cAt m (ms.getD j dmac)) = none) ⟨List.prefix_refl _, fun j hj => by omega⟩ ?_
  rintro k h2 _ hk ⟨p3, hJ⟩
  have p23 := p2.trans p3
  have sm := s2.mono (Sub.of_pre p23)
  have hb3 := (Sub.of_pre p3).2 _ _ hb2
  (with_reducible repeat first|refine mv_i ?_|refine cnd_t ?_|refine cnd_f ?_|refine gd_tt ?_|refine gd_ff ?_|refine gd_tf ?_|refine gd_ft ?_|refine gd_u ?_|refine pick_t ?_|refine pick_f ?_|refine not_t ?_|refine not_f ?_|refine nil_i ?_|refine ret1 ?_|refine ret2 ?_|refine ret0 ?_|refine ret3 ?_|refine ex2_0 ?_|refine ex2_1 ?_|refine ex3_0 ?_|refine ex3_1 ?_|refine ex3_2 ?_)
  refine lss_i (fun hlt => ?_) (fun hge => ?_)
  · have hk2 : k < ms.length := by omega
    (with_reducible repeat first|refine mv_i ?_|refine cnd_t ?_|refine cnd_f ?_|refine gd_tt ?_|refine gd_ff ?_|refine gd_tf ?_|refine gd_ft ?_|refine gd_u ?_|refine pick_t ?_|refine pick_f ?_|refine not_t ?_|refine not_f ?_|refine nil_i ?_|refine ret1 ?_|refine ret2 ?_|refine ret0 ?_|refine ret3 ?_|refine ex2_0 ?_|refine ex2_1 ?_|refine ex3_0 ?_|refine ex3_1 ?_|refine ex3_2 ?_)
    refine idxm_i sm hk2 ?_
    refine ldm_i sm hk2 fun oy ly cy ssy => ?_
    refine ok_i (al36 _) ?_
    refine ok_i (v := undef) (h' := newArr h2 [.int .i64 (ms.getD k dmac).states, .int .i64 (ms.getD k dmac).inputs, .int .i64 (ms.getD k dmac).outputs, .int .i64 (ms.getD k dmac).start, .slice oy ly cy] 5) (by rw [sto36n]; rfl) ?_
    have p4 := pre_new h2 [.int .i64 (ms.getD k dmac).states, .int .i64 (ms.getD k dmac).inputs, .int .i64 (ms.getD k dmac).outputs, .int .i64 (ms.getD k dmac).start, .slice oy ly cy] 5
    have hy := newArr_get h2 [.int .i64 (ms.getD k dmac).states, .int .i64 (ms.getD k dmac).inputs, .int .i64 (ms.getD k dmac).outputs, .int .i64 (ms.getD k dmac).start, .slice oy ly cy] 5
    generalize hiy : h2.length = iy at hy ⊢
    generalize newArr h2 [.int .i64 (ms.getD k dmac).states, .int .i64 (ms.getD k dmac).inputs, .int .i64 (ms.getD k dmac).outputs, .int .i64 (ms.getD k dmac).start, .slice oy ly cy] 5 = h3 at p4 hy ⊢
    have ssy3 := ssy.mono (Sub.of_pre p4)
    have hb4 := (Sub.of_pre p4).2 _ _ hb3
    (with_reducible repeat first|refine mv_i ?_|refine cnd_t ?_|refine cnd_f ?_|refine gd_tt ?_|refine gd_ff ?_|refine gd_tf ?_|refine gd_ft ?_|refine gd_u ?_|refine pick_t ?_|refine pick_f ?_|refine not_t ?_|refine not_f ?_|refine nil_i ?_|refine ret1 ?_|refine ret2 ?_|refine ret0 ?_|refine ret3 ?_|refine ex2_0 ?_|refine ex2_1 ?_|refine ex3_0 ?_|refine ex3_1 ?_|refine ex3_2 ?_)
    refine vk_i (ld36 hy) ?_
    refine ⟨vb_mac ssy3, ?_⟩
    refine calld_r (c46 (macv_of ssy3)) ⟨⟨[], by simp⟩, ?_⟩
    (with_reducible repeat first|refine mv_i ?_|refine cnd_t ?_|refine cnd_f ?_|refine gd_tt ?_|refine gd_ff ?_|refine gd_tf ?_|refine gd_ft ?_|refine gd_u ?_|refine pick_t ?_|refine pick_f ?_|refine not_t ?_|refine not_f ?_|refine nil_i ?_|refine ret1 ?_|refine ret2 ?_|refine ret0 ?_|refine ret3 ?_|refine ex2_0 ?_|refine ex2_1 ?_|refine ex3_0 ?_|refine ex3_1 ?_|refine ex3_2 ?_|refine vk_i (fa36_0 _) ?_|refine vk_i (fa36_1 _) ?_|refine vk_i (fa36_2 _) ?_|refine vk_i (fa36_3 _) ?_|refine vk_i (fa36_4 _) ?_|refine vk_i (fa63_0 _) ?_|refine vk_i (fa63_1 _) ?_|refine vk_i (fa63_2 _) ?_|refine vk_i (fa63_3 _) ?_|refine ld4_0 r3 (by assumption) ?_|refine ld4_1 r3 (by assumption) ?_|refine ld4_2 r3 (by assumption) ?_|refine ld4_3 r3 (by assumption) ?_|refine ld5_0 r3 (by assumption) ?_|refine ld5_1 r3 (by assumption) ?_|refine ld5_2 r3 (by assumption) ?_|refine ld5_3 r3 (by assumption) ?_|refine ld5_4 r34 (by assumption) ?_|refine fae_i st63 (by assumption) (by omega) (by omega) ?_|refine ldf_i st63 (by assumption) (by omega) (by omega) dst ?_|refine ⟨vbi _ _, ?_⟩)
    refine eql_b ?_
    refine calld_r (c38 _ _) ⟨⟨[], by simp⟩, ?_⟩
    refine ok_i (bs94_2 _ _ _) ?_
    refine calld_r (c37 (xs := [_, _]) (Seg.new 3 (by rfl) (by simp))) ⟨⟨[], by simp⟩, ?_⟩
    have ev2 : orOf [(mErr (ms.getD k dmac)).2, if decide (m.inputs = (ms.getD k dmac).inputs) = true then 0 else 6] = cAt m (ms.getD k dmac) := rfl
    rw [ev2]
    have p5 := p4.trans (pre_new h3 [.int .i64 (mErr (ms.getD k dmac)).2, .int .i64 (if decide (m.inputs = (ms.getD k dmac).inputs) = true then 0 else 6)] 1)
    generalize newArr h3 [.int .i64 (mErr (ms.getD k dmac)).2, .int .i64 (if decide (m.inputs = (ms.getD k dmac).inputs) = true then 0 else 6)] 1 = h4 at p5 ⊢
    (with_reducible repeat first|refine mv_i ?_|refine cnd_t ?_|refine cnd_f ?_|refine gd_tt ?_|refine gd_ff ?_|refine gd_tf ?_|refine gd_ft ?_|refine gd_u ?_|refine pick_t ?_|refine pick_f ?_|refine not_t ?_|refine not_f ?_|refine nil_i ?_|refine ret1 ?_|refine ret2 ?_|refine ret0 ?_|refine ret3 ?_|refine ex2_0 ?_|refine ex2_1 ?_|refine ex3_0 ?_|refine ex3_1 ?_|refine ex3_2 ?_)
    refine neq_i (fun hz2 => ?_) (fun hz2 => ?_)
    rotate_left
    · (with_reducible repeat first|refine mv_i ?_|refine cnd_t ?_|refine cnd_f ?_|refine gd_tt ?_|refine gd_ff ?_|refine gd_tf ?_|refine gd_ft ?_|refine gd_u ?_|refine pick_t ?_|refine pick_f ?_|refine not_t ?_|refine not_f ?_|refine nil_i ?_|refine ret1 ?_|refine ret2 ?_|refine ret0 ?_|refine ret3 ?_|refine ex2_0 ?_|refine ex2_1 ?_|refine ex3_0 ?_|refine ex3_1 ?_|refine ex3_2 ?_)
      refine bad (p23.trans p5) ?_ hz2
      unfold cCode cFirst
      rw [if_neg (fun q => q hz), firstOf_some (f := fun i => nz (cAt m (ms.getD i dmac))) hJ hk2 (e := cAt m (ms.getD k dmac)) (by unfold nz; rw [if_neg hz2])]
      rfl
    · (with_reducible repeat first|refine mv_i ?_|refine cnd_t ?_|refine cnd_f ?_|refine gd_tt ?_|refine gd_ff ?_|refine gd_tf ?_|refine gd_ft ?_|refine gd_u ?_|refine pick_t ?_|refine pick_f ?_|refine not_t ?_|refine not_f ?_|refine nil_i ?_|refine ret1 ?_|refine ret2 ?_|refine ret0 ?_|refine ret3 ?_|refine ex2_0 ?_|refine ex2_1 ?_|refine ex3_0 ?_|refine ex3_1 ?_|refine ex3_2 ?_)
      refine inc_i (by omega) ?_
      (with_reducible repeat first|refine mv_i ?_|refine cnd_t ?_|refine cnd_f ?_|refine gd_tt ?_|refine gd_ff ?_|refine gd_tf ?_|refine gd_ft ?_|refine gd_u ?_|refine pick_t ?_|refine pick_f ?_|refine not_t ?_|refine not_f ?_|refine nil_i ?_|refine ret1 ?_|refine ret2 ?_|refine ret0 ?_|refine ret3 ?_|refine ex2_0 ?_|refine ex2_1 ?_|refine ex3_0 ?_|refine ex3_1 ?_|refine ex3_2 ?_)
      refine next1 hk2 ⟨p3.trans p5, fun j hj => ?_⟩
      by_cases q : j = k
      · subst q; unfold nz; exact if_pos hz2
      · exact hJ j (by omega)
  have hall : ∀ j, j < ms.length → cAt m (ms.getD j dmac) = 0 := by
    intro j hj
    have := hJ j (by omega)
    unfold nz at this
    split at this
    · assumption
    · cases this
  have hcode : cCode m ms ws = sErr ws m.inputs := by
    unfold cCode cFirst
    rw [if_neg (fun q => q hz), firstOf_none (f := fun i => nz (cAt m (ms.getD i dmac))) (fun j hj => by unfold nz; exact if_pos (hall j hj))]
    rfl
  have swh := sw.mono (Sub.of_pre p23)
  (with_reducible repeat first|refine mv_i ?_|refine cnd_t ?_|refine cnd_f ?_|refine gd_tt ?_|refine gd_ff ?_|refine gd_tf ?_|refine gd_ft ?_|refine gd_u ?_|refine pick_t ?_|refine pick_f ?_|refine not_t ?_|refine not_f ?_|refine nil_i ?_|refine ret1 ?_|refine ret2 ?_|refine ret0 ?_|refine ret3 ?_|refine ex2_0 ?_|refine ex2_1 ?_|refine ex3_0 ?_|refine ex3_1 ?_|refine ex3_2 ?_|refine vk_i (fa36_0 _) ?_|refine vk_i (fa36_1 _) ?_|refine vk_i (fa36_2 _) ?_|refine vk_i (fa36_3 _) ?_|refine vk_i (fa36_4 _) ?_|refine vk_i (fa63_0 _) ?_|refine vk_i (fa63_1 _) ?_|refine vk_i (fa63_2 _) ?_|refine vk_i (fa63_3 _) ?_|refine ld4_0 r3 (by assumption) ?_|refine ld4_1 r3 (by assumption) ?_|refine ld4_2 r3 (by assumption) ?_|refine ld4_3 r3 (by assumption) ?_|refine ld5_0 r3 (by assumption) ?_|refine ld5_1 r3 (by assumption) ?_|refine ld5_2 r3 (by assumption) ?_|refine ld5_3 r3 (by assumption) ?_|refine ld5_4 r34 (by assumption) ?_|refine fae_i st63 (by assumption) (by omega) (by omega) ?_|refine ldf_i st63 (by assumption) (by omega) (by omega) dst ?_|refine ⟨vbi _ _, ?_⟩)
  refine call_r (c47 swh) ?_
  (with_reducible repeat first|refine mv_i ?_|refine cnd_t ?_|refine cnd_f ?_|refine gd_tt ?_|refine gd_ff ?_|refine gd_tf ?_|refine gd_ft ?_|refine gd_u ?_|refine pick_t ?_|refine pick_f ?_|refine not_t ?_|refine not_f ?_|refine nil_i ?_|refine ret1 ?_|refine ret2 ?_|refine ret0 ?_|refine ret3 ?_|refine ex2_0 ?_|refine ex2_1 ?_|refine ex3_0 ?_|refine ex3_1 ?_|refine ex3_2 ?_)
  refine neq_i (fun hz3 => ?_) (fun hz3 => ?_)
  rotate_left
  · (with_reducible repeat first|refine mv_i ?_|refine cnd_t ?_|refine cnd_f ?_|refine gd_tt ?_|refine gd_ff ?_|refine gd_tf ?_|refine gd_ft ?_|refine gd_u ?_|refine pick_t ?_|refine pick_f ?_|refine not_t ?_|refine not_f ?_|refine nil_i ?_|refine ret1 ?_|refine ret2 ?_|refine ret0 ?_|refine ret3 ?_|refine ex2_0 ?_|refine ex2_1 ?_|refine ex3_0 ?_|refine ex3_1 ?_|refine ex3_2 ?_)
    exact bad p23 (by rw [hcode]) hz3
  have hws := s_words hz3
  have hw60 : ws.length ≤ 2000 := by
    unfold sErr at hz3
    split at hz3
    · cases hz3
    · omega
  have hmy : ∀ j, j < ms.length → (mErr (ms.getD j dmac)).2 = 0 ∧ m.inputs = (ms.getD j dmac).inputs := by
    intro j hj
    have := hall j hj
    unfold cAt at this
    rw [or2] at this
    by_cases e : (mErr (ms.getD j dmac)).2 = 0
    · refine ⟨e, ?_⟩
      rw [if_pos e] at this
      by_cases e2 : m.inputs = (ms.getD j dmac).inputs
      · exact e2
      · rw [decide_eq_false e2] at this; simp at this
    · rw [if_neg e] at this; exact absurd this e
  (with_reducible repeat first|refine mv_i ?_|refine cnd_t ?_|refine cnd_f ?_|refine gd_tt ?_|refine gd_ff ?_|refine gd_tf ?_|refine gd_ft ?_|refine gd_u ?_|refine pick_t ?_|refine pick_f ?_|refine not_t ?_|refine not_f ?_|refine nil_i ?_|refine ret1 ?_|refine ret2 ?_|refine ret0 ?_|refine ret3 ?_|refine ex2_0 ?_|refine ex2_1 ?_|refine ex3_0 ?_|refine ex3_1 ?_|refine ex3_2 ?_)
  refine lenm_i sm ?_
  (with_reducible repeat first|refine mv_i ?_|refine cnd_t ?_|refine cnd_f ?_|refine gd_tt ?_|refine gd_ff ?_|refine gd_tf ?_|refine gd_ft ?_|refine gd_u ?_|refine pick_t ?_|refine pick_f ?_|refine not_t ?_|refine not_f ?_|refine nil_i ?_|refine ret1 ?_|refine ret2 ?_|refine ret0 ?_|refine ret3 ?_|refine ex2_0 ?_|refine ex2_1 ?_|refine ex3_0 ?_|refine ex3_1 ?_|refine ex3_2 ?_)
  refine loop2 ms.length (fun k v h3 => ∃ rs, Own 1 h2 h3 v k rs ∧ RowsK (kill v h3) rs k (ms.map fun y => caughtN m y ws ws.length)) ⟨[], Own.nil 1 (List.prefix_refl _), fun j hj => by omega⟩ ?_
  rintro k2 v h3 _ hk3 ⟨rs, ow, hr⟩
  have p3' := p23.trans ow.pre
  have sm3 := s2.mono (Sub.of_pre p3')
  (with_reducible repeat first|refine mv_i ?_|refine cnd_t ?_|refine cnd_f ?_|refine gd_tt ?_|refine gd_ff ?_|refine gd_tf ?_|refine gd_ft ?_|refine gd_u ?_|refine pick_t ?_|refine pick_f ?_|refine not_t ?_|refine not_f ?_|refine nil_i ?_|refine ret1 ?_|refine ret2 ?_|refine ret0 ?_|refine ret3 ?_|refine ex2_0 ?_|refine ex2_1 ?_|refine ex3_0 ?_|refine ex3_1 ?_|refine ex3_2 ?_)
  refine lss_i (fun hlt => ?_) (fun hge2 => ?_)
  · have hk4 : k2 < ms.length := by omega
    (with_reducible repeat first|refine mv_i ?_|refine cnd_t ?_|refine cnd_f ?_|refine gd_tt ?_|refine gd_ff ?_|refine gd_tf ?_|refine gd_ft ?_|refine gd_u ?_|refine pick_t ?_|refine pick_f ?_|refine not_t ?_|refine not_f ?_|refine nil_i ?_|refine ret1 ?_|refine ret2 ?_|refine ret0 ?_|refine ret3 ?_|refine ex2_0 ?_|refine ex2_1 ?_|refine ex3_0 ?_|refine ex3_1 ?_|refine ex3_2 ?_)
    refine idxm_i sm3 hk4 ?_
    refine ldm_i sm3 hk4 fun oy ly cy ssy => ?_
    refine ok_i (al36 _) ?_
    generalize hyy : ms.getD k2 dmac = y at ssy ⊢
    have hyg := hmy k2 hk4
    rw [hyy] at hyg
    refine ok_i (v := undef) (h' := newArr h3 [.int .i64 y.states, .int .i64 y.inputs, .int .i64 y.outputs, .int .i64 y.start, .slice oy ly cy] 5) (by rw [sto36n]; rfl) ?_
    have p4 := pre_new h3 [.int .i64 y.states, .int .i64 y.inputs, .int .i64 y.outputs, .int .i64 y.start, .slice oy ly cy] 5
    have hy := newArr_get h3 [.int .i64 y.states, .int .i64 y.inputs, .int .i64 y.outputs, .int .i64 y.start, .slice oy ly cy] 5
    generalize hiy : h3.length = iy at hy ⊢
    generalize newArr h3 [.int .i64 y.states, .int .i64 y.inputs, .int .i64 y.outputs, .int .i64 y.start, .slice oy ly cy] 5 = h4 at p4 hy ⊢
    have p04 := p3'.trans p4
    have ssy4 := ssy.mono (Sub.of_pre p4)
    have sw4 := sw.mono (Sub.of_pre p04)
    have hb4 := (Sub.of_pre (p3.trans (ow.pre.trans p4))).2 _ _ hb2
    have ssa4 := ss1.mono (Sub.of_pre p04)
    (with_reducible repeat first|refine mv_i ?_|refine cnd_t ?_|refine cnd_f ?_|refine gd_tt ?_|refine gd_ff ?_|refine gd_tf ?_|refine gd_ft ?_|refine gd_u ?_|refine pick_t ?_|refine pick_f ?_|refine not_t ?_|refine not_f ?_|refine nil_i ?_|refine ret1 ?_|refine ret2 ?_|refine ret0 ?_|refine ret3 ?_|refine ex2_0 ?_|refine ex2_1 ?_|refine ex3_0 ?_|refine ex3_1 ?_|refine ex3_2 ?_)
    refine lenr_i t22 sw4 ?_
    (with_reducible repeat first|refine mv_i ?_|refine cnd_t ?_|refine cnd_f ?_|refine gd_tt ?_|refine gd_ff ?_|refine gd_tf ?_|refine gd_ft ?_|refine gd_u ?_|refine pick_t ?_|refine pick_f ?_|refine not_t ?_|refine not_f ?_|refine nil_i ?_|refine ret1 ?_|refine ret2 ?_|refine ret0 ?_|refine ret3 ?_|refine ex2_0 ?_|refine ex2_1 ?_|refine ex3_0 ?_|refine ex3_1 ?_|refine ex3_2 ?_)
    refine loop2 ws.length (fun k v h5 => Own 1 h4 h5 v (caughtN m y ws k).length ((caughtN m y ws k).map (.int .i64))) (Own.nil 1 (List.prefix_refl _)) ?_
    rintro k5 v5 h5 _ hk5 ow5
    have p5 := ow5.pre
    (with_reducible repeat first|refine mv_i ?_|refine cnd_t ?_|refine cnd_f ?_|refine gd_tt ?_|refine gd_ff ?_|refine gd_tf ?_|refine gd_ft ?_|refine gd_u ?_|refine pick_t ?_|refine pick_f ?_|refine not_t ?_|refine not_f ?_|refine nil_i ?_|refine ret1 ?_|refine ret2 ?_|refine ret0 ?_|refine ret3 ?_|refine ex2_0 ?_|refine ex2_1 ?_|refine ex3_0 ?_|refine ex3_1 ?_|refine ex3_2 ?_)
    refine lss_i (fun hlt5 => ?_) (fun hge5 => ?_)
    · have hk6 : k5 < ws.length := by omega
      have hb5 := (Sub.of_pre p5).2 _ _ hb4
      have hy5 := (Sub.of_pre p5).2 _ _ hy
      have ssa5 := ssa4.mono (Sub.of_pre p5)
      have ssy5 := ssy4.mono (Sub.of_pre p5)
      have sw5 := sw4.mono (Sub.of_pre p5)
      (with_reducible repeat first|refine mv_i ?_|refine cnd_t ?_|refine cnd_f ?_|refine gd_tt ?_|refine gd_ff ?_|refine gd_tf ?_|refine gd_ft ?_|refine gd_u ?_|refine pick_t ?_|refine pick_f ?_|refine not_t ?_|refine not_f ?_|refine nil_i ?_|refine ret1 ?_|refine ret2 ?_|refine ret0 ?_|refine ret3 ?_|refine ex2_0 ?_|refine ex2_1 ?_|refine ex3_0 ?_|refine ex3_1 ?_|refine ex3_2 ?_)
      refine seq_J (fun xs h6 => ∃ z, xs = [z] ∧ Own 1 h4 h6 z (caughtN m y ws (k5 + 1)).length ((caughtN m y ws (k5 + 1)).map (.int .i64))) ?_ ?_
      · rintro _ h6 ⟨z, rfl, ow6⟩ _
        (with_reducible repeat first|refine mv_i ?_|refine cnd_t ?_|refine cnd_f ?_|refine gd_tt ?_|refine gd_ff ?_|refine gd_tf ?_|refine gd_ft ?_|refine gd_u ?_|refine pick_t ?_|refine pick_f ?_|refine not_t ?_|refine not_f ?_|refine nil_i ?_|refine ret1 ?_|refine ret2 ?_|refine ret0 ?_|refine ret3 ?_|refine ex2_0 ?_|refine ex2_1 ?_|refine ex3_0 ?_|refine ex3_1 ?_|refine ex3_2 ?_)
        refine inc_i (by omega) ?_
        (with_reducible repeat first|refine mv_i ?_|refine cnd_t ?_|refine cnd_f ?_|refine gd_tt ?_|refine gd_ff ?_|refine gd_tf ?_|refine gd_ft ?_|refine gd_u ?_|refine pick_t ?_|refine pick_f ?_|refine not_t ?_|refine not_f ?_|refine nil_i ?_|refine ret1 ?_|refine ret2 ?_|refine ret0 ?_|refine ret3 ?_|refine ex2_0 ?_|refine ex2_1 ?_|refine ex3_0 ?_|refine ex3_1 ?_|refine ex3_2 ?_)
        exact next2 hk6 ow6
      · intro k' hk'
        (with_reducible repeat first|refine mv_i ?_|refine cnd_t ?_|refine cnd_f ?_|refine gd_tt ?_|refine gd_ff ?_|refine gd_tf ?_|refine gd_ft ?_|refine gd_u ?_|refine pick_t ?_|refine pick_f ?_|refine not_t ?_|refine not_f ?_|refine nil_i ?_|refine ret1 ?_|refine ret2 ?_|refine ret0 ?_|refine ret3 ?_|refine ex2_0 ?_|refine ex2_1 ?_|refine ex3_0 ?_|refine ex3_1 ?_|refine ex3_2 ?_)
        refine vk_i (ld36 hb5) ?_
        refine ⟨vb_mac ssa5, ?_⟩
        refine vk_i (ld36 hy5) ?_
        refine ⟨vb_mac ssy5, ?_⟩
        (with_reducible repeat first|refine mv_i ?_|refine cnd_t ?_|refine cnd_f ?_|refine gd_tt ?_|refine gd_ff ?_|refine gd_tf ?_|refine gd_ft ?_|refine gd_u ?_|refine pick_t ?_|refine pick_f ?_|refine not_t ?_|refine not_f ?_|refine nil_i ?_|refine ret1 ?_|refine ret2 ?_|refine ret0 ?_|refine ret3 ?_|refine ex2_0 ?_|refine ex2_1 ?_|refine ex3_0 ?_|refine ex3_1 ?_|refine ex3_2 ?_)
        refine inc_i (by omega) ?_
        refine sub1_i sw5 hc hk6 fun z sz => ?_
        obtain ⟨rz, _, sgz, _⟩ := id sz
        refine ⟨seg_vb sgz, ?_⟩
        have hwz : ∀ w ∈ [ws.getD k5 []], wErr w m.inputs 60 = 0 := fun w hw => by rw [List.mem_singleton.mp hw]; exact hws _ (gd_mem [] hk6)
        refine calld_r (c48 (macv_of ssa5) (macv_of ssy5) sz hme hyg.1 hwz (hyg.2 ▸ hwz)) ⟨⟨[], by simp⟩, ?_⟩
        rw [pass_one]
        have hsucc := caughtN_succ m y ws k5
        by_cases hd : difB m y ws k5 = true
        · rw [if_pos hd] at hsucc ⊢
          refine eql_i (fun _ => ?_) (fun q => absurd rfl q)
          (with_reducible repeat first|refine mv_i ?_|refine cnd_t ?_|refine cnd_f ?_|refine gd_tt ?_|refine gd_ff ?_|refine gd_tf ?_|refine gd_ft ?_|refine gd_u ?_|refine pick_t ?_|refine pick_f ?_|refine not_t ?_|refine not_f ?_|refine nil_i ?_|refine ret1 ?_|refine ret2 ?_|refine ret0 ?_|refine ret3 ?_|refine ex2_0 ?_|refine ex2_1 ?_|refine ex3_0 ?_|refine ex3_1 ?_|refine ex3_2 ?_)
          refine ok_i (bs23_1 _ _) ?_
          obtain ⟨o6, _⟩ := ow5.ext (pre_new h5 [.int .i64 (k5 : Int)] 1)
          have hl := caughtN_len m y ws k5
          refine app_i t23 o6 (Seg.new (n := 1) 2 (by simp) (by omega)) (by simp [Value.oneCell']) (by omega) ⟨by omega, by omega⟩ fun v' h' o7 _ => ?_
          (with_reducible repeat first|refine mv_i ?_|refine cnd_t ?_|refine cnd_f ?_|refine gd_tt ?_|refine gd_ff ?_|refine gd_tf ?_|refine gd_ft ?_|refine gd_u ?_|refine pick_t ?_|refine pick_f ?_|refine not_t ?_|refine not_f ?_|refine nil_i ?_|refine ret1 ?_|refine ret2 ?_|refine ret0 ?_|refine ret3 ?_|refine ex2_0 ?_|refine ex2_1 ?_|refine ex3_0 ?_|refine ex3_1 ?_|refine ex3_2 ?_)
          refine hk' _ _ ⟨_, rfl, ?_⟩
          rw [hsucc, List.length_append, List.map_append]
          exact o7
        · rw [if_neg hd] at hsucc ⊢
          refine eql_i (fun q => absurd q (by omega)) (fun _ => ?_)
          (with_reducible repeat first|refine mv_i ?_|refine cnd_t ?_|refine cnd_f ?_|refine gd_tt ?_|refine gd_ff ?_|refine gd_tf ?_|refine gd_ft ?_|refine gd_u ?_|refine pick_t ?_|refine pick_f ?_|refine not_t ?_|refine not_f ?_|refine nil_i ?_|refine ret1 ?_|refine ret2 ?_|refine ret0 ?_|refine ret3 ?_|refine ex2_0 ?_|refine ex2_1 ?_|refine ex3_0 ?_|refine ex3_1 ?_|refine ex3_2 ?_)
          refine hk' _ _ ⟨_, rfl, ?_⟩
          rw [hsucc]
          exact ow5
    · have ek : k5 = ws.length := by omega
      subst ek
      obtain ⟨o5, sk5⟩ := ow.ext (p4.trans p5)
      have q5 : Seg 1 (kill v h5) v5 (caughtN m y ws ws.length).length ((caughtN m y ws ws.length).map (.int .i64)) := by
        obtain ⟨o4, _⟩ := ow.ext p4
        exact o4.kill ow5.only
      obtain ⟨p, l5, c5, ev5⟩ := seg_slice ow5.seg
      rw [ev5] at q5 ⊢
      (with_reducible repeat first|refine mv_i ?_|refine cnd_t ?_|refine cnd_f ?_|refine gd_tt ?_|refine gd_ff ?_|refine gd_tf ?_|refine gd_ft ?_|refine gd_u ?_|refine pick_t ?_|refine pick_f ?_|refine not_t ?_|refine not_f ?_|refine nil_i ?_|refine ret1 ?_|refine ret2 ?_|refine ret0 ?_|refine ret3 ?_|refine ex2_0 ?_|refine ex2_1 ?_|refine ex3_0 ?_|refine ex3_1 ?_|refine ex3_2 ?_)
      refine ok_i (bs22_1 p l5 c5 _) ?_
      obtain ⟨o6, sk6⟩ := o5.ext (pre_new h5 [.slice p l5 c5] 1)
      refine app_i t22 o6 (Seg.new (n := 1) 2 (by simp) (by omega)) (by simp [Value.oneCell']) (by omega) ⟨by omega, by omega⟩ fun v' h' o7 sk7 => ?_
      (with_reducible repeat first|refine mv_i ?_|refine cnd_t ?_|refine cnd_f ?_|refine gd_tt ?_|refine gd_ff ?_|refine gd_tf ?_|refine gd_ft ?_|refine gd_u ?_|refine pick_t ?_|refine pick_f ?_|refine not_t ?_|refine not_f ?_|refine nil_i ?_|refine ret1 ?_|refine ret2 ?_|refine ret0 ?_|refine ret3 ?_|refine ex2_0 ?_|refine ex2_1 ?_|refine ex3_0 ?_|refine ex3_1 ?_|refine ex3_2 ?_)
      refine inc_i (by omega) ?_
      (with_reducible repeat first|refine mv_i ?_|refine cnd_t ?_|refine cnd_f ?_|refine gd_tt ?_|refine gd_ff ?_|refine gd_tf ?_|refine gd_ft ?_|refine gd_u ?_|refine pick_t ?_|refine pick_f ?_|refine not_t ?_|refine not_f ?_|refine nil_i ?_|refine ret1 ?_|refine ret2 ?_|refine ret0 ?_|refine ret3 ?_|refine ex2_0 ?_|refine ex2_1 ?_|refine ex3_0 ?_|refine ex3_1 ?_|refine ex3_2 ?_)
      refine next2 hk4 ⟨_, o7, fun j hj => ?_⟩
      have hlen : rs.length = k2 := by have := ow.1.1; omega
      by_cases q : j = k2
      · subst q
        have e : (rs ++ [Value.slice p l5 c5]).getD j undef = .slice p l5 c5 := by rw [getD_append_right (by omega), hlen, Nat.sub_self]; rfl
        rw [e]
        refine ⟨rfl, ?_⟩
        have e2 : (ms.map fun y => caughtN m y ws ws.length).getD j [] = caughtN m y ws ws.length := by
          rw [← hyy]; simp [List.getD, hk4]
        rw [e2]
        exact (q5.mono sk6).mono sk7
      · rw [getD_append_left (by omega)]
        obtain ⟨q1, q2⟩ := hr j (by omega)
        exact ⟨q1, ((q2.mono sk5).mono sk6).mono sk7⟩
  · have ek : k2 = ms.length := by omega
    subst ek
    (with_reducible repeat first|refine mv_i ?_|refine cnd_t ?_|refine cnd_f ?_|refine gd_tt ?_|refine gd_ff ?_|refine gd_tf ?_|refine gd_ft ?_|refine gd_u ?_|refine pick_t ?_|refine pick_f ?_|refine not_t ?_|refine not_f ?_|refine nil_i ?_|refine ret1 ?_|refine ret2 ?_|refine ret0 ?_|refine ret3 ?_|refine ex2_0 ?_|refine ex2_1 ?_|refine ex3_0 ?_|refine ex3_1 ?_|refine ex3_2 ?_)
    refine ⟨p23.trans ow.pre, v, by rw [hcode, hz3], ?_⟩
    unfold caughtR
    rw [if_pos (by rw [hcode, hz3])]
    refine ⟨rs, by have := ow.1.1; simp; omega, by rw [List.length_map]; exact ow.seg, fun j hj => ?_⟩
    exact ((hr j (by simpa using hj)).2).mono (kill_sub _ _)
end Go.Proofs.Ytkgdclcmfnhbmaa
