import Derived.Test.YtdjoednhfoligaaCvE
import Derived.Test.YtdjoednhfoligaaAmYd
set_option linter.unusedSimpArgs false
set_option linter.unusedVariables false
set_option maxRecDepth 100000
namespace Go.Proofs.Ytdjoednhfoligaa
open Go.AM
variable {h h' h0 h1 : Heap} {K : Value → Heap → Prop}
variable {m : Mac} {S I gi bi fi : Nat} {st : Value} {N : Nat → Option Nat} {C : Nat → List Value}

theorem elt_at (b n c k : Nat) : elt 1 (.slice (some ⟨b, 0, none⟩) n c) k = .pointer (some ⟨b, k, none⟩) := by simp [elt]
theorem ldg {e : TypeId} {off : Nat} {y : Value} (hr : isPlain Try.prog e = true) (g : GInv m S I h0 h gi bi fi st N C) (hc : (gCells m S st bi fi)[off]? = some y) (hK : K y h) : vK (aLoad Try.prog e (.pointer (some ⟨gi, off, none⟩)) h) h K := ldc_i hr g.g0 hc hK
theorem GInv.vb (g : GInv m S I h0 h gi bi fi st N C) : bi < h.length ∧ fi < h.length ∧ gi < h.length := ⟨g.own.lt g.n1, g.own.lt g.n2, g.own.lt g.n0⟩
theorem ldc_e {e : TypeId} {i off : Nat} {a : Arr} {y : Value} (hr : isPlain Try.prog e = true) (hi : h[i]? = some (.arr a)) (hc : a.cells[off]? = some y) : aLoad Try.prog e (.pointer (some ⟨i, off, none⟩)) h = some y := by
  unfold isPlain at hr
  split at hr
  · rename_i d hd
    simp only [aLoad, hi, hd]
    rw [if_neg (by simpa using hr)]
    exact hc
  · cases hr
theorem rows_of {v : Value} {n : Nat} {rs : List Value} {xss : List (List Int)} (s : Seg 1 h v n rs) (hl : xss.length = n) (hr : ∀ j, j < n → ∃ r, rs[j]? = some r ∧ IntS h r (xss.getD j [])) : RowsS h v xss := by
  subst hl
  refine ⟨rs, by simpa using s.1.1, s, fun j hj => ?_⟩
  obtain ⟨r, h1, h2⟩ := hr j hj
  rw [List.getD_eq_getElem?_getD, h1]
  exact h2
theorem set_map {xs : List Int} {n : Nat} {x : Int} : (xs.map (Value.int .i64)).set n (.int .i64 x) = (xs.set n x).map (.int .i64) := by rw [List.map_set]
theorem c54 {a : Value} (s : MacV h a m) (r : Right m) : DetP Try.prog 54 [a] h fun v h' => h <+: h' ∧ ∃ gi st by_ fr, v = .pointer (some ⟨gi, 0, none⟩) ∧ StepsS h st m.steps ∧ Only h h' fun g => StepsS g st m.steps → Graph gi g m st by_ fr := by
  obtain ⟨b1, b2, b3, b4, b5, b6⟩ := r.bounds
  have hfew := r.few
  have hsl : m.steps.length ≤ 320 := by
    have : m.states * m.inputs ≤ 40 * 8 := Int.mul_le_mul b2 b4 (by omega) (by omega)
    omega
  obtain ⟨S, hS⟩ : ∃ S : Nat, m.states = (S : Int) := ⟨m.states.toNat, (Int.toNat_of_nonneg (by omega)).symm⟩
  obtain ⟨I, hI⟩ : ∃ I : Nat, m.inputs = (I : Int) := ⟨m.inputs.toNat, (Int.toNat_of_nonneg (by omega)).symm⟩
  have hSt : m.states.toNat = S := by omega
  have hIt : m.inputs.toNat = I := by omega
  refine w54 ?_
  unfold n54
  obtain ⟨o, l, c, rfl, ss⟩ := s
  rw [box36]
  refine ok_i rfl ?_
  have p1 := pre_new h [.int .i64 m.states, .int .i64 m.inputs, .int .i64 m.outputs, .int .i64 m.start, .slice o l c] 5
  have hb1 := newArr_get h [.int .i64 m.states, .int .i64 m.inputs, .int .i64 m.outputs, .int .i64 m.start, .slice o l c] 5
  generalize hi0 : h.length = i0 at hb1 ⊢
  generalize newArr h [.int .i64 m.states, .int .i64 m.inputs, .int .i64 m.outputs, .int .i64 m.start, .slice o l c] 5 = g1 at p1 hb1 ⊢
  have ss1 := ss.mono (Sub.of_pre p1)
  with_reducible (refine mv_i ?_)
  refine vk_i (ld36 hb1) ?_
  refine ⟨vb_mac ss1, ?_⟩
  with_reducible (refine vk_i (fa36_0 _) ?_; refine ld5_0 r3 (by assumption) ?_; refine ⟨vbi _ _, ?_⟩)
  refine mk1_i (n := m.states) t22 z25 (by omega) ⟨by omega, by omega⟩ ?_
  rw [hSt]
  have o0 := (Owns.start (fun _ => []) gE (List.prefix_refl g1)).add 1 (List.replicate S (.slice none 0 0)) 1 rfl
  generalize hbi : g1.length = bi at o0 ⊢
  generalize newArr g1 (List.replicate S (.slice none 0 0)) 1 = g2 at o0 ⊢
  have hb2 := o0.sub.2 _ _ hb1
  with_reducible (refine vk_i (fa36_0 _) ?_; refine ld5_0 r3 (by assumption) ?_; refine ⟨vbi _ _, ?_⟩)
  refine mk1_i (n := m.states) t22 z25 (by omega) ⟨by omega, by omega⟩ ?_
  rw [hSt]
  have o1 := o0.add 2 (List.replicate S (.slice none 0 0)) 1 rfl
  generalize hfi : g2.length = fi at o1 ⊢
  generalize newArr g2 (List.replicate S (.slice none 0 0)) 1 = g3 at o1 ⊢
  refine vk_i (build92 _ _ _ _ _ _ _ _ _ _ _) ?_
  rw [box92]
  refine ok_i rfl ?_
  have o2 := o1.add 0 (gCells m S (.slice o l c) bi fi) 7 rfl
  have eg : gCells m S (.slice o l c) bi fi = [.int .i64 m.states, .int .i64 m.inputs, .int .i64 m.outputs, .int .i64 m.start, .slice o l c, .slice (some ⟨bi, 0, none⟩) S (S + 1), .slice (some ⟨fi, 0, none⟩) S (S + 1)] := rfl
  rw [eg] at o2
  generalize hgi : g3.length = gi at o2 ⊢
  generalize newArr g3 [.int .i64 m.states, .int .i64 m.inputs, .int .i64 m.outputs, .int .i64 m.start, .slice o l c, .slice (some ⟨bi, 0, none⟩) S (S + 1), .slice (some ⟨fi, 0, none⟩) S (S + 1)] 7 = g4 at o2 ⊢
  have gv : GInv m S I g1 g4 gi bi fi (.slice o l c) (upN (upN (upN (fun _ => none) 1 (some bi)) 2 (some fi)) 0 (some gi)) (upN (upN (upN (fun _ => []) 1 (List.replicate S (.slice none 0 0))) 2 (List.replicate S (.slice none 0 0))) 0 (gCells m S (.slice o l c) bi fi)) := by
    have hn : ∀ j, 3 ≤ j → upN (upN (upN (fun _ => none) 1 (some bi)) 2 (some fi)) 0 (some gi) j = none := fun j hj => by rw [upN_ne (by omega), upN_ne (by omega), upN_ne (by omega)]
    refine ⟨o2, upN_self _ _ _, by rw [upN_ne (by omega), upN_ne (by omega), upN_self], by rw [upN_ne (by omega), upN_self], upN_self _ _ _, ?_, ?_⟩
    · rw [upN_ne (by omega), upN_ne (by omega), upN_self]
      refine List.ext_getElem (by simp) fun j h1 h2 => ?_
      simp only [List.getElem_replicate, List.getElem_map, List.getElem_range, vBy]
      rw [hn _ (by omega)]
    · rw [upN_ne (by omega), upN_self]
      refine List.ext_getElem (by simp) fun j h1 h2 => ?_
      simp only [List.getElem_replicate, List.getElem_map, List.getElem_range, vFr]
      rw [hn _ (by omega)]
  have hnone : ∀ j, 3 ≤ j → upN (upN (upN (fun _ => none) 1 (some bi)) 2 (some fi)) 0 (some gi) j = none := fun j hj => by rw [upN_ne (by omega), upN_ne (by omega), upN_ne (by omega)]
  generalize upN (upN (upN (fun _ => none) 1 (some bi)) 2 (some fi)) 0 (some gi) = N0 at gv hnone
  generalize upN (upN (upN (fun _ => []) 1 (List.replicate S (.slice none 0 0))) 2 (List.replicate S (.slice none 0 0))) 0 (gCells m S (.slice o l c) bi fi) = C0 at gv
  with_reducible (refine mv_i ?_; refine mv_i ?_; refine nil_i ?_)
  refine vk_i (fa92_1 _) ?_
  refine ldg r45 gv rfl ?_
  refine len_i t22 (gv.seg1 (by omega)) ?_
  with_reducible (refine mv_i ?_)
  refine loop1 S (fun k h2 => ∃ N C, GInv m S I g1 h2 gi bi fi (.slice o l c) N C ∧ (∀ j, j < k → ∃ a, N (3 + 2 * j) = some a ∧ C (3 + 2 * j) = List.replicate I (.int .i64 (-1))) ∧ (∀ j, k ≤ j → N (3 + 2 * j) = none) ∧ ∀ j, N (4 + 2 * j) = none)
    ⟨N0, C0, gv, fun j hj => by omega, fun j _ => hnone _ (by omega), fun j => hnone _ (by omega)⟩ ?_
  rintro k h2 _ hk ⟨N, C, gk, hlow, hhigh, hfr⟩
  skip
  refine lss_i (fun hlt => ?_) (fun hge => ?_)
  · have hkS : k < S := by omega
    with_reducible (refine cnd_t ?_; refine mv_i ?_; refine mv_i ?_; refine mv_i ?_; refine nil_i ?_)
    refine vk_i (fa92_1 _) ?_
    refine ldg r45 gk rfl ?_
    refine ⟨gk.vb.1, ?_⟩
    with_reducible (refine mv_i ?_)
    refine ok_i (bs23_1 _ _) ?_
    have gk1 := gk.ext (pre_new h2 [.int .i64 (-1)] 1)
    have sx : IntS (newArr h2 [.int .i64 (-1)] 1) (.slice (some ⟨h2.length, 0, none⟩) 1 2) [-1] := Seg.new 2 (by rfl) (by simp)
    generalize newArr h2 [.int .i64 (-1)] 1 = h3 at gk1 sx ⊢
    skip
    refine vk_i (fa36_1 _) ?_
    refine ld5_1 r3 (gk1.own.sub.2 _ _ hb1) ?_
    refine ⟨trivial, ?_⟩
    rw [hI]
    refine calld_r (c73 sx (by omega) (by omega)) ⟨(pre_new h3 _ 1).imp fun t ht => ht.symm, ?_⟩
    have ge : gE (3 + 2 * k) = 1 := by unfold gE; rw [if_neg (by omega)]
    have oa := gk1.own.add (3 + 2 * k) (List.replicate I (.int .i64 (-1))) 1 ge
    generalize hai : h3.length = ai at oa ⊢
    generalize newArr h3 (List.replicate I (.int .i64 (-1))) 1 = h4 at oa ⊢
    have gp := gk1.putBy oa
    have gb4 : h4[bi]? = some (.arr ⟨C 1, 1, false⟩) := by
      have := oa.get (l := 1) (n := bi) (by rw [upN_ne (by omega)]; exact gk1.n1)
      rw [upN_ne (by omega)] at this; exact this
    have hc1l : (C 1).length = S := by rw [gk.c1]; simp
    refine idx_i (k := k) t22 (gk.seg1 (by omega)) hkS ?_
    rw [elt_at]
    refine st_i s25 gb4 rfl (by simp only; omega) rfl rfl ?_
    refine ⟨trivial, ?_⟩
    refine inc_i (by omega) ?_
    with_reducible (refine mv_i ?_)
    refine next1 hkS ⟨_, _, gp, fun j hj => ?_, fun j hj => ?_, fun j => ?_⟩
    · by_cases q : j = k
      · subst q
        exact ⟨ai, upN_self _ _ _, by rw [upN_ne (by omega), upN_self]⟩
      · obtain ⟨a, ha1, ha2⟩ := hlow j (by omega)
        exact ⟨a, by rw [upN_ne (by omega)]; exact ha1, by rw [upN_ne (by omega), upN_ne (by omega)]; exact ha2⟩
    · rw [upN_ne (by omega)]; exact hhigh j (by omega)
    · rw [upN_ne (by omega)]; exact hfr j
  have ek : k = S := by omega
  subst ek
  have hb5 := gk.own.sub.2 _ _ hb1
  have ss5 := ss1.mono gk.own.sub
  with_reducible (refine cnd_f ?_; refine vk_i (fa36_4 _) ?_; refine ld5_4 r34 (by assumption) ?_)
  refine len_i t34 ss5 ?_
  with_reducible (refine mv_i ?_)
  refine loop1 m.steps.length (fun i h3 => ∃ N C, GInv m k I g1 h3 gi bi fi (.slice o l c) N C ∧ (∀ j, j < k → ∃ a, N (3 + 2 * j) = some a ∧ C (3 + 2 * j) = (byRow m I i j).map (.int .i64)) ∧
      ∀ j, j < k → (N (4 + 2 * j) = none ∧ frRow m i j = []) ∨ ∃ a, N (4 + 2 * j) = some a ∧ C (4 + 2 * j) = (frRow m i j).map (.int .i64))
    ⟨N, C, gk, fun j hj => by rw [byRow_zero]; exact hlow j hj, fun j hj => .inl ⟨hfr j, rfl⟩⟩ ?_
  rintro i h3 _ hi ⟨N, C, gi3, hby, hfr3⟩
  skip
  refine lss_i (fun hlt => ?_) (fun hge2 => ?_)
  · have hil : i < m.steps.length := by omega
    have hst := r.st hil
    obtain ⟨s, hs⟩ : ∃ s : Nat, (m.steps.getD i dst).fr = (s : Int) := ⟨(m.steps.getD i dst).fr.toNat, (Int.toNat_of_nonneg (by omega)).symm⟩
    obtain ⟨n, hn⟩ : ∃ n : Nat, (m.steps.getD i dst).inp = (n : Int) := ⟨(m.steps.getD i dst).inp.toNat, (Int.toNat_of_nonneg (by omega)).symm⟩
    have hsk : s < k := by omega
    have hnI : n < I := by omega
    have ss6 := ss1.mono gi3.own.sub
    with_reducible (refine cnd_t ?_; refine mv_i ?_)
    refine idx_i (k := i) t34 ss6 hil ?_
    refine ldst_i st63 ss6 hil dst ?_
    refine ok_i (al63 _) ?_
    with_reducible (refine mv_i ?_)
    refine ok_i (v := undef) (h' := newArr h3 (m.steps.getD i dst).cells 4) (by rw [sto63]; rfl) ?_
    have gi4 := gi3.ext (pre_new h3 (m.steps.getD i dst).cells 4)
    have hy : (newArr h3 (m.steps.getD i dst).cells 4)[h3.length]? = some (.arr ⟨[.int .i64 (m.steps.getD i dst).fr, .int .i64 (m.steps.getD i dst).inp, .int .i64 (m.steps.getD i dst).out, .int .i64 (m.steps.getD i dst).to], 4, false⟩) := newArr_get _ _ _
    generalize hyi : h3.length = yi at hy ⊢
    generalize newArr h3 (m.steps.getD i dst).cells 4 = h4 at gi4 hy ⊢
    obtain ⟨ai, ha1, ha2⟩ := hby s hsk
    have cb := gi4.by_ ha1
    have hay : ai ≠ yi := by rintro rfl; rw [hy] at cb; simp at cb
    have al := gi4.own.lt ha1
    have hvb : vBy I N s = .slice (some ⟨ai, 0, none⟩) I (I + 1) := by unfold vBy; rw [ha1]
    have sb : IntS h4 (.slice (some ⟨ai, 0, none⟩) I (I + 1)) (byRow m I i s) := by
      have := gi4.own.seg ha1 (k := I) (c := I + 1) (sz := 1) (by unfold gE; rw [if_neg (by omega)]) (by rw [ha2]; simp [byRow]) (by omega)
      rw [ha2] at this
      unfold IntS; rw [byRow_len]; exact this
    with_reducible (refine mv_i ?_; refine nil_i ?_)
    refine vk_i (fa92_1 _) ?_
    refine ldg r45 gi4 rfl ?_
    refine ⟨gi4.vb.1, ?_⟩
    refine vk_i (fa63_0 _) ?_
    refine ld4_0 r3 hy ?_
    refine ⟨trivial, ?_⟩
    rw [hs]
    refine idx_i (k := s) t22 (gi4.seg1 (by omega)) hsk ?_
    refine ld_i t22 r23 (gi4.seg1 (by omega)) hsk (gi4.at1 hsk) ?_
    rw [hvb]
    refine ⟨al, ?_⟩
    refine vk_i (fa63_1 _) ?_
    refine ld4_1 r3 hy ?_
    refine ⟨trivial, ?_⟩
    rw [hn]
    with_reducible (refine mv_i ?_)
    refine idxi_i (k := n) t23 sb (by rw [byRow_len]; exact hnI) ?_
    rw [elt_at]
    refine st_i s3 cb rfl (by simp only; rw [ha2]; simp [byRow]; omega) rfl rfl ?_
    refine ⟨trivial, ?_⟩
    rw [ha2, set_map]
    have gi5 := gi4.setBy ha1 (((byRow m I i s).set n (i : Int)).map (.int .i64))
    have hy5 : (h4.set ai (.arr ⟨((byRow m I i s).set n (i : Int)).map (.int .i64), 1, false⟩))[yi]? = some (.arr ⟨[.int .i64 (m.steps.getD i dst).fr, .int .i64 (m.steps.getD i dst).inp, .int .i64 (m.steps.getD i dst).out, .int .i64 (m.steps.getD i dst).to], 4, false⟩) := by
      rw [List.getElem?_set, if_neg hay]; exact hy
    generalize hC5 : upN C (3 + 2 * s) (((byRow m I i s).set n (i : Int)).map (.int .i64)) = C5 at gi5
    generalize h4.set ai (.arr ⟨((byRow m I i s).set n (i : Int)).map (.int .i64), 1, false⟩) = h5 at gi5 hy5 ⊢
    have hby5 : ∀ j, j < k → ∃ a, N (3 + 2 * j) = some a ∧ C5 (3 + 2 * j) = (byRow m I (i + 1) j).map (.int .i64) := by
      intro j hj
      obtain ⟨a, hb1, hb2⟩ := hby j hj
      refine ⟨a, hb1, ?_⟩
      rw [byRow_succ r hil hs hn, ← hC5]
      by_cases q : j = s
      · subst q; rw [upN_self, if_pos rfl]
      · rw [upN_ne (by omega), if_neg q]; exact hb2
    have hfr5 : ∀ j, j < k → (N (4 + 2 * j) = none ∧ frRow m i j = []) ∨ ∃ a, N (4 + 2 * j) = some a ∧ C5 (4 + 2 * j) = (frRow m i j).map (.int .i64) := by
      intro j hj
      rw [← hC5, upN_ne (by omega)]
      exact hfr3 j hj
    with_reducible (refine mv_i ?_; refine nil_i ?_)
    refine vk_i (fa92_2 _) ?_
    refine ldg r45 gi5 rfl ?_
    refine ⟨gi5.vb.2.1, ?_⟩
    refine vk_i (fa63_0 _) ?_
    refine ld4_0 r3 hy5 ?_
    refine ⟨trivial, ?_⟩
    with_reducible (refine mv_i ?_; refine nil_i ?_)
    refine vk_i (fa92_2 _) ?_
    refine ldg r45 gi5 rfl ?_
    refine ⟨gi5.vb.2.1, ?_⟩
    refine vk_i (fa63_0 _) ?_
    refine ld4_0 r3 hy5 ?_
    refine ⟨trivial, ?_⟩
    rw [hs]
    refine idx_i (k := s) t22 (gi5.seg2 (by omega)) hsk ?_
    refine ld_i t22 r23 (gi5.seg2 (by omega)) hsk (gi5.at2 hsk) ?_
    have hvf : VB h5.length (vFr N C5 s) := by
      unfold vFr
      split
      · rename_i a ha; exact gi5.own.lt ha
      · trivial
    refine ⟨hvf, ?_⟩
    with_reducible (refine mv_i ?_)
    refine ok_i (bs23_1 _ _) ?_
    have gi6 := gi5.ext (pre_new h5 [.int .i64 (i : Int)] 1)
    have hy6 := (Sub.of_pre (pre_new h5 [.int .i64 (i : Int)] 1)).2 _ _ hy5
    have sx : Seg 1 (newArr h5 [.int .i64 (i : Int)] 1) (.slice (some ⟨h5.length, 0, none⟩) 1 2) 1 [.int .i64 (i : Int)] := Seg.new 2 (by rfl) (by simp)
    generalize (Value.slice (some ⟨h5.length, 0, none⟩) 1 2) = sv at sx ⊢
    generalize newArr h5 [.int .i64 (i : Int)] 1 = h6 at gi6 hy6 sx ⊢
    have fin : ∀ (h7 : Heap) (n7 : Nat) (hy7 : h7[yi]? = some (.arr ⟨[.int .i64 (m.steps.getD i dst).fr, .int .i64 (m.steps.getD i dst).inp, .int .i64 (m.steps.getD i dst).out, .int .i64 (m.steps.getD i dst).to], 4, false⟩))
        (o7 : Owns g1 h7 (upN N (4 + 2 * s) (some n7)) (upN C5 (4 + 2 * s) ((frRow m (i + 1) s).map (.int .i64))) gE),
        upI (fun i h3 => ∃ N C, GInv m k I g1 h3 gi bi fi (.slice o l c) N C ∧ (∀ j, j < k → ∃ a, N (3 + 2 * j) = some a ∧ C (3 + 2 * j) = (byRow m I i j).map (.int .i64)) ∧
      ∀ j, j < k → (N (4 + 2 * j) = none ∧ frRow m i j = []) ∨ ∃ a, N (4 + 2 * j) = some a ∧ C (4 + 2 * j) = (frRow m i j).map (.int .i64)) m.steps.length [.int .i64 ((i + 1 : Nat) : Int)]
          (h7.set fi (.arr ⟨(C5 2).set s (.slice (some ⟨n7, 0, none⟩) ((frRow m (i + 1) s).map (Value.int .i64)).length 0), 1, false⟩)) := by
      intro h7 n7 hy7 o7
      refine ⟨i + 1, rfl, hil, _, _, gi6.putFr o7, fun j hj => ?_, fun j hj => ?_⟩
      · obtain ⟨a, hb1, hb2⟩ := hby5 j hj
        exact ⟨a, by rw [upN_ne (by omega)]; exact hb1, by rw [upN_ne (by omega), upN_ne (by omega)]; exact hb2⟩
      · by_cases q : j = s
        · subst q
          exact .inr ⟨n7, upN_self _ _ _, by rw [upN_ne (by omega), upN_self]⟩
        · rw [upN_ne (by omega), upN_ne (by omega), upN_ne (by omega), frRow_succ hs, if_neg q]
          exact hfr5 j hj
    have g6c2 : (C5 2).length = k := by rw [gi6.c2]; simp
    have rest : ∀ (h7 : Heap) (n7 : Nat) (hy7 : h7[yi]? = some (.arr ⟨[.int .i64 (m.steps.getD i dst).fr, .int .i64 (m.steps.getD i dst).inp, .int .i64 (m.steps.getD i dst).out, .int .i64 (m.steps.getD i dst).to], 4, false⟩))
        (o7 : Owns g1 h7 (upN N (4 + 2 * s) (some n7)) (upN C5 (4 + 2 * s) ((frRow m (i + 1) s).map (.int .i64))) gE), h7[gi]? = some (.arr ⟨gCells m k (.slice o l c) bi fi, 7, false⟩) ∧ h7[fi]? = some (.arr ⟨C5 2, 1, false⟩) := by
      intro h7 n7 hy7 o7
      have e0 := o7.get (l := 0) (n := gi) (by rw [upN_ne (by omega)]; exact gi6.n0)
      have e2 := o7.get (l := 2) (n := fi) (by rw [upN_ne (by omega)]; exact gi6.n2)
      rw [upN_ne (by omega)] at e0 e2
      rw [gi6.c0] at e0
      exact ⟨e0, e2⟩
    have hone : [Value.int .i64 (i : Int)].all (·.oneCell') = true := rfl
    have gfs : gE (4 + 2 * s) = 1 := by unfold gE; rw [if_neg (by omega)]
    rcases hfr5 s hsk with ⟨hn0, hf0⟩ | ⟨fa, hfa, hfc⟩
    · have hv0 : vFr N C5 s = .slice none 0 0 := by unfold vFr; rw [hn0]
      rw [hv0]
      refine ok_i (AM.app_nil t23 sx hone (by omega) ⟨by omega, by omega⟩) ?_
      have o7 := gi6.own.add (4 + 2 * s) [.int .i64 (i : Int)] 1 gfs
      have efr : [Value.int .i64 (i : Int)] = (frRow m (i + 1) s).map (.int .i64) := by rw [frRow_succ hs, if_pos rfl, hf0]; rfl
      rw [efr] at o7
      have hy7 := (Sub.of_pre (pre_new h6 [.int .i64 (i : Int)] 1)).2 _ _ hy6
      rw [efr] at hy7 ⊢
      obtain ⟨r0, r2⟩ := rest _ _ hy7 o7
      refine ⟨⟨by rw [ldc_e r3 hy7 rfl, hs]; rfl, by rw [ldc_e r45 r0 rfl]; rfl, trivial⟩, ?_⟩
      refine idx_i (k := s) t22 (gi5.seg2 (by omega)) hsk ?_
      rw [elt_at]
      refine st_i s25 r2 rfl (by simp only; omega) rfl rfl ?_
      refine ⟨trivial, ?_⟩
      refine inc_i (by omega) ?_
      with_reducible (refine mv_i ?_)
      refine ⟨?_, by rw [← efr]; simp only [upμ]; omega⟩
      have hl1 : ((frRow m (i + 1) s).map (Value.int .i64)).length = 1 := by rw [← efr]; rfl
      have := fin _ _ hy7 o7
      rw [hl1] at this
      exact this
    · have hv0 : vFr N C5 s = .slice (some ⟨fa, 0, none⟩) (frRow m i s).length 0 := by unfold vFr; rw [hfa, hfc]; simp
      rw [hv0]
      have cf := gi6.fr_ hfa
      rw [hfc] at cf
      have hfl := frRow_len m i s
      have hfy : fa ≠ yi := by rintro rfl; rw [hy6] at cf; simp at cf
      refine ok_i (AM.app_at t23 sx hone (by omega) ⟨by omega, by omega⟩ cf (by simp)) ?_
      rw [if_neg (by omega)]
      have ecs : ((frRow m i s).map (Value.int .i64)).drop 0 = (frRow m i s).map (Value.int .i64) := rfl
      have ect : ((frRow m i s).map (Value.int .i64)).take ((frRow m i s).length * 1) = (frRow m i s).map (Value.int .i64) := by rw [Nat.mul_one]; exact List.take_of_length_le (by simp)
      have efr : (frRow m i s).map (Value.int .i64) ++ [.int .i64 (i : Int)] = (frRow m (i + 1) s).map (.int .i64) := by rw [frRow_succ hs, if_pos rfl]; simp
      rw [ecs, ect, efr]
      have o7 := gi6.own.swap hfa ((frRow m (i + 1) s).map (.int .i64)) 1 gfs
      have hy7 : (newArr (h6.set fa .dead) ((frRow m (i + 1) s).map (.int .i64)) 1)[yi]? = some (.arr ⟨[.int .i64 (m.steps.getD i dst).fr, .int .i64 (m.steps.getD i dst).inp, .int .i64 (m.steps.getD i dst).out, .int .i64 (m.steps.getD i dst).to], 4, false⟩) := by
        refine (Sub.of_pre (pre_new _ _ 1)).2 _ _ ?_
        rw [List.getElem?_set, if_neg hfy]; exact hy6
      have hsl : (h6.set fa Ob.dead).length = h6.length := by simp
      have hl1 : ((frRow m (i + 1) s).map (Value.int .i64)).length = (frRow m i s).length + 1 := by rw [← efr]; simp
      obtain ⟨r0, r2⟩ := rest _ _ hy7 o7
      refine ⟨⟨by rw [ldc_e r3 hy7 rfl, hs]; rfl, by rw [ldc_e r45 r0 rfl]; rfl, trivial⟩, ?_⟩
      refine idx_i (k := s) t22 (gi5.seg2 (by omega)) hsk ?_
      rw [elt_at]
      refine st_i s25 r2 rfl (by simp only; omega) rfl rfl ?_
      refine ⟨trivial, ?_⟩
      refine inc_i (by omega) ?_
      with_reducible (refine mv_i ?_)
      refine ⟨?_, by simp only [upμ]; omega⟩
      have := fin _ _ hy7 o7
      rw [hl1] at this
      exact this
  · have el : i = m.steps.length := by omega
    subst el
    with_reducible (refine cnd_f ?_; refine mv_i ?_; refine mv_i ?_; refine ret1 ?_)
    refine ⟨p1.trans gi3.own.pre, gi, .slice o l c, .slice (some ⟨bi, 0, none⟩) k (k + 1), .slice (some ⟨fi, 0, none⟩) k (k + 1), rfl, ss, Only.from p1 (gi3.own.only fun g og sg => ?_)⟩
    have gi4 : GInv m k I [] g gi bi fi (.slice o l c) N C := ⟨og, gi3.n0, gi3.n1, gi3.n2, gi3.c0, gi3.c1, gi3.c2⟩
    have hsta : ∀ j, j < k → ∃ r, (C 1)[j]? = some r ∧ IntS g r (byRow m I m.steps.length j) := by
      intro j hj
      obtain ⟨a, hb1, hb2⟩ := hby j hj
      refine ⟨_, gi4.at1 hj, ?_⟩
      have := gi4.own.seg hb1 (k := I) (c := I + 1) (sz := 1) (by unfold gE; rw [if_neg (by omega)]) (by rw [hb2]; simp [byRow]) (by omega)
      rw [hb2] at this
      unfold vBy; rw [hb1]
      unfold IntS; rw [byRow_len]; exact this
    have hstf : ∀ j, j < k → ∃ r, (C 2)[j]? = some r ∧ IntS g r (frRow m m.steps.length j) := by
      intro j hj
      refine ⟨_, gi4.at2 hj, ?_⟩
      rcases hfr3 j hj with ⟨hn0, hf0⟩ | ⟨a, hb1, hb2⟩
      · unfold vFr; rw [hn0, hf0]; exact Seg.nil _ _
      · have hfl := frRow_len m m.steps.length j
        have := gi4.own.seg hb1 (k := (frRow m m.steps.length j).length) (c := 0) (sz := 1) (by unfold gE; rw [if_neg (by omega)]) (by rw [hb2]; simp) (by omega)
        rw [hb2] at this
        unfold vFr; rw [hb1]
        simp only [hb2, List.length_map]
        exact this
    refine ⟨gi4.g0, sg, rows_of (gi4.seg1 (by omega)) (by simp [byL, hSt]) fun j hj => ?_, rows_of (gi4.seg2 (by omega)) (by simp [frL, hSt]) fun j hj => ?_⟩
    · obtain ⟨r, h1, h2⟩ := hsta j hj
      refine ⟨r, h1, ?_⟩
      have : (byL m).getD j [] = byRow m I m.steps.length j := by simp [byL, hSt, hIt, hj]
      rw [this]; exact h2
    · obtain ⟨r, h1, h2⟩ := hstf j hj
      refine ⟨r, h1, ?_⟩
      have : (frL m).getD j [] = frRow m m.steps.length j := by simp [frL, hSt, hj]
      rw [this]; exact h2
end Go.Proofs.Ytdjoednhfoligaa
