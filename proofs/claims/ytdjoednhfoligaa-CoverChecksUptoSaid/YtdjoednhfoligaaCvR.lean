import Derived.Test.YtdjoednhfoligaaCvO
set_option linter.unusedSimpArgs false
set_option linter.unusedVariables false
set_option maxRecDepth 100000
namespace Go.Proofs.Ytdjoednhfoligaa
open Go.AM
variable {h h' h0 h1 : Heap} {K : Value → Heap → Prop} {m : Mac}

/-! ### rounds -/
def endI (m : Mac) (ks : List Nat) : Int := match ks.getLast? with | none => m.start | some k => (m.steps.getD k dst).to
def priceI (pr : List Int) (ks : List Nat) : Int := (ks.map fun k => pr.getD k 0).sum
def restI (m : Mac) (pr ps : List Int) (i : Nat) : Int := pr.getD i 0 + ps.getD (m.steps.getD i dst).fr.toNat 0 - ps.getD (m.steps.getD i dst).to.toNat 0
def restS (m : Mac) (pr ps : List Int) (L : List Int) : Int := (L.map fun i => restI m pr ps i.toNat).sum
noncomputable def rchL (m : Mac) : List Int := leav m (rchB m m.start)
theorem or4 (a b c d : Int) : orOf [a, b, c, d] = if a = 0 then (if b = 0 then (if c = 0 then d else c) else b) else a := by
  unfold orOf firstOf nz
  by_cases h1 : a = 0 <;> by_cases h2 : b = 0 <;> by_cases h3 : c = 0 <;> by_cases h4 : d = 0 <;> simp [List.range_succ, List.getD, h1, h2, h3, h4]
open Classical in
noncomputable def midE (m : Mac) (ks : List Nat) (ps : List Int) : Int :=
  if endI m ks ≠ m.start then 39
  else if ∃ i ∈ rchL m, ¬ i ∈ ks.map fun k : Nat => (k : Int) then 11
  else if (ps.length : Int) ≠ m.states then 6
  else if ∃ x ∈ ps, inR x (-1000) 1000 = false then 21
  else 0
open Classical in
noncomputable def finE (m : Mac) (pr : List Int) (ks : List Nat) (ps : List Int) : Int :=
  if (∃ i ∈ rchL m, restI m pr ps i.toNat < 0) ∨ restS m pr ps (rchL m) ≠ priceI pr ks then 30 else 0
noncomputable def rndE (m : Mac) (pr w ps : List Int) : Int :=
  if wErr w m.inputs 1200 ≠ 0 then wErr w m.inputs 1200
  else if (takenI m.steps m.start w).length ≠ w.length then 23
  else if midE m (takenI m.steps m.start w) ps ≠ 0 then midE m (takenI m.steps m.start w) ps
  else finE m pr (takenI m.steps m.start w) ps
theorem midE_or (m : Mac) (ks : List Nat) (ps : List Int) : orOf [if decide (endI m ks = m.start) = true then 0 else 39, if (!((rchL m).any fun x => !decide (x ∈ ks.map fun k : Nat => (k : Int)))) = true then 0 else 11, if decide ((ps.length : Int) = m.states) = true then 0 else 6, if (!(ps.any fun x => !inR x (-1000) 1000)) = true then 0 else 21] = midE m ks ps := by
  have e1 : (!((rchL m).any fun x => !decide (x ∈ ks.map fun k : Nat => (k : Int)))) = true ↔ ¬ ∃ i ∈ rchL m, ¬ i ∈ ks.map fun k : Nat => (k : Int) := by
    rw [Bool.not_eq_true', ← Bool.not_eq_true, List.any_eq_true]
    simp only [Bool.not_eq_true', decide_eq_false_iff_not]
  have e2 : (!(ps.any fun x => !inR x (-1000) 1000)) = true ↔ ¬ ∃ x ∈ ps, inR x (-1000) 1000 = false := by
    rw [Bool.not_eq_true', ← Bool.not_eq_true, List.any_eq_true]
    simp only [Bool.not_eq_true']
  rw [or4]
  unfold midE
  by_cases h1 : endI m ks = m.start
  · rw [if_pos (decide_eq_true h1), if_pos rfl, if_neg (show ¬ endI m ks ≠ m.start from fun hc => hc h1)]
    by_cases h2 : ∃ i ∈ rchL m, ¬ i ∈ ks.map fun k : Nat => (k : Int)
    · rw [if_neg (fun hc => e1.mp hc h2), if_neg (show ¬ (11 : Int) = 0 by decide), if_pos h2]
    · rw [if_pos (e1.mpr h2), if_pos rfl, if_neg h2]
      by_cases h3 : (ps.length : Int) = m.states
      · rw [if_pos (decide_eq_true h3), if_pos rfl, if_neg (show ¬ (ps.length : Int) ≠ m.states from fun hc => hc h3)]
        by_cases h4 : ∃ x ∈ ps, inR x (-1000) 1000 = false
        · rw [if_neg (fun hc => e2.mp hc h4), if_pos h4]
        · rw [if_pos (e2.mpr h4), if_neg h4]
      · rw [if_neg (show ¬ decide ((ps.length : Int) = m.states) = true by rw [decide_eq_false h3]; simp), if_neg (show ¬ (6 : Int) = 0 by decide), if_pos h3]
  · rw [if_neg (show ¬ decide (endI m ks = m.start) = true by rw [decide_eq_false h1]; simp), if_neg (show ¬ (39 : Int) = 0 by decide), if_pos h1]
theorem midE_zero {m : Mac} {ks : List Nat} {ps : List Int} (hz : midE m ks ps = 0) : endI m ks = m.start ∧ (¬ ∃ i ∈ rchL m, ¬ i ∈ ks.map fun k : Nat => (k : Int)) ∧ (ps.length : Int) = m.states ∧ ¬ ∃ x ∈ ps, inR x (-1000) 1000 = false := by
  unfold midE at hz
  split at hz
  · cases hz
  · split at hz
    · cases hz
    · split at hz
      · cases hz
      · split at hz
        · cases hz
        · exact ⟨Classical.byContradiction (by assumption), by assumption, Classical.byContradiction (by assumption), by assumption⟩
theorem rnd1 {pr w ps : List Int} (h1 : wErr w m.inputs 1200 = 0) (h2 : (takenI m.steps m.start w).length ≠ w.length) : rndE m pr w ps = 23 := by
  unfold rndE; rw [if_neg (by simp [h1]), if_pos h2]
theorem rnd2 {pr w ps : List Int} (h1 : wErr w m.inputs 1200 = 0) (h2 : (takenI m.steps m.start w).length = w.length) (h3 : midE m (takenI m.steps m.start w) ps ≠ 0) : rndE m pr w ps = midE m (takenI m.steps m.start w) ps := by
  unfold rndE; rw [if_neg (by simp [h1]), if_neg (by simp [h2]), if_pos h3]
theorem rnd3 {pr w ps : List Int} (h1 : wErr w m.inputs 1200 = 0) (h2 : (takenI m.steps m.start w).length = w.length) (h3 : midE m (takenI m.steps m.start w) ps = 0) : rndE m pr w ps = finE m pr (takenI m.steps m.start w) ps := by
  unfold rndE; rw [if_neg (by simp [h1]), if_neg (by simp [h2]), if_neg (by simp [h3])]
noncomputable def rndP (m : Mac) (pr w ps : List Int) : Int := if rndE m pr w ps = 0 then priceI pr (takenI m.steps m.start w) else 0
theorem endI_take {ks : List Nat} {j : Nat} (hj : j < ks.length) : endI m (ks.take (j + 1)) = (m.steps.getD (ks.getD j 0) dst).to := by
  rw [take_gd 0 hj]; simp [endI]
theorem priceI_take {pr : List Int} {ks : List Nat} {j : Nat} (hj : j < ks.length) : priceI pr (ks.take (j + 1)) = priceI pr (ks.take j) + pr.getD (ks.getD j 0) 0 := by
  rw [take_gd 0 hj]; simp [priceI]
theorem restS_take {pr ps : List Int} {L : List Int} {j : Nat} (hj : j < L.length) : restS m pr ps (L.take (j + 1)) = restS m pr ps (L.take j) + restI m pr ps (L.getD j 0).toNat := by
  rw [take_gd 0 hj]; simp [restS]
def prOK (pr : List Int) : Prop := ∀ k, 0 ≤ pr.getD k 0 ∧ pr.getD k 0 ≤ 20
theorem prOK_of {pr : List Int} (he : prErr m pr = 0) : pr.length = m.steps.length ∧ prOK pr := by
  unfold prErr at he
  split at he
  · cases he
  · rename_i h1
    split at he
    · rename_i h2
      refine ⟨by omega, fun k => ?_⟩
      by_cases hk : k < pr.length
      · have := List.all_eq_true.mp h2 _ (gd_mem 0 hk)
        unfold inR at this
        simpa using this
      · rw [List.getD_eq_getElem?_getD, List.getElem?_eq_none (by omega)]
        simp
    · cases he
def psOK (ps : List Int) : Prop := ∀ k, -1000 ≤ ps.getD k 0 ∧ ps.getD k 0 ≤ 1000
theorem psOK_of {ps : List Int} (hb : ¬ ∃ x ∈ ps, inR x (-1000) 1000 = false) : psOK ps := by
  intro k
  by_cases hk : k < ps.length
  · have h1 : inR (ps.getD k 0) (-1000) 1000 = true := by
      cases q : inR (ps.getD k 0) (-1000) 1000 with
      | true => rfl
      | false => exact absurd ⟨_, gd_mem 0 hk, q⟩ hb
    unfold inR at h1
    simpa using h1
  · rw [List.getD_eq_getElem?_getD, List.getElem?_eq_none (by omega)]
    simp
theorem restI_b {pr ps : List Int} (h1 : prOK pr) (h2 : psOK ps) (i : Nat) : -2000 ≤ restI m pr ps i ∧ restI m pr ps i ≤ 2020 := by
  have a := h1 i
  have b := h2 (m.steps.getD i dst).fr.toNat
  have c := h2 (m.steps.getD i dst).to.toNat
  unfold restI
  omega
theorem al25 (h : Heap) : aAlloc Try.prog 25 h = some (.pointer (some ⟨h.length, 0, none⟩), newArr h [.slice none 0 0] 1) := by kernel_rfl
theorem sto25 (g : Heap) (o : Option Addr) (l c : Nat) : aStore Try.prog 25 (.pointer (some ⟨g.length, 0, none⟩)) (.slice o l c) (newArr g [.slice none 0 0] 1) = some (newArr g [.slice o l c] 1) := by
  have := st_i (P := Try.prog) (e := 25) (h := newArr g [.slice none 0 0] 1) (y := .slice o l c) (off := 0) (K := fun _ h' => some h' = some (newArr g [.slice o l c] 1)) s25 (newArr_get _ _ _) rfl (by simp) rfl rfl (by rw [← newArr_set g [.slice none 0 0] [.slice o l c] 1]; rfl)
  have := this.out
  cases hq : aStore Try.prog 25 (.pointer (some ⟨g.length, 0, none⟩)) (.slice o l c) (newArr g [.slice none 0 0] 1) with
  | none => rw [hq] at this; exact this.elim
  | some x => rw [hq] at this; exact this
theorem bs94_4 (a b c d : Int) (h : Heap) : aBuildSlice Try.prog 132 4 [(0, .int .i64 a), (1, .int .i64 b), (2, .int .i64 c), (3, .int .i64 d)] h = some (.slice (some ⟨h.length, 0, none⟩) 4 5, newArr h [.int .i64 a, .int .i64 b, .int .i64 c, .int .i64 d] 1) := by kernel_rfl
theorem ld27 {i : Nat} {a b : Value} (hi : h[i]? = some (.arr ⟨[a, b], 2, false⟩)) : aLoad Try.prog 27 (.pointer (some ⟨i, 0, none⟩)) h = some (.agg #[a, b]) := by
  have hr : (match Try.prog.underlying 27 with | some d => d.isRow | none => false) = true := by kernel_rfl
  have hz : szOf Try.prog 27 = some 2 := by kernel_rfl
  split at hr
  · rename_i dd hd
    simp only [aLoad, hi, hd, hz]
    rw [if_pos hr, if_pos (by simp)]
    rfl
  · cases hr
theorem build27 (o o' : Option Addr) (l k l' k' : Nat) : aBuild Try.prog 27 [(0, .slice o l k), (1, .slice o' l' k')] = some (.agg #[.slice o l k, .slice o' l' k']) := by kernel_rfl
theorem c56 {i : Nat} {x : Int} {v : Value} {xs : List Int} (hi : h[i]? = some (.arr ⟨[v], 1, false⟩)) (s : IntS h v xs) : Runs Try.prog 56 [.int .i64 x, .pointer (some ⟨i, 0, none⟩)] h (.bool (!decide (x ∈ xs))) h := by
  refine DetP.runs (w56 ?_)
  unfold n56
  with_reducible (refine mv_i ?_; refine ld1_0 r23 (by assumption) ?_; refine mv_i ?_)
  refine call_r (c57 s) ?_
  refine AM.not_i ?_
  with_reducible (refine mv_i ?_; refine ret1 ?_)
  exact ⟨rfl, rfl⟩
theorem c58 {x : Int} : Runs Try.prog 58 [.int .i64 x] h (.bool (!inR x (-1000) 1000)) h := by
  refine DetP.runs (w58 ?_)
  unfold n58
  with_reducible (refine mv_i ?_; refine mv_i ?_)
  refine call_r (c59 _ _ _) ?_
  refine AM.not_i ?_
  with_reducible (refine mv_i ?_; refine ret1 ?_)
  exact ⟨rfl, rfl⟩
theorem rchL_in (r : Right m) {i : Int} (hi : i ∈ rchL m) : 0 ≤ i ∧ i < m.steps.length := by
  obtain ⟨k, rfl, hk, _⟩ := idxs_mem.mp hi
  omega
theorem rchL_len : (rchL m).length ≤ m.steps.length := idxs_len _ _
set_option maxHeartbeats 4000000 in
theorem c15 {a b : Value} {o1 o2 : Option Addr} {l1 k1 l2 k2 : Nat} {pr w ps : List Int} (s : MacV h a m) (sp : IntS h b pr) (sw : IntS h (.slice o1 l1 k1) w) (sq : IntS h (.slice o2 l2 k2) ps) :
    DetP Try.prog 15 [a, b, .agg #[.slice o1 l1 k1, .slice o2 l2 k2]] h fun v h' => h <+: h' ∧ v = if orOf [(mErr m).2, prErr m pr, wErr w m.inputs 1200] ≠ 0 then .tuple #[.int .i64 0, .int .i64 (orOf [(mErr m).2, prErr m pr, wErr w m.inputs 1200])] else .tuple #[.int .i64 (rndP m pr w ps), .int .i64 (rndE m pr w ps)] := by
  refine w15 ?_
  unfold n15
  obtain ⟨o, l, c, rfl, ss0⟩ := s
  rw [box36]
  refine ok_i rfl ?_
  have p1 := pre_new h [.int .i64 m.states, .int .i64 m.inputs, .int .i64 m.outputs, .int .i64 m.start, .slice o l c] 5
  have hb1 := newArr_get h [.int .i64 m.states, .int .i64 m.inputs, .int .i64 m.outputs, .int .i64 m.start, .slice o l c] 5
  have ss := ss0.mono (Sub.of_pre p1)
  generalize hg1 : newArr h [.int .i64 m.states, .int .i64 m.inputs, .int .i64 m.outputs, .int .i64 m.start, .slice o l c] 5 = g1 at p1 hb1 ss ⊢
  have sp1 := sp.mono (Sub.of_pre p1)
  have sw1 := sw.mono (Sub.of_pre p1)
  have sq1 := sq.mono (Sub.of_pre p1)
  rw [box27]
  refine ok_i rfl ?_
  have p2 := pre_new g1 [.slice o1 l1 k1, .slice o2 l2 k2] 2
  have hr2 := newArr_get g1 [.slice o1 l1 k1, .slice o2 l2 k2] 2
  have hb2 := (Sub.of_pre p2).2 _ _ hb1
  generalize hgi : g1.length = ri at hr2 ⊢
  generalize newArr g1 [.slice o1 l1 k1, .slice o2 l2 k2] 2 = g2 at p2 hr2 hb2 ⊢
  have ss2 := ss.mono (Sub.of_pre p2)
  have sp2 := sp1.mono (Sub.of_pre p2)
  have sw2 := sw1.mono (Sub.of_pre p2)
  have sq2 := sq1.mono (Sub.of_pre p2)
  have m2 := macv_of (m := m) ss2
  with_reducible (refine mv_i ?_; refine mv_i ?_)
  refine vk_i (ld36 hb2) ?_
  refine ⟨vb_mac ss2, ?_⟩
  refine calld_r (c51 m2) ⟨⟨[], by simp⟩, ?_⟩
  refine vk_i (ld36 hb2) ?_
  refine ⟨vb_mac ss2, ?_⟩
  with_reducible (refine mv_i ?_)
  refine calld_r (c52 m2 sp2) ⟨⟨[], by simp⟩, ?_⟩
  refine vk_i (ld36 hb2) ?_
  refine ⟨vb_mac ss2, ?_⟩
  with_reducible (refine vk_i (fa27_0 _) ?_; refine ld2_0 r23 (by assumption) ?_; refine ⟨VB_of_ints (by assumption), ?_⟩)
  refine calld_r (c53 m2 sw2) ⟨⟨[], by simp⟩, ?_⟩
  refine ok_i (bs94_3 _ _ _ _) ?_
  have p3 := pre_new g2 [.int .i64 (mErr m).2, .int .i64 (prErr m pr), .int .i64 (wErr w m.inputs 1200)] 1
  have sx : IntS (newArr g2 [.int .i64 (mErr m).2, .int .i64 (prErr m pr), .int .i64 (wErr w m.inputs 1200)] 1) (.slice (some ⟨g2.length, 0, none⟩) 3 4) [(mErr m).2, prErr m pr, wErr w m.inputs 1200] := Seg.new 4 (by rfl) (by simp)
  generalize newArr g2 [.int .i64 (mErr m).2, .int .i64 (prErr m pr), .int .i64 (wErr w m.inputs 1200)] 1 = g3 at p3 sx ⊢
  refine calld_r (c50 sx) ⟨⟨[], by simp⟩, ?_⟩
  have hor := or3 (mErr m).2 (prErr m pr) (wErr w m.inputs 1200)
  generalize orOf [(mErr m).2, prErr m pr, wErr w m.inputs 1200] = e at hor
  with_reducible (refine mv_i ?_; refine mv_i ?_)
  refine neq_i (fun hz => ?_) (fun hz => ?_)
  · subst hz
    have he1 : (mErr m).2 = 0 := by
      by_cases q : (mErr m).2 = 0
      · exact q
      · rw [if_neg q] at hor; exact hor.symm
    rw [if_pos he1] at hor
    have he2 : prErr m pr = 0 := by
      by_cases q : prErr m pr = 0
      · exact q
      · rw [if_neg q] at hor; exact hor.symm
    rw [if_pos he2] at hor
    have he3 := hor.symm
    have r := right_of he1
    obtain ⟨hpl, hpo⟩ := prOK_of he2
    have hiw := inW_of r he3
    have hwl := (w_ok he3).1
    obtain ⟨b1, b2, b3, b4, b5, b6⟩ := r.bounds
    have hfew := r.few
    have hsl : m.steps.length ≤ 320 := by
      have : m.states * m.inputs ≤ 40 * 8 := Int.mul_le_mul b2 b4 (by omega) (by omega)
      omega
    have hb3 := (Sub.of_pre p3).2 _ _ hb2
    have ss3 := ss2.mono (Sub.of_pre p3)
    with_reducible (refine cnd_f ?_)
    refine vk_i (ld36 hb3) ?_
    refine call_i (c54 (macv_of (m := m) ss3) r) ?_
    rintro _ g4 ⟨p4, gi, st, by_, fr, rfl, sst, og⟩
    have gr : Graph gi g4 m st by_ fr := og.self (sst.mono (Sub.of_pre p4))
    have q4 := p3.trans p4
    have hr4 := (Sub.of_pre q4).2 _ _ hr2
    have sw4 := sw2.mono (Sub.of_pre q4)
    with_reducible (refine mv_i ?_; refine mv_i ?_; refine vk_i (fa27_0 _) ?_; refine ld2_0 r23 (by assumption) ?_)
    refine call_i (c55 gr r sw4 hiw (by omega)) ?_
    rintro tv g5 ⟨p5, q5⟩
    have stk := q5.self
    obtain ⟨to, tl, tc, rfl⟩ := seg_slice stk
    have hkin := takenI_has (l := m.steps) (f := m.start) (w := w)
    have hklen := takenI_len (l := m.steps) w m.start
    have R1 := rnd1 (pr := pr) (ps := ps) he3
    have R2 := rnd2 (pr := pr) (ps := ps) he3
    have R3 := rnd3 (pr := pr) (ps := ps) he3
    have eP : rndP m pr w ps = if rndE m pr w ps = 0 then priceI pr (takenI m.steps m.start w) else 0 := rfl
    skip
    refine ok_i (al25 _) ?_
    refine ok_i (v := undef) (h' := newArr g5 [.slice to tl tc] 1) (by rw [sto25]; rfl) ?_
    have p6 := pre_new g5 [.slice to tl tc] 1
    have hl6 := newArr_get g5 [.slice to tl tc] 1
    generalize hli : g5.length = li at hl6 ⊢
    generalize newArr g5 [.slice to tl tc] 1 = g6 at p6 hl6 ⊢
    have q6 := q4.trans (p5.trans p6)
    have hr6 := (Sub.of_pre q6).2 _ _ hr2
    have hb6 := (Sub.of_pre q6).2 _ _ hb2
    have ss6 := ss2.mono (Sub.of_pre q6)
    have sp6 := sp2.mono (Sub.of_pre q6)
    have sw6 := sw2.mono (Sub.of_pre q6)
    have sq6 := sq2.mono (Sub.of_pre q6)
    have st6 := stk.mono (Sub.of_pre p6)
    have gr6 := gr.mono (Sub.of_pre (p5.trans p6))
    have gst6 := gr6.steps
    have hml : ((takenI m.steps m.start w).map fun k : Nat => (k : Int)).length = (takenI m.steps m.start w).length := by simp
    have pall := p1.trans (p2.trans q6)
    generalize hks : takenI m.steps m.start w = ks at *
    clear stk q5
    with_reducible (refine ld1_0 r23 (by assumption) ?_; refine leni_i t23 (by assumption) ?_; refine vk_i (fa27_0 _) ?_; refine ld2_0 r23 (by assumption) ?_; refine leni_i t23 (by assumption) ?_)
    refine lss_i (fun hlt => ?_) (fun hge => ?_)
    · with_reducible (refine cnd_t ?_; refine mv_i ?_; refine mv_i ?_; refine ret2 ?_)
      refine ⟨pall, ?_⟩
      have e0 := R1 (by omega)
      rw [if_neg (by simp), eP, e0, if_neg (by decide)]
    · have hkl : ks.length = w.length := by omega
      have R2 := R2 hkl
      have R3 := R3 hkl
      with_reducible (refine cnd_f ?_; refine mv_i ?_; refine nil_i ?_; refine vk_i (fa92_0 _) ?_; refine vk_i (fa36_3 _) ?_; refine ldgr r3 (by assumption) rfl ?_; refine mv_i ?_; refine mv_i ?_; refine ld1_0 r23 (by assumption) ?_; refine leni_i t23 (by assumption) ?_; refine mv_i ?_)
      refine loop3 ks.length (fun j av pv h2 => h2 = g6 ∧ av = .int .i64 (endI m (ks.take j)) ∧ pv = .int .i64 (priceI pr (ks.take j)) ∧ 0 ≤ priceI pr (ks.take j) ∧ priceI pr (ks.take j) ≤ 20 * j) ⟨rfl, rfl, rfl, by simp [priceI], by simp [priceI]⟩ ?_
      rintro j _ _ _ _ hj ⟨rfl, rfl, rfl, hp0, hp1⟩
      skip
      refine lss_i (fun hlt2 => ?_) (fun hge2 => ?_)
      · have hj2 : j < ks.length := by omega
        have hz : (ks.map fun k : Nat => (k : Int)).getD j 0 = ((ks.getD j 0 : Nat) : Int) := by simp [List.getD, hj2]
        have hkj : ks.getD j 0 < m.steps.length := hkin _ (gd_mem 0 hj2)
        have hpk := hpo (ks.getD j 0)
        have hpt := priceI_take (pr := pr) hj2
        have het := endI_take (m := m) hj2
        with_reducible (refine cnd_t ?_; refine idxi_i t23 (by assumption) (by omega) ?_; refine ldi_i t23 r3 (by assumption) (by omega) ?_; refine mv_i ?_; refine mv_i ?_; refine nil_i ?_; refine vk_i (fa92_0 _) ?_; refine vk_i (fa36_4 _) ?_; refine ldgr r34 (by assumption) rfl ?_; refine ⟨VB_of_steps (by assumption), ?_⟩; refine mv_i ?_; refine idxzst t34 (by assumption) (by omega) (by omega) ?_; refine fae_i st63 (by assumption) (by omega) (by omega) ?_; refine ldto dst st63 (by assumption) (by omega) ?_; refine ⟨vbi _ _, ?_⟩; refine mv_i ?_; refine mv_i ?_; refine mv_i ?_; refine idxzi t23 (by assumption) (by omega) (by omega) ?_; refine ldi_i t23 r3 (by assumption) (by omega) ?_; refine ⟨vbi _ _, ?_⟩)
        rw [hz, Int.toNat_natCast]
        refine add_i ⟨by omega, by omega⟩ ?_
        with_reducible (refine mv_i ?_; refine mv_i ?_; refine inc_i (by omega) ?_; refine mv_i ?_)
        refine next3 hj2 ⟨rfl, by rw [het], by rw [hpt], by omega, by push_cast; omega⟩
      · have ej : j = ks.length := by omega
        subst ej
        rw [List.take_of_length_le (Nat.le_refl _)] at hp0 hp1 ⊢
        with_reducible (refine cnd_f ?_; refine mv_i ?_; refine mv_i ?_; refine mv_i ?_; refine mv_i ?_)
        refine call_i (c60 gr6 r) ?_
        rintro lv g7 ⟨p7, q7⟩
        have sL := q7.self
        have hLin := fun i => rchL_in (i := i) r
        have hLlen := rchL_len (m := m)
        have eL : leav m (rchB m m.start) = rchL m := rfl
        rw [eL] at sL
        clear q7
        have gr7 := gr6.mono (Sub.of_pre p7)
        have hr7 := (Sub.of_pre p7).2 _ _ hr6
        have hb7 := (Sub.of_pre p7).2 _ _ hb6
        have hl7 := (Sub.of_pre p7).2 _ _ hl6
        have ss7 := ss6.mono (Sub.of_pre p7)
        have sp7 := sp6.mono (Sub.of_pre p7)
        have sq7 := sq6.mono (Sub.of_pre p7)
        have st7 := st6.mono (Sub.of_pre p7)
        have pall7 := pall.trans p7
        with_reducible (refine mv_i ?_; refine mv_i ?_; refine mv_i ?_; refine nil_i ?_; refine vk_i (fa92_0 _) ?_; refine vk_i (fa36_3 _) ?_; refine ldgr r3 (by assumption) rfl ?_; refine ⟨vbi _ _, ?_⟩)
        refine eql_b ?_
        refine calld_r (c61 _ _) ⟨⟨[], by simp⟩, ?_⟩
        with_reducible (refine mv_i ?_; refine mv_i ?_)
        refine calld_r (c62g (caps := #[.pointer (some ⟨li, 0, none⟩)]) sL fun x _ => c56 hl7 st7) ⟨⟨[], by simp⟩, ?_⟩
        refine AM.not_i ?_
        refine calld_r (c61 _ _) ⟨⟨[], by simp⟩, ?_⟩
        with_reducible (refine vk_i (fa27_1 _) ?_; refine ld2_1 r23 (by assumption) ?_; refine ⟨VB_of_ints (by assumption), ?_⟩; refine leni_i t23 (by assumption) ?_; refine vk_i (fa36_0 _) ?_; refine ld5_0 r3 (by assumption) ?_; refine ⟨vbi _ _, ?_⟩)
        refine eql_b ?_
        refine calld_r (c61 _ _) ⟨⟨[], by simp⟩, ?_⟩
        with_reducible (refine vk_i (fa27_1 _) ?_; refine ld2_1 r23 (by assumption) ?_; refine ⟨VB_of_ints (by assumption), ?_⟩; refine mv_i ?_)
        refine calld_r (c62g (caps := #[]) sq7 fun x _ => c58) ⟨⟨[], by simp⟩, ?_⟩
        refine AM.not_i ?_
        refine calld_r (c61 _ _) ⟨⟨[], by simp⟩, ?_⟩
        have hmid := midE_or m ks ps
        generalize (if decide (endI m ks = m.start) = true then (0 : Int) else 39) = t1 at hmid ⊢
        generalize (if (!((rchL m).any fun x => !decide (x ∈ ks.map fun k : Nat => (k : Int)))) = true then (0 : Int) else 11) = t2 at hmid ⊢
        generalize (if decide ((ps.length : Int) = m.states) = true then (0 : Int) else 6) = t3 at hmid ⊢
        generalize (if (!(ps.any fun x => !inR x (-1000) 1000)) = true then (0 : Int) else 21) = t4 at hmid ⊢
        refine ok_i (bs94_4 _ _ _ _ _) ?_
        have p8 := pre_new g7 [.int .i64 t1, .int .i64 t2, .int .i64 t3, .int .i64 t4] 1
        have sx8 : IntS (newArr g7 [.int .i64 t1, .int .i64 t2, .int .i64 t3, .int .i64 t4] 1) (.slice (some ⟨g7.length, 0, none⟩) 4 5) [t1, t2, t3, t4] := Seg.new 5 (by rfl) (by simp)
        generalize newArr g7 [.int .i64 t1, .int .i64 t2, .int .i64 t3, .int .i64 t4] 1 = g8 at p8 sx8 ⊢
        refine calld_r (c50 sx8) ⟨⟨[], by simp⟩, ?_⟩
        rw [hmid]
        have pall8 := pall7.trans p8
        with_reducible (refine mv_i ?_; refine mv_i ?_)
        refine neq_i (fun hm => ?_) (fun hm => ?_)
        · have R3 := R3 hm
          obtain ⟨_, _, hps, hbd⟩ := midE_zero hm
          have hpb := psOK_of hbd
          have hr8 := (Sub.of_pre p8).2 _ _ hr7
          have hb8 := (Sub.of_pre p8).2 _ _ hb7
          have ss8 := ss7.mono (Sub.of_pre p8)
          have sp8 := sp7.mono (Sub.of_pre p8)
          have sq8 := sq7.mono (Sub.of_pre p8)
          have sL8 := sL.mono (Sub.of_pre p8)
          with_reducible (refine cnd_f ?_; refine mv_i ?_; refine mv_i ?_; refine leni_i t23 (by assumption) ?_; refine mv_i ?_)
          refine loop2 (rchL m).length (fun j sv h2 => h2 = g8 ∧ sv = .int .i64 (restS m pr ps ((rchL m).take j)) ∧ 0 ≤ restS m pr ps ((rchL m).take j) ∧ restS m pr ps ((rchL m).take j) ≤ 2020 * j ∧ ∀ i, i < j → 0 ≤ restI m pr ps ((rchL m).getD i 0).toNat) ⟨rfl, rfl, by simp [restS], by simp [restS], fun i hi => by omega⟩ ?_
          rintro j _ _ _ hj ⟨rfl, rfl, hs0, hs1, hneg⟩
          skip
          refine lss_i (fun hlt3 => ?_) (fun hge3 => ?_)
          · have hj3 : j < (rchL m).length := by omega
            obtain ⟨z0, z1⟩ := hLin _ (gd_mem 0 hj3)
            have hrt := restS_take (m := m) (pr := pr) (ps := ps) hj3
            generalize hzz : (rchL m).getD j 0 = z at z0 z1 hrt
            have hst := r.st (show z.toNat < m.steps.length by omega)
            have hpz := hpo z.toNat
            have ha := hpb (m.steps.getD z.toNat dst).fr.toNat
            have hb := hpb (m.steps.getD z.toNat dst).to.toNat
            have hrb := restI_b (m := m) hpo hpb z.toNat
            have hre : restI m pr ps z.toNat = pr.getD z.toNat 0 + ps.getD (m.steps.getD z.toNat dst).fr.toNat 0 - ps.getD (m.steps.getD z.toNat dst).to.toNat 0 := rfl
            with_reducible (refine cnd_t ?_)
            refine idxi_i t23 sL8 hj3 ?_
            refine ldi_i t23 r3 sL8 hj3 ?_
            rw [hzz]
            with_reducible (refine mv_i ?_; refine mv_i ?_; refine mv_i ?_; refine idxzi t23 (by assumption) (by omega) (by omega) ?_; refine ldi_i t23 r3 (by assumption) (by omega) ?_; refine ⟨vbi _ _, ?_⟩; refine vk_i (fa27_1 _) ?_; refine ld2_1 r23 (by assumption) ?_; refine ⟨VB_of_ints (by assumption), ?_⟩; refine vk_i (fa36_4 _) ?_; refine ld5_4 r34 (by assumption) ?_; refine ⟨VB_of_steps (by assumption), ?_⟩; refine mv_i ?_; refine idxzst t34 (by assumption) (by omega) (by omega) ?_; refine fae_i st63 (by assumption) (by omega) (by omega) ?_; refine ldfr dst st63 (by assumption) (by omega) ?_; refine ⟨vbi _ _, ?_⟩; refine idxzi t23 (by assumption) (by omega) (by omega) ?_; refine ldi_i t23 r3 (by assumption) (by omega) ?_; refine ⟨vbi _ _, ?_⟩)
            refine add_i ⟨by omega, by omega⟩ ?_
            with_reducible (refine vk_i (fa27_1 _) ?_; refine ld2_1 r23 (by assumption) ?_; refine ⟨VB_of_ints (by assumption), ?_⟩; refine vk_i (fa36_4 _) ?_; refine ld5_4 r34 (by assumption) ?_; refine ⟨VB_of_steps (by assumption), ?_⟩; refine mv_i ?_; refine idxzst t34 (by assumption) (by omega) (by omega) ?_; refine fae_i st63 (by assumption) (by omega) (by omega) ?_; refine ldto dst st63 (by assumption) (by omega) ?_; refine ⟨vbi _ _, ?_⟩; refine idxzi t23 (by assumption) (by omega) (by omega) ?_; refine ldi_i t23 r3 (by assumption) (by omega) ?_; refine ⟨vbi _ _, ?_⟩)
            refine sub_i ⟨by omega, by omega⟩ ?_
            rw [← hre]
            with_reducible (refine mv_i ?_; refine mv_i ?_)
            refine lss_i (fun hn => ?_) (fun hn => ?_)
            · with_reducible (refine cnd_t ?_; refine mv_i ?_; refine mv_i ?_; refine ret2 ?_)
              refine ⟨pall8, ?_⟩
              have : finE m pr ks ps = 30 := by
                unfold finE
                rw [if_pos (.inl ⟨z, by rw [← hzz]; exact gd_mem 0 hj3, hn⟩)]
              rw [if_neg (by simp), eP, R3, this, if_neg (by decide)]
            · with_reducible (refine cnd_f ?_; refine mv_i ?_; refine mv_i ?_)
              refine add_i ⟨by omega, by omega⟩ ?_
              with_reducible (refine mv_i ?_; refine inc_i (by omega) ?_; refine mv_i ?_)
              refine next2 hj3 ⟨rfl, by rw [hrt], by rw [hrt]; omega, by rw [hrt]; push_cast; omega, fun i hi => ?_⟩
              by_cases q : i = j
              · subst q; rw [hzz]; omega
              · exact hneg i (by omega)
          · have ej : j = (rchL m).length := by omega
            rw [ej, List.take_of_length_le (Nat.le_refl _)] at hs0 hs1 ⊢
            have hnn : ¬ ∃ i ∈ rchL m, restI m pr ps i.toNat < 0 := by
              rintro ⟨i, hi, hn⟩
              obtain ⟨q, hq, he⟩ := mem_gd 0 hi
              have := hneg q (by omega)
              rw [he] at this
              omega
            with_reducible (refine cnd_f ?_; refine mv_i ?_; refine mv_i ?_)
            refine neq_i (fun hq => ?_) (fun hq => ?_)
            · with_reducible (refine cnd_f ?_; refine mv_i ?_; refine mv_i ?_; refine mv_i ?_; refine ret2 ?_)
              refine ⟨pall8, ?_⟩
              have : finE m pr ks ps = 0 := by
                unfold finE
                rw [if_neg (by rintro (hc | hc); exact hnn hc; exact hc hq)]
              rw [if_neg (by simp), eP, R3, this, if_pos rfl]
            · with_reducible (refine cnd_t ?_; refine mv_i ?_; refine mv_i ?_; refine ret2 ?_)
              refine ⟨pall8, ?_⟩
              have : finE m pr ks ps = 30 := by
                unfold finE
                rw [if_pos (.inr hq)]
              rw [if_neg (by simp), eP, R3, this, if_neg (by decide)]
        · have R2 := R2 hm
          with_reducible (refine cnd_t ?_; refine mv_i ?_; refine mv_i ?_; refine mv_i ?_; refine ret2 ?_)
          refine ⟨pall8, ?_⟩
          rw [if_neg (by simp), eP, R2, if_neg hm]
  · with_reducible (refine cnd_t ?_; refine mv_i ?_; refine mv_i ?_; refine mv_i ?_; refine ret2 ?_)
    refine ⟨p1.trans (p2.trans p3), ?_⟩
    rw [if_pos hz]
end Go.Proofs.Ytdjoednhfoligaa
