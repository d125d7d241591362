import Derived.Test.YtdjoednhfoligaaCvB
import Derived.Test.YtdjoednhfoligaaAmYc
set_option linter.unusedSimpArgs false
set_option linter.unusedVariables false
set_option maxRecDepth 100000
namespace Go.Proofs.Ytdjoednhfoligaa
open Go.AM
variable {h h' h0 : Heap} {K : Value → Heap → Prop}

theorem t48 : sliceT Try.prog 48 4 1 1 = true := by kernel_rfl
theorem r4 : isPlain Try.prog 4 = true := by kernel_rfl
theorem r45 : isPlain Try.prog 45 = true := by kernel_rfl
theorem s3 : szOf Try.prog 3 = some 1 := by kernel_rfl
theorem s4 : szOf Try.prog 4 = some 1 := by kernel_rfl
theorem s25 : szOf Try.prog 25 = some 1 := by kernel_rfl
theorem z25 : zeroB Try.prog 25 (.slice none 0 0) := ⟨_, rfl, by kernel_rfl⟩
theorem z4 : zeroB Try.prog 4 (.bool false) := ⟨_, rfl, by kernel_rfl⟩
theorem z3 : zeroB Try.prog 3 (.int .i64 0) := ⟨_, rfl, by kernel_rfl⟩
theorem fa92_0 (i : Nat) : aFieldAddr Try.prog 92 (.pointer (some ⟨i, 0, none⟩)) 0 = some (.pointer (some ⟨i, 0, none⟩)) := by kernel_rfl
theorem fa92_1 (i : Nat) : aFieldAddr Try.prog 92 (.pointer (some ⟨i, 0, none⟩)) 1 = some (.pointer (some ⟨i, 5, none⟩)) := by kernel_rfl
theorem fa92_2 (i : Nat) : aFieldAddr Try.prog 92 (.pointer (some ⟨i, 0, none⟩)) 2 = some (.pointer (some ⟨i, 6, none⟩)) := by kernel_rfl
theorem fa27_0 (i : Nat) : aFieldAddr Try.prog 27 (.pointer (some ⟨i, 0, none⟩)) 0 = some (.pointer (some ⟨i, 0, none⟩)) := by kernel_rfl
theorem fa27_1 (i : Nat) : aFieldAddr Try.prog 27 (.pointer (some ⟨i, 0, none⟩)) 1 = some (.pointer (some ⟨i, 1, none⟩)) := by kernel_rfl
theorem box27 (a b : Value) (h : Heap) : aBox Try.prog 27 (.agg #[a, b]) h = (.pointer (some ⟨h.length, 0, none⟩), newArr h [a, b] 2) := by kernel_rfl
theorem build92 (a b c d e : Value) (o o' : Option Addr) (l k l' k' : Nat) : aBuild Try.prog 92 [(0, .agg #[a, b, c, d, e]), (1, .slice o l k), (2, .slice o' l' k')] = some (.agg #[a, b, c, d, e, .slice o l k, .slice o' l' k']) := by kernel_rfl
theorem box92 (a b c d e f g : Value) (h : Heap) : aBox Try.prog 92 (.agg #[a, b, c, d, e, f, g]) h = (.pointer (some ⟨h.length, 0, none⟩), newArr h [a, b, c, d, e, f, g] 7) := by kernel_rfl

/-! ### lists searched -/
theorem c91g {a : Value} {w : List Int} {caps : Array Value} {g : FuncId} {p : Int → Bool} (s : IntS h a w) (hg : ∀ x ∈ w, Runs Try.prog g ([] ++ [.int .i64 x] ++ caps.toList) h (.bool (p x)) h) :
    ∃ n : Int, (0 ≤ n ↔ w.any p = true) ∧ Runs Try.prog 91 [a, .func (.func g) #[] caps] h (.int .i64 n) h := by
  have lt := s.lt
  have walk : ∀ n : Int, ((∃ k : Nat, n = k ∧ k < w.length ∧ (∀ j, j < k → p (w.getD j 0) = false) ∧ p (w.getD k 0) = true) ∨ (n = -1 ∧ ∀ j, j < w.length → p (w.getD j 0) = false)) →
      Runs Try.prog 91 [a, .func (.func g) #[] caps] h (.int .i64 n) h := by
    intro n hn
    refine DetP.runs (w91 ?_)
    unfold n91
    with_reducible (refine mv_i ?_; refine mv_i ?_)
    refine leni_i t23 s ?_
    with_reducible (refine mv_i ?_)
    refine loop1 w.length (fun k h2 => h = h2 ∧ ∀ j, j < k → p (w.getD j 0) = false) ⟨rfl, fun j hj => by omega⟩ ?_
    rintro k _ _ hk ⟨rfl, hJ⟩
    skip
    refine lss_i (fun hlt => ?_) (fun hge => ?_)
    · with_reducible (refine cnd_t ?_; refine mv_i ?_; refine mv_i ?_; refine mv_i ?_; refine mv_i ?_; refine mv_i ?_)
      refine idxi_i (k := k) t23 s (by omega) ?_
      refine ldi_i (k := k) t23 r3 s (by omega) ?_
      refine call_r (f := g) (args := [] ++ [.int .i64 (w.getD k 0)] ++ caps.toList) (hg _ (gd_mem 0 (by omega))) ?_
      cases hz : p (w.getD k 0) with
      | true =>
        with_reducible (refine cnd_t ?_; refine mv_i ?_; refine mv_i ?_; refine ret1 ?_)
        refine ⟨?_, rfl⟩
        rcases hn with ⟨k', rfl, h1, h2, h3⟩ | ⟨_, h1⟩
        · have : k = k' := by
            rcases Nat.lt_trichotomy k k' with q | q | q
            · have := h2 k q; rw [hz] at this; cases this
            · exact q
            · have := hJ k' q; rw [h3] at this; cases this
          rw [this]
        · have := h1 k (by omega); rw [hz] at this; cases this
      | false =>
        with_reducible (refine cnd_f ?_)
        refine inc_i (by omega) ?_
        with_reducible (refine mv_i ?_)
        refine next1 (by omega) ⟨rfl, fun j hj => ?_⟩
        by_cases q : j = k
        · subst q; exact hz
        · exact hJ j (by omega)
    · with_reducible (refine cnd_f ?_; refine mv_i ?_; refine ret1 ?_)
      refine ⟨?_, rfl⟩
      rcases hn with ⟨k', rfl, h1, h2, h3⟩ | ⟨rfl, _⟩
      · have := hJ k' (by omega); rw [h3] at this; cases this
      · rfl
  by_cases hex : ∃ k, k < w.length ∧ p (w.getD k 0) = true
  · obtain ⟨k, hk, hmin⟩ := least hex
    have hprev : ∀ j, j < k → p (w.getD j 0) = false := fun j hj => by
      cases e : p (w.getD j 0) with
      | false => rfl
      | true => have := hmin j ⟨by omega, e⟩; omega
    exact ⟨k, ⟨fun _ => List.any_eq_true.mpr ⟨_, gd_mem 0 hk.1, hk.2⟩, fun _ => by omega⟩, walk k (.inl ⟨k, rfl, hk.1, hprev, hk.2⟩)⟩
  · have hno : ∀ j, j < w.length → p (w.getD j 0) = false := fun j hj => by
      cases e : p (w.getD j 0) with
      | false => rfl
      | true => exact absurd ⟨j, hj, e⟩ hex
    refine ⟨-1, ⟨fun h => by omega, fun ha => ?_⟩, walk (-1) (.inr ⟨rfl, hno⟩)⟩
    obtain ⟨x, hx, hpx⟩ := List.any_eq_true.mp ha
    obtain ⟨j, hj, rfl⟩ := mem_gd 0 hx
    have := hno j hj
    rw [hpx] at this; cases this
theorem c62g {a : Value} {w : List Int} {caps : Array Value} {g : FuncId} {p : Int → Bool} (s : IntS h a w) (hg : ∀ x ∈ w, Runs Try.prog g ([] ++ [.int .i64 x] ++ caps.toList) h (.bool (p x)) h) :
    Runs Try.prog 62 [a, .func (.func g) #[] caps] h (.bool (w.any p)) h := by
  obtain ⟨n, hn, hr⟩ := c91g s hg
  refine DetP.runs (w62 ?_)
  unfold n62
  with_reducible (refine mv_i ?_; refine mv_i ?_; refine mv_i ?_)
  refine call_r hr ?_
  refine geq_b ?_
  with_reducible (refine mv_i ?_; refine ret1 ?_)
  refine ⟨?_, rfl⟩
  congr 1
  rw [Bool.eq_iff_iff, decide_eq_true_eq]
  exact hn
theorem c90 {a : Value} {w : List Int} {x : Int} (s : IntS h a w) : ∃ n : Int, (0 ≤ n ↔ x ∈ w) ∧ Runs Try.prog 90 [a, .int .i64 x] h (.int .i64 n) h := by
  have lt := s.lt
  have walk : ∀ n : Int, ((∃ k : Nat, n = k ∧ k < w.length ∧ (∀ j, j < k → ¬ x = w.getD j 0) ∧ x = w.getD k 0) ∨ (n = -1 ∧ ∀ j, j < w.length → ¬ x = w.getD j 0)) →
      Runs Try.prog 90 [a, .int .i64 x] h (.int .i64 n) h := by
    intro n hn
    refine DetP.runs (w90 ?_)
    unfold n90
    with_reducible (refine mv_i ?_; refine mv_i ?_)
    refine leni_i t23 s ?_
    with_reducible (refine mv_i ?_)
    refine loop1 w.length (fun k h2 => h = h2 ∧ ∀ j, j < k → ¬ x = w.getD j 0) ⟨rfl, fun j hj => by omega⟩ ?_
    rintro k _ _ hk ⟨rfl, hJ⟩
    skip
    refine lss_i (fun hlt => ?_) (fun hge => ?_)
    · with_reducible (refine cnd_t ?_; refine mv_i ?_; refine mv_i ?_; refine mv_i ?_; refine mv_i ?_; refine mv_i ?_)
      refine idxi_i (k := k) t23 s (by omega) ?_
      refine ldi_i (k := k) t23 r3 s (by omega) ?_
      refine eql_i (fun hz => ?_) (fun hz => ?_)
      · with_reducible (refine cnd_t ?_; refine mv_i ?_; refine mv_i ?_; refine ret1 ?_)
        refine ⟨?_, rfl⟩
        rcases hn with ⟨k', rfl, h1, h2, h3⟩ | ⟨_, h1⟩
        · have : k = k' := by
            rcases Nat.lt_trichotomy k k' with q | q | q
            · exact absurd hz (h2 k q)
            · exact q
            · exact absurd h3 (hJ k' q)
          rw [this]
        · exact absurd hz (h1 k (by omega))
      · with_reducible (refine cnd_f ?_)
        refine inc_i (by omega) ?_
        with_reducible (refine mv_i ?_)
        refine next1 (by omega) ⟨rfl, fun j hj => ?_⟩
        by_cases q : j = k
        · subst q; exact hz
        · exact hJ j (by omega)
    · with_reducible (refine cnd_f ?_; refine mv_i ?_; refine ret1 ?_)
      refine ⟨?_, rfl⟩
      rcases hn with ⟨k', rfl, h1, h2, h3⟩ | ⟨rfl, _⟩
      · exact absurd h3 (hJ k' (by omega))
      · rfl
  by_cases hex : ∃ k, k < w.length ∧ x = w.getD k 0
  · obtain ⟨k, hk, hmin⟩ := least hex
    have hprev : ∀ j, j < k → ¬ x = w.getD j 0 := fun j hj e => by have := hmin j ⟨by omega, e⟩; omega
    exact ⟨k, ⟨fun _ => by rw [hk.2]; exact gd_mem 0 hk.1, fun _ => by omega⟩, walk k (.inl ⟨k, rfl, hk.1, hprev, hk.2⟩)⟩
  · have hno : ∀ j, j < w.length → ¬ x = w.getD j 0 := fun j hj e => hex ⟨j, hj, e⟩
    refine ⟨-1, ⟨fun h => by omega, fun ha => ?_⟩, walk (-1) (.inr ⟨rfl, hno⟩)⟩
    obtain ⟨j, hj, e⟩ := mem_gd 0 ha
    exact absurd e.symm (hno j hj)
theorem c57 {a : Value} {w : List Int} {x : Int} (s : IntS h a w) : Runs Try.prog 57 [a, .int .i64 x] h (.bool (decide (x ∈ w))) h := by
  obtain ⟨n, hn, hr⟩ := c90 (x := x) s
  refine DetP.runs (w57 ?_)
  unfold n57
  with_reducible (refine mv_i ?_; refine mv_i ?_; refine mv_i ?_)
  refine call_r hr ?_
  refine geq_b ?_
  with_reducible (refine mv_i ?_; refine ret1 ?_)
  refine ⟨?_, rfl⟩
  congr 1
  rw [Bool.eq_iff_iff, decide_eq_true_eq, decide_eq_true_eq]
  exact hn

/-! ### errors of words and prices -/
theorem c89 {i : Nat} {a c d e : Value} {n : Int} {x : Int} (hi : h[i]? = some (.arr ⟨[a, .int .i64 n, c, d, e], 5, false⟩)) : Runs Try.prog 89 [.int .i64 x, .pointer (some ⟨i, 0, none⟩)] h (.bool (!inR x 0 (pm n))) h := by
  refine DetP.runs (w89 ?_)
  unfold n89
  with_reducible (refine mv_i ?_; refine mv_i ?_)
  refine vk_i (fa36_1 _) ?_
  refine ld5_1 r3 hi ?_
  refine subw_i ?_
  refine call_r (c59 _ _ _) ?_
  refine AM.not_i ?_
  with_reducible (refine mv_i ?_; refine ret1 ?_)
  exact ⟨rfl, rfl⟩
theorem any_allg (w : List Int) (a b : Int) : (!(w.any fun x => !inR x a b)) = w.all fun x => inR x a b := by
  rw [List.not_any_eq_all_not]; simp
theorem c53 {a b : Value} {m : Mac} {w : List Int} (s : MacV h a m) (sw : IntS h b w) : Runs Try.prog 53 [a, b] h (.int .i64 (wErr w m.inputs 1200)) h := by
  refine DetP.forget rfl ?_
  refine w53 ?_
  unfold n53
  obtain ⟨o, l, c, rfl, ss⟩ := s
  rw [box36]
  refine ok_i rfl ?_
  have p1 := pre_new h [.int .i64 m.states, .int .i64 m.inputs, .int .i64 m.outputs, .int .i64 m.start, .slice o l c] 5
  have hb := newArr_get h [.int .i64 m.states, .int .i64 m.inputs, .int .i64 m.outputs, .int .i64 m.start, .slice o l c] 5
  have s1 := sw.mono (Sub.of_pre p1)
  with_reducible (refine mv_i ?_; refine mv_i ?_; refine mv_i ?_; refine mv_i ?_)
  refine leni_i t23 s1 ?_
  refine gtr_i (fun hg => ?_) (fun hg => ?_)
  · with_reducible (refine cnd_t ?_; refine mv_i ?_; refine ret1 ?_)
    exact ⟨by unfold wErr; rw [if_pos hg], p1⟩
  · with_reducible (refine cnd_f ?_; refine mv_i ?_; refine mv_i ?_)
    refine call_r (c62g (caps := #[.pointer (some ⟨h.length, 0, none⟩)]) s1 fun x _ => c89 hb) ?_
    refine AM.not_i ?_
    refine call_r (c61 _ _) ?_
    with_reducible (refine mv_i ?_; refine ret1 ?_)
    refine ⟨?_, p1⟩
    rw [any_all]
    unfold wErr
    rw [if_neg hg]
def prErr (m : Mac) (pr : List Int) : Int := if pr.length ≠ m.steps.length then 6 else if pr.all (fun x => inR x 0 20) = true then 0 else 3
theorem c88 {x : Int} : Runs Try.prog 88 [.int .i64 x] h (.bool (!inR x 0 20)) h := by
  refine DetP.runs (w88 ?_)
  unfold n88
  with_reducible (refine mv_i ?_; refine mv_i ?_)
  refine call_r (c59 _ _ _) ?_
  refine AM.not_i ?_
  with_reducible (refine mv_i ?_; refine ret1 ?_)
  exact ⟨rfl, rfl⟩
theorem c52 {a b : Value} {m : Mac} {pr : List Int} (s : MacV h a m) (sp : IntS h b pr) : Runs Try.prog 52 [a, b] h (.int .i64 (prErr m pr)) h := by
  refine DetP.forget rfl ?_
  refine w52 ?_
  unfold n52
  obtain ⟨o, l, c, rfl, ss⟩ := s
  rw [box36]
  refine ok_i rfl ?_
  have p1 := pre_new h [.int .i64 m.states, .int .i64 m.inputs, .int .i64 m.outputs, .int .i64 m.start, .slice o l c] 5
  have hb := newArr_get h [.int .i64 m.states, .int .i64 m.inputs, .int .i64 m.outputs, .int .i64 m.start, .slice o l c] 5
  have s1 := sp.mono (Sub.of_pre p1)
  have ss1 := ss.mono (Sub.of_pre p1)
  with_reducible (refine mv_i ?_; refine mv_i ?_; refine mv_i ?_)
  refine leni_i t23 s1 ?_
  with_reducible (refine vk_i (fa36_4 _) ?_; refine ld5_4 r34 (by assumption) ?_)
  refine len_i t34 ss1 ?_
  refine neq_i (fun he => ?_) (fun he => ?_)
  · with_reducible (refine cnd_f ?_; refine mv_i ?_; refine mv_i ?_)
    refine call_r (c62g (caps := #[]) s1 fun x _ => c88) ?_
    refine AM.not_i ?_
    refine call_r (c61 _ _) ?_
    with_reducible (refine mv_i ?_; refine ret1 ?_)
    refine ⟨?_, p1⟩
    rw [any_allg]
    unfold prErr
    rw [if_neg (show ¬ pr.length ≠ m.steps.length by omega)]
  · with_reducible (refine cnd_t ?_; refine mv_i ?_; refine ret1 ?_)
    refine ⟨?_, p1⟩
    unfold prErr
    rw [if_pos (by omega)]
theorem c19 {a b : Value} {m : Mac} {pr : List Int} (s : MacV h a m) (sp : IntS h b pr) : Runs Try.prog 19 [a, b] h (.int .i64 (prErr m pr)) h := by
  have ltp := sp.lt
  refine DetP.forget rfl ?_
  refine w19 ?_
  unfold n19
  obtain ⟨o, l, c, rfl, ss⟩ := s
  rw [box36]
  refine ok_i rfl ?_
  have p1 := pre_new h [.int .i64 m.states, .int .i64 m.inputs, .int .i64 m.outputs, .int .i64 m.start, .slice o l c] 5
  have hb := newArr_get h [.int .i64 m.states, .int .i64 m.inputs, .int .i64 m.outputs, .int .i64 m.start, .slice o l c] 5
  have s1 := sp.mono (Sub.of_pre p1)
  have ss1 := ss.mono (Sub.of_pre p1)
  generalize newArr h [.int .i64 m.states, .int .i64 m.inputs, .int .i64 m.outputs, .int .i64 m.start, .slice o l c] 5 = g1 at p1 hb s1 ss1 ⊢
  with_reducible (refine mv_i ?_; refine mv_i ?_)
  refine leni_i t23 s1 ?_
  with_reducible (refine vk_i (fa36_4 _) ?_; refine ld5_4 r34 (by assumption) ?_)
  refine len_i t34 ss1 ?_
  refine neq_i (fun he => ?_) (fun he => ?_)
  · with_reducible (refine cnd_f ?_; refine mv_i ?_)
    refine loop1 pr.length (fun k h2 => g1 = h2 ∧ ∀ j, j < k → inR (pr.getD j 0) 0 20 = true) ⟨rfl, fun j hj => by omega⟩ ?_
    rintro k _ _ hk ⟨rfl, hJ⟩
    with_reducible (refine mv_i ?_; refine mv_i ?_)
    refine leni_i t23 s1 ?_
    refine lss_i (fun hlt => ?_) (fun hge => ?_)
    · with_reducible (refine cnd_t ?_; refine mv_i ?_; refine mv_i ?_)
      refine idxi_i (k := k) t23 s1 (by omega) ?_
      refine ldi_i (k := k) t23 r3 s1 (by omega) ?_
      refine call_r (c22 _ _ _) ?_
      cases hz : inR (pr.getD k 0) 0 20 with
      | true =>
        with_reducible (refine not_t ?_; refine cnd_f ?_; refine mv_i ?_)
        refine inc_i (by omega) ?_
        with_reducible (refine mv_i ?_)
        refine next1 (by omega) ⟨rfl, fun j hj => ?_⟩
        by_cases q : j = k
        · subst q; exact hz
        · exact hJ j (by omega)
      | false =>
        with_reducible (refine not_f ?_; refine cnd_t ?_; refine mv_i ?_; refine ret1 ?_)
        refine ⟨?_, p1⟩
        unfold prErr
        rw [if_neg (by omega), if_neg ?_]
        intro ha
        have := List.all_eq_true.mp ha _ (gd_mem 0 (show k < pr.length by omega))
        rw [hz] at this; cases this
    · with_reducible (refine cnd_f ?_; refine mv_i ?_; refine ret1 ?_)
      refine ⟨?_, p1⟩
      unfold prErr
      rw [if_neg (by omega), if_pos (all_gd fun j hj => hJ j (by omega))]
  · with_reducible (refine cnd_t ?_; refine mv_i ?_; refine ret1 ?_)
    refine ⟨?_, p1⟩
    unfold prErr
    rw [if_pos (by omega)]
end Go.Proofs.Ytdjoednhfoligaa
