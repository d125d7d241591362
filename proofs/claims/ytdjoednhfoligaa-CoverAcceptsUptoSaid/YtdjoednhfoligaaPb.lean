import Derived.Test.YtdjoednhfoligaaPa
import Derived.Test.YtdjoednhfoligaaAmZc
import Derived.Test.YtdjoednhfoligaaBulk
import Derived.Test.YtdjoednhfoligaaChecked
import Derived.WalkKit
import Derived.ProofKit
import Derived.OpenShut
import Derived.JoinedCond
import Derived.Test.YtdjoednhfoligaaAmX
import Derived.Test.YtdjoednhfoligaaProg
import Derived.KernelRfl
import Derived.Test.YtdjoednhfoligaaAmYc
import Derived.Test.YtdjoednhfoligaaAmYd
import Derived.Test.YtdjoednhfoligaaAmW
set_option linter.unusedSimpArgs false
set_option linter.unusedVariables false
namespace Go.Proofs.Ytdjoednhfoligaa
open Go.AM
open Go.ChangeShapes Go.WideShapes Go.ChangeAt Go.RowKit

theorem laid : laidOutB Try.prog = true := by kernel_rfl
theorem own : ownKnob Try.prog.godebug = none := by kernel_rfl
theorem ints_le {H : Type} (d : DataW H) : (dints d).length ≤ Rows.uptoBulk d := by
  cases d with
  | slice elems spare =>
    have := bulks.length_le elems
    have := bulks.slice_elems elems spare
    simp only [dints, List.length_map]; omega
  | lit l => simp [dints]
  | nil => simp [dints]
  | ptr d => simp [dints]
  | agg parts => simp [dints]
  | iface t d => simp [dints]
  | map entries => simp [dints]
  | held h => simp [dints]
theorem few_of {H : Type} {d : DataW H} (hb : Rows.uptoBulk d ≤ 1048576) : Few (drows d) := by
  cases d with
  | slice elems spare =>
    have h1 := bulks.length_le elems
    have h2 := bulks.slice_elems elems spare
    refine ⟨by simp only [drows, List.length_map]; omega, ?_⟩
    intro xs hx
    simp only [drows, List.mem_map] at hx
    obtain ⟨e, he, rfl⟩ := hx
    have h3 := bulks.part_le he
    have h4 := ints_le e
    omega
  | lit l => exact ⟨by simp [drows], fun xs hx => by simp [drows] at hx⟩
  | nil => exact ⟨by simp [drows], fun xs hx => by simp [drows] at hx⟩
  | ptr d => exact ⟨by simp [drows], fun xs hx => by simp [drows] at hx⟩
  | agg parts => exact ⟨by simp [drows], fun xs hx => by simp [drows] at hx⟩
  | iface t d => exact ⟨by simp [drows], fun xs hx => by simp [drows] at hx⟩
  | map entries => exact ⟨by simp [drows], fun xs hx => by simp [drows] at hx⟩
  | held h => exact ⟨by simp [drows], fun xs hx => by simp [drows] at hx⟩
theorem mtM : macT Try.prog 24 3 22 76 = true := by kernel_rfl
theorem sttM : stT Try.prog 76 3 = true := by kernel_rfl
theorem steps_le {H : Type} (d : DataW H) : (dSteps d).length ≤ Rows.uptoBulk d := by
  cases d with
  | slice elems spare =>
    have := bulks.length_le elems
    have := bulks.slice_elems elems spare
    simp only [dSteps, List.length_map]; omega
  | lit l => simp [dSteps]
  | nil => simp [dSteps]
  | ptr d => simp [dSteps]
  | agg parts => simp [dSteps]
  | iface t d => simp [dSteps]
  | map entries => simp [dSteps]
  | held h => simp [dSteps]
theorem mac_le {H : Type} (d : DataW H) : (dMac d).steps.length ≤ Rows.uptoBulk d := by
  unfold dMac
  split
  · rename_i a b c d e
    have h1 := steps_le e
    simp only [Rows.uptoBulk, Rows.uptoBulkAll]
    omega
  · simp
theorem twT : twoT Try.prog 27 25 = true := by kernel_rfl
theorem two_le {H : Type} (d : DataW H) : (dTwo d).1.length ≤ Rows.uptoBulk d ∧ (dTwo d).2.length ≤ Rows.uptoBulk d := by
  unfold dTwo
  split
  · rename_i a b
    have h1 := ints_le a
    have h2 := ints_le b
    simp only [Rows.uptoBulk, Rows.uptoBulkAll]
    omega
  · simp

end Go.Proofs.Ytdjoednhfoligaa

set_option linter.unusedSimpArgs false
set_option linter.unusedVariables false
set_option maxRecDepth 100000
namespace Go.Proofs.Ytdjoednhfoligaa
open Go.AM
variable {h h' h0 : Heap}
/-! ### awake: a closed call, by evaluation -/
def isTrue : Option (Value × Heap) → Bool | some (.bool true, _) => true | _ => false
def aw : List Nat := [14, 15, 23, 29, 49, 50, 51, 52, 53, 54, 55, 56, 57, 58, 59, 60, 61, 62, 64, 65, 67, 73, 87, 88, 89, 90, 91, 93, 94, 96, 107, 108, 110]
theorem aw_ok : aw.all (fOK Try.prog) = true := by kernel_rfl
theorem aw_ev : isTrue (evF Try.prog aw 100 20 14 [] []) = true := by kernel_rfl
theorem c14 : Runs Try.prog 14 [] h (.bool true) h := by
  have := aw_ev
  unfold isTrue at this
  split at this
  · rename_i hr he
    exact Runs.closed rfl (evF_ok (fun f hf => List.all_eq_true.mp aw_ok f hf) _ _ _ _ _ _ he)
  · cases this
end Go.Proofs.Ytdjoednhfoligaa

set_option linter.unusedSimpArgs false
set_option linter.unusedVariables false
set_option maxRecDepth 100000
namespace Go.Proofs.Ytdjoednhfoligaa
open Go.AM
variable {h h' h0 : Heap} {K : Value → Heap → Prop}

theorem t48 : sliceT Try.prog 48 4 1 1 = true := by kernel_rfl
theorem r4 : isPlain Try.prog 4 = true := by kernel_rfl
theorem r45 : isPlain Try.prog 45 = true := by kernel_rfl
theorem s3 : szOf Try.prog 3 = some 1 := by kernel_rfl
theorem s4 : szOf Try.prog 4 = some 1 := by kernel_rfl
theorem s25 : szOf Try.prog 25 = some 1 := by kernel_rfl
theorem z25 : zeroB Try.prog 25 (.slice none 0 0) := ⟨_, rfl, by kernel_rfl⟩
theorem z4 : zeroB Try.prog 4 (.bool false) := ⟨_, rfl, by kernel_rfl⟩
theorem z3 : zeroB Try.prog 3 (.int .i64 0) := ⟨_, rfl, by kernel_rfl⟩
theorem fa92_0 (i : Nat) : aFieldAddr Try.prog 92 (.pointer (some ⟨i, 0, none⟩)) 0 = some (.pointer (some ⟨i, 0, none⟩)) := by kernel_rfl
theorem fa92_1 (i : Nat) : aFieldAddr Try.prog 92 (.pointer (some ⟨i, 0, none⟩)) 1 = some (.pointer (some ⟨i, 5, none⟩)) := by kernel_rfl
theorem fa92_2 (i : Nat) : aFieldAddr Try.prog 92 (.pointer (some ⟨i, 0, none⟩)) 2 = some (.pointer (some ⟨i, 6, none⟩)) := by kernel_rfl
theorem fa27_0 (i : Nat) : aFieldAddr Try.prog 27 (.pointer (some ⟨i, 0, none⟩)) 0 = some (.pointer (some ⟨i, 0, none⟩)) := by kernel_rfl
theorem fa27_1 (i : Nat) : aFieldAddr Try.prog 27 (.pointer (some ⟨i, 0, none⟩)) 1 = some (.pointer (some ⟨i, 1, none⟩)) := by kernel_rfl
theorem box27 (a b : Value) (h : Heap) : aBox Try.prog 27 (.agg #[a, b]) h = (.pointer (some ⟨h.length, 0, none⟩), newArr h [a, b] 2) := by kernel_rfl
theorem build92 (a b c d e : Value) (o o' : Option Addr) (l k l' k' : Nat) : aBuild Try.prog 92 [(0, .agg #[a, b, c, d, e]), (1, .slice o l k), (2, .slice o' l' k')] = some (.agg #[a, b, c, d, e, .slice o l k, .slice o' l' k']) := by kernel_rfl
theorem box92 (a b c d e f g : Value) (h : Heap) : aBox Try.prog 92 (.agg #[a, b, c, d, e, f, g]) h = (.pointer (some ⟨h.length, 0, none⟩), newArr h [a, b, c, d, e, f, g] 7) := by kernel_rfl

/-! ### lists searched -/
theorem c91g {a : Value} {w : List Int} {caps : Array Value} {g : FuncId} {p : Int → Bool} (s : IntS h a w) (hg : ∀ x ∈ w, Runs Try.prog g ([] ++ [.int .i64 x] ++ caps.toList) h (.bool (p x)) h) :
    ∃ n : Int, (0 ≤ n ↔ w.any p = true) ∧ Runs Try.prog 91 [a, .func (.func g) #[] caps] h (.int .i64 n) h := by
  have lt := s.lt
  have walk : ∀ n : Int, ((∃ k : Nat, n = k ∧ k < w.length ∧ (∀ j, j < k → p (w.getD j 0) = false) ∧ p (w.getD k 0) = true) ∨ (n = -1 ∧ ∀ j, j < w.length → p (w.getD j 0) = false)) →
      Runs Try.prog 91 [a, .func (.func g) #[] caps] h (.int .i64 n) h := by
    intro n hn
    refine DetP.runs (w91 ?_)
    unfold n91
    with_reducible (refine mv_i ?_; refine mv_i ?_)
    refine leni_i t23 s ?_
    with_reducible (refine mv_i ?_)
    refine loop1 w.length (fun k h2 => h = h2 ∧ ∀ j, j < k → p (w.getD j 0) = false) ⟨rfl, fun j hj => by omega⟩ ?_
    rintro k _ _ hk ⟨rfl, hJ⟩
    skip
    refine lss_i (fun hlt => ?_) (fun hge => ?_)
    · with_reducible (refine cnd_t ?_; refine mv_i ?_; refine mv_i ?_; refine mv_i ?_; refine mv_i ?_; refine mv_i ?_)
      refine idxi_i (k := k) t23 s (by omega) ?_
      refine ldi_i (k := k) t23 r3 s (by omega) ?_
      refine call_r (f := g) (args := [] ++ [.int .i64 (w.getD k 0)] ++ caps.toList) (hg _ (gd_mem 0 (by omega))) ?_
      cases hz : p (w.getD k 0) with
      | true =>
        with_reducible (refine cnd_t ?_; refine mv_i ?_; refine mv_i ?_; refine ret1 ?_)
        refine ⟨?_, rfl⟩
        rcases hn with ⟨k', rfl, h1, h2, h3⟩ | ⟨_, h1⟩
        · have : k = k' := by
            rcases Nat.lt_trichotomy k k' with q | q | q
            · have := h2 k q; rw [hz] at this; cases this
            · exact q
            · have := hJ k' q; rw [h3] at this; cases this
          rw [this]
        · have := h1 k (by omega); rw [hz] at this; cases this
      | false =>
        with_reducible (refine cnd_f ?_)
        refine inc_i (by omega) ?_
        with_reducible (refine mv_i ?_)
        refine next1 (by omega) ⟨rfl, fun j hj => ?_⟩
        by_cases q : j = k
        · subst q; exact hz
        · exact hJ j (by omega)
    · with_reducible (refine cnd_f ?_; refine mv_i ?_; refine ret1 ?_)
      refine ⟨?_, rfl⟩
      rcases hn with ⟨k', rfl, h1, h2, h3⟩ | ⟨rfl, _⟩
      · have := hJ k' (by omega); rw [h3] at this; cases this
      · rfl
  by_cases hex : ∃ k, k < w.length ∧ p (w.getD k 0) = true
  · obtain ⟨k, hk, hmin⟩ := least hex
    have hprev : ∀ j, j < k → p (w.getD j 0) = false := fun j hj => by
      cases e : p (w.getD j 0) with
      | false => rfl
      | true => have := hmin j ⟨by omega, e⟩; omega
    exact ⟨k, ⟨fun _ => List.any_eq_true.mpr ⟨_, gd_mem 0 hk.1, hk.2⟩, fun _ => by omega⟩, walk k (.inl ⟨k, rfl, hk.1, hprev, hk.2⟩)⟩
  · have hno : ∀ j, j < w.length → p (w.getD j 0) = false := fun j hj => by
      cases e : p (w.getD j 0) with
      | false => rfl
      | true => exact absurd ⟨j, hj, e⟩ hex
    refine ⟨-1, ⟨fun h => by omega, fun ha => ?_⟩, walk (-1) (.inr ⟨rfl, hno⟩)⟩
    obtain ⟨x, hx, hpx⟩ := List.any_eq_true.mp ha
    obtain ⟨j, hj, rfl⟩ := mem_gd 0 hx
    have := hno j hj
    rw [hpx] at this; cases this
theorem c62g {a : Value} {w : List Int} {caps : Array Value} {g : FuncId} {p : Int → Bool} (s : IntS h a w) (hg : ∀ x ∈ w, Runs Try.prog g ([] ++ [.int .i64 x] ++ caps.toList) h (.bool (p x)) h) :
    Runs Try.prog 62 [a, .func (.func g) #[] caps] h (.bool (w.any p)) h := by
  obtain ⟨n, hn, hr⟩ := c91g s hg
  refine DetP.runs (w62 ?_)
  unfold n62
  with_reducible (refine mv_i ?_; refine mv_i ?_; refine mv_i ?_)
  refine call_r hr ?_
  refine geq_b ?_
  with_reducible (refine mv_i ?_; refine ret1 ?_)
  refine ⟨?_, rfl⟩
  congr 1
  rw [Bool.eq_iff_iff, decide_eq_true_eq]
  exact hn
theorem c90 {a : Value} {w : List Int} {x : Int} (s : IntS h a w) : ∃ n : Int, (0 ≤ n ↔ x ∈ w) ∧ Runs Try.prog 90 [a, .int .i64 x] h (.int .i64 n) h := by
  have lt := s.lt
  have walk : ∀ n : Int, ((∃ k : Nat, n = k ∧ k < w.length ∧ (∀ j, j < k → ¬ x = w.getD j 0) ∧ x = w.getD k 0) ∨ (n = -1 ∧ ∀ j, j < w.length → ¬ x = w.getD j 0)) →
      Runs Try.prog 90 [a, .int .i64 x] h (.int .i64 n) h := by
    intro n hn
    refine DetP.runs (w90 ?_)
    unfold n90
    with_reducible (refine mv_i ?_; refine mv_i ?_)
    refine leni_i t23 s ?_
    with_reducible (refine mv_i ?_)
    refine loop1 w.length (fun k h2 => h = h2 ∧ ∀ j, j < k → ¬ x = w.getD j 0) ⟨rfl, fun j hj => by omega⟩ ?_
    rintro k _ _ hk ⟨rfl, hJ⟩
    skip
    refine lss_i (fun hlt => ?_) (fun hge => ?_)
    · with_reducible (refine cnd_t ?_; refine mv_i ?_; refine mv_i ?_; refine mv_i ?_; refine mv_i ?_; refine mv_i ?_)
      refine idxi_i (k := k) t23 s (by omega) ?_
      refine ldi_i (k := k) t23 r3 s (by omega) ?_
      refine eql_i (fun hz => ?_) (fun hz => ?_)
      · with_reducible (refine cnd_t ?_; refine mv_i ?_; refine mv_i ?_; refine ret1 ?_)
        refine ⟨?_, rfl⟩
        rcases hn with ⟨k', rfl, h1, h2, h3⟩ | ⟨_, h1⟩
        · have : k = k' := by
            rcases Nat.lt_trichotomy k k' with q | q | q
            · exact absurd hz (h2 k q)
            · exact q
            · exact absurd h3 (hJ k' q)
          rw [this]
        · exact absurd hz (h1 k (by omega))
      · with_reducible (refine cnd_f ?_)
        refine inc_i (by omega) ?_
        with_reducible (refine mv_i ?_)
        refine next1 (by omega) ⟨rfl, fun j hj => ?_⟩
        by_cases q : j = k
        · subst q; exact hz
        · exact hJ j (by omega)
    · with_reducible (refine cnd_f ?_; refine mv_i ?_; refine ret1 ?_)
      refine ⟨?_, rfl⟩
      rcases hn with ⟨k', rfl, h1, h2, h3⟩ | ⟨rfl, _⟩
      · exact absurd h3 (hJ k' (by omega))
      · rfl
  by_cases hex : ∃ k, k < w.length ∧ x = w.getD k 0
  · obtain ⟨k, hk, hmin⟩ := least hex
    have hprev : ∀ j, j < k → ¬ x = w.getD j 0 := fun j hj e => by have := hmin j ⟨by omega, e⟩; omega
    exact ⟨k, ⟨fun _ => by rw [hk.2]; exact gd_mem 0 hk.1, fun _ => by omega⟩, walk k (.inl ⟨k, rfl, hk.1, hprev, hk.2⟩)⟩
  · have hno : ∀ j, j < w.length → ¬ x = w.getD j 0 := fun j hj e => hex ⟨j, hj, e⟩
    refine ⟨-1, ⟨fun h => by omega, fun ha => ?_⟩, walk (-1) (.inr ⟨rfl, hno⟩)⟩
    obtain ⟨j, hj, e⟩ := mem_gd 0 ha
    exact absurd e.symm (hno j hj)
theorem c57 {a : Value} {w : List Int} {x : Int} (s : IntS h a w) : Runs Try.prog 57 [a, .int .i64 x] h (.bool (decide (x ∈ w))) h := by
  obtain ⟨n, hn, hr⟩ := c90 (x := x) s
  refine DetP.runs (w57 ?_)
  unfold n57
  with_reducible (refine mv_i ?_; refine mv_i ?_; refine mv_i ?_)
  refine call_r hr ?_
  refine geq_b ?_
  with_reducible (refine mv_i ?_; refine ret1 ?_)
  refine ⟨?_, rfl⟩
  congr 1
  rw [Bool.eq_iff_iff, decide_eq_true_eq, decide_eq_true_eq]
  exact hn

/-! ### errors of words and prices -/
theorem c89 {i : Nat} {a c d e : Value} {n : Int} {x : Int} (hi : h[i]? = some (.arr ⟨[a, .int .i64 n, c, d, e], 5, false⟩)) : Runs Try.prog 89 [.int .i64 x, .pointer (some ⟨i, 0, none⟩)] h (.bool (!inR x 0 (pm n))) h := by
  refine DetP.runs (w89 ?_)
  unfold n89
  with_reducible (refine mv_i ?_; refine mv_i ?_)
  refine vk_i (fa36_1 _) ?_
  refine ld5_1 r3 hi ?_
  refine subw_i ?_
  refine call_r (c59 _ _ _) ?_
  refine AM.not_i ?_
  with_reducible (refine mv_i ?_; refine ret1 ?_)
  exact ⟨rfl, rfl⟩
theorem any_allg (w : List Int) (a b : Int) : (!(w.any fun x => !inR x a b)) = w.all fun x => inR x a b := by
  rw [List.not_any_eq_all_not]; simp
theorem c53 {a b : Value} {m : Mac} {w : List Int} (s : MacV h a m) (sw : IntS h b w) : Runs Try.prog 53 [a, b] h (.int .i64 (wErr w m.inputs 1200)) h := by
  refine DetP.forget rfl ?_
  refine w53 ?_
  unfold n53
  obtain ⟨o, l, c, rfl, ss⟩ := s
  rw [box36]
  refine ok_i rfl ?_
  have p1 := pre_new h [.int .i64 m.states, .int .i64 m.inputs, .int .i64 m.outputs, .int .i64 m.start, .slice o l c] 5
  have hb := newArr_get h [.int .i64 m.states, .int .i64 m.inputs, .int .i64 m.outputs, .int .i64 m.start, .slice o l c] 5
  have s1 := sw.mono (Sub.of_pre p1)
  with_reducible (refine mv_i ?_; refine mv_i ?_; refine mv_i ?_; refine mv_i ?_)
  refine leni_i t23 s1 ?_
  refine gtr_i (fun hg => ?_) (fun hg => ?_)
  · with_reducible (refine cnd_t ?_; refine mv_i ?_; refine ret1 ?_)
    exact ⟨by unfold wErr; rw [if_pos hg], p1⟩
  · with_reducible (refine cnd_f ?_; refine mv_i ?_; refine mv_i ?_)
    refine call_r (c62g (caps := #[.pointer (some ⟨h.length, 0, none⟩)]) s1 fun x _ => c89 hb) ?_
    refine AM.not_i ?_
    refine call_r (c61 _ _) ?_
    with_reducible (refine mv_i ?_; refine ret1 ?_)
    refine ⟨?_, p1⟩
    rw [any_all]
    unfold wErr
    rw [if_neg hg]
def prErr (m : Mac) (pr : List Int) : Int := if pr.length ≠ m.steps.length then 6 else if pr.all (fun x => inR x 0 20) = true then 0 else 3
theorem c88 {x : Int} : Runs Try.prog 88 [.int .i64 x] h (.bool (!inR x 0 20)) h := by
  refine DetP.runs (w88 ?_)
  unfold n88
  with_reducible (refine mv_i ?_; refine mv_i ?_)
  refine call_r (c59 _ _ _) ?_
  refine AM.not_i ?_
  with_reducible (refine mv_i ?_; refine ret1 ?_)
  exact ⟨rfl, rfl⟩
theorem c52 {a b : Value} {m : Mac} {pr : List Int} (s : MacV h a m) (sp : IntS h b pr) : Runs Try.prog 52 [a, b] h (.int .i64 (prErr m pr)) h := by
  refine DetP.forget rfl ?_
  refine w52 ?_
  unfold n52
  obtain ⟨o, l, c, rfl, ss⟩ := s
  rw [box36]
  refine ok_i rfl ?_
  have p1 := pre_new h [.int .i64 m.states, .int .i64 m.inputs, .int .i64 m.outputs, .int .i64 m.start, .slice o l c] 5
  have hb := newArr_get h [.int .i64 m.states, .int .i64 m.inputs, .int .i64 m.outputs, .int .i64 m.start, .slice o l c] 5
  have s1 := sp.mono (Sub.of_pre p1)
  have ss1 := ss.mono (Sub.of_pre p1)
  with_reducible (refine mv_i ?_; refine mv_i ?_; refine mv_i ?_)
  refine leni_i t23 s1 ?_
  with_reducible (refine vk_i (fa36_4 _) ?_; refine ld5_4 r34 (by assumption) ?_)
  refine len_i t34 ss1 ?_
  refine neq_i (fun he => ?_) (fun he => ?_)
  · with_reducible (refine cnd_f ?_; refine mv_i ?_; refine mv_i ?_)
    refine call_r (c62g (caps := #[]) s1 fun x _ => c88) ?_
    refine AM.not_i ?_
    refine call_r (c61 _ _) ?_
    with_reducible (refine mv_i ?_; refine ret1 ?_)
    refine ⟨?_, p1⟩
    rw [any_allg]
    unfold prErr
    rw [if_neg (show ¬ pr.length ≠ m.steps.length by omega)]
  · with_reducible (refine cnd_t ?_; refine mv_i ?_; refine ret1 ?_)
    refine ⟨?_, p1⟩
    unfold prErr
    rw [if_pos (by omega)]
theorem c19 {a b : Value} {m : Mac} {pr : List Int} (s : MacV h a m) (sp : IntS h b pr) : Runs Try.prog 19 [a, b] h (.int .i64 (prErr m pr)) h := by
  have ltp := sp.lt
  refine DetP.forget rfl ?_
  refine w19 ?_
  unfold n19
  obtain ⟨o, l, c, rfl, ss⟩ := s
  rw [box36]
  refine ok_i rfl ?_
  have p1 := pre_new h [.int .i64 m.states, .int .i64 m.inputs, .int .i64 m.outputs, .int .i64 m.start, .slice o l c] 5
  have hb := newArr_get h [.int .i64 m.states, .int .i64 m.inputs, .int .i64 m.outputs, .int .i64 m.start, .slice o l c] 5
  have s1 := sp.mono (Sub.of_pre p1)
  have ss1 := ss.mono (Sub.of_pre p1)
  generalize newArr h [.int .i64 m.states, .int .i64 m.inputs, .int .i64 m.outputs, .int .i64 m.start, .slice o l c] 5 = g1 at p1 hb s1 ss1 ⊢
  with_reducible (refine mv_i ?_; refine mv_i ?_)
  refine leni_i t23 s1 ?_
  with_reducible (refine vk_i (fa36_4 _) ?_; refine ld5_4 r34 (by assumption) ?_)
  refine len_i t34 ss1 ?_
  refine neq_i (fun he => ?_) (fun he => ?_)
  · with_reducible (refine cnd_f ?_; refine mv_i ?_)
    refine loop1 pr.length (fun k h2 => g1 = h2 ∧ ∀ j, j < k → inR (pr.getD j 0) 0 20 = true) ⟨rfl, fun j hj => by omega⟩ ?_
    rintro k _ _ hk ⟨rfl, hJ⟩
    with_reducible (refine mv_i ?_; refine mv_i ?_)
    refine leni_i t23 s1 ?_
    refine lss_i (fun hlt => ?_) (fun hge => ?_)
    · with_reducible (refine cnd_t ?_; refine mv_i ?_; refine mv_i ?_)
      refine idxi_i (k := k) t23 s1 (by omega) ?_
      refine ldi_i (k := k) t23 r3 s1 (by omega) ?_
      refine call_r (c22 _ _ _) ?_
      cases hz : inR (pr.getD k 0) 0 20 with
      | true =>
        with_reducible (refine not_t ?_; refine cnd_f ?_; refine mv_i ?_)
        refine inc_i (by omega) ?_
        with_reducible (refine mv_i ?_)
        refine next1 (by omega) ⟨rfl, fun j hj => ?_⟩
        by_cases q : j = k
        · subst q; exact hz
        · exact hJ j (by omega)
      | false =>
        with_reducible (refine not_f ?_; refine cnd_t ?_; refine mv_i ?_; refine ret1 ?_)
        refine ⟨?_, p1⟩
        unfold prErr
        rw [if_neg (by omega), if_neg ?_]
        intro ha
        have := List.all_eq_true.mp ha _ (gd_mem 0 (show k < pr.length by omega))
        rw [hz] at this; cases this
    · with_reducible (refine cnd_f ?_; refine mv_i ?_; refine ret1 ?_)
      refine ⟨?_, p1⟩
      unfold prErr
      rw [if_neg (by omega), if_pos (all_gd fun j hj => hJ j (by omega))]
  · with_reducible (refine cnd_t ?_; refine mv_i ?_; refine ret1 ?_)
    refine ⟨?_, p1⟩
    unfold prErr
    rw [if_pos (by omega)]
end Go.Proofs.Ytdjoednhfoligaa

set_option linter.unusedSimpArgs false
set_option linter.unusedVariables false
set_option maxRecDepth 100000
namespace Go.Proofs.Ytdjoednhfoligaa
open Go.AM
variable {h h' h0 : Heap} {K : Value → Heap → Prop}

/-! ### products -/
theorem addu_i {t : TypeId} {a b : Nat} (hk : K (.int .u64 (((a + b) % 2 ^ 64 : Nat) : Int)) h) : vK (aBin Try.prog .add t (.int .u64 (a : Int)) (.int .u64 (b : Int))) h K := by
  refine vk_i (v := .int .u64 (((a + b) % 2 ^ 64 : Nat) : Int)) ?_ hk
  simp only [aBin, aInt, true_or, if_true]
  congr 2
theorem mulu_i {t : TypeId} {a b : Nat} (hk : K (.int .u64 (((a * b) % 2 ^ 64 : Nat) : Int)) h) : vK (aBin Try.prog .mul t (.int .u64 (a : Int)) (.int .u64 (b : Int))) h K := by
  refine vk_i (v := .int .u64 (((a * b) % 2 ^ 64 : Nat) : Int)) ?_ hk
  simp only [aBin, aInt, true_or, if_true]
  congr 2
theorem shru_i {t : TypeId} {a n : Nat} (h1 : n < 64) (hk : K (.int .u64 ((a >>> n : Nat) : Int)) h) : vK (aBin Try.prog .shr t (.int .u64 (a : Int)) (.int .u64 (n : Int))) h K :=
  shr_i (by omega) (by omega) (by simpa using hk)
theorem shr_lt {a n : Nat} (ha : a < 2 ^ 64) : a >>> n < 2 ^ 64 := by
  rw [Nat.shiftRight_eq_div_pow]; exact Nat.lt_of_le_of_lt (Nat.div_le_self _ _) ha
def mulHi (a b : Nat) : Nat :=
  let x0 := a &&& 4294967295
  let x1 := a >>> 32
  let y0 := b &&& 4294967295
  let y1 := b >>> 32
  let w0 := (x0 * y0) % 2 ^ 64
  let t := ((x1 * y0) % 2 ^ 64 + w0 >>> 32) % 2 ^ 64
  let w1 := ((t &&& 4294967295) + (x0 * y1) % 2 ^ 64) % 2 ^ 64
  (((x1 * y1) % 2 ^ 64 + t >>> 32) % 2 ^ 64 + w1 >>> 32) % 2 ^ 64
theorem mulHi_all : (List.range 64).all (fun n => Nat.beq (mulHi 1 n) 0) = true := by decide +kernel
theorem mulHi_zero {n : Nat} (hn : n < 64) : mulHi 1 n = 0 := Nat.eq_of_beq_eq_true (List.all_eq_true.mp mulHi_all n (List.mem_range.mpr hn))
theorem c110 {a b : Nat} (ha : a < 2 ^ 64) (hb : b < 2 ^ 64) : Runs Try.prog 110 [.int .u64 (a : Int), .int .u64 (b : Int)] h (.tuple #[.int .u64 (mulHi a b : Nat), .int .u64 ((a * b % 2 ^ 64 : Nat) : Int)]) h := by
  refine DetP.runs (w110 ?_)
  unfold n110
  have m64 : ∀ x : Nat, x % 2 ^ 64 < 2 ^ 64 := fun x => Nat.mod_lt _ (by omega)
  with_reducible (refine mv_i ?_; refine mv_i ?_; refine mv_i ?_)
  refine and_i (b := 4294967295) ha (by omega) ?_
  with_reducible (refine mv_i ?_; refine mv_i ?_)
  refine shru_i (n := 32) (by omega) ?_
  with_reducible (refine mv_i ?_; refine mv_i ?_)
  refine and_i (b := 4294967295) hb (by omega) ?_
  with_reducible (refine mv_i ?_; refine mv_i ?_)
  refine shru_i (n := 32) (by omega) ?_
  with_reducible (refine mv_i ?_; refine mv_i ?_; refine mv_i ?_)
  refine mulu_i ?_
  with_reducible (refine mv_i ?_; refine mv_i ?_; refine mv_i ?_)
  refine mulu_i ?_
  with_reducible (refine mv_i ?_)
  refine shru_i (n := 32) (by omega) ?_
  refine addu_i ?_
  with_reducible (refine mv_i ?_; refine mv_i ?_)
  refine and_i (b := 4294967295) (m64 _) (by omega) ?_
  with_reducible (refine mv_i ?_; refine mv_i ?_)
  refine shru_i (n := 32) (by omega) ?_
  with_reducible (refine mv_i ?_; refine mv_i ?_; refine mv_i ?_; refine mv_i ?_)
  refine mulu_i ?_
  refine addu_i ?_
  with_reducible (refine mv_i ?_; refine mv_i ?_; refine mv_i ?_)
  refine mulu_i ?_
  with_reducible (refine mv_i ?_)
  refine addu_i ?_
  with_reducible (refine mv_i ?_)
  refine shru_i (n := 32) (by omega) ?_
  refine addu_i ?_
  with_reducible (refine mv_i ?_; refine mv_i ?_; refine mv_i ?_)
  refine mulu_i ?_
  with_reducible (refine mv_i ?_; refine ret2 ?_)
  exact ⟨rfl, rfl⟩
theorem c96 {n : Nat} (hn : n < 64) : Runs Try.prog 96 [.int .u64 ((1 : Nat) : Int), .int .u64 (n : Int)] h (.tuple #[.int .u64 ((0 : Nat) : Int), .int .u64 (n : Int)]) h := by
  refine DetP.runs (w96 ?_)
  unfold n96
  with_reducible (refine mv_i ?_; refine mv_i ?_; refine cnd_f ?_; refine mv_i ?_; refine mv_i ?_)
  refine call_r (c110 (a := 1) (b := n) (by omega) (by omega)) ?_
  rw [mulHi_zero hn, Nat.one_mul, Nat.mod_eq_of_lt (by omega)]
  with_reducible (refine mv_i ?_; refine ex2_0 ?_; refine ex2_1 ?_; refine mv_i ?_; refine mv_i ?_; refine mv_i ?_; refine mv_i ?_; refine mv_i ?_; refine mv_i ?_; refine ret2 ?_)
  exact ⟨rfl, rfl⟩

/-! ### Repeat -/
theorem conv_u (x : Int) : aConvert Try.prog 3 139 (.int .i64 x) = some (.int .u64 (IntKind.u64.wrap x)) := by kernel_rfl
theorem conv_i (x : Int) : aConvert Try.prog 139 3 (.int .u64 x) = some (.int .i64 (IntKind.i64.wrap x)) := by kernel_rfl
def repC (x : Int) (n k : Nat) : List Value := List.replicate k (.int .i64 x) ++ List.replicate (n - k) (.int .i64 0)
theorem repC_len (x : Int) {n k : Nat} (hk : k ≤ n) : (repC x n k).length = n := by simp [repC]; omega
theorem setSeg_rep (x : Int) {n k j : Nat} (hj : k + j ≤ n) : setSeg (repC x n k) k (List.replicate j (.int .i64 x)) = repC x n (k + j) := by
  induction j generalizing k with
  | zero => rfl
  | succ j ih =>
    rw [List.replicate_succ, setSeg]
    have e : (repC x n k).set k (.int .i64 x) = repC x n (k + 1) := by
      unfold repC
      rw [List.set_append_right _ _ (by simp), List.length_replicate, Nat.sub_self]
      obtain ⟨d, hd⟩ : ∃ d, n - k = d + 1 := ⟨n - k - 1, by omega⟩
      rw [hd, List.replicate_succ, List.set_cons_zero, show n - (k + 1) = d by omega, List.replicate_succ', List.append_assoc]
      rfl
    rw [e, ih (by omega), show k + 1 + j = k + (j + 1) by omega]
theorem newArr_set (g : Heap) (cs cs' : List Value) (e : Nat) : (newArr g cs e).set g.length (.arr ⟨cs', e, false⟩) = newArr g cs' e := by
  simp only [newArr]
  rw [List.set_append_right _ _ (Nat.le_refl _), Nat.sub_self]
  rfl
theorem copy_rep {g : Heap} {i n k c c' : Nat} {x : Int} (hi : g[i]? = some (.arr ⟨repC x n k, 1, false⟩)) (h0 : 0 < k) (hk : k < n) :
    aCopy Try.prog 25 25 (.slice (some ⟨i, k, none⟩) (n - k) c) (.slice (some ⟨i, 0, none⟩) k c') g = some (.int .i64 ((Nat.min k (n - k) : Nat) : Int), g.set i (.arr ⟨repC x n (k + Nat.min k (n - k)), 1, false⟩)) := by
  obtain ⟨hu, hsz, _⟩ := sliceT_of t23
  have hpos : Nat.min k (n - k) ≠ 0 := by
    rcases Nat.le_total k (n - k) with q | q
    · rw [show Nat.min k (n - k) = k from Nat.min_eq_left q]; omega
    · rw [show Nat.min k (n - k) = n - k from Nat.min_eq_right q]; omega
  have hle : Nat.min k (n - k) ≤ k := Nat.min_le_left _ _
  have hle2 : Nat.min k (n - k) ≤ n - k := Nat.min_le_right _ _
  have hone : (List.replicate (Nat.min k (n - k)) (Value.int .i64 x)).all (·.oneCell') = true := by
    rw [List.all_eq_true]; intro v hv; rw [(List.mem_replicate.mp hv).2]; rfl
  have hxs : ((repC x n k).drop 0).take (Nat.min k (n - k) * 1) = List.replicate (Nat.min k (n - k)) (.int .i64 x) := by
    unfold repC
    rw [List.drop_zero, Nat.mul_one, List.take_append_of_le_length (by simpa using hle), List.take_replicate, Nat.min_eq_left hle]
  have hrl := repC_len x (show k ≤ n by omega)
  simp only [aCopy, hu, hsz]
  rw [if_neg hpos]
  simp only [aCells]
  rw [if_neg hpos, hi]
  simp only
  rw [if_pos (by omega), hxs]
  simp only [hi]
  rw [if_pos ⟨trivial, by simp; omega, hone⟩, setSeg_rep x (by omega)]
theorem c73 {a : Value} {x : Int} {n : Nat} (s : IntS h a [x]) (h0 : 0 < n) (hn : n < 64) : Runs Try.prog 73 [a, .int .i64 (n : Int)] h (.slice (some ⟨h.length, 0, none⟩) n (n + 1)) (newArr h (List.replicate n (.int .i64 x)) 1) := by
  refine DetP.runs (w73 ?_)
  unfold n73
  with_reducible (refine mv_i ?_)
  refine seq_J (fun _ h2 => h = h2) ?_ ?_
  rotate_left
  · intro k' hk'
    with_reducible (refine mv_i ?_)
    refine lss_i (fun q => by omega) (fun _ => ?_)
    with_reducible (refine cnd_f ?_)
    exact hk' _ _ rfl
  rintro _ _ rfl _
  with_reducible (refine mv_i ?_)
  refine leni_i t23 s ?_
  refine vk_i (conv_u _) ?_
  with_reducible (refine mv_i ?_)
  refine vk_i (conv_u _) ?_
  have e1 : IntKind.u64.wrap (([x].length : Nat) : Int) = ((1 : Nat) : Int) := rfl
  rw [e1, wrap_u64 (x := n) (by omega)]
  refine call_r (c96 hn) ?_
  with_reducible (refine mv_i ?_; refine ex2_0 ?_; refine ex2_1 ?_; refine mv_i ?_; refine mv_i ?_)
  refine seq_J (fun _ h2 => h = h2) ?_ ?_
  rotate_left
  · intro k' hk'
    with_reducible (refine mv_i ?_)
    refine gtr_i (fun q => by omega) (fun _ => ?_)
    with_reducible (refine mv_i ?_; refine gd_ff ?_; refine mv_i ?_; refine gd_ff ?_)
    refine gtr_i (fun q => by omega) (fun _ => ?_)
    with_reducible (refine pick_f ?_; refine cnd_f ?_)
    exact hk' _ _ rfl
  rintro _ _ rfl _
  with_reducible (refine mv_i ?_)
  refine vk_i (conv_i _) ?_
  rw [wrap_i64 ⟨by omega, by omega⟩]
  refine mk1_i t23 z3 (by omega) ⟨by omega, by omega⟩ ?_
  rw [Int.toNat_natCast]
  have s1 := s.mono (Sub.of_pre (pre_new h (List.replicate n (.int .i64 0)) 1))
  with_reducible (refine mv_i ?_; refine mv_i ?_; refine mv_i ?_)
  have hc1 : aCopy Try.prog 25 25 (.slice (some ⟨h.length, 0, none⟩) n (n + 1)) a (newArr h (List.replicate n (.int .i64 0)) 1) = some (.int .i64 ((1 : Nat) : Int), newArr h (repC x n 1) 1) := by
    obtain ⟨hu, hsz, _⟩ := sliceT_of t23
    have hset := setSeg_rep x (n := n) (k := 0) (j := 1) (by omega)
    rcases s1.2 with ⟨_, _, rfl, _, e0⟩ | ⟨i, o, c, ar, rfl, e1, e2, e3, e4⟩
    · simp at e0
    · have hm : Nat.min [x].length n = 1 := Nat.min_eq_left h0
      simp only [aCopy, hu, hsz, hm]
      rw [if_neg (by omega)]
      simp only [aCells]
      rw [if_neg (by omega), e1]
      simp only
      rw [if_pos (by simpa using e3)]
      simp only [List.length_singleton] at e4
      rw [e4]
      simp only [newArr_get]
      rw [if_pos ⟨trivial, by simp; omega, rfl⟩]
      have e5 : List.replicate n (Value.int .i64 0) = repC x n 0 := by simp [repC]
      have e6 : [x].map (Value.int .i64) = List.replicate 1 (.int .i64 x) := rfl
      rw [e5, e6, hset, newArr_set]
  refine ok_i hc1 ?_
  with_reducible (refine mv_i ?_)
  refine ⟨fun vs h2 => ∃ k : Nat, vs = [.int .i64 (k : Int)] ∧ 1 ≤ k ∧ k ≤ n ∧ newArr h (repC x n k) 1 = h2, fun vs _ => match vs with | [.int _ k] => n - k.toNat | _ => 0, ⟨1, rfl, by omega, by omega, rfl⟩, ?_⟩
  rintro _ _ _ ⟨k, e, hk1, hkn, rfl⟩
  cases e
  obtain ⟨hu, hsz, _⟩ := sliceT_of t23
  have hg := newArr_get h (repC x n k) 1
  with_reducible (refine mv_i ?_; refine mv_i ?_)
  refine vk_i (v := .int .i64 (n : Int)) (by simp only [aLen, hu]) ?_
  refine lss_i (fun hlt => ?_) (fun hge => ?_)
  · have hk2 : k < n := by omega
    with_reducible (refine cnd_t ?_; refine mv_i ?_; refine mv_i ?_; refine mv_i ?_)
    refine vk_i (v := .slice (some ⟨h.length, k, none⟩) (n - k) (n + 1 - k)) ?_ ?_
    · simp only [aSlice, hu, hsz, hg, if_true, aBoundO, aBound, capOf]
      rw [if_pos ⟨by omega, by omega⟩]
      simp
    refine ⟨by show h.length < (newArr h (repC x n k) 1).length; rw [newArr_length]; omega, ?_⟩
    with_reducible (refine mv_i ?_; refine mv_i ?_)
    refine vk_i (v := .slice (some ⟨h.length, 0, none⟩) k (n + 1)) ?_ ?_
    · have hcap : capOf n (n + 1) = n := by simp [capOf]
      simp only [aSlice, hu, hsz, hg, if_true, aBoundO, aBound, hcap]
      rw [if_pos ⟨by omega, by omega⟩]
      simp
    refine ⟨by show h.length < (newArr h (repC x n k) 1).length; rw [newArr_length]; omega, ?_⟩
    refine ok_i (copy_rep hg (by omega) hk2) ?_
    rw [newArr_set]
    refine ⟨trivial, ?_⟩
    have hmin : Nat.min k (n - k) ≤ n - k := Nat.min_le_right _ _
    have hpos : 0 < Nat.min k (n - k) := by
      rcases Nat.le_total k (n - k) with q | q
      · rw [show Nat.min k (n - k) = k from Nat.min_eq_left q]; omega
      · rw [show Nat.min k (n - k) = n - k from Nat.min_eq_right q]; omega
    generalize Nat.min k (n - k) = j at hmin hpos ⊢
    refine add_i ⟨by omega, by omega⟩ ?_
    have ec : (k : Int) + (j : Int) = ((k + j : Nat) : Int) := by omega
    rw [ec]
    with_reducible (refine mv_i ?_)
    refine ⟨⟨k + j, rfl, by omega, by omega, rfl⟩, ?_⟩
    simp only [Int.toNat_natCast]
    omega
  · have ek : k = n := by omega
    subst ek
    with_reducible (refine cnd_f ?_; refine mv_i ?_; refine mv_i ?_; refine ret1 ?_)
    refine ⟨rfl, ?_⟩
    simp [repC]
end Go.Proofs.Ytdjoednhfoligaa

set_option linter.unusedSimpArgs false
set_option linter.unusedVariables false
set_option maxRecDepth 100000
namespace Go.Proofs.Ytdjoednhfoligaa
open Go.AM
variable {h h' h0 h1 : Heap} {K : Value → Heap → Prop}

/-! ### graphs -/
def gE : Nat → Nat := fun l => if l = 0 then 7 else 1
def vBy (I : Nat) (N : Nat → Option Nat) (j : Nat) : Value := match N (3 + 2 * j) with | some a => .slice (some ⟨a, 0, none⟩) I (I + 1) | none => .slice none 0 0
def vFr (N : Nat → Option Nat) (C : Nat → List Value) (j : Nat) : Value := match N (4 + 2 * j) with | some a => .slice (some ⟨a, 0, none⟩) (C (4 + 2 * j)).length 0 | none => .slice none 0 0
def gCells (m : Mac) (S : Nat) (st : Value) (bi fi : Nat) : List Value := [.int .i64 m.states, .int .i64 m.inputs, .int .i64 m.outputs, .int .i64 m.start, st, .slice (some ⟨bi, 0, none⟩) S (S + 1), .slice (some ⟨fi, 0, none⟩) S (S + 1)]
structure GInv (m : Mac) (S I : Nat) (h0 h : Heap) (gi bi fi : Nat) (st : Value) (N : Nat → Option Nat) (C : Nat → List Value) : Prop where
  own : Owns h0 h N C gE
  n0 : N 0 = some gi
  n1 : N 1 = some bi
  n2 : N 2 = some fi
  c0 : C 0 = gCells m S st bi fi
  c1 : C 1 = (List.range S).map (vBy I N)
  c2 : C 2 = (List.range S).map (vFr N C)
variable {m : Mac} {S I gi bi fi : Nat} {st : Value} {N : Nat → Option Nat} {C : Nat → List Value}
theorem map_set {f f' : Nat → Value} {n k : Nat} {x : Value} (hk : f' k = x) (hne : ∀ j, j ≠ k → f' j = f j) : ((List.range n).map f).set k x = (List.range n).map f' := by
  refine List.ext_getElem? fun j => ?_
  rw [List.getElem?_set]
  simp only [List.getElem?_map, List.length_map, List.length_range]
  by_cases q : k = j
  · subst q
    rw [if_pos rfl]
    by_cases hj : k < n
    · rw [if_pos hj, List.getElem?_range hj]; simp [hk]
    · rw [if_neg hj, List.getElem?_eq_none (by simp; omega)]; rfl
  · rw [if_neg q]
    by_cases hj : j < n
    · rw [List.getElem?_range hj]; simp [hne j (fun e => q e.symm)]
    · rw [List.getElem?_eq_none (by simp; omega)]; rfl
theorem GInv.putBy (g : GInv m S I h0 h gi bi fi st N C) {k n : Nat} {cs : List Value} (o : Owns h0 h1 (upN N (3 + 2 * k) (some n)) (upN C (3 + 2 * k) cs) gE) :
    GInv m S I h0 (h1.set bi (.arr ⟨(C 1).set k (.slice (some ⟨n, 0, none⟩) I (I + 1)), 1, false⟩)) gi bi fi st (upN N (3 + 2 * k) (some n)) (upN (upN C (3 + 2 * k) cs) 1 ((C 1).set k (.slice (some ⟨n, 0, none⟩) I (I + 1)))) := by
  have b1 : upN N (3 + 2 * k) (some n) 1 = some bi := by rw [upN_ne (by omega)]; exact g.n1
  refine ⟨o.put b1 _, by rw [upN_ne (by omega)]; exact g.n0, b1, by rw [upN_ne (by omega)]; exact g.n2, by rw [upN_ne (by omega), upN_ne (by omega)]; exact g.c0, ?_, ?_⟩
  · rw [upN_self, g.c1]
    refine map_set ?_ fun j hj => ?_
    · unfold vBy; rw [upN_self]
    · unfold vBy; rw [upN_ne (by omega)]
  · rw [upN_ne (by omega), upN_ne (by omega), g.c2]
    refine List.map_congr_left fun j _ => ?_
    unfold vFr
    rw [upN_ne (by omega), upN_ne (by omega), upN_ne (by omega)]
theorem GInv.setBy (g : GInv m S I h0 h gi bi fi st N C) {k a : Nat} (ha : N (3 + 2 * k) = some a) (cs : List Value) : GInv m S I h0 (h.set a (.arr ⟨cs, 1, false⟩)) gi bi fi st N (upN C (3 + 2 * k) cs) := by
  have o := g.own.put ha cs
  have e : gE (3 + 2 * k) = 1 := by unfold gE; rw [if_neg (by omega)]
  rw [e] at o
  refine ⟨o, g.n0, g.n1, g.n2, by rw [upN_ne (by omega)]; exact g.c0, by rw [upN_ne (by omega)]; exact g.c1, ?_⟩
  rw [upN_ne (by omega), g.c2]
  refine List.map_congr_left fun j _ => ?_
  unfold vFr
  rw [upN_ne (by omega)]
theorem GInv.putFr (g : GInv m S I h0 h gi bi fi st N C) {k n : Nat} {cs : List Value} (o : Owns h0 h1 (upN N (4 + 2 * k) (some n)) (upN C (4 + 2 * k) cs) gE) :
    GInv m S I h0 (h1.set fi (.arr ⟨(C 2).set k (.slice (some ⟨n, 0, none⟩) cs.length 0), 1, false⟩)) gi bi fi st (upN N (4 + 2 * k) (some n)) (upN (upN C (4 + 2 * k) cs) 2 ((C 2).set k (.slice (some ⟨n, 0, none⟩) cs.length 0))) := by
  have b2 : upN N (4 + 2 * k) (some n) 2 = some fi := by rw [upN_ne (by omega)]; exact g.n2
  refine ⟨o.put b2 _, by rw [upN_ne (by omega)]; exact g.n0, by rw [upN_ne (by omega)]; exact g.n1, b2, by rw [upN_ne (by omega), upN_ne (by omega)]; exact g.c0, ?_, ?_⟩
  · rw [upN_ne (by omega), upN_ne (by omega), g.c1]
    refine List.map_congr_left fun j _ => ?_
    unfold vBy
    rw [upN_ne (by omega)]
  · rw [upN_self, g.c2]
    refine map_set ?_ fun j hj => ?_
    · unfold vFr; rw [upN_self, upN_ne (by omega), upN_self]
    · unfold vFr; rw [upN_ne (by omega), upN_ne (by omega), upN_ne (by omega)]
theorem GInv.ext (g : GInv m S I h0 h gi bi fi st N C) (p : h <+: h') : GInv m S I h0 h' gi bi fi st N C := ⟨g.own.ext p, g.n0, g.n1, g.n2, g.c0, g.c1, g.c2⟩
theorem GInv.g0 (g : GInv m S I h0 h gi bi fi st N C) : h[gi]? = some (.arr ⟨gCells m S st bi fi, 7, false⟩) := by have := g.own.get g.n0; rw [g.c0] at this; exact this
theorem GInv.g1 (g : GInv m S I h0 h gi bi fi st N C) : h[bi]? = some (.arr ⟨C 1, 1, false⟩) := g.own.get g.n1
theorem GInv.g2 (g : GInv m S I h0 h gi bi fi st N C) : h[fi]? = some (.arr ⟨C 2, 1, false⟩) := g.own.get g.n2
theorem GInv.by_ (g : GInv m S I h0 h gi bi fi st N C) {k a : Nat} (ha : N (3 + 2 * k) = some a) : h[a]? = some (.arr ⟨C (3 + 2 * k), 1, false⟩) := by
  have := g.own.get ha
  have e : gE (3 + 2 * k) = 1 := by unfold gE; rw [if_neg (by omega)]
  rw [e] at this; exact this
theorem GInv.fr_ (g : GInv m S I h0 h gi bi fi st N C) {k a : Nat} (ha : N (4 + 2 * k) = some a) : h[a]? = some (.arr ⟨C (4 + 2 * k), 1, false⟩) := by
  have := g.own.get ha
  have e : gE (4 + 2 * k) = 1 := by unfold gE; rw [if_neg (by omega)]
  rw [e] at this; exact this
theorem GInv.seg1 (g : GInv m S I h0 h gi bi fi st N C) (hS : S ≤ 40) : Seg 1 h (.slice (some ⟨bi, 0, none⟩) S (S + 1)) S (C 1) := g.own.seg g.n1 rfl (by rw [g.c1]; simp) (by omega)
theorem GInv.seg2 (g : GInv m S I h0 h gi bi fi st N C) (hS : S ≤ 40) : Seg 1 h (.slice (some ⟨fi, 0, none⟩) S (S + 1)) S (C 2) := g.own.seg g.n2 rfl (by rw [g.c2]; simp) (by omega)
theorem GInv.at1 (g : GInv m S I h0 h gi bi fi st N C) {k : Nat} (hk : k < S) : (C 1)[k]? = some (vBy I N k) := by rw [g.c1]; simp [hk]
theorem GInv.at2 (g : GInv m S I h0 h gi bi fi st N C) {k : Nat} (hk : k < S) : (C 2)[k]? = some (vFr N C k) := by rw [g.c2]; simp [hk]

def byRow (m : Mac) (I k j : Nat) : List Int := (List.range I).map fun n => optI (stepTo m.steps k (j : Int) ((n : Nat) : Int))
def frRow (m : Mac) (k j : Nat) : List Int := ((List.range k).filter fun i => decide ((m.steps.getD i dst).fr = (j : Int))).map fun i : Nat => (i : Int)
theorem byRow_len (m : Mac) (I k j : Nat) : (byRow m I k j).length = I := by simp [byRow]
theorem byRow_zero (m : Mac) (I j : Nat) : (byRow m I 0 j).map (Value.int .i64) = List.replicate I (.int .i64 (-1)) := by
  refine List.ext_getElem (by simp [byRow]) fun n h1 h2 => ?_
  simp [byRow, stepTo, firstOf, optI]
theorem stAt_is (l : List St) (f n : Int) (i : Nat) : stAt l f n i = if (l.getD i dst).fr = f ∧ (l.getD i dst).inp = n then some i else none := by
  unfold stAt
  split <;> rename_i e <;> first | rw [if_pos e] | rw [if_neg e] | simp_all
theorem stepTo_new {m : Mac} (r : Right m) {k : Nat} (hk : k < m.steps.length) : stepTo m.steps k (m.steps.getD k dst).fr (m.steps.getD k dst).inp = none := by
  unfold stepTo
  refine firstOf_none fun j hj => ?_
  rw [stAt_is, if_neg (r.key hj hk)]
theorem byRow_succ {m : Mac} (r : Right m) {I k j : Nat} (hk : k < m.steps.length) {s n : Nat} (hs : (m.steps.getD k dst).fr = (s : Int)) (hn : (m.steps.getD k dst).inp = (n : Int)) :
    byRow m I (k + 1) j = if j = s then (byRow m I k j).set n (k : Int) else byRow m I k j := by
  have hnew := stepTo_new r hk
  rw [hs, hn] at hnew
  have hat : ∀ a b : Nat, stAt m.steps (a : Int) (b : Int) k = if a = s ∧ b = n then some k else none := by
    intro a b
    rw [stAt_is, hs, hn]
    by_cases q : a = s ∧ b = n
    · rw [if_pos q, if_pos ⟨by omega, by omega⟩]
    · rw [if_neg q, if_neg (fun e => q ⟨by omega, by omega⟩)]
  refine List.ext_getElem (by split <;> simp [byRow]) fun i h1 h2 => ?_
  have hi : i < I := by simpa [byRow] using h1
  have e1 : (byRow m I (k + 1) j)[i] = optI ((stepTo m.steps k (j : Int) (i : Int)).or (stAt m.steps (j : Int) (i : Int) k)) := by
    simp only [byRow, List.getElem_map, List.getElem_range, stepTo_succ]
  have e2 : (byRow m I k j)[i]'(by rw [byRow_len]; exact hi) = optI (stepTo m.steps k (j : Int) (i : Int)) := by
    simp only [byRow, List.getElem_map, List.getElem_range]
  rw [e1, hat]
  by_cases q : j = s
  · subst q
    simp only [if_true, true_and] at h2 ⊢
    rw [List.getElem_set]
    by_cases q2 : i = n
    · subst q2
      rw [if_pos rfl, if_pos rfl, hnew]; rfl
    · rw [if_neg q2, if_neg (fun e => q2 e.symm), e2]; simp
  · simp only [if_neg q] at h2 ⊢
    rw [if_neg (fun e => q e.1), e2]; simp
theorem frRow_succ {m : Mac} {k j s : Nat} (hs : (m.steps.getD k dst).fr = (s : Int)) : frRow m (k + 1) j = if j = s then frRow m k j ++ [(k : Int)] else frRow m k j := by
  unfold frRow
  rw [List.range_succ, List.filter_append, List.map_append]
  by_cases q : j = s
  · subst q
    rw [if_pos rfl]
    simp only [List.filter_cons, List.filter_nil, hs, decide_true, if_true, List.map_cons, List.map_nil]
  · rw [if_neg q]
    simp only [List.filter_cons, List.filter_nil, hs]
    rw [decide_eq_false (by omega)]
    simp
theorem frRow_len (m : Mac) (k j : Nat) : (frRow m k j).length ≤ k := by
  unfold frRow
  rw [List.length_map]
  have := List.length_filter_le (fun i => decide ((m.steps.getD i dst).fr = (j : Int))) (List.range k)
  simpa using this
def byL (m : Mac) : List (List Int) := (List.range m.states.toNat).map (byRow m m.inputs.toNat m.steps.length)
def frL (m : Mac) : List (List Int) := (List.range m.states.toNat).map (frRow m m.steps.length)
structure Graph (gi : Nat) (h : Heap) (m : Mac) (st by_ fr : Value) : Prop where
  cells : h[gi]? = some (.arr ⟨[.int .i64 m.states, .int .i64 m.inputs, .int .i64 m.outputs, .int .i64 m.start, st, by_, fr], 7, false⟩)
  steps : StepsS h st m.steps
  by_ : RowsS h by_ (byL m)
  fr : RowsS h fr (frL m)
theorem Graph.mono {gi : Nat} {m : Mac} {st by_ fr : Value} (g : Graph gi h m st by_ fr) (s : Sub h h') : Graph gi h' m st by_ fr := ⟨s.2 _ _ g.cells, g.steps.mono s, g.by_.mono s, g.fr.mono s⟩
end Go.Proofs.Ytdjoednhfoligaa

set_option linter.unusedSimpArgs false
set_option linter.unusedVariables false
set_option maxRecDepth 100000
namespace Go.Proofs.Ytdjoednhfoligaa
open Go.AM
variable {h h' h0 h1 : Heap} {K : Value → Heap → Prop}
variable {m : Mac} {S I gi bi fi : Nat} {st : Value} {N : Nat → Option Nat} {C : Nat → List Value}

theorem elt_at (b n c k : Nat) : elt 1 (.slice (some ⟨b, 0, none⟩) n c) k = .pointer (some ⟨b, k, none⟩) := by simp [elt]
theorem ldg {e : TypeId} {off : Nat} {y : Value} (hr : isPlain Try.prog e = true) (g : GInv m S I h0 h gi bi fi st N C) (hc : (gCells m S st bi fi)[off]? = some y) (hK : K y h) : vK (aLoad Try.prog e (.pointer (some ⟨gi, off, none⟩)) h) h K := ldc_i hr g.g0 hc hK
theorem GInv.vb (g : GInv m S I h0 h gi bi fi st N C) : bi < h.length ∧ fi < h.length ∧ gi < h.length := ⟨g.own.lt g.n1, g.own.lt g.n2, g.own.lt g.n0⟩
theorem ldc_e {e : TypeId} {i off : Nat} {a : Arr} {y : Value} (hr : isPlain Try.prog e = true) (hi : h[i]? = some (.arr a)) (hc : a.cells[off]? = some y) : aLoad Try.prog e (.pointer (some ⟨i, off, none⟩)) h = some y := by
  unfold isPlain at hr
  split at hr
  · rename_i d hd
    simp only [aLoad, hi, hd]
    rw [if_neg (by simpa using hr)]
    exact hc
  · cases hr
theorem rows_of {v : Value} {n : Nat} {rs : List Value} {xss : List (List Int)} (s : Seg 1 h v n rs) (hl : xss.length = n) (hr : ∀ j, j < n → ∃ r, rs[j]? = some r ∧ IntS h r (xss.getD j [])) : RowsS h v xss := by
  subst hl
  refine ⟨rs, by simpa using s.1.1, s, fun j hj => ?_⟩
  obtain ⟨r, h1, h2⟩ := hr j hj
  rw [List.getD_eq_getElem?_getD, h1]
  exact h2
theorem set_map {xs : List Int} {n : Nat} {x : Int} : (xs.map (Value.int .i64)).set n (.int .i64 x) = (xs.set n x).map (.int .i64) := by rw [List.map_set]
theorem c54 {a : Value} (s : MacV h a m) (r : Right m) : DetP Try.prog 54 [a] h fun v h' => h <+: h' ∧ ∃ gi st by_ fr, v = .pointer (some ⟨gi, 0, none⟩) ∧ StepsS h st m.steps ∧ Only h h' fun g => StepsS g st m.steps → Graph gi g m st by_ fr := by
  obtain ⟨b1, b2, b3, b4, b5, b6⟩ := r.bounds
  have hfew := r.few
  have hsl : m.steps.length ≤ 320 := by
    have : m.states * m.inputs ≤ 40 * 8 := Int.mul_le_mul b2 b4 (by omega) (by omega)
    omega
  obtain ⟨S, hS⟩ : ∃ S : Nat, m.states = (S : Int) := ⟨m.states.toNat, (Int.toNat_of_nonneg (by omega)).symm⟩
  obtain ⟨I, hI⟩ : ∃ I : Nat, m.inputs = (I : Int) := ⟨m.inputs.toNat, (Int.toNat_of_nonneg (by omega)).symm⟩
  have hSt : m.states.toNat = S := by omega
  have hIt : m.inputs.toNat = I := by omega
  refine w54 ?_
  unfold n54
  obtain ⟨o, l, c, rfl, ss⟩ := s
  rw [box36]
  refine ok_i rfl ?_
  have p1 := pre_new h [.int .i64 m.states, .int .i64 m.inputs, .int .i64 m.outputs, .int .i64 m.start, .slice o l c] 5
  have hb1 := newArr_get h [.int .i64 m.states, .int .i64 m.inputs, .int .i64 m.outputs, .int .i64 m.start, .slice o l c] 5
  generalize hi0 : h.length = i0 at hb1 ⊢
  generalize newArr h [.int .i64 m.states, .int .i64 m.inputs, .int .i64 m.outputs, .int .i64 m.start, .slice o l c] 5 = g1 at p1 hb1 ⊢
  have ss1 := ss.mono (Sub.of_pre p1)
  with_reducible (refine mv_i ?_)
  refine vk_i (ld36 hb1) ?_
  refine ⟨vb_mac ss1, ?_⟩
  with_reducible (refine vk_i (fa36_0 _) ?_; refine ld5_0 r3 (by assumption) ?_; refine ⟨vbi _ _, ?_⟩)
  refine mk1_i (n := m.states) t22 z25 (by omega) ⟨by omega, by omega⟩ ?_
  rw [hSt]
  have o0 := (Owns.start (fun _ => []) gE (List.prefix_refl g1)).add 1 (List.replicate S (.slice none 0 0)) 1 rfl
  generalize hbi : g1.length = bi at o0 ⊢
  generalize newArr g1 (List.replicate S (.slice none 0 0)) 1 = g2 at o0 ⊢
  have hb2 := o0.sub.2 _ _ hb1
  with_reducible (refine vk_i (fa36_0 _) ?_; refine ld5_0 r3 (by assumption) ?_; refine ⟨vbi _ _, ?_⟩)
  refine mk1_i (n := m.states) t22 z25 (by omega) ⟨by omega, by omega⟩ ?_
  rw [hSt]
  have o1 := o0.add 2 (List.replicate S (.slice none 0 0)) 1 rfl
  generalize hfi : g2.length = fi at o1 ⊢
  generalize newArr g2 (List.replicate S (.slice none 0 0)) 1 = g3 at o1 ⊢
  refine vk_i (build92 _ _ _ _ _ _ _ _ _ _ _) ?_
  rw [box92]
  refine ok_i rfl ?_
  have o2 := o1.add 0 (gCells m S (.slice o l c) bi fi) 7 rfl
  have eg : gCells m S (.slice o l c) bi fi = [.int .i64 m.states, .int .i64 m.inputs, .int .i64 m.outputs, .int .i64 m.start, .slice o l c, .slice (some ⟨bi, 0, none⟩) S (S + 1), .slice (some ⟨fi, 0, none⟩) S (S + 1)] := rfl
  rw [eg] at o2
  generalize hgi : g3.length = gi at o2 ⊢
  generalize newArr g3 [.int .i64 m.states, .int .i64 m.inputs, .int .i64 m.outputs, .int .i64 m.start, .slice o l c, .slice (some ⟨bi, 0, none⟩) S (S + 1), .slice (some ⟨fi, 0, none⟩) S (S + 1)] 7 = g4 at o2 ⊢
  have gv : GInv m S I g1 g4 gi bi fi (.slice o l c) (upN (upN (upN (fun _ => none) 1 (some bi)) 2 (some fi)) 0 (some gi)) (upN (upN (upN (fun _ => []) 1 (List.replicate S (.slice none 0 0))) 2 (List.replicate S (.slice none 0 0))) 0 (gCells m S (.slice o l c) bi fi)) := by
    have hn : ∀ j, 3 ≤ j → upN (upN (upN (fun _ => none) 1 (some bi)) 2 (some fi)) 0 (some gi) j = none := fun j hj => by rw [upN_ne (by omega), upN_ne (by omega), upN_ne (by omega)]
    refine ⟨o2, upN_self _ _ _, by rw [upN_ne (by omega), upN_ne (by omega), upN_self], by rw [upN_ne (by omega), upN_self], upN_self _ _ _, ?_, ?_⟩
    · rw [upN_ne (by omega), upN_ne (by omega), upN_self]
      refine List.ext_getElem (by simp) fun j h1 h2 => ?_
      simp only [List.getElem_replicate, List.getElem_map, List.getElem_range, vBy]
      rw [hn _ (by omega)]
    · rw [upN_ne (by omega), upN_self]
      refine List.ext_getElem (by simp) fun j h1 h2 => ?_
      simp only [List.getElem_replicate, List.getElem_map, List.getElem_range, vFr]
      rw [hn _ (by omega)]
  have hnone : ∀ j, 3 ≤ j → upN (upN (upN (fun _ => none) 1 (some bi)) 2 (some fi)) 0 (some gi) j = none := fun j hj => by rw [upN_ne (by omega), upN_ne (by omega), upN_ne (by omega)]
  generalize upN (upN (upN (fun _ => none) 1 (some bi)) 2 (some fi)) 0 (some gi) = N0 at gv hnone
  generalize upN (upN (upN (fun _ => []) 1 (List.replicate S (.slice none 0 0))) 2 (List.replicate S (.slice none 0 0))) 0 (gCells m S (.slice o l c) bi fi) = C0 at gv
  with_reducible (refine mv_i ?_; refine mv_i ?_; refine nil_i ?_)
  refine vk_i (fa92_1 _) ?_
  refine ldg r45 gv rfl ?_
  refine len_i t22 (gv.seg1 (by omega)) ?_
  with_reducible (refine mv_i ?_)
  refine loop1 S (fun k h2 => ∃ N C, GInv m S I g1 h2 gi bi fi (.slice o l c) N C ∧ (∀ j, j < k → ∃ a, N (3 + 2 * j) = some a ∧ C (3 + 2 * j) = List.replicate I (.int .i64 (-1))) ∧ (∀ j, k ≤ j → N (3 + 2 * j) = none) ∧ ∀ j, N (4 + 2 * j) = none)
    ⟨N0, C0, gv, fun j hj => by omega, fun j _ => hnone _ (by omega), fun j => hnone _ (by omega)⟩ ?_
  rintro k h2 _ hk ⟨N, C, gk, hlow, hhigh, hfr⟩
  skip
  refine lss_i (fun hlt => ?_) (fun hge => ?_)
  · have hkS : k < S := by omega
    with_reducible (refine cnd_t ?_; refine mv_i ?_; refine mv_i ?_; refine mv_i ?_; refine nil_i ?_)
    refine vk_i (fa92_1 _) ?_
    refine ldg r45 gk rfl ?_
    refine ⟨gk.vb.1, ?_⟩
    with_reducible (refine mv_i ?_)
    refine ok_i (bs23_1 _ _) ?_
    have gk1 := gk.ext (pre_new h2 [.int .i64 (-1)] 1)
    have sx : IntS (newArr h2 [.int .i64 (-1)] 1) (.slice (some ⟨h2.length, 0, none⟩) 1 2) [-1] := Seg.new 2 (by rfl) (by simp)
    generalize newArr h2 [.int .i64 (-1)] 1 = h3 at gk1 sx ⊢
    skip
    refine vk_i (fa36_1 _) ?_
    refine ld5_1 r3 (gk1.own.sub.2 _ _ hb1) ?_
    refine ⟨trivial, ?_⟩
    rw [hI]
    refine calld_r (c73 sx (by omega) (by omega)) ⟨(pre_new h3 _ 1).imp fun t ht => ht.symm, ?_⟩
    have ge : gE (3 + 2 * k) = 1 := by unfold gE; rw [if_neg (by omega)]
    have oa := gk1.own.add (3 + 2 * k) (List.replicate I (.int .i64 (-1))) 1 ge
    generalize hai : h3.length = ai at oa ⊢
    generalize newArr h3 (List.replicate I (.int .i64 (-1))) 1 = h4 at oa ⊢
    have gp := gk1.putBy oa
    have gb4 : h4[bi]? = some (.arr ⟨C 1, 1, false⟩) := by
      have := oa.get (l := 1) (n := bi) (by rw [upN_ne (by omega)]; exact gk1.n1)
      rw [upN_ne (by omega)] at this; exact this
    have hc1l : (C 1).length = S := by rw [gk.c1]; simp
    refine idx_i (k := k) t22 (gk.seg1 (by omega)) hkS ?_
    rw [elt_at]
    refine st_i s25 gb4 rfl (by simp only; omega) rfl rfl ?_
    refine ⟨trivial, ?_⟩
    refine inc_i (by omega) ?_
    with_reducible (refine mv_i ?_)
    refine next1 hkS ⟨_, _, gp, fun j hj => ?_, fun j hj => ?_, fun j => ?_⟩
    · by_cases q : j = k
      · subst q
        exact ⟨ai, upN_self _ _ _, by rw [upN_ne (by omega), upN_self]⟩
      · obtain ⟨a, ha1, ha2⟩ := hlow j (by omega)
        exact ⟨a, by rw [upN_ne (by omega)]; exact ha1, by rw [upN_ne (by omega), upN_ne (by omega)]; exact ha2⟩
    · rw [upN_ne (by omega)]; exact hhigh j (by omega)
    · rw [upN_ne (by omega)]; exact hfr j
  have ek : k = S := by omega
  subst ek
  have hb5 := gk.own.sub.2 _ _ hb1
  have ss5 := ss1.mono gk.own.sub
  with_reducible (refine cnd_f ?_; refine vk_i (fa36_4 _) ?_; refine ld5_4 r34 (by assumption) ?_)
  refine len_i t34 ss5 ?_
  with_reducible (refine mv_i ?_)
  refine loop1 m.steps.length (fun i h3 => ∃ N C, GInv m k I g1 h3 gi bi fi (.slice o l c) N C ∧ (∀ j, j < k → ∃ a, N (3 + 2 * j) = some a ∧ C (3 + 2 * j) = (byRow m I i j).map (.int .i64)) ∧
      ∀ j, j < k → (N (4 + 2 * j) = none ∧ frRow m i j = []) ∨ ∃ a, N (4 + 2 * j) = some a ∧ C (4 + 2 * j) = (frRow m i j).map (.int .i64))
    ⟨N, C, gk, fun j hj => by rw [byRow_zero]; exact hlow j hj, fun j hj => .inl ⟨hfr j, rfl⟩⟩ ?_
  rintro i h3 _ hi ⟨N, C, gi3, hby, hfr3⟩
  skip
  refine lss_i (fun hlt => ?_) (fun hge2 => ?_)
  · have hil : i < m.steps.length := by omega
    have hst := r.st hil
    obtain ⟨s, hs⟩ : ∃ s : Nat, (m.steps.getD i dst).fr = (s : Int) := ⟨(m.steps.getD i dst).fr.toNat, (Int.toNat_of_nonneg (by omega)).symm⟩
    obtain ⟨n, hn⟩ : ∃ n : Nat, (m.steps.getD i dst).inp = (n : Int) := ⟨(m.steps.getD i dst).inp.toNat, (Int.toNat_of_nonneg (by omega)).symm⟩
    have hsk : s < k := by omega
    have hnI : n < I := by omega
    have ss6 := ss1.mono gi3.own.sub
    with_reducible (refine cnd_t ?_; refine mv_i ?_)
    refine idx_i (k := i) t34 ss6 hil ?_
    refine ldst_i st63 ss6 hil dst ?_
    refine ok_i (al63 _) ?_
    with_reducible (refine mv_i ?_)
    refine ok_i (v := undef) (h' := newArr h3 (m.steps.getD i dst).cells 4) (by rw [sto63]; rfl) ?_
    have gi4 := gi3.ext (pre_new h3 (m.steps.getD i dst).cells 4)
    have hy : (newArr h3 (m.steps.getD i dst).cells 4)[h3.length]? = some (.arr ⟨[.int .i64 (m.steps.getD i dst).fr, .int .i64 (m.steps.getD i dst).inp, .int .i64 (m.steps.getD i dst).out, .int .i64 (m.steps.getD i dst).to], 4, false⟩) := newArr_get _ _ _
    generalize hyi : h3.length = yi at hy ⊢
    generalize newArr h3 (m.steps.getD i dst).cells 4 = h4 at gi4 hy ⊢
    obtain ⟨ai, ha1, ha2⟩ := hby s hsk
    have cb := gi4.by_ ha1
    have hay : ai ≠ yi := by rintro rfl; rw [hy] at cb; simp at cb
    have al := gi4.own.lt ha1
    have hvb : vBy I N s = .slice (some ⟨ai, 0, none⟩) I (I + 1) := by unfold vBy; rw [ha1]
    have sb : IntS h4 (.slice (some ⟨ai, 0, none⟩) I (I + 1)) (byRow m I i s) := by
      have := gi4.own.seg ha1 (k := I) (c := I + 1) (sz := 1) (by unfold gE; rw [if_neg (by omega)]) (by rw [ha2]; simp [byRow]) (by omega)
      rw [ha2] at this
      unfold IntS; rw [byRow_len]; exact this
    with_reducible (refine mv_i ?_; refine nil_i ?_)
    refine vk_i (fa92_1 _) ?_
    refine ldg r45 gi4 rfl ?_
    refine ⟨gi4.vb.1, ?_⟩
    refine vk_i (fa63_0 _) ?_
    refine ld4_0 r3 hy ?_
    refine ⟨trivial, ?_⟩
    rw [hs]
    refine idx_i (k := s) t22 (gi4.seg1 (by omega)) hsk ?_
    refine ld_i t22 r23 (gi4.seg1 (by omega)) hsk (gi4.at1 hsk) ?_
    rw [hvb]
    refine ⟨al, ?_⟩
    refine vk_i (fa63_1 _) ?_
    refine ld4_1 r3 hy ?_
    refine ⟨trivial, ?_⟩
    rw [hn]
    with_reducible (refine mv_i ?_)
    refine idxi_i (k := n) t23 sb (by rw [byRow_len]; exact hnI) ?_
    rw [elt_at]
    refine st_i s3 cb rfl (by simp only; rw [ha2]; simp [byRow]; omega) rfl rfl ?_
    refine ⟨trivial, ?_⟩
    rw [ha2, set_map]
    have gi5 := gi4.setBy ha1 (((byRow m I i s).set n (i : Int)).map (.int .i64))
    have hy5 : (h4.set ai (.arr ⟨((byRow m I i s).set n (i : Int)).map (.int .i64), 1, false⟩))[yi]? = some (.arr ⟨[.int .i64 (m.steps.getD i dst).fr, .int .i64 (m.steps.getD i dst).inp, .int .i64 (m.steps.getD i dst).out, .int .i64 (m.steps.getD i dst).to], 4, false⟩) := by
      rw [List.getElem?_set, if_neg hay]; exact hy
    generalize hC5 : upN C (3 + 2 * s) (((byRow m I i s).set n (i : Int)).map (.int .i64)) = C5 at gi5
    generalize h4.set ai (.arr ⟨((byRow m I i s).set n (i : Int)).map (.int .i64), 1, false⟩) = h5 at gi5 hy5 ⊢
    have hby5 : ∀ j, j < k → ∃ a, N (3 + 2 * j) = some a ∧ C5 (3 + 2 * j) = (byRow m I (i + 1) j).map (.int .i64) := by
      intro j hj
      obtain ⟨a, hb1, hb2⟩ := hby j hj
      refine ⟨a, hb1, ?_⟩
      rw [byRow_succ r hil hs hn, ← hC5]
      by_cases q : j = s
      · subst q; rw [upN_self, if_pos rfl]
      · rw [upN_ne (by omega), if_neg q]; exact hb2
    have hfr5 : ∀ j, j < k → (N (4 + 2 * j) = none ∧ frRow m i j = []) ∨ ∃ a, N (4 + 2 * j) = some a ∧ C5 (4 + 2 * j) = (frRow m i j).map (.int .i64) := by
      intro j hj
      rw [← hC5, upN_ne (by omega)]
      exact hfr3 j hj
    with_reducible (refine mv_i ?_; refine nil_i ?_)
    refine vk_i (fa92_2 _) ?_
    refine ldg r45 gi5 rfl ?_
    refine ⟨gi5.vb.2.1, ?_⟩
    refine vk_i (fa63_0 _) ?_
    refine ld4_0 r3 hy5 ?_
    refine ⟨trivial, ?_⟩
    with_reducible (refine mv_i ?_; refine nil_i ?_)
    refine vk_i (fa92_2 _) ?_
    refine ldg r45 gi5 rfl ?_
    refine ⟨gi5.vb.2.1, ?_⟩
    refine vk_i (fa63_0 _) ?_
    refine ld4_0 r3 hy5 ?_
    refine ⟨trivial, ?_⟩
    rw [hs]
    refine idx_i (k := s) t22 (gi5.seg2 (by omega)) hsk ?_
    refine ld_i t22 r23 (gi5.seg2 (by omega)) hsk (gi5.at2 hsk) ?_
    have hvf : VB h5.length (vFr N C5 s) := by
      unfold vFr
      split
      · rename_i a ha; exact gi5.own.lt ha
      · trivial
    refine ⟨hvf, ?_⟩
    with_reducible (refine mv_i ?_)
    refine ok_i (bs23_1 _ _) ?_
    have gi6 := gi5.ext (pre_new h5 [.int .i64 (i : Int)] 1)
    have hy6 := (Sub.of_pre (pre_new h5 [.int .i64 (i : Int)] 1)).2 _ _ hy5
    have sx : Seg 1 (newArr h5 [.int .i64 (i : Int)] 1) (.slice (some ⟨h5.length, 0, none⟩) 1 2) 1 [.int .i64 (i : Int)] := Seg.new 2 (by rfl) (by simp)
    generalize (Value.slice (some ⟨h5.length, 0, none⟩) 1 2) = sv at sx ⊢
    generalize newArr h5 [.int .i64 (i : Int)] 1 = h6 at gi6 hy6 sx ⊢
    have fin : ∀ (h7 : Heap) (n7 : Nat) (hy7 : h7[yi]? = some (.arr ⟨[.int .i64 (m.steps.getD i dst).fr, .int .i64 (m.steps.getD i dst).inp, .int .i64 (m.steps.getD i dst).out, .int .i64 (m.steps.getD i dst).to], 4, false⟩))
        (o7 : Owns g1 h7 (upN N (4 + 2 * s) (some n7)) (upN C5 (4 + 2 * s) ((frRow m (i + 1) s).map (.int .i64))) gE),
        upI (fun i h3 => ∃ N C, GInv m k I g1 h3 gi bi fi (.slice o l c) N C ∧ (∀ j, j < k → ∃ a, N (3 + 2 * j) = some a ∧ C (3 + 2 * j) = (byRow m I i j).map (.int .i64)) ∧
      ∀ j, j < k → (N (4 + 2 * j) = none ∧ frRow m i j = []) ∨ ∃ a, N (4 + 2 * j) = some a ∧ C (4 + 2 * j) = (frRow m i j).map (.int .i64)) m.steps.length [.int .i64 ((i + 1 : Nat) : Int)]
          (h7.set fi (.arr ⟨(C5 2).set s (.slice (some ⟨n7, 0, none⟩) ((frRow m (i + 1) s).map (Value.int .i64)).length 0), 1, false⟩)) := by
      intro h7 n7 hy7 o7
      refine ⟨i + 1, rfl, hil, _, _, gi6.putFr o7, fun j hj => ?_, fun j hj => ?_⟩
      · obtain ⟨a, hb1, hb2⟩ := hby5 j hj
        exact ⟨a, by rw [upN_ne (by omega)]; exact hb1, by rw [upN_ne (by omega), upN_ne (by omega)]; exact hb2⟩
      · by_cases q : j = s
        · subst q
          exact .inr ⟨n7, upN_self _ _ _, by rw [upN_ne (by omega), upN_self]⟩
        · rw [upN_ne (by omega), upN_ne (by omega), upN_ne (by omega), frRow_succ hs, if_neg q]
          exact hfr5 j hj
    have g6c2 : (C5 2).length = k := by rw [gi6.c2]; simp
    have rest : ∀ (h7 : Heap) (n7 : Nat) (hy7 : h7[yi]? = some (.arr ⟨[.int .i64 (m.steps.getD i dst).fr, .int .i64 (m.steps.getD i dst).inp, .int .i64 (m.steps.getD i dst).out, .int .i64 (m.steps.getD i dst).to], 4, false⟩))
        (o7 : Owns g1 h7 (upN N (4 + 2 * s) (some n7)) (upN C5 (4 + 2 * s) ((frRow m (i + 1) s).map (.int .i64))) gE), h7[gi]? = some (.arr ⟨gCells m k (.slice o l c) bi fi, 7, false⟩) ∧ h7[fi]? = some (.arr ⟨C5 2, 1, false⟩) := by
      intro h7 n7 hy7 o7
      have e0 := o7.get (l := 0) (n := gi) (by rw [upN_ne (by omega)]; exact gi6.n0)
      have e2 := o7.get (l := 2) (n := fi) (by rw [upN_ne (by omega)]; exact gi6.n2)
      rw [upN_ne (by omega)] at e0 e2
      rw [gi6.c0] at e0
      exact ⟨e0, e2⟩
    have hone : [Value.int .i64 (i : Int)].all (·.oneCell') = true := rfl
    have gfs : gE (4 + 2 * s) = 1 := by unfold gE; rw [if_neg (by omega)]
    rcases hfr5 s hsk with ⟨hn0, hf0⟩ | ⟨fa, hfa, hfc⟩
    · have hv0 : vFr N C5 s = .slice none 0 0 := by unfold vFr; rw [hn0]
      rw [hv0]
      refine ok_i (AM.app_nil t23 sx hone (by omega) ⟨by omega, by omega⟩) ?_
      have o7 := gi6.own.add (4 + 2 * s) [.int .i64 (i : Int)] 1 gfs
      have efr : [Value.int .i64 (i : Int)] = (frRow m (i + 1) s).map (.int .i64) := by rw [frRow_succ hs, if_pos rfl, hf0]; rfl
      rw [efr] at o7
      have hy7 := (Sub.of_pre (pre_new h6 [.int .i64 (i : Int)] 1)).2 _ _ hy6
      rw [efr] at hy7 ⊢
      obtain ⟨r0, r2⟩ := rest _ _ hy7 o7
      refine ⟨⟨by rw [ldc_e r3 hy7 rfl, hs]; rfl, by rw [ldc_e r45 r0 rfl]; rfl, trivial⟩, ?_⟩
      refine idx_i (k := s) t22 (gi5.seg2 (by omega)) hsk ?_
      rw [elt_at]
      refine st_i s25 r2 rfl (by simp only; omega) rfl rfl ?_
      refine ⟨trivial, ?_⟩
      refine inc_i (by omega) ?_
      with_reducible (refine mv_i ?_)
      refine ⟨?_, by rw [← efr]; simp only [upμ]; omega⟩
      have hl1 : ((frRow m (i + 1) s).map (Value.int .i64)).length = 1 := by rw [← efr]; rfl
      have := fin _ _ hy7 o7
      rw [hl1] at this
      exact this
    · have hv0 : vFr N C5 s = .slice (some ⟨fa, 0, none⟩) (frRow m i s).length 0 := by unfold vFr; rw [hfa, hfc]; simp
      rw [hv0]
      have cf := gi6.fr_ hfa
      rw [hfc] at cf
      have hfl := frRow_len m i s
      have hfy : fa ≠ yi := by rintro rfl; rw [hy6] at cf; simp at cf
      refine ok_i (AM.app_at t23 sx hone (by omega) ⟨by omega, by omega⟩ cf (by simp)) ?_
      rw [if_neg (by omega)]
      have ecs : ((frRow m i s).map (Value.int .i64)).drop 0 = (frRow m i s).map (Value.int .i64) := rfl
      have ect : ((frRow m i s).map (Value.int .i64)).take ((frRow m i s).length * 1) = (frRow m i s).map (Value.int .i64) := by rw [Nat.mul_one]; exact List.take_of_length_le (by simp)
      have efr : (frRow m i s).map (Value.int .i64) ++ [.int .i64 (i : Int)] = (frRow m (i + 1) s).map (.int .i64) := by rw [frRow_succ hs, if_pos rfl]; simp
      rw [ecs, ect, efr]
      have o7 := gi6.own.swap hfa ((frRow m (i + 1) s).map (.int .i64)) 1 gfs
      have hy7 : (newArr (h6.set fa .dead) ((frRow m (i + 1) s).map (.int .i64)) 1)[yi]? = some (.arr ⟨[.int .i64 (m.steps.getD i dst).fr, .int .i64 (m.steps.getD i dst).inp, .int .i64 (m.steps.getD i dst).out, .int .i64 (m.steps.getD i dst).to], 4, false⟩) := by
        refine (Sub.of_pre (pre_new _ _ 1)).2 _ _ ?_
        rw [List.getElem?_set, if_neg hfy]; exact hy6
      have hsl : (h6.set fa Ob.dead).length = h6.length := by simp
      have hl1 : ((frRow m (i + 1) s).map (Value.int .i64)).length = (frRow m i s).length + 1 := by rw [← efr]; simp
      obtain ⟨r0, r2⟩ := rest _ _ hy7 o7
      refine ⟨⟨by rw [ldc_e r3 hy7 rfl, hs]; rfl, by rw [ldc_e r45 r0 rfl]; rfl, trivial⟩, ?_⟩
      refine idx_i (k := s) t22 (gi5.seg2 (by omega)) hsk ?_
      rw [elt_at]
      refine st_i s25 r2 rfl (by simp only; omega) rfl rfl ?_
      refine ⟨trivial, ?_⟩
      refine inc_i (by omega) ?_
      with_reducible (refine mv_i ?_)
      refine ⟨?_, by simp only [upμ]; omega⟩
      have := fin _ _ hy7 o7
      rw [hl1] at this
      exact this
  · have el : i = m.steps.length := by omega
    subst el
    with_reducible (refine cnd_f ?_; refine mv_i ?_; refine mv_i ?_; refine ret1 ?_)
    refine ⟨p1.trans gi3.own.pre, gi, .slice o l c, .slice (some ⟨bi, 0, none⟩) k (k + 1), .slice (some ⟨fi, 0, none⟩) k (k + 1), rfl, ss, Only.from p1 (gi3.own.only fun g og sg => ?_)⟩
    have gi4 : GInv m k I [] g gi bi fi (.slice o l c) N C := ⟨og, gi3.n0, gi3.n1, gi3.n2, gi3.c0, gi3.c1, gi3.c2⟩
    have hsta : ∀ j, j < k → ∃ r, (C 1)[j]? = some r ∧ IntS g r (byRow m I m.steps.length j) := by
      intro j hj
      obtain ⟨a, hb1, hb2⟩ := hby j hj
      refine ⟨_, gi4.at1 hj, ?_⟩
      have := gi4.own.seg hb1 (k := I) (c := I + 1) (sz := 1) (by unfold gE; rw [if_neg (by omega)]) (by rw [hb2]; simp [byRow]) (by omega)
      rw [hb2] at this
      unfold vBy; rw [hb1]
      unfold IntS; rw [byRow_len]; exact this
    have hstf : ∀ j, j < k → ∃ r, (C 2)[j]? = some r ∧ IntS g r (frRow m m.steps.length j) := by
      intro j hj
      refine ⟨_, gi4.at2 hj, ?_⟩
      rcases hfr3 j hj with ⟨hn0, hf0⟩ | ⟨a, hb1, hb2⟩
      · unfold vFr; rw [hn0, hf0]; exact Seg.nil _ _
      · have hfl := frRow_len m m.steps.length j
        have := gi4.own.seg hb1 (k := (frRow m m.steps.length j).length) (c := 0) (sz := 1) (by unfold gE; rw [if_neg (by omega)]) (by rw [hb2]; simp) (by omega)
        rw [hb2] at this
        unfold vFr; rw [hb1]
        simp only [hb2, List.length_map]
        exact this
    refine ⟨gi4.g0, sg, rows_of (gi4.seg1 (by omega)) (by simp [byL, hSt]) fun j hj => ?_, rows_of (gi4.seg2 (by omega)) (by simp [frL, hSt]) fun j hj => ?_⟩
    · obtain ⟨r, h1, h2⟩ := hsta j hj
      refine ⟨r, h1, ?_⟩
      have : (byL m).getD j [] = byRow m I m.steps.length j := by simp [byL, hSt, hIt, hj]
      rw [this]; exact h2
    · obtain ⟨r, h1, h2⟩ := hstf j hj
      refine ⟨r, h1, ?_⟩
      have : (frL m).getD j [] = frRow m m.steps.length j := by simp [frL, hSt, hj]
      rw [this]; exact h2
end Go.Proofs.Ytdjoednhfoligaa

set_option linter.unusedVariables false
set_option maxRecDepth 100000
namespace Go.Proofs.Ytdjoednhfoligaa
open Go.AM

/-! ### examiner/examinerlaw38.CoverAfter: function 4 -/
def n4 (a0 a1 : Value) (h : Heap) (R : Value → Heap → Prop) : Prop :=
  okK (some (aBox Try.prog 24 a0 h)) fun v2 h =>
  mvK (Value.bool false) h fun v4 h =>
  cK Try.prog 14 [] h fun v8 h =>
  vK (aUn UnOp.not v8) h fun v9 h =>
  cnd v9 (
   mvK (Value.bool false) h fun v4_1 h =>
   retV [some v4_1] R h) (
   vK (aLoad Try.prog 24 v2 h) h fun v11 h =>
   cK Try.prog 16 [v11] h fun v12 h =>
   mvK a1 h fun v13 h =>
   cK Try.prog 21 [v12, v13] h fun v14 h =>
   mvK v14 h fun v10 h =>
   vK (aExtract v10 0) h fun v15 h =>
   vK (aExtract v10 1) h fun v16 h =>
   mvK v15 h fun v5 h =>
   mvK v16 h fun v6 h =>
   vK (aLoad Try.prog 24 v2 h) h fun v17 h =>
   cK Try.prog 18 [v17] h fun v18 h =>
   mvK v18 h fun v7 h =>
   seqK (fun k0 =>
    mvK v7 h fun v19 h =>
    vK (aBin Try.prog BinOp.eql 3 v19 (Value.int IntKind.i64 0)) h fun v20 h =>
    mvK v20 h fun v21 h =>
    gdK v21 true (fun k1 =>
     mvK a1 h fun v22 h =>
     k1 v22 h) (fun v22_1 h =>
     gdK v21 true (fun k2 =>
      vK (aFieldAddr Try.prog 24 v2 4) h fun v23 h =>
      k2 v23 h) (fun v23_1 h =>
      gdK v21 true (fun k3 =>
       vK (aLoad Try.prog 22 v23_1 h) h fun v24 h =>
       k3 v24 h) (fun v24_1 h =>
       gdK v21 true (fun k4 =>
        vK (aLen Try.prog 22 v24_1) h fun v25 h =>
        k4 v25 h) (fun v25_1 h =>
        gdK v21 true (fun k5 =>
         vK (aBin Try.prog BinOp.sub 3 v25_1 (Value.int IntKind.i64 1)) h fun v26 h =>
         k5 v26 h) (fun v26_1 h =>
         gdK v21 true (fun k6 =>
          cK Try.prog 22 [v22_1, (Value.int IntKind.i64 0), v26_1] h fun v27 h =>
          k6 v27 h) (fun v27_1 h =>
          gdK v21 true (fun k7 =>
           vK (aUn UnOp.not v27_1) h fun v28 h =>
           k7 v28 h) (fun v28_1 h =>
           vK (pickV v21 v28_1 (Value.bool false)) h fun v29 h =>
           cnd v29 (
            mvK (Value.int IntKind.i64 3) h fun v7_1 h =>
            k0 [v7_1] h) (
            k0 [v7] h)) h) h) h) h) h) h) h) fun x0 h => ∀ jx0 : Tmps,
    let v7_2 : Value := nth x0 0
    mvK v7_2 h fun v30 h =>
    vK (aBin Try.prog BinOp.neq 3 v30 (Value.int IntKind.i64 0)) h fun v31 h =>
    cnd v31 (
     mvK v6 h fun v32 h =>
     mvK v7_2 h fun v33 h =>
     vK (aBin Try.prog BinOp.eql 3 v32 v33) h fun v34 h =>
     mvK v34 h fun v35 h =>
     gdK v35 true (fun k8 =>
      mvK v5 h fun v36 h =>
      k8 v36 h) (fun v36_1 h =>
      gdK v35 true (fun k9 =>
       vK (aLen Try.prog 25 v36_1) h fun v37 h =>
       k9 v37 h) (fun v37_1 h =>
       gdK v35 true (fun k10 =>
        vK (aBin Try.prog BinOp.eql 3 v37_1 (Value.int IntKind.i64 0)) h fun v38 h =>
        k10 v38 h) (fun v38_1 h =>
        vK (pickV v35 v38_1 (Value.bool false)) h fun v39 h =>
        mvK v39 h fun v4_2 h =>
        retV [some v4_2] R h) h) h) h) (
     mvK v6 h fun v40 h =>
     vK (aBin Try.prog BinOp.eql 29 v40 (Value.int IntKind.i64 0)) h fun v41 h =>
     mvK v41 h fun v42 h =>
     gdK v42 true (fun k11 =>
      mvK v5 h fun v43 h =>
      k11 v43 h) (fun v43_1 h =>
      gdK v42 true (fun k12 =>
       vK (aLoad Try.prog 24 v2 h) h fun v44 h =>
       k12 v44 h) (fun v44_1 h =>
       gdK v42 true (fun k13 =>
        mvK a1 h fun v45 h =>
        k13 v45 h) (fun v45_1 h =>
        gdK v42 true (fun k14 =>
         cK Try.prog 24 [v44_1, v45_1] h fun v46 h =>
         k14 v46 h) (fun v46_1 h =>
         gdK v42 true (fun k15 =>
          cK Try.prog 23 [v43_1, v46_1] h fun v47 h =>
          k15 v47 h) (fun v47_1 h =>
          vK (pickV v42 v47_1 (Value.bool false)) h fun v48 h =>
          mvK v48 h fun v4_3 h =>
          retV [some v4_3] R h) h) h) h) h) h))
def lv4 (q : Nat) : List Nat := bif Nat.beq q 15 then [1073217664, 7] else []
theorem ok4 : lkOK Try.prog lv4 Try.f4 2 (Try.f4.body.getD .skip) 4 = true := by kernel_rfl
theorem e4 (a0 a1 : Value) (h : Heap) (R : Value → Heap → Prop) : n4 a0 a1 h R = wpK Try.prog lv4 (Try.f4.body.getD .skip) (endK Try.prog [.tmp 4] R) (argT [a0, a1]) h := by kernel_rfl
theorem w4 {a0 a1 : Value} {h : Heap} {R : Value → Heap → Prop} (hn : n4 a0 a1 h R) : DetP Try.prog 4 [a0, a1] h R :=
  DetP.of_code (rs := [.tmp 4]) (n := 2) Try.func4 (by kernel_rfl) (by kernel_rfl) lv4 ok4 rfl ((e4 a0 a1 h R) ▸ hn)

/-! ### examiner/examinerlaw38.CoverTaken: function 5 -/
def n5 (a0 a1 : Value) (h : Heap) (R : Value → Heap → Prop) : Prop :=
  okK (some (aBox Try.prog 24 a0 h)) fun v2 h =>
  mvK (Value.bool false) h fun v4 h =>
  cK Try.prog 14 [] h fun v14 h =>
  vK (aUn UnOp.not v14) h fun v15 h =>
  cnd v15 (
   mvK (Value.bool false) h fun v4_1 h =>
   retV [some v4_1] R h) (
   mvK (Value.int IntKind.i64 0) h fun v5 h =>
   ∃ (I4 : List Value → Heap → Prop) (μ4 : List Value → Heap → Nat), I4 [v5] h ∧
   ∀ (h4 : Heap) (j4 : Tmps) (v5_1 : Value), I4 [v5_1] h4 → (let h := h4
    mvK v5_1 h fun v16 h =>
    mvK a1 h fun v17 h =>
    vK (aLen Try.prog 45 v17) h fun v18 h =>
    vK (aBin Try.prog BinOp.lss 3 v16 v18) h fun v19 h =>
    cnd v19 (
     mvK a1 h fun v22 h =>
     vK (aLen Try.prog 45 v22) h fun v23 h =>
     vK (aBin Try.prog BinOp.gtr 3 v23 (Value.int IntKind.i64 40)) h fun v24 h =>
     mvK v24 h fun v25 h =>
     gdK v25 true (fun k0 =>
      mvK a1 h fun v26 h =>
      k0 v26 h) (fun v26_1 h =>
      gdK v25 true (fun k1 =>
       vK (aLen Try.prog 45 v26_1) h fun v27 h =>
       k1 v27 h) (fun v27_1 h =>
       gdK v25 true (fun k2 =>
        vK (aBin Try.prog BinOp.leq 3 v27_1 (Value.int IntKind.i64 80)) h fun v28 h =>
        k2 v28 h) (fun v28_1 h =>
        vK (pickV v25 v28_1 (Value.bool false)) h fun v29 h =>
        mvK v29 h fun v30 h =>
        gdK v30 false (fun k3 =>
         mvK a1 h fun v31 h =>
         k3 v31 h) (fun v31_1 h =>
         gdK v30 false (fun k4 =>
          mvK v5_1 h fun v32 h =>
          k4 v32 h) (fun v32_1 h =>
          gdK v30 false (fun k5 =>
           vK (aIndexAddr Try.prog 45 v31_1 v32_1) h fun v33 h =>
           k5 v33 h) (fun v33_1 h =>
           gdK v30 false (fun k6 =>
            vK (aLoad Try.prog 25 v33_1 h) h fun v34 h =>
            k6 v34 h) (fun v34_1 h =>
            gdK v30 false (fun k7 =>
             vK (aLen Try.prog 25 v34_1) h fun v35 h =>
             k7 v35 h) (fun v35_1 h =>
             gdK v30 false (fun k8 =>
              vK (aBin Try.prog BinOp.gtr 3 v35_1 (Value.int IntKind.i64 60)) h fun v36 h =>
              k8 v36 h) (fun v36_1 h =>
              gdK v30 false (fun k9 =>
               mvK v36_1 h fun v37 h =>
               k9 v37 h) (fun v37_1 h =>
               gdK v37_1 true (fun k10 =>
                mvK a1 h fun v38 h =>
                k10 v38 h) (fun v38_1 h =>
                gdK v37_1 true (fun k11 =>
                 mvK v5_1 h fun v39 h =>
                 k11 v39 h) (fun v39_1 h =>
                 gdK v37_1 true (fun k12 =>
                  vK (aIndexAddr Try.prog 45 v38_1 v39_1) h fun v40 h =>
                  k12 v40 h) (fun v40_1 h =>
                  gdK v37_1 true (fun k13 =>
                   vK (aLoad Try.prog 25 v40_1 h) h fun v41 h =>
                   k13 v41 h) (fun v41_1 h =>
                   gdK v37_1 true (fun k14 =>
                    vK (aLen Try.prog 25 v41_1) h fun v42 h =>
                    k14 v42 h) (fun v42_1 h =>
                    gdK v37_1 true (fun k15 =>
                     vK (aBin Try.prog BinOp.leq 3 v42_1 (Value.int IntKind.i64 1200)) h fun v43 h =>
                     k15 v43 h) (fun v43_1 h =>
                     gdK v30 false (fun k16 =>
                      vK (pickV v37_1 v43_1 (Value.bool false)) h fun v44 h =>
                      k16 v44 h) (fun v44_1 h =>
                      vK (pickV v30 (Value.bool true) v44_1) h fun v45 h =>
                      cnd v45 (
                       mvK (Value.bool true) h fun v4_2 h =>
                       retV [some v4_2] R h) (
                       mvK v5_1 h fun v20 h =>
                       vK (aBin Try.prog BinOp.add 3 v20 (Value.int IntKind.i64 1)) h fun v21 h =>
                       mvK v21 h fun v5_2 h =>
                       I4 [v5_2] h ∧ μ4 [v5_2] h < μ4 [v5_1] h4)) h) h) h) h) h) h) h) h) h) h) h) h) h) h) h) h) h) (
     vK (aLoad Try.prog 24 v2 h) h fun v46 h =>
     cK Try.prog 18 [v46] h fun v47 h =>
     mvK v47 h fun v6 h =>
     vK (aLoad Try.prog 24 v2 h) h fun v49 h =>
     cK Try.prog 16 [v49] h fun v50 h =>
     cK Try.prog 25 [v50] h fun v51 h =>
     mvK v51 h fun v48 h =>
     vK (aExtract v48 0) h fun v52 h =>
     vK (aExtract v48 1) h fun v53 h =>
     vK (aExtract v48 2) h fun v54 h =>
     mvK v52 h fun v7 h =>
     mvK v53 h fun v8 h =>
     mvK v54 h fun v9 h =>
     mvK v9 h fun v55 h =>
     mvK v6 h fun v56 h =>
     vK (aBin Try.prog BinOp.neq 3 v55 v56) h fun v57 h =>
     mvK v57 h fun v58 h =>
     gdK v58 false (fun k17 =>
      mvK v6 h fun v59 h =>
      k17 v59 h) (fun v59_1 h =>
      gdK v58 false (fun k18 =>
       vK (aBin Try.prog BinOp.neq 3 v59_1 (Value.int IntKind.i64 0)) h fun v60 h =>
       k18 v60 h) (fun v60_1 h =>
       gdK v58 false (fun k19 =>
        mvK v60_1 h fun v61 h =>
        k19 v61 h) (fun v61_1 h =>
        gdK v61_1 true (fun k20 =>
         mvK v7 h fun v62 h =>
         k20 v62 h) (fun v62_1 h =>
         gdK v61_1 true (fun k21 =>
          vK (aLen Try.prog 25 v62_1) h fun v63 h =>
          k21 v63 h) (fun v63_1 h =>
          gdK v61_1 true (fun k22 =>
           mvK v8 h fun v64 h =>
           k22 v64 h) (fun v64_1 h =>
           gdK v61_1 true (fun k23 =>
            vK (aLen Try.prog 25 v64_1) h fun v65 h =>
            k23 v65 h) (fun v65_1 h =>
            gdK v61_1 true (fun k24 =>
             vK (aBin Try.prog BinOp.add 3 v63_1 v65_1) h fun v66 h =>
             k24 v66 h) (fun v66_1 h =>
             gdK v61_1 true (fun k25 =>
              vK (aBin Try.prog BinOp.gtr 3 v66_1 (Value.int IntKind.i64 0)) h fun v67 h =>
              k25 v67 h) (fun v67_1 h =>
              gdK v58 false (fun k26 =>
               vK (pickV v61_1 v67_1 (Value.bool false)) h fun v68 h =>
               k26 v68 h) (fun v68_1 h =>
               vK (pickV v58 (Value.bool true) v68_1) h fun v69 h =>
               cnd v69 (
                mvK (Value.bool false) h fun v4_3 h =>
                retV [some v4_3] R h) (
                seqK (fun k27 =>
                 mvK v6 h fun v70 h =>
                 vK (aBin Try.prog BinOp.eql 3 v70 (Value.int IntKind.i64 0)) h fun v71 h =>
                 cnd v71 (
                  vK (aLoad Try.prog 24 v2 h) h fun v73 h =>
                  cK Try.prog 26 [v73] h fun v74 h =>
                  mvK v74 h fun v72 h =>
                  vK (aExtract v72 0) h fun v75 h =>
                  vK (aExtract v72 1) h fun v76 h =>
                  mvK v75 h fun v10 h =>
                  mvK v76 h fun v11 h =>
                  mvK v7 h fun v77 h =>
                  mvK v10 h fun v78 h =>
                  cK Try.prog 27 [v78] h fun v79 h =>
                  cK Try.prog 23 [v77, v79] h fun v80 h =>
                  vK (aUn UnOp.not v80) h fun v81 h =>
                  mvK v81 h fun v82 h =>
                  gdK v82 false (fun k28 =>
                   mvK v8 h fun v83 h =>
                   k28 v83 h) (fun v83_1 h =>
                   gdK v82 false (fun k29 =>
                    mvK v11 h fun v84 h =>
                    k29 v84 h) (fun v84_1 h =>
                    gdK v82 false (fun k30 =>
                     cK Try.prog 27 [v84_1] h fun v85 h =>
                     k30 v85 h) (fun v85_1 h =>
                     gdK v82 false (fun k31 =>
                      cK Try.prog 23 [v83_1, v85_1] h fun v86 h =>
                      k31 v86 h) (fun v86_1 h =>
                      gdK v82 false (fun k32 =>
                       vK (aUn UnOp.not v86_1) h fun v87 h =>
                       k32 v87 h) (fun v87_1 h =>
                       vK (pickV v82 (Value.bool true) v87_1) h fun v88 h =>
                       cnd v88 (
                        mvK (Value.bool false) h fun v4_4 h =>
                        retV [some v4_4] R h) (
                        vK (aLoad Try.prog 24 v2 h) h fun v89 h =>
                        mvK a1 h fun v90 h =>
                        cK Try.prog 28 [v89, v90] h fun v91 h =>
                        mvK v91 h fun v6_1 h =>
                        k27 [v6_1] h)) h) h) h) h) h) (
                  k27 [v6] h)) fun x27 h => ∀ jx27 : Tmps,
                 let v6_2 : Value := nth x27 0
                 vK (aLoad Try.prog 24 v2 h) h fun v93 h =>
                 cK Try.prog 16 [v93] h fun v94 h =>
                 mvK a1 h fun v95 h =>
                 cK Try.prog 30 [v95] h fun v96 h =>
                 cK Try.prog 29 [v94, v96] h fun v97 h =>
                 mvK v97 h fun v92 h =>
                 vK (aExtract v92 0) h fun v98 h =>
                 vK (aExtract v92 1) h fun v99 h =>
                 mvK v98 h fun v12 h =>
                 mvK v99 h fun v13 h =>
                 mvK v6_2 h fun v100 h =>
                 vK (aBin Try.prog BinOp.neq 3 v100 (Value.int IntKind.i64 0)) h fun v101 h =>
                 cnd v101 (
                  mvK v13 h fun v102 h =>
                  mvK v6_2 h fun v103 h =>
                  vK (aBin Try.prog BinOp.eql 3 v102 v103) h fun v104 h =>
                  mvK v104 h fun v105 h =>
                  gdK v105 true (fun k33 =>
                   mvK v12 h fun v106 h =>
                   k33 v106 h) (fun v106_1 h =>
                   gdK v105 true (fun k34 =>
                    vK (aLen Try.prog 25 v106_1) h fun v107 h =>
                    k34 v107 h) (fun v107_1 h =>
                    gdK v105 true (fun k35 =>
                     vK (aBin Try.prog BinOp.eql 3 v107_1 (Value.int IntKind.i64 0)) h fun v108 h =>
                     k35 v108 h) (fun v108_1 h =>
                     vK (pickV v105 v108_1 (Value.bool false)) h fun v109 h =>
                     mvK v109 h fun v4_5 h =>
                     retV [some v4_5] R h) h) h) h) (
                  mvK v13 h fun v110 h =>
                  vK (aBin Try.prog BinOp.eql 29 v110 (Value.int IntKind.i64 0)) h fun v111 h =>
                  mvK v111 h fun v112 h =>
                  gdK v112 true (fun k36 =>
                   mvK v12 h fun v113 h =>
                   k36 v113 h) (fun v113_1 h =>
                   gdK v112 true (fun k37 =>
                    vK (aLoad Try.prog 24 v2 h) h fun v114 h =>
                    k37 v114 h) (fun v114_1 h =>
                    gdK v112 true (fun k38 =>
                     mvK a1 h fun v115 h =>
                     k38 v115 h) (fun v115_1 h =>
                     gdK v112 true (fun k39 =>
                      cK Try.prog 31 [v114_1, v115_1] h fun v116 h =>
                      k39 v116 h) (fun v116_1 h =>
                      gdK v112 true (fun k40 =>
                       cK Try.prog 23 [v113_1, v116_1] h fun v117 h =>
                       k40 v117 h) (fun v117_1 h =>
                       vK (pickV v112 v117_1 (Value.bool false)) h fun v118 h =>
                       mvK v118 h fun v4_6 h =>
                       retV [some v4_6] R h) h) h) h) h) h))) h) h) h) h) h) h) h) h) h) h)))
def lv5 (q : Nat) : List Nat := bif Nat.beq q 8 then [70368744112176, 5] else bif Nat.beq q 35 then [4951758976549900382185196624, 6] else []
theorem ok5 : lkOK Try.prog lv5 Try.f5 2 (Try.f5.body.getD .skip) 5 = true := by kernel_rfl
theorem e5 (a0 a1 : Value) (h : Heap) (R : Value → Heap → Prop) : n5 a0 a1 h R = wpK Try.prog lv5 (Try.f5.body.getD .skip) (endK Try.prog [.tmp 4] R) (argT [a0, a1]) h := by kernel_rfl
theorem w5 {a0 a1 : Value} {h : Heap} {R : Value → Heap → Prop} (hn : n5 a0 a1 h R) : DetP Try.prog 5 [a0, a1] h R :=
  DetP.of_code (rs := [.tmp 4]) (n := 2) Try.func5 (by kernel_rfl) (by kernel_rfl) lv5 ok5 rfl ((e5 a0 a1 h R) ▸ hn)

/-! ### examiner/examinerlaw38.CoverCheapest: function 7 -/
def n7 (a0 a1 : Value) (h : Heap) (R : Value → Heap → Prop) : Prop :=
  okK (some (aBox Try.prog 24 a0 h)) fun v2 h =>
  mvK (Value.bool false) h fun v4 h =>
  cK Try.prog 14 [] h fun v11 h =>
  vK (aUn UnOp.not v11) h fun v12 h =>
  cnd v12 (
   mvK (Value.bool false) h fun v4_1 h =>
   retV [some v4_1] R h) (
   vK (aLoad Try.prog 24 v2 h) h fun v13 h =>
   cK Try.prog 18 [v13] h fun v14 h =>
   mvK v14 h fun v5 h =>
   mvK v5 h fun v15 h =>
   vK (aBin Try.prog BinOp.eql 3 v15 (Value.int IntKind.i64 0)) h fun v16 h =>
   mvK v16 h fun v17 h =>
   gdK v17 true (fun k0 =>
    vK (aFieldAddr Try.prog 24 v2 0) h fun v18 h =>
    k0 v18 h) (fun v18_1 h =>
    gdK v17 true (fun k1 =>
     vK (aLoad Try.prog 3 v18_1 h) h fun v19 h =>
     k1 v19 h) (fun v19_1 h =>
     gdK v17 true (fun k2 =>
      vK (aBin Try.prog BinOp.gtr 3 v19_1 (Value.int IntKind.i64 20)) h fun v20 h =>
      k2 v20 h) (fun v20_1 h =>
      vK (pickV v17 v20_1 (Value.bool false)) h fun v21 h =>
      cnd v21 (
       mvK (Value.bool true) h fun v4_2 h =>
       retV [some v4_2] R h) (
       seqK (fun k3 =>
        mvK v5 h fun v22 h =>
        vK (aBin Try.prog BinOp.eql 3 v22 (Value.int IntKind.i64 0)) h fun v23 h =>
        cnd v23 (
         vK (aLoad Try.prog 24 v2 h) h fun v24 h =>
         mvK a1 h fun v25 h =>
         cK Try.prog 19 [v24, v25] h fun v26 h =>
         mvK v26 h fun v5_1 h =>
         k3 [v5_1] h) (
         k3 [v5] h)) fun x3 h => ∀ jx3 : Tmps,
        let v5_2 : Value := nth x3 0
        vK (aLoad Try.prog 24 v2 h) h fun v28 h =>
        cK Try.prog 16 [v28] h fun v29 h =>
        mvK a1 h fun v30 h =>
        cK Try.prog 17 [v30] h fun v31 h =>
        cK Try.prog 34 [v29, v31] h fun v32 h =>
        mvK v32 h fun v27 h =>
        vK (aExtract v27 0) h fun v33 h =>
        vK (aExtract v27 1) h fun v34 h =>
        vK (aExtract v27 2) h fun v35 h =>
        mvK v33 h fun v6 h =>
        mvK v34 h fun v7 h =>
        mvK v35 h fun v8 h =>
        mvK v5_2 h fun v36 h =>
        vK (aBin Try.prog BinOp.neq 3 v36 (Value.int IntKind.i64 0)) h fun v37 h =>
        cnd v37 (
         mvK v8 h fun v38 h =>
         mvK v5_2 h fun v39 h =>
         vK (aBin Try.prog BinOp.eql 3 v38 v39) h fun v40 h =>
         mvK v40 h fun v41 h =>
         gdK v41 true (fun k4 =>
          mvK v6 h fun v42 h =>
          k4 v42 h) (fun v42_1 h =>
          gdK v41 true (fun k5 =>
           vK (aLen Try.prog 45 v42_1) h fun v43 h =>
           k5 v43 h) (fun v43_1 h =>
           gdK v41 true (fun k6 =>
            mvK v7 h fun v44 h =>
            k6 v44 h) (fun v44_1 h =>
            gdK v41 true (fun k7 =>
             vK (aLen Try.prog 25 v44_1) h fun v45 h =>
             k7 v45 h) (fun v45_1 h =>
             gdK v41 true (fun k8 =>
              vK (aBin Try.prog BinOp.add 3 v43_1 v45_1) h fun v46 h =>
              k8 v46 h) (fun v46_1 h =>
              gdK v41 true (fun k9 =>
               vK (aBin Try.prog BinOp.eql 3 v46_1 (Value.int IntKind.i64 0)) h fun v47 h =>
               k9 v47 h) (fun v47_1 h =>
               vK (pickV v41 v47_1 (Value.bool false)) h fun v48 h =>
               mvK v48 h fun v4_3 h =>
               retV [some v4_3] R h) h) h) h) h) h) h) (
         vK (aLoad Try.prog 24 v2 h) h fun v50 h =>
         mvK a1 h fun v51 h =>
         cK Try.prog 35 [v50, v51] h fun v52 h =>
         mvK v52 h fun v49 h =>
         vK (aExtract v49 0) h fun v53 h =>
         vK (aExtract v49 1) h fun v54 h =>
         mvK v53 h fun v9 h =>
         mvK v54 h fun v10 h =>
         mvK v8 h fun v55 h =>
         vK (aBin Try.prog BinOp.eql 29 v55 (Value.int IntKind.i64 0)) h fun v56 h =>
         mvK v56 h fun v57 h =>
         gdK v57 true (fun k10 =>
          mvK v6 h fun v58 h =>
          k10 v58 h) (fun v58_1 h =>
          gdK v57 true (fun k11 =>
           mvK v9 h fun v59 h =>
           k11 v59 h) (fun v59_1 h =>
           gdK v57 true (fun k12 =>
            cK Try.prog 36 [v58_1, v59_1] h fun v60 h =>
            k12 v60 h) (fun v60_1 h =>
            vK (pickV v57 v60_1 (Value.bool false)) h fun v61 h =>
            mvK v61 h fun v62 h =>
            gdK v62 true (fun k13 =>
             mvK v7 h fun v63 h =>
             k13 v63 h) (fun v63_1 h =>
             gdK v62 true (fun k14 =>
              mvK v10 h fun v64 h =>
              k14 v64 h) (fun v64_1 h =>
              gdK v62 true (fun k15 =>
               cK Try.prog 23 [v63_1, v64_1] h fun v65 h =>
               k15 v65 h) (fun v65_1 h =>
               vK (pickV v62 v65_1 (Value.bool false)) h fun v66 h =>
               mvK v66 h fun v4_4 h =>
               retV [some v4_4] R h) h) h) h) h) h) h))) h) h) h)
def lv7 (q : Nat) : List Nat := bif Nat.beq q 17 then [130023456, 5] else []
theorem ok7 : lkOK Try.prog lv7 Try.f7 2 (Try.f7.body.getD .skip) 7 = true := by kernel_rfl
theorem e7 (a0 a1 : Value) (h : Heap) (R : Value → Heap → Prop) : n7 a0 a1 h R = wpK Try.prog lv7 (Try.f7.body.getD .skip) (endK Try.prog [.tmp 4] R) (argT [a0, a1]) h := by kernel_rfl
theorem w7 {a0 a1 : Value} {h : Heap} {R : Value → Heap → Prop} (hn : n7 a0 a1 h R) : DetP Try.prog 7 [a0, a1] h R :=
  DetP.of_code (rs := [.tmp 4]) (n := 2) Try.func7 (by kernel_rfl) (by kernel_rfl) lv7 ok7 rfl ((e7 a0 a1 h R) ▸ hn)

/-! ### examiner/cover.AfterIn: function 21 -/
def n21 (a0 a1 : Value) (h : Heap) (R : Value → Heap → Prop) : Prop :=
  okK (some (aBox Try.prog 24 a0 h)) fun v2 h =>
  mvK (Value.slice none 0 0) h fun v4 h =>
  mvK (Value.int IntKind.i64 0) h fun v5 h =>
  vK (aLoad Try.prog 24 v2 h) h fun v8 g =>
  VB h.length v8 ∧ (let h := g
   cKD Try.prog 51 [v8] h fun v9 g =>
   (∃ new, g = h ++ new) ∧ (let h := g
    mvK a1 h fun v10 h =>
    vK (aFieldAddr Try.prog 24 v2 4) h fun v11 h =>
    vK (aLoad Try.prog 22 v11 h) h fun v12 g =>
    VB h.length v12 ∧ (let h := g
     vK (aLen Try.prog 22 v12) h fun v13 h =>
     vK (aBin Try.prog BinOp.sub 3 v13 (Value.int IntKind.i64 1)) h fun v14 h =>
     cKD Try.prog 59 [v10, (Value.int IntKind.i64 0), v14] h fun v15 g =>
     (∃ new, g = h ++ new) ∧ (let h := g
      cKD Try.prog 61 [v15, (Value.int IntKind.i64 3)] h fun v16 g =>
      (∃ new, g = h ++ new) ∧ (let h := g
       okK (aBuildSlice Try.prog 132 2 [(0, v9), (1, v16)] h) fun v17 h =>
       cKD Try.prog 50 [v17] h fun v18 g =>
       (∃ new, g = h ++ new) ∧ (let h := g
        mvK v18 h fun v6 h =>
        mvK v6 h fun v19 h =>
        vK (aBin Try.prog BinOp.neq 29 v19 (Value.int IntKind.i64 0)) h fun v20 h =>
        cnd v20 (
         mvK v6 h fun v21 h =>
         mvK (Value.slice none 0 0) h fun v4_1 h =>
         mvK v21 h fun v5_1 h =>
         retV [some v4_1, some v5_1] R h) (
         vK (aLoad Try.prog 24 v2 h) h fun v22 h =>
         cK Try.prog 54 [v22] h fun v23 h =>
         mvK v23 h fun v7 h =>
         mvK v7 h fun v24 h =>
         mvK v7 h fun v25 h =>
         vK (nilV v25) h fun v26 h =>
         vK (aFieldAddr Try.prog 92 v26 0) h fun v27 h =>
         vK (aFieldAddr Try.prog 24 v27 3) h fun v28 h =>
         vK (aLoad Try.prog 3 v28 h) h fun v29 g =>
         VB h.length v29 ∧ (let h := g
          cKD Try.prog 64 [v24, v29] h fun v30 g =>
          (∃ new, g = h ++ new) ∧ (let h := g
           vK (aFieldAddr Try.prog 24 v2 4) h fun v31 h =>
           vK (aLoad Try.prog 22 v31 h) h fun v32 g =>
           VB h.length v32 ∧ (let h := g
            mvK a1 h fun v33 h =>
            vK (aIndexAddr Try.prog 22 v32 v33) h fun v34 h =>
            vK (aFieldAddr Try.prog 76 v34 0) h fun v35 h =>
            vK (aLoad Try.prog 3 v35 h) h fun v36 g =>
            VB h.length v36 ∧ (let h := g
             vK (aIndexAddr Try.prog 48 v30 v36) h fun v37 h =>
             vK (aLoad Try.prog 4 v37 h) h fun v38 g =>
             VB h.length v38 ∧ (let h := g
              vK (aUn UnOp.not v38) h fun v39 h =>
              cnd v39 (
               mvK (Value.slice none 0 0) h fun v4_2 h =>
               mvK (Value.int IntKind.i64 0) h fun v5_2 h =>
               retV [some v4_2, some v5_2] R h) (
               mvK v7 h fun v40 h =>
               mvK v7 h fun v41 h =>
               vK (aFieldAddr Try.prog 24 v2 4) h fun v42 h =>
               vK (aLoad Try.prog 22 v42 h) h fun v43 h =>
               mvK a1 h fun v44 h =>
               vK (aIndexAddr Try.prog 22 v43 v44) h fun v45 h =>
               vK (aFieldAddr Try.prog 76 v45 3) h fun v46 h =>
               vK (aLoad Try.prog 3 v46 h) h fun v47 h =>
               cK Try.prog 64 [v41, v47] h fun v48 h =>
               cK Try.prog 65 [v40, v48] h fun v49 h =>
               mvK v49 h fun v4_3 h =>
               mvK (Value.int IntKind.i64 0) h fun v5_3 h =>
               retV [some v4_3, some v5_3] R h)))))))))))))
def lv21 (q : Nat) : List Nat := []
theorem ok21 : lkOK Try.prog lv21 Try.f21 2 (Try.f21.body.getD .skip) 21 = true := by kernel_rfl
theorem e21 (a0 a1 : Value) (h : Heap) (R : Value → Heap → Prop) : n21 a0 a1 h R = wpK Try.prog lv21 (Try.f21.body.getD .skip) (endK Try.prog [.tmp 4, .tmp 5] R) (argT [a0, a1]) h := by kernel_rfl
theorem w21 {a0 a1 : Value} {h : Heap} {R : Value → Heap → Prop} (hn : n21 a0 a1 h R) : DetP Try.prog 21 [a0, a1] h R :=
  DetP.of_code (rs := [.tmp 4, .tmp 5]) (n := 2) Try.func21 (by kernel_rfl) (by kernel_rfl) lv21 ok21 rfl ((e21 a0 a1 h R) ▸ hn)

/-! ### examiner/examinerref38.After: function 24 -/
def n24 (a0 a1 : Value) (h : Heap) (R : Value → Heap → Prop) : Prop :=
  okK (some (aBox Try.prog 24 a0 h)) fun v2 h =>
  mvK (Value.slice none 0 0) h fun v4 h =>
  vK (aLoad Try.prog 24 v2 h) h fun v13 h =>
  cK Try.prog 26 [v13] h fun v14 h =>
  mvK v14 h fun v12 h =>
  vK (aExtract v12 0) h fun v15 h =>
  vK (aExtract v12 1) h fun v16 h =>
  mvK v15 h fun v5 h =>
  mvK v16 h fun v6 h =>
  mvK v6 h fun v17 h =>
  mvK a1 h fun v18 h =>
  vK (aIndexAddr Try.prog 48 v17 v18) h fun v19 h =>
  vK (aLoad Try.prog 4 v19 h) h fun v20 h =>
  vK (aUn UnOp.not v20) h fun v21 h =>
  cnd v21 (
   mvK (Value.slice none 0 0) h fun v4_1 h =>
   retV [some v4_1] R h) (
   vK (aFieldAddr Try.prog 24 v2 4) h fun v22 h =>
   vK (aLoad Try.prog 22 v22 h) h fun v23 h =>
   mvK a1 h fun v24 h =>
   vK (aIndexAddr Try.prog 22 v23 v24) h fun v25 h =>
   vK (aFieldAddr Try.prog 76 v25 3) h fun v26 h =>
   vK (aLoad Try.prog 3 v26 h) h fun v27 h =>
   okK (aBuildSlice Try.prog 25 1 [(0, v27)] h) fun v28 h =>
   mvK v28 h fun v7 h =>
   mvK (Value.int IntKind.i64 0) h fun v8 h =>
   ∃ (I6 : List Value → Heap → Prop) (μ6 : List Value → Heap → Nat), I6 [v7, v8] h ∧
   ∀ (h6 : Heap) (j6 : Tmps) (v7_1 : Value) (v8_1 : Value), I6 [v7_1, v8_1] h6 → (let h := h6
    mvK v8_1 h fun v29 h =>
    mvK v7_1 h fun v30 h =>
    vK (aLen Try.prog 25 v30) h fun v31 h =>
    vK (aBin Try.prog BinOp.lss 3 v29 v31) h fun v32 h =>
    cnd v32 (
     mvK (Value.int IntKind.i64 0) h fun v9 h =>
     ∃ (I9 : List Value → Heap → Prop) (μ9 : List Value → Heap → Nat), I9 [v7_1, v9] h ∧
     ∀ (h9 : Heap) (j9 : Tmps) (v7_2 : Value) (v9_1 : Value), I9 [v7_2, v9_1] h9 → (let h := h9
      mvK v9_1 h fun v35 h =>
      vK (aFieldAddr Try.prog 24 v2 4) h fun v36 h =>
      vK (aLoad Try.prog 22 v36 h) h fun v37 h =>
      vK (aLen Try.prog 22 v37) h fun v38 h =>
      vK (aBin Try.prog BinOp.lss 3 v35 v38) h fun v39 h =>
      cnd v39 (
       seqK (fun k0 =>
        vK (aFieldAddr Try.prog 24 v2 4) h fun v42 h =>
        vK (aLoad Try.prog 22 v42 h) h fun v43 g =>
        VB h.length v43 ∧ (let h := g
         mvK v9_1 h fun v44 h =>
         vK (aIndexAddr Try.prog 22 v43 v44) h fun v45 h =>
         vK (aFieldAddr Try.prog 76 v45 0) h fun v46 h =>
         vK (aLoad Try.prog 3 v46 h) h fun v47 g =>
         VB h.length v47 ∧ (let h := g
          mvK v7_2 h fun v48 h =>
          mvK v8_1 h fun v49 h =>
          vK (aIndexAddr Try.prog 25 v48 v49) h fun v50 h =>
          vK (aLoad Try.prog 3 v50 h) h fun v51 g =>
          VB h.length v51 ∧ (let h := g
           vK (aBin Try.prog BinOp.eql 3 v47 v51) h fun v52 h =>
           mvK v52 h fun v53 h =>
           gdK v53 true (fun k1 =>
            mvK v7_2 h fun v54 h =>
            k1 v54 h) (fun v54_1 h =>
            gdK v53 true (fun k2 =>
             vK (aFieldAddr Try.prog 24 v2 4) h fun v55 h =>
             k2 v55 h) (fun v55_1 h =>
             gdK v53 true (fun k3 =>
              vK (aLoad Try.prog 22 v55_1 h) h fun v56 g =>
              VB h.length v56 ∧ (let h := g
               k3 v56 h)) (fun v56_1 h =>
              gdK v53 true (fun k4 =>
               mvK v9_1 h fun v57 h =>
               k4 v57 h) (fun v57_1 h =>
               gdK v53 true (fun k5 =>
                vK (aIndexAddr Try.prog 22 v56_1 v57_1) h fun v58 h =>
                k5 v58 h) (fun v58_1 h =>
                gdK v53 true (fun k6 =>
                 vK (aFieldAddr Try.prog 76 v58_1 3) h fun v59 h =>
                 k6 v59 h) (fun v59_1 h =>
                 gdK v53 true (fun k7 =>
                  vK (aLoad Try.prog 3 v59_1 h) h fun v60 g =>
                  VB h.length v60 ∧ (let h := g
                   k7 v60 h)) (fun v60_1 h =>
                  gdK v53 true (fun k8 =>
                   cKD Try.prog 47 [v54_1, v60_1] h fun v61 g =>
                   (∃ new, g = h ++ new) ∧ (let h := g
                    k8 v61 h)) (fun v61_1 h =>
                   gdK v53 true (fun k9 =>
                    vK (aUn UnOp.not v61_1) h fun v62 h =>
                    k9 v62 h) (fun v62_1 h =>
                    vK (pickV v53 v62_1 (Value.bool false)) h fun v63 h =>
                    cnd v63 (
                     mvK v7_2 h fun v64 h =>
                     vK (aFieldAddr Try.prog 24 v2 4) h fun v65 h =>
                     vK (aLoad Try.prog 22 v65 h) h fun v66 h =>
                     mvK v9_1 h fun v67 h =>
                     vK (aIndexAddr Try.prog 22 v66 v67) h fun v68 h =>
                     vK (aFieldAddr Try.prog 76 v68 3) h fun v69 h =>
                     vK (aLoad Try.prog 3 v69 h) h fun v70 h =>
                     okK (aBuildSlice Try.prog 25 1 [(0, v70)] h) fun v71 h =>
                     okK (aAppend Try.prog 25 25 v64 v71 h) fun v72 h =>
                     mvK v72 h fun v7_3 h =>
                     k0 [v7_3] h) (
                     k0 [v7_2] h)) h) h) h) h) h) h) h) h) h)))) fun x0 h => ∀ jx0 : Tmps,
        let v7_4 : Value := nth x0 0
        mvK v9_1 h fun v40 h =>
        vK (aBin Try.prog BinOp.add 3 v40 (Value.int IntKind.i64 1)) h fun v41 h =>
        mvK v41 h fun v9_2 h =>
        I9 [v7_4, v9_2] h ∧ μ9 [v7_4, v9_2] h < μ9 [v7_2, v9_1] h9) (
       mvK v8_1 h fun v33 h =>
       vK (aBin Try.prog BinOp.add 3 v33 (Value.int IntKind.i64 1)) h fun v34 h =>
       mvK v34 h fun v8_2 h =>
       I6 [v7_2, v8_2] h ∧ μ6 [v7_2, v8_2] h < μ6 [v7_1, v8_1] h6))) (
     mvK (Value.slice none 0 0) h fun v10 h =>
     mvK (Value.int IntKind.i64 0) h fun v11 h =>
     ∃ (I15 : List Value → Heap → Prop) (μ15 : List Value → Heap → Nat), I15 [v10, v11] h ∧
     ∀ (h15 : Heap) (j15 : Tmps) (v10_1 : Value) (v11_1 : Value), I15 [v10_1, v11_1] h15 → (let h := h15
      mvK v11_1 h fun v73 h =>
      vK (aFieldAddr Try.prog 24 v2 4) h fun v74 h =>
      vK (aLoad Try.prog 22 v74 h) h fun v75 h =>
      vK (aLen Try.prog 22 v75) h fun v76 h =>
      vK (aBin Try.prog BinOp.lss 3 v73 v76) h fun v77 h =>
      cnd v77 (
       seqK (fun k10 =>
        mvK v7_1 h fun v80 h =>
        vK (aFieldAddr Try.prog 24 v2 4) h fun v81 h =>
        vK (aLoad Try.prog 22 v81 h) h fun v82 h =>
        mvK v11_1 h fun v83 h =>
        vK (aIndexAddr Try.prog 22 v82 v83) h fun v84 h =>
        vK (aFieldAddr Try.prog 76 v84 0) h fun v85 h =>
        vK (aLoad Try.prog 3 v85 h) h fun v86 h =>
        cK Try.prog 47 [v80, v86] h fun v87 h =>
        cnd v87 (
         mvK v10_1 h fun v88 h =>
         mvK v11_1 h fun v89 h =>
         okK (aBuildSlice Try.prog 25 1 [(0, v89)] h) fun v90 h =>
         okK (aAppend Try.prog 25 25 v88 v90 h) fun v91 h =>
         mvK v91 h fun v10_2 h =>
         k10 [v10_2] h) (
         k10 [v10_1] h)) fun x10 h => ∀ jx10 : Tmps,
        let v10_3 : Value := nth x10 0
        mvK v11_1 h fun v78 h =>
        vK (aBin Try.prog BinOp.add 3 v78 (Value.int IntKind.i64 1)) h fun v79 h =>
        mvK v79 h fun v11_2 h =>
        I15 [v10_3, v11_2] h ∧ μ15 [v10_3, v11_2] h < μ15 [v10_1, v11_1] h15) (
       mvK v10_1 h fun v92 h =>
       mvK v92 h fun v4_2 h =>
       retV [some v4_2] R h)))))
def lv24 (q : Nat) : List Nat := bif Nat.beq q 12 then [9444732965738753557376, 7, 8] else bif Nat.beq q 18 then [9444732965704930689664, 7, 9] else bif Nat.beq q 21 then [9444732961341243916416, 7] else bif Nat.beq q 30 then [4951750712408555360306072576, 10, 11] else bif Nat.beq q 33 then [4950551231321906470421791744, 10] else []
theorem ok24 : lkOK Try.prog lv24 Try.f24 2 (Try.f24.body.getD .skip) 24 = true := by kernel_rfl
theorem e24 (a0 a1 : Value) (h : Heap) (R : Value → Heap → Prop) : n24 a0 a1 h R = wpK Try.prog lv24 (Try.f24.body.getD .skip) (endK Try.prog [.tmp 4] R) (argT [a0, a1]) h := by kernel_rfl
theorem w24 {a0 a1 : Value} {h : Heap} {R : Value → Heap → Prop} (hn : n24 a0 a1 h R) : DetP Try.prog 24 [a0, a1] h R :=
  DetP.of_code (rs := [.tmp 4]) (n := 2) Try.func24 (by kernel_rfl) (by kernel_rfl) lv24 ok24 rfl ((e24 a0 a1 h R) ▸ hn)

/-! ### examiner/cover.ReachedIn: function 25 -/
def n25 (a0 : Value) (h : Heap) (R : Value → Heap → Prop) : Prop :=
  okK (some (aBox Try.prog 24 a0 h)) fun v1 h =>
  mvK (Value.slice none 0 0) h fun v2 h =>
  mvK (Value.slice none 0 0) h fun v3 h =>
  mvK (Value.int IntKind.i64 0) h fun v4 h =>
  vK (aLoad Try.prog 24 v1 h) h fun v10 h =>
  cK Try.prog 51 [v10] h fun v11 h =>
  mvK v11 h fun v5 h =>
  mvK v5 h fun v12 h =>
  vK (aBin Try.prog BinOp.neq 29 v12 (Value.int IntKind.i64 0)) h fun v13 h =>
  cnd v13 (
   mvK v5 h fun v14 h =>
   mvK (Value.slice none 0 0) h fun v2_1 h =>
   mvK (Value.slice none 0 0) h fun v3_1 h =>
   mvK v14 h fun v4_1 h =>
   retV [some v2_1, some v3_1, some v4_1] R h) (
   vK (aLoad Try.prog 24 v1 h) h fun v15 h =>
   cK Try.prog 54 [v15] h fun v16 h =>
   mvK v16 h fun v6 h =>
   mvK (Value.slice none 0 0) h fun v7 h =>
   mvK v6 h fun v17 h =>
   mvK v6 h fun v18 h =>
   vK (nilV v18) h fun v19 h =>
   vK (aFieldAddr Try.prog 92 v19 0) h fun v20 h =>
   vK (aFieldAddr Try.prog 24 v20 3) h fun v21 h =>
   vK (aLoad Try.prog 3 v21 h) h fun v22 h =>
   cK Try.prog 64 [v17, v22] h fun v23 h =>
   vK (aLen Try.prog 48 v23) h fun v24 h =>
   mvK (Value.int IntKind.i64 0) h fun v25 h =>
   ∃ (I7 : List Value → Heap → Prop) (μ7 : List Value → Heap → Nat), I7 [v7, v25] h ∧
   ∀ (h7 : Heap) (j7 : Tmps) (v7_1 : Value) (v25_1 : Value), I7 [v7_1, v25_1] h7 → (let h := h7
    vK (aBin Try.prog BinOp.lss 3 v25_1 v24) h fun v26 h =>
    cnd v26 (
     seqK (fun k0 =>
      mvK v25_1 h fun v27 h =>
      vK (aIndexAddr Try.prog 48 v23 v25_1) h fun v28 h =>
      vK (aLoad Try.prog 4 v28 h) h fun v29 h =>
      mvK v27 h fun v8 h =>
      mvK v29 h fun v9 h =>
      mvK v9 h fun v30 h =>
      cnd v30 (
       mvK v7_1 h fun v31 h =>
       mvK v8 h fun v32 h =>
       okK (aBuildSlice Try.prog 25 1 [(0, v32)] h) fun v33 h =>
       okK (aAppend Try.prog 25 25 v31 v33 h) fun v34 h =>
       mvK v34 h fun v7_2 h =>
       k0 [v7_2] h) (
       k0 [v7_1] h)) fun x0 h => ∀ jx0 : Tmps,
      let v7_3 : Value := nth x0 0
      vK (aBin Try.prog BinOp.add 3 v25_1 (Value.int IntKind.i64 1)) h fun v35 h =>
      mvK v35 h fun v25_2 h =>
      I7 [v7_3, v25_2] h ∧ μ7 [v7_3, v25_2] h < μ7 [v7_1, v25_1] h7) (
     mvK v7_1 h fun v36 h =>
     mvK v6 h fun v37 h =>
     cK Try.prog 60 [v37] h fun v38 h =>
     mvK v36 h fun v2_2 h =>
     mvK v38 h fun v3_2 h =>
     mvK (Value.int IntKind.i64 0) h fun v4_2 h =>
     retV [some v2_2, some v3_2, some v4_2] R h)))
def lv25 (q : Nat) : List Nat := bif Nat.beq q 14 then [68685923200, 7, 25] else bif Nat.beq q 23 then [34225521536, 7] else []
theorem ok25 : lkOK Try.prog lv25 Try.f25 1 (Try.f25.body.getD .skip) 25 = true := by kernel_rfl
theorem e25 (a0 : Value) (h : Heap) (R : Value → Heap → Prop) : n25 a0 h R = wpK Try.prog lv25 (Try.f25.body.getD .skip) (endK Try.prog [.tmp 2, .tmp 3, .tmp 4] R) (argT [a0]) h := by kernel_rfl
theorem w25 {a0 : Value} {h : Heap} {R : Value → Heap → Prop} (hn : n25 a0 h R) : DetP Try.prog 25 [a0] h R :=
  DetP.of_code (rs := [.tmp 2, .tmp 3, .tmp 4]) (n := 1) Try.func25 (by kernel_rfl) (by kernel_rfl) lv25 ok25 rfl ((e25 a0 h R) ▸ hn)

/-! ### examiner/examinerlaw38.marked: function 27 -/
def n27 (a0 : Value) (h : Heap) (R : Value → Heap → Prop) : Prop :=
  mvK (Value.slice none 0 0) h fun v2 h =>
  mvK (Value.slice none 0 0) h fun v3 h =>
  mvK (Value.int IntKind.i64 0) h fun v4 h =>
  ∃ (I3 : List Value → Heap → Prop) (μ3 : List Value → Heap → Nat), I3 [v3, v4] h ∧
  ∀ (h3 : Heap) (j3 : Tmps) (v3_1 : Value) (v4_1 : Value), I3 [v3_1, v4_1] h3 → (let h := h3
   mvK v4_1 h fun v5 h =>
   mvK a0 h fun v6 h =>
   vK (aLen Try.prog 48 v6) h fun v7 h =>
   vK (aBin Try.prog BinOp.lss 3 v5 v7) h fun v8 h =>
   cnd v8 (
    seqK (fun k0 =>
     mvK a0 h fun v11 h =>
     mvK v4_1 h fun v12 h =>
     vK (aIndexAddr Try.prog 48 v11 v12) h fun v13 h =>
     vK (aLoad Try.prog 4 v13 h) h fun v14 h =>
     cnd v14 (
      mvK v3_1 h fun v15 h =>
      mvK v4_1 h fun v16 h =>
      okK (aBuildSlice Try.prog 25 1 [(0, v16)] h) fun v17 h =>
      okK (aAppend Try.prog 25 25 v15 v17 h) fun v18 h =>
      mvK v18 h fun v3_2 h =>
      k0 [v3_2] h) (
      k0 [v3_1] h)) fun x0 h => ∀ jx0 : Tmps,
     let v3_3 : Value := nth x0 0
     mvK v4_1 h fun v9 h =>
     vK (aBin Try.prog BinOp.add 3 v9 (Value.int IntKind.i64 1)) h fun v10 h =>
     mvK v10 h fun v4_2 h =>
     I3 [v3_3, v4_2] h ∧ μ3 [v3_3, v4_2] h < μ3 [v3_1, v4_1] h3) (
    mvK v3_1 h fun v19 h =>
    mvK v19 h fun v2_1 h =>
    retV [some v2_1] R h))
def lv27 (q : Nat) : List Nat := bif Nat.beq q 6 then [524280, 3, 4] else bif Nat.beq q 9 then [522248, 3] else []
theorem ok27 : lkOK Try.prog lv27 Try.f27 1 (Try.f27.body.getD .skip) 27 = true := by kernel_rfl
theorem e27 (a0 : Value) (h : Heap) (R : Value → Heap → Prop) : n27 a0 h R = wpK Try.prog lv27 (Try.f27.body.getD .skip) (endK Try.prog [.tmp 2] R) (argT [a0]) h := by kernel_rfl
theorem w27 {a0 : Value} {h : Heap} {R : Value → Heap → Prop} (hn : n27 a0 h R) : DetP Try.prog 27 [a0] h R :=
  DetP.of_code (rs := [.tmp 2]) (n := 1) Try.func27 (by kernel_rfl) (by kernel_rfl) lv27 ok27 rfl ((e27 a0 h R) ▸ hn)

/-! ### examiner/examinerref38.WordsErr: function 28 -/
def n28 (a0 a1 : Value) (h : Heap) (R : Value → Heap → Prop) : Prop :=
  okK (some (aBox Try.prog 24 a0 h)) fun v2 h =>
  mvK (Value.int IntKind.i64 0) h fun v4 h =>
  mvK a1 h fun v7 h =>
  vK (aLen Try.prog 45 v7) h fun v8 h =>
  vK (aBin Try.prog BinOp.gtr 3 v8 (Value.int IntKind.i64 80)) h fun v9 h =>
  cnd v9 (
   mvK (Value.int IntKind.i64 2) h fun v4_1 h =>
   retV [some v4_1] R h) (
   mvK (Value.int IntKind.i64 0) h fun v5 h =>
   ∃ (I4 : List Value → Heap → Prop) (μ4 : List Value → Heap → Nat), I4 [v5] h ∧
   ∀ (h4 : Heap) (j4 : Tmps) (v5_1 : Value), I4 [v5_1] h4 → (let h := h4
    mvK v5_1 h fun v10 h =>
    mvK a1 h fun v11 h =>
    vK (aLen Try.prog 45 v11) h fun v12 h =>
    vK (aBin Try.prog BinOp.lss 3 v10 v12) h fun v13 h =>
    cnd v13 (
     mvK a1 h fun v16 h =>
     mvK v5_1 h fun v17 h =>
     vK (aIndexAddr Try.prog 45 v16 v17) h fun v18 h =>
     vK (aLoad Try.prog 25 v18 h) h fun v19 g =>
     VB h.length v19 ∧ (let h := g
      vK (aFieldAddr Try.prog 24 v2 1) h fun v20 h =>
      vK (aLoad Try.prog 3 v20 h) h fun v21 g =>
      VB h.length v21 ∧ (let h := g
       cKD Try.prog 41 [v19, v21, (Value.int IntKind.i64 1200)] h fun v22 g =>
       (∃ new, g = h ++ new) ∧ (let h := g
        mvK v22 h fun v6 h =>
        mvK v6 h fun v23 h =>
        vK (aBin Try.prog BinOp.neq 3 v23 (Value.int IntKind.i64 0)) h fun v24 h =>
        cnd v24 (
         mvK v6 h fun v25 h =>
         mvK v25 h fun v4_2 h =>
         retV [some v4_2] R h) (
         mvK v5_1 h fun v14 h =>
         vK (aBin Try.prog BinOp.add 3 v14 (Value.int IntKind.i64 1)) h fun v15 h =>
         mvK v15 h fun v5_2 h =>
         I4 [v5_2] h ∧ μ4 [v5_2] h < μ4 [v5_1] h4))))) (
     mvK (Value.int IntKind.i64 0) h fun v4_3 h =>
     retV [some v4_3] R h)))
def lv28 (q : Nat) : List Nat := bif Nat.beq q 8 then [67107952, 5] else []
theorem ok28 : lkOK Try.prog lv28 Try.f28 2 (Try.f28.body.getD .skip) 28 = true := by kernel_rfl
theorem e28 (a0 a1 : Value) (h : Heap) (R : Value → Heap → Prop) : n28 a0 a1 h R = wpK Try.prog lv28 (Try.f28.body.getD .skip) (endK Try.prog [.tmp 4] R) (argT [a0, a1]) h := by kernel_rfl
theorem w28 {a0 a1 : Value} {h : Heap} {R : Value → Heap → Prop} (hn : n28 a0 a1 h R) : DetP Try.prog 28 [a0, a1] h R :=
  DetP.of_code (rs := [.tmp 4]) (n := 2) Try.func28 (by kernel_rfl) (by kernel_rfl) lv28 ok28 rfl ((e28 a0 a1 h R) ▸ hn)

/-! ### examiner/cover.TakenBy: function 29 -/
def n29 (a0 a1 : Value) (h : Heap) (R : Value → Heap → Prop) : Prop :=
  okK (some (aBox Try.prog 24 a0 h)) fun v2 h =>
  mvK (Value.slice none 0 0) h fun v4 h =>
  mvK (Value.int IntKind.i64 0) h fun v5 h =>
  vK (aLoad Try.prog 24 v2 h) h fun v13 g =>
  VB h.length v13 ∧ (let h := g
   cKD Try.prog 51 [v13] h fun v14 g =>
   (∃ new, g = h ++ new) ∧ (let h := g
    vK (aLoad Try.prog 24 v2 h) h fun v15 g =>
    VB h.length v15 ∧ (let h := g
     mvK a1 h fun v16 h =>
     cKD Try.prog 67 [v15, v16] h fun v17 g =>
     (∃ new, g = h ++ new) ∧ (let h := g
      okK (aBuildSlice Try.prog 132 2 [(0, v14), (1, v17)] h) fun v18 h =>
      cKD Try.prog 50 [v18] h fun v19 g =>
      (∃ new, g = h ++ new) ∧ (let h := g
       mvK v19 h fun v6 h =>
       mvK v6 h fun v20 h =>
       vK (aBin Try.prog BinOp.neq 29 v20 (Value.int IntKind.i64 0)) h fun v21 h =>
       cnd v21 (
        mvK v6 h fun v22 h =>
        mvK (Value.slice none 0 0) h fun v4_1 h =>
        mvK v22 h fun v5_1 h =>
        retV [some v4_1, some v5_1] R h) (
        vK (aLoad Try.prog 24 v2 h) h fun v23 h =>
        cK Try.prog 54 [v23] h fun v24 h =>
        mvK v24 h fun v7 h =>
        vK (aFieldAddr Try.prog 24 v2 4) h fun v25 h =>
        vK (aLoad Try.prog 22 v25 h) h fun v26 h =>
        vK (aLen Try.prog 22 v26) h fun v27 h =>
        okK (aMakeSlice Try.prog 25 v27 v27 h) fun v28 h =>
        mvK v28 h fun v8 h =>
        mvK a1 h fun v29 h =>
        vK (aLen Try.prog 45 v29) h fun v30 h =>
        mvK (Value.int IntKind.i64 0) h fun v31 h =>
        ∃ (I7 : List Value → Heap → Prop) (μ7 : List Value → Heap → Nat), I7 [v31] h ∧
        ∀ (h7 : Heap) (j7 : Tmps) (v31_1 : Value), I7 [v31_1] h7 → (let h := h7
         vK (aBin Try.prog BinOp.lss 3 v31_1 v30) h fun v32 h =>
         cnd v32 (
          vK (aIndexAddr Try.prog 45 v29 v31_1) h fun v33 h =>
          vK (aLoad Try.prog 25 v33 h) h fun v34 h =>
          mvK v34 h fun v10 h =>
          mvK v7 h fun v35 h =>
          mvK v10 h fun v36 h =>
          cK Try.prog 55 [v35, v36] h fun v37 h =>
          vK (aLen Try.prog 25 v37) h fun v38 h =>
          mvK (Value.int IntKind.i64 0) h fun v39 h =>
          ∃ (I10 : List Value → Heap → Prop) (μ10 : List Value → Heap → Nat), I10 [v39] h ∧
          ∀ (h10 : Heap) (j10 : Tmps) (v39_1 : Value), I10 [v39_1] h10 → (let h := h10
           vK (aBin Try.prog BinOp.lss 3 v39_1 v38) h fun v40 h =>
           cnd v40 (
            vK (aIndexAddr Try.prog 25 v37 v39_1) h fun v41 h =>
            vK (aLoad Try.prog 3 v41 h) h fun v42 h =>
            mvK v42 h fun v12 h =>
            mvK v8 h fun v43 h =>
            mvK v12 h fun v44 h =>
            vK (aIndexAddr Try.prog 25 v43 v44) h fun v45 h =>
            vK (aLoad Try.prog 3 v45 h) h fun v46 h =>
            vK (aBin Try.prog BinOp.add 3 v46 (Value.int IntKind.i64 1)) h fun v47 h =>
            vK (aIndexAddr Try.prog 25 v43 v44) h fun v48 h =>
            okK ((aStore Try.prog 3 v48 v47 h).map (undef, ·)) fun _ h =>
            vK (aBin Try.prog BinOp.add 3 v39_1 (Value.int IntKind.i64 1)) h fun v49 h =>
            mvK v49 h fun v39_2 h =>
            I10 [v39_2] h ∧ μ10 [v39_2] h < μ10 [v39_1] h10) (
            vK (aBin Try.prog BinOp.add 3 v31_1 (Value.int IntKind.i64 1)) h fun v50 h =>
            mvK v50 h fun v31_2 h =>
            I7 [v31_2] h ∧ μ7 [v31_2] h < μ7 [v31_1] h7))) (
          mvK v8 h fun v51 h =>
          mvK v51 h fun v4_2 h =>
          mvK (Value.int IntKind.i64 0) h fun v5_2 h =>
          retV [some v4_2, some v5_2] R h))))))))
def lv29 (q : Nat) : List Nat := bif Nat.beq q 14 then [2251797666206720, 31] else bif Nat.beq q 20 then [1125350151032832, 39] else []
theorem ok29 : lkOK Try.prog lv29 Try.f29 2 (Try.f29.body.getD .skip) 29 = true := by kernel_rfl
theorem e29 (a0 a1 : Value) (h : Heap) (R : Value → Heap → Prop) : n29 a0 a1 h R = wpK Try.prog lv29 (Try.f29.body.getD .skip) (endK Try.prog [.tmp 4, .tmp 5] R) (argT [a0, a1]) h := by kernel_rfl
theorem w29 {a0 a1 : Value} {h : Heap} {R : Value → Heap → Prop} (hn : n29 a0 a1 h R) : DetP Try.prog 29 [a0, a1] h R :=
  DetP.of_code (rs := [.tmp 4, .tmp 5]) (n := 2) Try.func29 (by kernel_rfl) (by kernel_rfl) lv29 ok29 rfl ((e29 a0 a1 h R) ▸ hn)

/-! ### examiner/examinerref38.Taken: function 31 -/
def n31 (a0 a1 : Value) (h : Heap) (R : Value → Heap → Prop) : Prop :=
  okK (some (aBox Try.prog 24 a0 h)) fun v2 h =>
  mvK (Value.slice none 0 0) h fun v4 h =>
  vK (aFieldAddr Try.prog 24 v2 4) h fun v9 h =>
  vK (aLoad Try.prog 22 v9 h) h fun v10 h =>
  vK (aLen Try.prog 22 v10) h fun v11 h =>
  okK (aMakeSlice Try.prog 25 v11 v11 h) fun v12 h =>
  mvK v12 h fun v5 h =>
  mvK (Value.int IntKind.i64 0) h fun v6 h =>
  ∃ (I3 : List Value → Heap → Prop) (μ3 : List Value → Heap → Nat), I3 [v6] h ∧
  ∀ (h3 : Heap) (j3 : Tmps) (v6_1 : Value), I3 [v6_1] h3 → (let h := h3
   mvK v6_1 h fun v13 h =>
   mvK a1 h fun v14 h =>
   vK (aLen Try.prog 45 v14) h fun v15 h =>
   vK (aBin Try.prog BinOp.lss 3 v13 v15) h fun v16 h =>
   cnd v16 (
    vK (aLoad Try.prog 24 v2 h) h fun v19 g =>
    VB h.length v19 ∧ (let h := g
     vK (aFieldAddr Try.prog 24 v2 3) h fun v20 h =>
     vK (aLoad Try.prog 3 v20 h) h fun v21 g =>
     VB h.length v21 ∧ (let h := g
      mvK a1 h fun v22 h =>
      mvK v6_1 h fun v23 h =>
      vK (aIndexAddr Try.prog 45 v22 v23) h fun v24 h =>
      vK (aLoad Try.prog 25 v24 h) h fun v25 g =>
      VB h.length v25 ∧ (let h := g
       cKD Try.prog 46 [v19, v21, v25] h fun v26 g =>
       (∃ new, g = h ++ new) ∧ (let h := g
        mvK v26 h fun v7 h =>
        mvK (Value.int IntKind.i64 0) h fun v8 h =>
        ∃ (I7 : List Value → Heap → Prop) (μ7 : List Value → Heap → Nat), I7 [v8] h ∧
        ∀ (h7 : Heap) (j7 : Tmps) (v8_1 : Value), I7 [v8_1] h7 → (let h := h7
         mvK v8_1 h fun v27 h =>
         mvK v7 h fun v28 h =>
         vK (aLen Try.prog 25 v28) h fun v29 h =>
         vK (aBin Try.prog BinOp.lss 3 v27 v29) h fun v30 h =>
         cnd v30 (
          mvK v5 h fun v33 h =>
          mvK v7 h fun v34 h =>
          mvK v8_1 h fun v35 h =>
          vK (aIndexAddr Try.prog 25 v34 v35) h fun v36 h =>
          vK (aLoad Try.prog 3 v36 h) h fun v37 g =>
          VB h.length v37 ∧ (let h := g
           mvK v5 h fun v38 h =>
           mvK v7 h fun v39 h =>
           mvK v8_1 h fun v40 h =>
           vK (aIndexAddr Try.prog 25 v39 v40) h fun v41 h =>
           vK (aLoad Try.prog 3 v41 h) h fun v42 g =>
           VB h.length v42 ∧ (let h := g
            vK (aIndexAddr Try.prog 25 v38 v42) h fun v43 h =>
            vK (aLoad Try.prog 3 v43 h) h fun v44 g =>
            VB h.length v44 ∧ (let h := g
             vK (aBin Try.prog BinOp.add 3 v44 (Value.int IntKind.i64 1)) h fun v45 h =>
             vK (aIndexAddr Try.prog 25 v33 v37) h fun v46 h =>
             okK ((aStore Try.prog 3 v46 v45 h).map (undef, ·)) fun _ h =>
             (True) ∧ (
              mvK v8_1 h fun v31 h =>
              vK (aBin Try.prog BinOp.add 3 v31 (Value.int IntKind.i64 1)) h fun v32 h =>
              mvK v32 h fun v8_2 h =>
              I7 [v8_2] h ∧ μ7 [v8_2] h < μ7 [v8_1] h7))))) (
          mvK v6_1 h fun v17 h =>
          vK (aBin Try.prog BinOp.add 3 v17 (Value.int IntKind.i64 1)) h fun v18 h =>
          mvK v18 h fun v6_2 h =>
          I3 [v6_2] h ∧ μ3 [v6_2] h < μ3 [v6_1] h3))))))) (
    mvK v5 h fun v47 h =>
    mvK v47 h fun v4_1 h =>
    retV [some v4_1] R h))
def lv31 (q : Nat) : List Nat := bif Nat.beq q 6 then [140737488347584, 6] else bif Nat.beq q 14 then [140737354137856, 8] else []
theorem ok31 : lkOK Try.prog lv31 Try.f31 2 (Try.f31.body.getD .skip) 31 = true := by kernel_rfl
theorem e31 (a0 a1 : Value) (h : Heap) (R : Value → Heap → Prop) : n31 a0 a1 h R = wpK Try.prog lv31 (Try.f31.body.getD .skip) (endK Try.prog [.tmp 4] R) (argT [a0, a1]) h := by kernel_rfl
theorem w31 {a0 a1 : Value} {h : Heap} {R : Value → Heap → Prop} (hn : n31 a0 a1 h R) : DetP Try.prog 31 [a0, a1] h R :=
  DetP.of_code (rs := [.tmp 4]) (n := 2) Try.func31 (by kernel_rfl) (by kernel_rfl) lv31 ok31 rfl ((e31 a0 a1 h R) ▸ hn)

/-! ### examiner/cover.CheapestTo: function 34 -/
def n34 (a0 a1 : Value) (h : Heap) (R : Value → Heap → Prop) : Prop :=
  okK (some (aBox Try.prog 24 a0 h)) fun v2 h =>
  mvK (Value.slice none 0 0) h fun v4 h =>
  mvK (Value.slice none 0 0) h fun v5 h =>
  mvK (Value.int IntKind.i64 0) h fun v6 h =>
  vK (aLoad Try.prog 24 v2 h) h fun v17 g =>
  VB h.length v17 ∧ (let h := g
   cKD Try.prog 51 [v17] h fun v18 g =>
   (∃ new, g = h ++ new) ∧ (let h := g
    vK (aLoad Try.prog 24 v2 h) h fun v19 g =>
    VB h.length v19 ∧ (let h := g
     mvK a1 h fun v20 h =>
     cKD Try.prog 52 [v19, v20] h fun v21 g =>
     (∃ new, g = h ++ new) ∧ (let h := g
      okK (aBuildSlice Try.prog 132 2 [(0, v18), (1, v21)] h) fun v22 h =>
      cKD Try.prog 50 [v22] h fun v23 g =>
      (∃ new, g = h ++ new) ∧ (let h := g
       mvK v23 h fun v7 h =>
       mvK v7 h fun v24 h =>
       vK (aBin Try.prog BinOp.neq 29 v24 (Value.int IntKind.i64 0)) h fun v25 h =>
       cnd v25 (
        mvK v7 h fun v26 h =>
        mvK (Value.slice none 0 0) h fun v4_1 h =>
        mvK (Value.slice none 0 0) h fun v5_1 h =>
        mvK v26 h fun v6_1 h =>
        retV [some v4_1, some v5_1, some v6_1] R h) (
        vK (aFieldAddr Try.prog 24 v2 0) h fun v27 h =>
        vK (aLoad Try.prog 3 v27 h) h fun v28 h =>
        okK (aMakeSlice Try.prog 108 v28 v28 h) fun v29 h =>
        mvK v29 h fun v8 h =>
        mvK v8 h fun v30 h =>
        vK (aFieldAddr Try.prog 24 v2 3) h fun v31 h =>
        vK (aLoad Try.prog 3 v31 h) h fun v32 h =>
        vK (aBuild Try.prog 111 []) h fun v33 h =>
        okK (some (aBox Try.prog 111 v33 h)) fun v34 h =>
        vK (aIndexAddr Try.prog 108 v30 v32) h fun v35 h =>
        okK ((aStore Try.prog 109 v35 v34 h).map (undef, ·)) fun _ h =>
        mvK (Value.bool true) h fun v9 h =>
        ∃ (I7 : List Value → Heap → Prop) (μ7 : List Value → Heap → Nat), I7 [v9] h ∧
        ∀ (h7 : Heap) (j7 : Tmps) (v9_1 : Value), I7 [v9_1] h7 → (let h := h7
         mvK v9_1 h fun v36 h =>
         cnd v36 (
          mvK (Value.bool false) h fun v9_2 h =>
          vK (aFieldAddr Try.prog 24 v2 4) h fun v37 h =>
          vK (aLoad Try.prog 22 v37 h) h fun v38 h =>
          vK (aLen Try.prog 22 v38) h fun v39 h =>
          mvK (Value.int IntKind.i64 0) h fun v40 h =>
          ∃ (I10 : List Value → Heap → Prop) (μ10 : List Value → Heap → Nat), I10 [v9_2, v40] h ∧
          ∀ (h10 : Heap) (j10 : Tmps) (v9_3 : Value) (v40_1 : Value), I10 [v9_3, v40_1] h10 → (let h := h10
           vK (aBin Try.prog BinOp.lss 3 v40_1 v39) h fun v41 h =>
           cnd v41 (
            seqK (fun k0 =>
             mvK v40_1 h fun v42 h =>
             vK (aIndexAddr Try.prog 22 v38 v40_1) h fun v43 h =>
             vK (aLoad Try.prog 76 v43 h) h fun v44 h =>
             okK (aAlloc Try.prog 76 h) fun v11 h =>
             mvK v42 h fun v10 h =>
             okK ((aStore Try.prog 76 v11 v44 h).map (undef, ·)) fun _ h =>
             mvK v8 h fun v45 h =>
             vK (aFieldAddr Try.prog 76 v11 0) h fun v46 h =>
             vK (aLoad Try.prog 3 v46 h) h fun v47 h =>
             vK (aIndexAddr Try.prog 108 v45 v47) h fun v48 h =>
             vK (aLoad Try.prog 109 v48 h) h fun v49 h =>
             vK (aBin Try.prog BinOp.eql 109 v49 (Value.pointer none)) h fun v50 h =>
             cnd v50 (
              k0 [v9_3] h) (
              mvK v8 h fun v51 h =>
              vK (aFieldAddr Try.prog 76 v11 0) h fun v52 h =>
              vK (aLoad Try.prog 3 v52 h) h fun v53 g =>
              VB h.length v53 ∧ (let h := g
               vK (aIndexAddr Try.prog 108 v51 v53) h fun v54 h =>
               vK (aLoad Try.prog 109 v54 h) h fun v55 g =>
               VB h.length v55 ∧ (let h := g
                vK (nilV v55) h fun v56 h =>
                vK (aFieldAddr Try.prog 111 v56 0) h fun v57 h =>
                vK (aLoad Try.prog 3 v57 h) h fun v58 g =>
                VB h.length v58 ∧ (let h := g
                 mvK a1 h fun v59 h =>
                 mvK v10 h fun v60 h =>
                 vK (aIndexAddr Try.prog 25 v59 v60) h fun v61 h =>
                 vK (aLoad Try.prog 3 v61 h) h fun v62 g =>
                 VB h.length v62 ∧ (let h := g
                  vK (aBin Try.prog BinOp.add 3 v58 v62) h fun v63 h =>
                  mvK v8 h fun v64 h =>
                  vK (aFieldAddr Try.prog 76 v11 0) h fun v65 h =>
                  vK (aLoad Try.prog 3 v65 h) h fun v66 g =>
                  VB h.length v66 ∧ (let h := g
                   vK (aIndexAddr Try.prog 108 v64 v66) h fun v67 h =>
                   vK (aLoad Try.prog 109 v67 h) h fun v68 g =>
                   VB h.length v68 ∧ (let h := g
                    vK (nilV v68) h fun v69 h =>
                    vK (aFieldAddr Try.prog 111 v69 1) h fun v70 h =>
                    vK (aLoad Try.prog 25 v70 h) h fun v71 g =>
                    VB h.length v71 ∧ (let h := g
                     cKD Try.prog 71 [v71] h fun v72 g =>
                     (∃ new, g = h ++ new) ∧ (let h := g
                      vK (aFieldAddr Try.prog 76 v11 1) h fun v73 h =>
                      vK (aLoad Try.prog 3 v73 h) h fun v74 g =>
                      VB h.length v74 ∧ (let h := g
                       okK (aBuildSlice Try.prog 25 1 [(0, v74)] h) fun v75 h =>
                       okK (aAppend Try.prog 25 25 v72 v75 h) fun v76 h =>
                       ((aLoad Try.prog 3 v61 h).map (·, h) = some (v62, h) ∧ (aLoad Try.prog 3 v57 h).map (·, h) = some (v58, h) ∧ (aLoad Try.prog 109 v54 h).map (·, h) = some (v55, h) ∧ (aLoad Try.prog 3 v52 h).map (·, h) = some (v53, h) ∧ True) ∧ (
                        vK (aBuild Try.prog 111 [(0, v63), (1, v76)]) h fun v77 h =>
                        okK (aAlloc Try.prog 111 h) fun v12 h =>
                        okK ((aStore Try.prog 111 v12 v77 h).map (undef, ·)) fun _ h =>
                        (True) ∧ (
                         mvK v8 h fun v78 h =>
                         vK (aFieldAddr Try.prog 76 v11 3) h fun v79 h =>
                         vK (aLoad Try.prog 3 v79 h) h fun v80 g =>
                         VB h.length v80 ∧ (let h := g
                          vK (aIndexAddr Try.prog 108 v78 v80) h fun v81 h =>
                          vK (aLoad Try.prog 109 v81 h) h fun v82 g =>
                          VB h.length v82 ∧ (let h := g
                           vK (aBin Try.prog BinOp.eql 109 v82 (Value.pointer none)) h fun v83 h =>
                           mvK v83 h fun v84 h =>
                           gdK v84 false (fun k1 =>
                            vK (aLoad Try.prog 111 v12 h) h fun v85 g =>
                            VB h.length v85 ∧ (let h := g
                             k1 v85 h)) (fun v85_1 h =>
                            gdK v84 false (fun k2 =>
                             mvK v8 h fun v86 h =>
                             k2 v86 h) (fun v86_1 h =>
                             gdK v84 false (fun k3 =>
                              vK (aFieldAddr Try.prog 76 v11 3) h fun v87 h =>
                              k3 v87 h) (fun v87_1 h =>
                              gdK v84 false (fun k4 =>
                               vK (aLoad Try.prog 3 v87_1 h) h fun v88 g =>
                               VB h.length v88 ∧ (let h := g
                                k4 v88 h)) (fun v88_1 h =>
                               gdK v84 false (fun k5 =>
                                vK (aIndexAddr Try.prog 108 v86_1 v88_1) h fun v89 h =>
                                k5 v89 h) (fun v89_1 h =>
                                gdK v84 false (fun k6 =>
                                 vK (aLoad Try.prog 109 v89_1 h) h fun v90 g =>
                                 VB h.length v90 ∧ (let h := g
                                  k6 v90 h)) (fun v90_1 h =>
                                 gdK v84 false (fun k7 =>
                                  vK (nilV v90_1) h fun v91 h =>
                                  k7 v91 h) (fun v91_1 h =>
                                  gdK v84 false (fun k8 =>
                                   vK (aLoad Try.prog 111 v91_1 h) h fun v92 g =>
                                   VB h.length v92 ∧ (let h := g
                                    k8 v92 h)) (fun v92_1 h =>
                                   gdK v84 false (fun k9 =>
                                    cKD Try.prog 72 [v85_1, v92_1] h fun v93 g =>
                                    (∃ new, g = h ++ new) ∧ (let h := g
                                     k9 v93 h)) (fun v93_1 h =>
                                    vK (pickV v84 (Value.bool true) v93_1) h fun v94 h =>
                                    cnd v94 (
                                     mvK v8 h fun v95 h =>
                                     vK (aFieldAddr Try.prog 76 v11 3) h fun v96 h =>
                                     vK (aLoad Try.prog 3 v96 h) h fun v97 h =>
                                     vK (aIndexAddr Try.prog 108 v95 v97) h fun v98 h =>
                                     okK ((aStore Try.prog 109 v98 v12 h).map (undef, ·)) fun _ h =>
                                     mvK (Value.bool true) h fun v9_4 h =>
                                     k0 [v9_4] h) (
                                     k0 [v9_3] h)) h) h) h) h) h) h) h) h) h))))))))))))))) fun x0 h => ∀ jx0 : Tmps,
             let v9_5 : Value := nth x0 0
             vK (aBin Try.prog BinOp.add 3 v40_1 (Value.int IntKind.i64 1)) h fun v99 h =>
             mvK v99 h fun v40_2 h =>
             I10 [v9_5, v40_2] h ∧ μ10 [v9_5, v40_2] h < μ10 [v9_3, v40_1] h10) (
            I7 [v9_3] h ∧ μ7 [v9_3] h < μ7 [v9_1] h7))) (
          vK (aFieldAddr Try.prog 24 v2 0) h fun v100 h =>
          vK (aLoad Try.prog 3 v100 h) h fun v101 g =>
          VB h.length v101 ∧ (let h := g
           okK (aMakeSlice Try.prog 45 v101 v101 h) fun v102 h =>
           okK (aBuildSlice Try.prog 25 1 [(0, (Value.int IntKind.i64 (-1)))] h) fun v103 h =>
           vK (aFieldAddr Try.prog 24 v2 0) h fun v104 h =>
           vK (aLoad Try.prog 3 v104 h) h fun v105 g =>
           VB h.length v105 ∧ (let h := g
            cKD Try.prog 73 [v103, v105] h fun v106 g =>
            (∃ new, g = h ++ new) ∧ (let h := g
             mvK v102 h fun v13 h =>
             mvK v106 h fun v14 h =>
             mvK v8 h fun v107 h =>
             vK (aLen Try.prog 108 v107) h fun v108 h =>
             mvK (Value.int IntKind.i64 0) h fun v109 h =>
             ∃ (I19 : List Value → Heap → Prop) (μ19 : List Value → Heap → Nat), I19 [v109] h ∧
             ∀ (h19 : Heap) (j19 : Tmps) (v109_1 : Value), I19 [v109_1] h19 → (let h := h19
              vK (aBin Try.prog BinOp.lss 3 v109_1 v108) h fun v110 h =>
              cnd v110 (
               seqK (fun k10 =>
                mvK v109_1 h fun v111 h =>
                vK (aIndexAddr Try.prog 108 v107 v109_1) h fun v112 h =>
                vK (aLoad Try.prog 109 v112 h) h fun v113 h =>
                mvK v111 h fun v15 h =>
                mvK v113 h fun v16 h =>
                mvK v16 h fun v114 h =>
                vK (aBin Try.prog BinOp.neq 109 v114 (Value.pointer none)) h fun v115 h =>
                cnd v115 (
                 mvK v13 h fun v116 h =>
                 mvK v15 h fun v117 h =>
                 mvK v14 h fun v118 h =>
                 mvK v15 h fun v119 h =>
                 mvK v16 h fun v120 h =>
                 vK (nilV v120) h fun v121 h =>
                 vK (aFieldAddr Try.prog 111 v121 1) h fun v122 h =>
                 vK (aLoad Try.prog 25 v122 h) h fun v123 g =>
                 VB h.length v123 ∧ (let h := g
                  mvK v16 h fun v124 h =>
                  vK (nilV v124) h fun v125 h =>
                  vK (aFieldAddr Try.prog 111 v125 0) h fun v126 h =>
                  vK (aLoad Try.prog 3 v126 h) h fun v127 g =>
                  VB h.length v127 ∧ (let h := g
                   vK (aIndexAddr Try.prog 45 v116 v117) h fun v128 h =>
                   okK ((aStore Try.prog 25 v128 v123 h).map (undef, ·)) fun _ h =>
                   (True) ∧ (
                    vK (aIndexAddr Try.prog 25 v118 v119) h fun v129 h =>
                    okK ((aStore Try.prog 3 v129 v127 h).map (undef, ·)) fun _ h =>
                    (True) ∧ (
                     k10 [] h))))) (
                 k10 [] h)) fun x10 h => ∀ jx10 : Tmps,
                vK (aBin Try.prog BinOp.add 3 v109_1 (Value.int IntKind.i64 1)) h fun v130 h =>
                mvK v130 h fun v109_2 h =>
                I19 [v109_2] h ∧ μ19 [v109_2] h < μ19 [v109_1] h19) (
               mvK v13 h fun v131 h =>
               mvK v14 h fun v132 h =>
               mvK v131 h fun v4_2 h =>
               mvK v132 h fun v5_2 h =>
               mvK (Value.int IntKind.i64 0) h fun v6_2 h =>
               retV [some v4_2, some v5_2, some v6_2] R h)))))))))))))
def lv34 (q : Nat) : List Nat := bif Nat.beq q 14 then [1267650600228229401427983736320, 9] else bif Nat.beq q 20 then [1267650600228229400397191585280, 9, 40] else bif Nat.beq q 33 then [633825300114114696350305099264, 9] else bif Nat.beq q 38 then [2722258286330400390853543293142104637440, 109] else bif Nat.beq q 47 then [1361126871535324586439684164478908334080] else []
theorem ok34 : lkOK Try.prog lv34 Try.f34 2 (Try.f34.body.getD .skip) 34 = true := by kernel_rfl
theorem e34 (a0 a1 : Value) (h : Heap) (R : Value → Heap → Prop) : n34 a0 a1 h R = wpK Try.prog lv34 (Try.f34.body.getD .skip) (endK Try.prog [.tmp 4, .tmp 5, .tmp 6] R) (argT [a0, a1]) h := by kernel_rfl
theorem w34 {a0 a1 : Value} {h : Heap} {R : Value → Heap → Prop} (hn : n34 a0 a1 h R) : DetP Try.prog 34 [a0, a1] h R :=
  DetP.of_code (rs := [.tmp 4, .tmp 5, .tmp 6]) (n := 2) Try.func34 (by kernel_rfl) (by kernel_rfl) lv34 ok34 rfl ((e34 a0 a1 h R) ▸ hn)

/-! ### examiner/examinerref38.Cheapest: function 35 -/
def n35 (a0 a1 : Value) (h : Heap) (R : Value → Heap → Prop) : Prop :=
  okK (some (aBox Try.prog 24 a0 h)) fun v2 h =>
  mvK (Value.slice none 0 0) h fun v4 h =>
  mvK (Value.slice none 0 0) h fun v5 h =>
  vK (aFieldAddr Try.prog 24 v2 0) h fun v16 h =>
  vK (aLoad Try.prog 3 v16 h) h fun v17 g =>
  VB h.length v17 ∧ (let h := g
   okK (aMakeSlice Try.prog 45 v17 v17 h) fun v18 h =>
   vK (aFieldAddr Try.prog 24 v2 0) h fun v19 h =>
   vK (aLoad Try.prog 3 v19 h) h fun v20 g =>
   VB h.length v20 ∧ (let h := g
    okK (aMakeSlice Try.prog 25 v20 v20 h) fun v21 h =>
    mvK v18 h fun v6 h =>
    mvK v21 h fun v7 h =>
    vK (aFieldAddr Try.prog 24 v2 0) h fun v22 h =>
    vK (aLoad Try.prog 3 v22 h) h fun v23 h =>
    okK (aMakeSlice Try.prog 48 v23 v23 h) fun v24 h =>
    mvK v24 h fun v8 h =>
    mvK (Value.int IntKind.i64 0) h fun v9 h =>
    ∃ (I4 : List Value → Heap → Prop) (μ4 : List Value → Heap → Nat), I4 [v9] h ∧
    ∀ (h4 : Heap) (j4 : Tmps) (v9_1 : Value), I4 [v9_1] h4 → (let h := h4
     mvK v9_1 h fun v25 h =>
     vK (aFieldAddr Try.prog 24 v2 0) h fun v26 h =>
     vK (aLoad Try.prog 3 v26 h) h fun v27 h =>
     vK (aBin Try.prog BinOp.lss 3 v25 v27) h fun v28 h =>
     cnd v28 (
      mvK v7 h fun v31 h =>
      mvK v9_1 h fun v32 h =>
      vK (aIndexAddr Try.prog 25 v31 v32) h fun v33 h =>
      okK ((aStore Try.prog 3 v33 (Value.int IntKind.i64 (-1)) h).map (undef, ·)) fun _ h =>
      mvK v9_1 h fun v29 h =>
      vK (aBin Try.prog BinOp.add 3 v29 (Value.int IntKind.i64 1)) h fun v30 h =>
      mvK v30 h fun v9_2 h =>
      I4 [v9_2] h ∧ μ4 [v9_2] h < μ4 [v9_1] h4) (
      mvK v7 h fun v34 h =>
      vK (aFieldAddr Try.prog 24 v2 3) h fun v35 h =>
      vK (aLoad Try.prog 3 v35 h) h fun v36 h =>
      vK (aIndexAddr Try.prog 25 v34 v36) h fun v37 h =>
      okK ((aStore Try.prog 3 v37 (Value.int IntKind.i64 0) h).map (undef, ·)) fun _ h =>
      mvK (Value.int IntKind.i64 0) h fun v10 h =>
      ∃ (I9 : List Value → Heap → Prop) (μ9 : List Value → Heap → Nat), I9 [v10] h ∧
      ∀ (h9 : Heap) (j9 : Tmps) (v10_1 : Value), I9 [v10_1] h9 → (let h := h9
       mvK v10_1 h fun v38 h =>
       vK (aFieldAddr Try.prog 24 v2 0) h fun v39 h =>
       vK (aLoad Try.prog 3 v39 h) h fun v40 h =>
       vK (aBin Try.prog BinOp.lss 3 v38 v40) h fun v41 h =>
       cnd v41 (
        mvK (Value.int IntKind.i64 (-1)) h fun v11 h =>
        mvK (Value.int IntKind.i64 0) h fun v12 h =>
        ∃ (I13 : List Value → Heap → Prop) (μ13 : List Value → Heap → Nat), I13 [v11, v12] h ∧
        ∀ (h13 : Heap) (j13 : Tmps) (v11_1 : Value) (v12_1 : Value), I13 [v11_1, v12_1] h13 → (let h := h13
         mvK v12_1 h fun v44 h =>
         vK (aFieldAddr Try.prog 24 v2 0) h fun v45 h =>
         vK (aLoad Try.prog 3 v45 h) h fun v46 h =>
         vK (aBin Try.prog BinOp.lss 3 v44 v46) h fun v47 h =>
         cnd v47 (
          seqK (fun k0 =>
           mvK v7 h fun v50 h =>
           mvK v12_1 h fun v51 h =>
           vK (aIndexAddr Try.prog 25 v50 v51) h fun v52 h =>
           vK (aLoad Try.prog 3 v52 h) h fun v53 g =>
           VB h.length v53 ∧ (let h := g
            vK (aBin Try.prog BinOp.neq 3 v53 (Value.int IntKind.i64 (-1))) h fun v54 h =>
            mvK v54 h fun v55 h =>
            gdK v55 true (fun k1 =>
             mvK v8 h fun v56 h =>
             k1 v56 h) (fun v56_1 h =>
             gdK v55 true (fun k2 =>
              mvK v12_1 h fun v57 h =>
              k2 v57 h) (fun v57_1 h =>
              gdK v55 true (fun k3 =>
               vK (aIndexAddr Try.prog 48 v56_1 v57_1) h fun v58 h =>
               k3 v58 h) (fun v58_1 h =>
               gdK v55 true (fun k4 =>
                vK (aLoad Try.prog 4 v58_1 h) h fun v59 g =>
                VB h.length v59 ∧ (let h := g
                 k4 v59 h)) (fun v59_1 h =>
                gdK v55 true (fun k5 =>
                 vK (aUn UnOp.not v59_1) h fun v60 h =>
                 k5 v60 h) (fun v60_1 h =>
                 vK (pickV v55 v60_1 (Value.bool false)) h fun v61 h =>
                 mvK v61 h fun v62 h =>
                 gdK v62 true (fun k6 =>
                  mvK v11_1 h fun v63 h =>
                  k6 v63 h) (fun v63_1 h =>
                  gdK v62 true (fun k7 =>
                   vK (aBin Try.prog BinOp.eql 3 v63_1 (Value.int IntKind.i64 (-1))) h fun v64 h =>
                   k7 v64 h) (fun v64_1 h =>
                   gdK v62 true (fun k8 =>
                    mvK v64_1 h fun v65 h =>
                    k8 v65 h) (fun v65_1 h =>
                    gdK v65_1 false (fun k9 =>
                     mvK v7 h fun v66 h =>
                     k9 v66 h) (fun v66_1 h =>
                     gdK v65_1 false (fun k10 =>
                      mvK v12_1 h fun v67 h =>
                      k10 v67 h) (fun v67_1 h =>
                      gdK v65_1 false (fun k11 =>
                       vK (aIndexAddr Try.prog 25 v66_1 v67_1) h fun v68 h =>
                       k11 v68 h) (fun v68_1 h =>
                       gdK v65_1 false (fun k12 =>
                        vK (aLoad Try.prog 3 v68_1 h) h fun v69 g =>
                        VB h.length v69 ∧ (let h := g
                         k12 v69 h)) (fun v69_1 h =>
                        gdK v65_1 false (fun k13 =>
                         mvK v6 h fun v70 h =>
                         k13 v70 h) (fun v70_1 h =>
                         gdK v65_1 false (fun k14 =>
                          mvK v12_1 h fun v71 h =>
                          k14 v71 h) (fun v71_1 h =>
                          gdK v65_1 false (fun k15 =>
                           vK (aIndexAddr Try.prog 45 v70_1 v71_1) h fun v72 h =>
                           k15 v72 h) (fun v72_1 h =>
                           gdK v65_1 false (fun k16 =>
                            vK (aLoad Try.prog 25 v72_1 h) h fun v73 g =>
                            VB h.length v73 ∧ (let h := g
                             k16 v73 h)) (fun v73_1 h =>
                            gdK v65_1 false (fun k17 =>
                             mvK v7 h fun v74 h =>
                             k17 v74 h) (fun v74_1 h =>
                             gdK v65_1 false (fun k18 =>
                              mvK v11_1 h fun v75 h =>
                              k18 v75 h) (fun v75_1 h =>
                              gdK v65_1 false (fun k19 =>
                               vK (aIndexAddr Try.prog 25 v74_1 v75_1) h fun v76 h =>
                               k19 v76 h) (fun v76_1 h =>
                               gdK v65_1 false (fun k20 =>
                                vK (aLoad Try.prog 3 v76_1 h) h fun v77 g =>
                                VB h.length v77 ∧ (let h := g
                                 k20 v77 h)) (fun v77_1 h =>
                                gdK v65_1 false (fun k21 =>
                                 mvK v6 h fun v78 h =>
                                 k21 v78 h) (fun v78_1 h =>
                                 gdK v65_1 false (fun k22 =>
                                  mvK v11_1 h fun v79 h =>
                                  k22 v79 h) (fun v79_1 h =>
                                  gdK v65_1 false (fun k23 =>
                                   vK (aIndexAddr Try.prog 45 v78_1 v79_1) h fun v80 h =>
                                   k23 v80 h) (fun v80_1 h =>
                                   gdK v65_1 false (fun k24 =>
                                    vK (aLoad Try.prog 25 v80_1 h) h fun v81 g =>
                                    VB h.length v81 ∧ (let h := g
                                     k24 v81 h)) (fun v81_1 h =>
                                    gdK v65_1 false (fun k25 =>
                                     cKD Try.prog 74 [v69_1, v73_1, v77_1, v81_1] h fun v82 g =>
                                     (∃ new, g = h ++ new) ∧ (let h := g
                                      k25 v82 h)) (fun v82_1 h =>
                                     gdK v62 true (fun k26 =>
                                      vK (pickV v65_1 (Value.bool true) v82_1) h fun v83 h =>
                                      k26 v83 h) (fun v83_1 h =>
                                      vK (pickV v62 v83_1 (Value.bool false)) h fun v84 h =>
                                      cnd v84 (
                                       mvK v12_1 h fun v85 h =>
                                       mvK v85 h fun v11_2 h =>
                                       k0 [v11_2] h) (
                                       k0 [v11_1] h)) h) h) h) h) h) h) h) h) h) h) h) h) h) h) h) h) h) h) h) h) h) h) h) h) h) h)) fun x0 h => ∀ jx0 : Tmps,
           let v11_3 : Value := nth x0 0
           mvK v12_1 h fun v48 h =>
           vK (aBin Try.prog BinOp.add 3 v48 (Value.int IntKind.i64 1)) h fun v49 h =>
           mvK v49 h fun v12_2 h =>
           I13 [v11_3, v12_2] h ∧ μ13 [v11_3, v12_2] h < μ13 [v11_1, v12_1] h13) (
          mvK v11_1 h fun v86 h =>
          vK (aBin Try.prog BinOp.eql 3 v86 (Value.int IntKind.i64 (-1))) h fun v87 h =>
          cnd v87 (
           mvK v6 h fun v88 h =>
           mvK v7 h fun v89 h =>
           mvK v88 h fun v4_1 h =>
           mvK v89 h fun v5_1 h =>
           retV [some v4_1, some v5_1] R h) (
           mvK v8 h fun v90 h =>
           mvK v11_1 h fun v91 h =>
           vK (aIndexAddr Try.prog 48 v90 v91) h fun v92 h =>
           okK ((aStore Try.prog 4 v92 (Value.bool true) h).map (undef, ·)) fun _ h =>
           mvK (Value.int IntKind.i64 0) h fun v13 h =>
           ∃ (I21 : List Value → Heap → Prop) (μ21 : List Value → Heap → Nat), I21 [v13] h ∧
           ∀ (h21 : Heap) (j21 : Tmps) (v13_1 : Value), I21 [v13_1] h21 → (let h := h21
            mvK v13_1 h fun v93 h =>
            vK (aFieldAddr Try.prog 24 v2 4) h fun v94 h =>
            vK (aLoad Try.prog 22 v94 h) h fun v95 h =>
            vK (aLen Try.prog 22 v95) h fun v96 h =>
            vK (aBin Try.prog BinOp.lss 3 v93 v96) h fun v97 h =>
            cnd v97 (
             seqK (fun k27 =>
              vK (aFieldAddr Try.prog 24 v2 4) h fun v100 h =>
              vK (aLoad Try.prog 22 v100 h) h fun v101 h =>
              mvK v13_1 h fun v102 h =>
              vK (aIndexAddr Try.prog 22 v101 v102) h fun v103 h =>
              vK (aLoad Try.prog 76 v103 h) h fun v104 h =>
              okK (aAlloc Try.prog 76 h) fun v14 h =>
              okK ((aStore Try.prog 76 v14 v104 h).map (undef, ·)) fun _ h =>
              mvK v6 h fun v105 h =>
              mvK v11_1 h fun v106 h =>
              vK (aIndexAddr Try.prog 45 v105 v106) h fun v107 h =>
              vK (aLoad Try.prog 25 v107 h) h fun v108 g =>
              VB h.length v108 ∧ (let h := g
               cKD Try.prog 17 [v108] h fun v109 g =>
               (∃ new, g = h ++ new) ∧ (let h := g
                vK (aFieldAddr Try.prog 76 v14 1) h fun v110 h =>
                vK (aLoad Try.prog 3 v110 h) h fun v111 g =>
                VB h.length v111 ∧ (let h := g
                 okK (aBuildSlice Try.prog 25 1 [(0, v111)] h) fun v112 h =>
                 okK (aAppend Try.prog 25 25 v109 v112 h) fun v113 h =>
                 (True) ∧ (
                  mvK v113 h fun v15 h =>
                  vK (aFieldAddr Try.prog 76 v14 0) h fun v114 h =>
                  vK (aLoad Try.prog 3 v114 h) h fun v115 g =>
                  VB h.length v115 ∧ (let h := g
                   mvK v11_1 h fun v116 h =>
                   vK (aBin Try.prog BinOp.eql 3 v115 v116) h fun v117 h =>
                   mvK v117 h fun v118 h =>
                   gdK v118 true (fun k28 =>
                    mvK v7 h fun v119 h =>
                    k28 v119 h) (fun v119_1 h =>
                    gdK v118 true (fun k29 =>
                     vK (aFieldAddr Try.prog 76 v14 3) h fun v120 h =>
                     k29 v120 h) (fun v120_1 h =>
                     gdK v118 true (fun k30 =>
                      vK (aLoad Try.prog 3 v120_1 h) h fun v121 g =>
                      VB h.length v121 ∧ (let h := g
                       k30 v121 h)) (fun v121_1 h =>
                      gdK v118 true (fun k31 =>
                       vK (aIndexAddr Try.prog 25 v119_1 v121_1) h fun v122 h =>
                       k31 v122 h) (fun v122_1 h =>
                       gdK v118 true (fun k32 =>
                        vK (aLoad Try.prog 3 v122_1 h) h fun v123 g =>
                        VB h.length v123 ∧ (let h := g
                         k32 v123 h)) (fun v123_1 h =>
                        gdK v118 true (fun k33 =>
                         vK (aBin Try.prog BinOp.eql 3 v123_1 (Value.int IntKind.i64 (-1))) h fun v124 h =>
                         k33 v124 h) (fun v124_1 h =>
                         gdK v118 true (fun k34 =>
                          mvK v124_1 h fun v125 h =>
                          k34 v125 h) (fun v125_1 h =>
                          gdK v125_1 false (fun k35 =>
                           mvK v7 h fun v126 h =>
                           k35 v126 h) (fun v126_1 h =>
                           gdK v125_1 false (fun k36 =>
                            mvK v11_1 h fun v127 h =>
                            k36 v127 h) (fun v127_1 h =>
                            gdK v125_1 false (fun k37 =>
                             vK (aIndexAddr Try.prog 25 v126_1 v127_1) h fun v128 h =>
                             k37 v128 h) (fun v128_1 h =>
                             gdK v125_1 false (fun k38 =>
                              vK (aLoad Try.prog 3 v128_1 h) h fun v129 g =>
                              VB h.length v129 ∧ (let h := g
                               k38 v129 h)) (fun v129_1 h =>
                              gdK v125_1 false (fun k39 =>
                               mvK a1 h fun v130 h =>
                               k39 v130 h) (fun v130_1 h =>
                               gdK v125_1 false (fun k40 =>
                                mvK v13_1 h fun v131 h =>
                                k40 v131 h) (fun v131_1 h =>
                                gdK v125_1 false (fun k41 =>
                                 vK (aIndexAddr Try.prog 25 v130_1 v131_1) h fun v132 h =>
                                 k41 v132 h) (fun v132_1 h =>
                                 gdK v125_1 false (fun k42 =>
                                  vK (aLoad Try.prog 3 v132_1 h) h fun v133 g =>
                                  VB h.length v133 ∧ (let h := g
                                   k42 v133 h)) (fun v133_1 h =>
                                  gdK v125_1 false (fun k43 =>
                                   vK (aBin Try.prog BinOp.add 3 v129_1 v133_1) h fun v134 h =>
                                   k43 v134 h) (fun v134_1 h =>
                                   gdK v125_1 false (fun k44 =>
                                    mvK v15 h fun v135 h =>
                                    k44 v135 h) (fun v135_1 h =>
                                    gdK v125_1 false (fun k45 =>
                                     mvK v7 h fun v136 h =>
                                     k45 v136 h) (fun v136_1 h =>
                                     gdK v125_1 false (fun k46 =>
                                      vK (aFieldAddr Try.prog 76 v14 3) h fun v137 h =>
                                      k46 v137 h) (fun v137_1 h =>
                                      gdK v125_1 false (fun k47 =>
                                       vK (aLoad Try.prog 3 v137_1 h) h fun v138 g =>
                                       VB h.length v138 ∧ (let h := g
                                        k47 v138 h)) (fun v138_1 h =>
                                       gdK v125_1 false (fun k48 =>
                                        vK (aIndexAddr Try.prog 25 v136_1 v138_1) h fun v139 h =>
                                        k48 v139 h) (fun v139_1 h =>
                                        gdK v125_1 false (fun k49 =>
                                         vK (aLoad Try.prog 3 v139_1 h) h fun v140 g =>
                                         VB h.length v140 ∧ (let h := g
                                          k49 v140 h)) (fun v140_1 h =>
                                         gdK v125_1 false (fun k50 =>
                                          mvK v6 h fun v141 h =>
                                          k50 v141 h) (fun v141_1 h =>
                                          gdK v125_1 false (fun k51 =>
                                           vK (aFieldAddr Try.prog 76 v14 3) h fun v142 h =>
                                           k51 v142 h) (fun v142_1 h =>
                                           gdK v125_1 false (fun k52 =>
                                            vK (aLoad Try.prog 3 v142_1 h) h fun v143 g =>
                                            VB h.length v143 ∧ (let h := g
                                             k52 v143 h)) (fun v143_1 h =>
                                            gdK v125_1 false (fun k53 =>
                                             vK (aIndexAddr Try.prog 45 v141_1 v143_1) h fun v144 h =>
                                             k53 v144 h) (fun v144_1 h =>
                                             gdK v125_1 false (fun k54 =>
                                              vK (aLoad Try.prog 25 v144_1 h) h fun v145 g =>
                                              VB h.length v145 ∧ (let h := g
                                               k54 v145 h)) (fun v145_1 h =>
                                              gdK v125_1 false (fun k55 =>
                                               cKD Try.prog 74 [v134_1, v135_1, v140_1, v145_1] h fun v146 g =>
                                               (∃ new, g = h ++ new) ∧ (let h := g
                                                k55 v146 h)) (fun v146_1 h =>
                                               gdK v118 true (fun k56 =>
                                                vK (pickV v125_1 (Value.bool true) v146_1) h fun v147 h =>
                                                k56 v147 h) (fun v147_1 h =>
                                                vK (pickV v118 v147_1 (Value.bool false)) h fun v148 h =>
                                                cnd v148 (
                                                 mvK v7 h fun v149 h =>
                                                 vK (aFieldAddr Try.prog 76 v14 3) h fun v150 h =>
                                                 vK (aLoad Try.prog 3 v150 h) h fun v151 g =>
                                                 VB h.length v151 ∧ (let h := g
                                                  mvK v6 h fun v152 h =>
                                                  vK (aFieldAddr Try.prog 76 v14 3) h fun v153 h =>
                                                  vK (aLoad Try.prog 3 v153 h) h fun v154 g =>
                                                  VB h.length v154 ∧ (let h := g
                                                   mvK v7 h fun v155 h =>
                                                   mvK v11_1 h fun v156 h =>
                                                   vK (aIndexAddr Try.prog 25 v155 v156) h fun v157 h =>
                                                   vK (aLoad Try.prog 3 v157 h) h fun v158 g =>
                                                   VB h.length v158 ∧ (let h := g
                                                    mvK a1 h fun v159 h =>
                                                    mvK v13_1 h fun v160 h =>
                                                    vK (aIndexAddr Try.prog 25 v159 v160) h fun v161 h =>
                                                    vK (aLoad Try.prog 3 v161 h) h fun v162 g =>
                                                    VB h.length v162 ∧ (let h := g
                                                     vK (aBin Try.prog BinOp.add 3 v158 v162) h fun v163 h =>
                                                     mvK v15 h fun v164 h =>
                                                     vK (aIndexAddr Try.prog 25 v149 v151) h fun v165 h =>
                                                     okK ((aStore Try.prog 3 v165 v163 h).map (undef, ·)) fun _ h =>
                                                     ((aLoad Try.prog 3 v153 h).map (·, h) = some (v154, h) ∧ True) ∧ (
                                                      vK (aIndexAddr Try.prog 45 v152 v154) h fun v166 h =>
                                                      okK ((aStore Try.prog 25 v166 v164 h).map (undef, ·)) fun _ h =>
                                                      (True) ∧ (
                                                       k27 [] h))))))) (
                                                 k27 [] h)) h) h) h) h) h) h) h) h) h) h) h) h) h) h) h) h) h) h) h) h) h) h) h) h) h) h) h) h) h)))))) fun x27 h => ∀ jx27 : Tmps,
              mvK v13_1 h fun v98 h =>
              vK (aBin Try.prog BinOp.add 3 v98 (Value.int IntKind.i64 1)) h fun v99 h =>
              mvK v99 h fun v13_2 h =>
              I21 [v13_2] h ∧ μ21 [v13_2] h < μ21 [v13_1] h21) (
             mvK v10_1 h fun v42 h =>
             vK (aBin Try.prog BinOp.add 3 v42 (Value.int IntKind.i64 1)) h fun v43 h =>
             mvK v43 h fun v10_2 h =>
             I9 [v10_2] h ∧ μ9 [v10_2] h < μ9 [v10_1] h9)))))) (
        mvK v6 h fun v167 h =>
        mvK v7 h fun v168 h =>
        mvK v167 h fun v4_2 h =>
        mvK v168 h fun v5_2 h =>
        retV [some v4_2, some v5_2] R h))))))
def lv35 (q : Nat) : List Nat := bif Nat.beq q 8 then [17146315264, 9] else bif Nat.beq q 18 then [187072209578355573530071658587684226515684487658544, 10] else bif Nat.beq q 26 then [77371252455318674995156992, 11, 12] else bif Nat.beq q 29 then [77371252454210367274354688, 11] else bif Nat.beq q 42 then [187072209578355573530061755067369943473760172564480, 13] else bif Nat.beq q 45 then [187072209578355573528804007987455997114462662344704] else []
theorem ok35 : lkOK Try.prog lv35 Try.f35 2 (Try.f35.body.getD .skip) 35 = true := by kernel_rfl
theorem e35 (a0 a1 : Value) (h : Heap) (R : Value → Heap → Prop) : n35 a0 a1 h R = wpK Try.prog lv35 (Try.f35.body.getD .skip) (endK Try.prog [.tmp 4, .tmp 5] R) (argT [a0, a1]) h := by kernel_rfl
theorem w35 {a0 a1 : Value} {h : Heap} {R : Value → Heap → Prop} (hn : n35 a0 a1 h R) : DetP Try.prog 35 [a0, a1] h R :=
  DetP.of_code (rs := [.tmp 4, .tmp 5]) (n := 2) Try.func35 (by kernel_rfl) (by kernel_rfl) lv35 ok35 rfl ((e35 a0 a1 h R) ▸ hn)

/-! ### examiner/cover.wordsErr: function 67 -/
def n67 (a0 a1 : Value) (h : Heap) (R : Value → Heap → Prop) : Prop :=
  okK (some (aBox Try.prog 24 a0 h)) fun v2 h =>
  mvK (Value.int IntKind.i64 0) h fun v4 h =>
  mvK a1 h fun v8 h =>
  vK (aLen Try.prog 45 v8) h fun v9 h =>
  vK (aBin Try.prog BinOp.gtr 3 v9 (Value.int IntKind.i64 80)) h fun v10 h =>
  cnd v10 (
   mvK (Value.int IntKind.i64 2) h fun v4_1 h =>
   retV [some v4_1] R h) (
   mvK a1 h fun v11 h =>
   vK (aLen Try.prog 45 v11) h fun v12 h =>
   mvK (Value.int IntKind.i64 0) h fun v13 h =>
   ∃ (I4 : List Value → Heap → Prop) (μ4 : List Value → Heap → Nat), I4 [v13] h ∧
   ∀ (h4 : Heap) (j4 : Tmps) (v13_1 : Value), I4 [v13_1] h4 → (let h := h4
    vK (aBin Try.prog BinOp.lss 3 v13_1 v12) h fun v14 h =>
    cnd v14 (
     vK (aIndexAddr Try.prog 45 v11 v13_1) h fun v15 h =>
     vK (aLoad Try.prog 25 v15 h) h fun v16 h =>
     mvK v16 h fun v6 h =>
     vK (aLoad Try.prog 24 v2 h) h fun v17 h =>
     mvK v6 h fun v18 h =>
     cK Try.prog 53 [v17, v18] h fun v19 h =>
     mvK v19 h fun v7 h =>
     mvK v7 h fun v20 h =>
     vK (aBin Try.prog BinOp.neq 29 v20 (Value.int IntKind.i64 0)) h fun v21 h =>
     cnd v21 (
      mvK v7 h fun v22 h =>
      mvK v22 h fun v4_2 h =>
      retV [some v4_2] R h) (
      vK (aBin Try.prog BinOp.add 3 v13_1 (Value.int IntKind.i64 1)) h fun v23 h =>
      mvK v23 h fun v13_2 h =>
      I4 [v13_2] h ∧ μ4 [v13_2] h < μ4 [v13_1] h4)) (
     mvK (Value.int IntKind.i64 0) h fun v4_3 h =>
     retV [some v4_3] R h)))
def lv67 (q : Nat) : List Nat := bif Nat.beq q 8 then [16769232, 13] else []
theorem ok67 : lkOK Try.prog lv67 Try.f67 2 (Try.f67.body.getD .skip) 67 = true := by kernel_rfl
theorem e67 (a0 a1 : Value) (h : Heap) (R : Value → Heap → Prop) : n67 a0 a1 h R = wpK Try.prog lv67 (Try.f67.body.getD .skip) (endK Try.prog [.tmp 4] R) (argT [a0, a1]) h := by kernel_rfl
theorem w67 {a0 a1 : Value} {h : Heap} {R : Value → Heap → Prop} (hn : n67 a0 a1 h R) : DetP Try.prog 67 [a0, a1] h R :=
  DetP.of_code (rs := [.tmp 4]) (n := 2) Try.func67 (by kernel_rfl) (by kernel_rfl) lv67 ok67 rfl ((e67 a0 a1 h R) ▸ hn)

/-! ### slices.Clone[[]int,int]: function 71 -/
def n71 (a0 : Value) (h : Heap) (R : Value → Heap → Prop) : Prop :=
  mvK (Value.slice none 0 0) h fun v2 h =>
  mvK a0 h fun v3 h =>
  vK (aBin Try.prog BinOp.eql 25 v3 (Value.slice none 0 0)) h fun v4 h =>
  cnd v4 (
   mvK (Value.slice none 0 0) h fun v2_1 h =>
   retV [some v2_1] R h) (
   okK (aBuildSlice Try.prog 25 0 [] h) fun v5 h =>
   mvK a0 h fun v6 h =>
   okK (aAppend Try.prog 25 25 v5 v6 h) fun v7 h =>
   mvK v7 h fun v2_2 h =>
   retV [some v2_2] R h)
def lv71 (q : Nat) : List Nat := []
theorem ok71 : lkOK Try.prog lv71 Try.f71 1 (Try.f71.body.getD .skip) 71 = true := by kernel_rfl
theorem e71 (a0 : Value) (h : Heap) (R : Value → Heap → Prop) : n71 a0 h R = wpK Try.prog lv71 (Try.f71.body.getD .skip) (endK Try.prog [.tmp 2] R) (argT [a0]) h := by kernel_rfl
theorem w71 {a0 : Value} {h : Heap} {R : Value → Heap → Prop} (hn : n71 a0 h R) : DetP Try.prog 71 [a0] h R :=
  DetP.of_code (rs := [.tmp 2]) (n := 1) Try.func71 (by kernel_rfl) (by kernel_rfl) lv71 ok71 rfl ((e71 a0 h R) ▸ hn)

/-! ### (examiner/cover.way).less: function 72 -/
def n72 (a0 a1 : Value) (h : Heap) (R : Value → Heap → Prop) : Prop :=
  okK (some (aBox Try.prog 111 a0 h)) fun v2 h =>
  okK (some (aBox Try.prog 111 a1 h)) fun v3 h =>
  mvK (Value.bool false) h fun v4 h =>
  vK (aFieldAddr Try.prog 111 v2 0) h fun v5 h =>
  vK (aLoad Try.prog 3 v5 h) h fun v6 g =>
  VB h.length v6 ∧ (let h := g
   vK (aFieldAddr Try.prog 111 v3 0) h fun v7 h =>
   vK (aLoad Try.prog 3 v7 h) h fun v8 g =>
   VB h.length v8 ∧ (let h := g
    cKD Try.prog 94 [v6, v8] h fun v9 g =>
    (∃ new, g = h ++ new) ∧ (let h := g
     vK (aFieldAddr Try.prog 111 v2 1) h fun v10 h =>
     vK (aLoad Try.prog 25 v10 h) h fun v11 g =>
     VB h.length v11 ∧ (let h := g
      vK (aLen Try.prog 25 v11) h fun v12 h =>
      vK (aFieldAddr Try.prog 111 v3 1) h fun v13 h =>
      vK (aLoad Try.prog 25 v13 h) h fun v14 g =>
      VB h.length v14 ∧ (let h := g
       vK (aLen Try.prog 25 v14) h fun v15 h =>
       cKD Try.prog 94 [v12, v15] h fun v16 g =>
       (∃ new, g = h ++ new) ∧ (let h := g
        vK (aFieldAddr Try.prog 111 v2 1) h fun v17 h =>
        vK (aLoad Try.prog 25 v17 h) h fun v18 g =>
        VB h.length v18 ∧ (let h := g
         vK (aFieldAddr Try.prog 111 v3 1) h fun v19 h =>
         vK (aLoad Try.prog 25 v19 h) h fun v20 g =>
         VB h.length v20 ∧ (let h := g
          cKD Try.prog 95 [v18, v20] h fun v21 g =>
          (∃ new, g = h ++ new) ∧ (let h := g
           okK (aBuildSlice Try.prog 25 3 [(0, v9), (1, v16), (2, v21)] h) fun v22 h =>
           cKD Try.prog 93 [v22] h fun v23 g =>
           (∃ new, g = h ++ new) ∧ (let h := g
            vK (aBin Try.prog BinOp.lss 3 v23 (Value.int IntKind.i64 0)) h fun v24 h =>
            mvK v24 h fun v4_1 h =>
            retV [some v4_1] R h))))))))))
def lv72 (q : Nat) : List Nat := []
theorem ok72 : lkOK Try.prog lv72 Try.f72 2 (Try.f72.body.getD .skip) 72 = true := by kernel_rfl
theorem e72 (a0 a1 : Value) (h : Heap) (R : Value → Heap → Prop) : n72 a0 a1 h R = wpK Try.prog lv72 (Try.f72.body.getD .skip) (endK Try.prog [.tmp 4] R) (argT [a0, a1]) h := by kernel_rfl
theorem w72 {a0 a1 : Value} {h : Heap} {R : Value → Heap → Prop} (hn : n72 a0 a1 h R) : DetP Try.prog 72 [a0, a1] h R :=
  DetP.of_code (rs := [.tmp 4]) (n := 2) Try.func72 (by kernel_rfl) (by kernel_rfl) lv72 ok72 rfl ((e72 a0 a1 h R) ▸ hn)

/-! ### examiner/examinerref38.better: function 74 -/
def n74 (a0 a1 a2 a3 : Value) (h : Heap) (R : Value → Heap → Prop) : Prop :=
  mvK (Value.bool false) h fun v8 h =>
  mvK a0 h fun v9 h =>
  mvK a2 h fun v10 h =>
  vK (aBin Try.prog BinOp.neq 3 v9 v10) h fun v11 h =>
  mvK v11 h fun v12 h =>
  gdK v12 false (fun k0 =>
   mvK a1 h fun v13 h =>
   k0 v13 h) (fun v13_1 h =>
   gdK v12 false (fun k1 =>
    vK (aLen Try.prog 25 v13_1) h fun v14 h =>
    k1 v14 h) (fun v14_1 h =>
    gdK v12 false (fun k2 =>
     mvK a3 h fun v15 h =>
     k2 v15 h) (fun v15_1 h =>
     gdK v12 false (fun k3 =>
      vK (aLen Try.prog 25 v15_1) h fun v16 h =>
      k3 v16 h) (fun v16_1 h =>
      gdK v12 false (fun k4 =>
       vK (aBin Try.prog BinOp.neq 3 v14_1 v16_1) h fun v17 h =>
       k4 v17 h) (fun v17_1 h =>
       vK (pickV v12 (Value.bool true) v17_1) h fun v18 h =>
       cnd v18 (
        mvK a0 h fun v19 h =>
        mvK a2 h fun v20 h =>
        vK (aBin Try.prog BinOp.lss 3 v19 v20) h fun v21 h =>
        mvK v21 h fun v22 h =>
        gdK v22 false (fun k5 =>
         mvK a0 h fun v23 h =>
         k5 v23 h) (fun v23_1 h =>
         gdK v22 false (fun k6 =>
          mvK a2 h fun v24 h =>
          k6 v24 h) (fun v24_1 h =>
          gdK v22 false (fun k7 =>
           vK (aBin Try.prog BinOp.eql 3 v23_1 v24_1) h fun v25 h =>
           k7 v25 h) (fun v25_1 h =>
           gdK v22 false (fun k8 =>
            mvK v25_1 h fun v26 h =>
            k8 v26 h) (fun v26_1 h =>
            gdK v26_1 true (fun k9 =>
             mvK a1 h fun v27 h =>
             k9 v27 h) (fun v27_1 h =>
             gdK v26_1 true (fun k10 =>
              vK (aLen Try.prog 25 v27_1) h fun v28 h =>
              k10 v28 h) (fun v28_1 h =>
              gdK v26_1 true (fun k11 =>
               mvK a3 h fun v29 h =>
               k11 v29 h) (fun v29_1 h =>
               gdK v26_1 true (fun k12 =>
                vK (aLen Try.prog 25 v29_1) h fun v30 h =>
                k12 v30 h) (fun v30_1 h =>
                gdK v26_1 true (fun k13 =>
                 vK (aBin Try.prog BinOp.lss 3 v28_1 v30_1) h fun v31 h =>
                 k13 v31 h) (fun v31_1 h =>
                 gdK v22 false (fun k14 =>
                  vK (pickV v26_1 v31_1 (Value.bool false)) h fun v32 h =>
                  k14 v32 h) (fun v32_1 h =>
                  vK (pickV v22 (Value.bool true) v32_1) h fun v33 h =>
                  mvK v33 h fun v8_1 h =>
                  retV [some v8_1] R h) h) h) h) h) h) h) h) h) h) h) (
        mvK a1 h fun v34 h =>
        mvK a3 h fun v35 h =>
        cK Try.prog 92 [v34, v35] h fun v36 h =>
        vK (aBin Try.prog BinOp.lss 3 v36 (Value.int IntKind.i64 0)) h fun v37 h =>
        mvK v37 h fun v8_2 h =>
        retV [some v8_2] R h)) h) h) h) h) h
def lv74 (q : Nat) : List Nat := []
theorem ok74 : lkOK Try.prog lv74 Try.f74 4 (Try.f74.body.getD .skip) 74 = true := by kernel_rfl
theorem e74 (a0 a1 a2 a3 : Value) (h : Heap) (R : Value → Heap → Prop) : n74 a0 a1 a2 a3 h R = wpK Try.prog lv74 (Try.f74.body.getD .skip) (endK Try.prog [.tmp 8] R) (argT [a0, a1, a2, a3]) h := by kernel_rfl
theorem w74 {a0 a1 a2 a3 : Value} {h : Heap} {R : Value → Heap → Prop} (hn : n74 a0 a1 a2 a3 h R) : DetP Try.prog 74 [a0, a1, a2, a3] h R :=
  DetP.of_code (rs := [.tmp 8]) (n := 4) Try.func74 (by kernel_rfl) (by kernel_rfl) lv74 ok74 rfl ((e74 a0 a1 a2 a3 h R) ▸ hn)

/-! ### slices.Compare[[]int,int]: function 95 -/
def n95 (a0 a1 : Value) (h : Heap) (R : Value → Heap → Prop) : Prop :=
  mvK (Value.int IntKind.i64 0) h fun v4 h =>
  mvK a0 h fun v9 h =>
  vK (aLen Try.prog 25 v9) h fun v10 h =>
  mvK (Value.int IntKind.i64 0) h fun v11 h =>
  ∃ (I2 : List Value → Heap → Prop) (μ2 : List Value → Heap → Nat), I2 [v11] h ∧
  ∀ (h2 : Heap) (j2 : Tmps) (v11_1 : Value), I2 [v11_1] h2 → (let h := h2
   vK (aBin Try.prog BinOp.lss 3 v11_1 v10) h fun v12 h =>
   cnd v12 (
    mvK v11_1 h fun v13 h =>
    vK (aIndexAddr Try.prog 25 v9 v11_1) h fun v14 h =>
    vK (aLoad Try.prog 3 v14 h) h fun v15 h =>
    mvK v13 h fun v5 h =>
    mvK v15 h fun v6 h =>
    mvK v5 h fun v16 h =>
    mvK a1 h fun v17 h =>
    vK (aLen Try.prog 25 v17) h fun v18 h =>
    vK (aBin Try.prog BinOp.geq 3 v16 v18) h fun v19 h =>
    cnd v19 (
     mvK (Value.int IntKind.i64 1) h fun v4_1 h =>
     retV [some v4_1] R h) (
     mvK a1 h fun v20 h =>
     mvK v5 h fun v21 h =>
     vK (aIndexAddr Try.prog 25 v20 v21) h fun v22 h =>
     vK (aLoad Try.prog 3 v22 h) h fun v23 h =>
     mvK v23 h fun v7 h =>
     mvK v6 h fun v24 h =>
     mvK v7 h fun v25 h =>
     cK Try.prog 94 [v24, v25] h fun v26 h =>
     mvK v26 h fun v8 h =>
     mvK v8 h fun v27 h =>
     vK (aBin Try.prog BinOp.neq 3 v27 (Value.int IntKind.i64 0)) h fun v28 h =>
     cnd v28 (
      mvK v8 h fun v29 h =>
      mvK v29 h fun v4_2 h =>
      retV [some v4_2] R h) (
      vK (aBin Try.prog BinOp.add 3 v11_1 (Value.int IntKind.i64 1)) h fun v30 h =>
      mvK v30 h fun v11_2 h =>
      I2 [v11_2] h ∧ μ2 [v11_2] h < μ2 [v11_1] h2))) (
    mvK a0 h fun v31 h =>
    vK (aLen Try.prog 25 v31) h fun v32 h =>
    mvK a1 h fun v33 h =>
    vK (aLen Try.prog 25 v33) h fun v34 h =>
    vK (aBin Try.prog BinOp.lss 3 v32 v34) h fun v35 h =>
    cnd v35 (
     mvK (Value.int IntKind.i64 (-1)) h fun v4_3 h =>
     retV [some v4_3] R h) (
     mvK (Value.int IntKind.i64 0) h fun v4_4 h =>
     retV [some v4_4] R h)))
def lv95 (q : Nat) : List Nat := bif Nat.beq q 4 then [2147482096, 11] else []
theorem ok95 : lkOK Try.prog lv95 Try.f95 2 (Try.f95.body.getD .skip) 95 = true := by kernel_rfl
theorem e95 (a0 a1 : Value) (h : Heap) (R : Value → Heap → Prop) : n95 a0 a1 h R = wpK Try.prog lv95 (Try.f95.body.getD .skip) (endK Try.prog [.tmp 4] R) (argT [a0, a1]) h := by kernel_rfl
theorem w95 {a0 a1 : Value} {h : Heap} {R : Value → Heap → Prop} (hn : n95 a0 a1 h R) : DetP Try.prog 95 [a0, a1] h R :=
  DetP.of_code (rs := [.tmp 4]) (n := 2) Try.func95 (by kernel_rfl) (by kernel_rfl) lv95 ok95 rfl ((e95 a0 a1 h R) ▸ hn)

end Go.Proofs.Ytdjoednhfoligaa

set_option linter.unusedSimpArgs false
set_option linter.unusedVariables false
set_option maxRecDepth 100000
namespace Go.Proofs.Ytdjoednhfoligaa
open Go.AM
variable {h h' h0 h1 : Heap} {K : Value → Heap → Prop} {m : Mac}

theorem ldgr {e : TypeId} {off gi : Nat} {y st by_ fr : Value} (hr : isPlain Try.prog e = true) (g : Graph gi h m st by_ fr) (hc : [Value.int .i64 m.states, .int .i64 m.inputs, .int .i64 m.outputs, .int .i64 m.start, st, by_, fr][off]? = some y) (hK : K y h) : vK (aLoad Try.prog e (.pointer (some ⟨gi, off, none⟩)) h) h K := ldc_i hr g.cells hc hK
theorem byL_at (m : Mac) {s : Nat} (hs : s < m.states.toNat) : (byL m).getD s [] = byRow m m.inputs.toNat m.steps.length s := by simp [byL, hs]
theorem byRow_at (m : Mac) {I k j n : Nat} (hn : n < I) : (byRow m I k j).getD n 0 = optI (stepTo m.steps k (j : Int) (n : Int)) := by simp [byRow, hn]
theorem frL_at (m : Mac) {s : Nat} (hs : s < m.states.toNat) : (frL m).getD s [] = frRow m m.steps.length s := by simp [frL, hs]
theorem r45' : isPlain Try.prog 45 = true := r45
def inW (m : Mac) (w : List Int) : Prop := ∀ x ∈ w, 0 ≤ x ∧ x < m.inputs
theorem takenI_has {l : List St} {f : Int} {w : List Int} : ∀ k ∈ takenI l f w, k < l.length := takenI_lt w f
theorem c55 {gi : Nat} {a st by_ fr : Value} {w : List Int} (g : Graph gi h m st by_ fr) (r : Right m) (s : IntS h a w) (hw : inW m w) (hl : w.length ≤ 2 ^ 40) :
    DetP Try.prog 55 [.pointer (some ⟨gi, 0, none⟩), a] h fun v h' => h <+: h' ∧ Only h h' fun g => IntS g v ((takenI m.steps m.start w).map fun k : Nat => (k : Int)) := by
  obtain ⟨b1, b2, b3, b4, b5, b6⟩ := r.bounds
  have hfew := r.few
  have hsl : m.steps.length ≤ 320 := by
    have : m.states * m.inputs ≤ 40 * 8 := Int.mul_le_mul b2 b4 (by omega) (by omega)
    omega
  have gst := g.steps
  refine w55 ?_
  unfold n55
  with_reducible (refine mv_i ?_; refine mv_i ?_; refine mv_i ?_; refine nil_i ?_; refine vk_i (fa92_0 _) ?_; refine vk_i (fa36_3 _) ?_; refine ldgr r3 (by assumption) rfl ?_; refine mv_i ?_)
  refine seq_J (fun xs h2 => ∃ v, xs = [v] ∧ h <+: h2 ∧ Only h h2 fun g => IntS g v ((takenI m.steps m.start w).map fun k : Nat => (k : Int))) ?_ ?_
  · rintro _ h2 ⟨v, rfl, p, q⟩ _
    show mvK v h2 _
    with_reducible (refine mv_i ?_; refine mv_i ?_; refine ret1 ?_)
    exact ⟨p, q⟩
  intro k' hk'
  with_reducible (refine mv_i ?_; refine leni_i t23 (by assumption) ?_; refine mv_i ?_)
  refine loop3 w.length (fun k v fv h2 => ∃ (ks : List Nat) (g : Int), fv = .int .i64 g ∧ 0 ≤ g ∧ g < m.states ∧ Walk m.steps m.start (w.take k) ks g ∧ Own 1 h h2 v k ((ks.map fun k : Nat => (k : Int)).map (.int .i64))) ⟨[], m.start, rfl, b5, b6, .nil _, Own.nil 1 (List.prefix_refl _)⟩ ?_
  rintro k v _ h2 _ hk ⟨ks, z, rfl, z0, z1, hwk, ow⟩
  have g2 := g.mono (Sub.of_pre ow.pre)
  have gst2 := g2.steps
  have s2 := s.mono (Sub.of_pre ow.pre)
  have hkl := hwk.length
  rw [List.length_take] at hkl
  have hres : ∀ (r : List Nat), takenI m.steps m.start w = r → r = ks → ∃ v', [v] = [v'] ∧ h <+: h2 ∧ Only h h2 fun g => IntS g v' ((takenI m.steps m.start w).map fun k : Nat => (k : Int)) := by
    intro r e1 e
    rw [e1]
    subst e
    refine ⟨v, rfl, ow.pre, ow.only.map fun g hg => ?_⟩
    have e2 : k = ((r.map fun k : Nat => (k : Int))).length := by simp; omega
    rw [e2] at hg
    exact hg
  have hby : (byL m).length = m.states.toNat := by simp [byL]
  have gb := g2.by_
  skip
  refine lss_i (fun hlt => ?_) (fun hge => ?_)
  · have hk2 : k < w.length := by omega
    have hrest := hwk.rest (w.drop k)
    rw [List.take_append_drop, drop_cons' hk2] at hrest
    obtain ⟨x0, x1⟩ := hw _ (gd_mem 0 hk2)
    with_reducible (refine cnd_t ?_; refine idxi_i t23 (by assumption) (by omega) ?_; refine ldi_i t23 r3 (by assumption) (by omega) ?_; refine mv_i ?_; refine mv_i ?_; refine nil_i ?_; refine vk_i (fa92_1 _) ?_; refine ldgr r45 (by assumption) rfl ?_; refine mv_i ?_; refine idxzr t22 (by assumption) (by omega) (by omega) ?_)
    refine ldr_i t22 r23 gb (by omega) fun row srow => ?_
    have hzn : z.toNat < m.states.toNat := by omega
    rw [byL_at m hzn] at srow
    have hlb := byRow_len m m.inputs.toNat m.steps.length z.toNat
    with_reducible (refine mv_i ?_; refine idxzi t23 (by assumption) (by omega) (by omega) ?_; refine ldi_i t23 r3 (by assumption) (by omega) ?_; refine mv_i ?_; refine mv_i ?_)
    rw [byRow_at m (by omega)]
    rw [Int.toNat_of_nonneg z0, Int.toNat_of_nonneg x0]
    have est : stepTo m.steps m.steps.length z (w.getD k 0) = stepAt m.steps z (w.getD k 0) := rfl
    rw [est]
    cases hst : stepAt m.steps z (w.getD k 0) with
    | none =>
      skip
      refine eql_i (fun _ => ?_) (fun hne => absurd rfl hne)
      with_reducible (refine cnd_t ?_)
      have e : takenI m.steps m.start w = ks := by rw [hrest]; simp only [takenI, hst, List.append_nil]
      exact hk' _ _ (hres ks e rfl)
    | some j =>
      obtain ⟨hj, hjf, _⟩ := stepAt_lt hst
      skip
      refine eql_i (fun he => absurd he (by simp only [optI]; omega)) (fun _ => ?_)
      simp only [optI]
      with_reducible (refine cnd_f ?_; refine mv_i ?_; refine nil_i ?_; refine vk_i (fa92_0 _) ?_; refine vk_i (fa36_4 _) ?_; refine ldgr r34 (by assumption) rfl ?_; refine ⟨VB_of_steps (by assumption), ?_⟩; refine mv_i ?_; refine idxst t34 (by assumption) (by omega) ?_; refine fae_i st63 (by assumption) (by omega) (by omega) ?_; refine ldto dst st63 (by assumption) (by omega) ?_; refine ⟨vbi _ _, ?_⟩; refine mv_i ?_; refine mv_i ?_)
      refine ok_i (bs23_1 _ _) ?_
      obtain ⟨o4, _⟩ := ow.ext (pre_new h2 [.int .i64 (j : Int)] 1)
      refine app_i t23 o4 (Seg.new (n := 1) 2 (by simp) (by omega)) (by simp [Value.oneCell']) (by omega) ⟨by omega, by omega⟩ fun v' h' o5 _ => ?_
      have g5 := g.mono (Sub.of_pre o5.pre)
      have gst5 := g5.steps
      refine ⟨⟨again (ldf_e dst st63 gst5 hj (by omega)), again (ldc_e r34 g5.cells rfl), trivial⟩, ?_⟩
      with_reducible (refine mv_i ?_; refine mv_i ?_; refine inc_i (by omega) ?_; refine mv_i ?_)
      have hto := r.st hj
      refine next3 hk2 ⟨ks ++ [j], _, rfl, hto.2.2.1, hto.2.2.2.1, ?_, ?_⟩
      · rw [take_gd 0 hk2]
        exact .snoc hwk hst
      · simpa using o5
  · have ek : k = w.length := by omega
    subst ek
    have hrest := hwk.rest []
    rw [List.take_of_length_le (Nat.le_refl _)] at hrest
    with_reducible (refine cnd_f ?_)
    have e : takenI m.steps m.start w = ks := by simpa [takenI] using hrest
    exact hk' _ _ (hres ks e rfl)
end Go.Proofs.Ytdjoednhfoligaa

set_option linter.unusedSimpArgs false
set_option linter.unusedVariables false
set_option maxRecDepth 100000
namespace Go.Proofs.Ytdjoednhfoligaa
open Go.AM
variable {h h' h0 h1 : Heap} {K : Value → Heap → Prop} {m : Mac}

/-! ### errors of words -/
def wsE (ws : List (List Int)) (n : Int) : Int := if 80 < ws.length then 2 else (firstOf (fun i => nz (wErr (ws.getD i []) n 1200)) ws.length).getD 0
theorem wsE_none {ws : List (List Int)} {n : Int} (hg : ¬ 80 < ws.length) (hJ : ∀ j, j < ws.length → wErr (ws.getD j []) n 1200 = 0) : wsE ws n = 0 := by
  unfold wsE
  rw [if_neg hg, firstOf_none (fun j hj => by simp only [nz]; rw [if_pos (hJ j hj)])]
  rfl
theorem wsE_some {ws : List (List Int)} {n : Int} {k : Nat} (hg : ¬ 80 < ws.length) (hJ : ∀ j, j < k → wErr (ws.getD j []) n 1200 = 0) (hk : k < ws.length) (he : ¬ wErr (ws.getD k []) n 1200 = 0) : wsE ws n = wErr (ws.getD k []) n 1200 := by
  unfold wsE
  rw [if_neg hg, firstOf_some (e := wErr (ws.getD k []) n 1200) (fun j hj => by simp only [nz]; rw [if_pos (hJ j hj)]) hk (by simp only [nz]; rw [if_neg he])]
  rfl
theorem wsE_zero {ws : List (List Int)} {n : Int} (hz : wsE ws n = 0) : ws.length ≤ 80 ∧ ∀ j, j < ws.length → wErr (ws.getD j []) n 1200 = 0 := by
  unfold wsE at hz
  split at hz
  · cases hz
  · refine ⟨by omega, ?_⟩
    cases hf : firstOf (fun i => nz (wErr (ws.getD i []) n 1200)) ws.length with
    | none =>
      intro j hj
      have := firstOf_not hf j hj
      simp only [nz] at this
      split at this
      · assumption
      · cases this
    | some e =>
      rw [hf] at hz
      obtain ⟨k, hk, he⟩ := firstOf_is hf
      simp only [nz] at he
      split at he
      · cases he
      · cases he
        exact absurd hz (by assumption)
theorem w_ok {w : List Int} {n most : Int} (hz : wErr w n most = 0) : (w.length : Int) ≤ most ∧ ∀ x ∈ w, inR x 0 (pm n) = true := by
  unfold wErr at hz
  split at hz
  · cases hz
  · split at hz
    · rename_i h1 h2
      exact ⟨by omega, fun x hx => List.all_eq_true.mp h2 x hx⟩
    · cases hz
theorem inW_of (r : Right m) {w : List Int} {most : Int} (hz : wErr w m.inputs most = 0) : inW m w := by
  obtain ⟨b1, b2, b3, b4, b5, b6⟩ := r.bounds
  intro x hx
  have := (w_ok hz).2 x hx
  rw [pm_eq b3 (by omega)] at this
  unfold inR at this
  simp only [decide_eq_true_eq] at this
  omega
theorem c67 {a b : Value} {ws : List (List Int)} (s : MacV h a m) (sw : RowsS h b ws) : Runs Try.prog 67 [a, b] h (.int .i64 (wsE ws m.inputs)) h := by
  have ltw := sw.lt
  refine DetP.forget rfl ?_
  refine w67 ?_
  unfold n67
  obtain ⟨o, l, c, rfl, ss0⟩ := s
  rw [box36]
  refine ok_i rfl ?_
  have p1 := pre_new h [.int .i64 m.states, .int .i64 m.inputs, .int .i64 m.outputs, .int .i64 m.start, .slice o l c] 5
  have hb1 := newArr_get h [.int .i64 m.states, .int .i64 m.inputs, .int .i64 m.outputs, .int .i64 m.start, .slice o l c] 5
  have ss := ss0.mono (Sub.of_pre p1)
  generalize hg1 : newArr h [.int .i64 m.states, .int .i64 m.inputs, .int .i64 m.outputs, .int .i64 m.start, .slice o l c] 5 = g1 at p1 hb1 ss ⊢
  have sw1 := sw.mono (Sub.of_pre p1)
  have mv1 : MacV g1 (.agg #[.int .i64 m.states, .int .i64 m.inputs, .int .i64 m.outputs, .int .i64 m.start, .slice o l c]) m := macv_of ss
  with_reducible (refine mv_i ?_; refine mv_i ?_; refine lenr_i t22 (by assumption) ?_)
  refine gtr_i (fun hg => ?_) (fun hg => ?_)
  · with_reducible (refine cnd_t ?_; refine mv_i ?_; refine ret1 ?_)
    exact ⟨by unfold wsE; rw [if_pos (by omega)], p1⟩
  · with_reducible (refine cnd_f ?_; refine mv_i ?_; refine lenr_i t22 (by assumption) ?_; refine mv_i ?_)
    refine loop1 ws.length (fun k h2 => g1 = h2 ∧ ∀ j, j < k → wErr (ws.getD j []) m.inputs 1200 = 0) ⟨rfl, fun j hj => by omega⟩ ?_
    rintro k _ _ hk ⟨rfl, hJ⟩
    skip
    refine lss_i (fun hlt => ?_) (fun hge => ?_)
    · with_reducible (refine cnd_t ?_; refine idxr_i t22 (by assumption) (by omega) ?_)
      refine ldr_i t22 r23 sw1 (by omega) fun row srow => ?_
      with_reducible (refine mv_i ?_)
      refine vk_i (ld36 hb1) ?_
      with_reducible (refine mv_i ?_)
      refine call_r (c53 mv1 srow) ?_
      with_reducible (refine mv_i ?_; refine mv_i ?_)
      refine neq_i (fun he => ?_) (fun he => ?_)
      · with_reducible (refine cnd_f ?_; refine inc_i (by omega) ?_; refine mv_i ?_)
        refine next1 (by omega) ⟨rfl, fun j hj => ?_⟩
        by_cases q : j = k
        · subst q; exact he
        · exact hJ j (by omega)
      · with_reducible (refine cnd_t ?_; refine mv_i ?_; refine mv_i ?_; refine ret1 ?_)
        exact ⟨by rw [wsE_some (by omega) hJ (by omega) he], p1⟩
    · with_reducible (refine cnd_f ?_; refine mv_i ?_; refine ret1 ?_)
      exact ⟨by rw [wsE_none (by omega) fun j hj => hJ j (by omega)], p1⟩
theorem c28 {a b : Value} {ws : List (List Int)} (s : MacV h a m) (sw : RowsS h b ws) : Runs Try.prog 28 [a, b] h (.int .i64 (wsE ws m.inputs)) h := by
  have ltw := sw.lt
  refine DetP.forget rfl ?_
  refine w28 ?_
  unfold n28
  obtain ⟨o, l, c, rfl, ss0⟩ := s
  rw [box36]
  refine ok_i rfl ?_
  have p1 := pre_new h [.int .i64 m.states, .int .i64 m.inputs, .int .i64 m.outputs, .int .i64 m.start, .slice o l c] 5
  have hb1 := newArr_get h [.int .i64 m.states, .int .i64 m.inputs, .int .i64 m.outputs, .int .i64 m.start, .slice o l c] 5
  have ss := ss0.mono (Sub.of_pre p1)
  generalize hg1 : newArr h [.int .i64 m.states, .int .i64 m.inputs, .int .i64 m.outputs, .int .i64 m.start, .slice o l c] 5 = g1 at p1 hb1 ss ⊢
  have sw1 := sw.mono (Sub.of_pre p1)
  with_reducible (refine mv_i ?_; refine mv_i ?_; refine lenr_i t22 (by assumption) ?_)
  refine gtr_i (fun hg => ?_) (fun hg => ?_)
  · with_reducible (refine cnd_t ?_; refine mv_i ?_; refine ret1 ?_)
    exact ⟨by unfold wsE; rw [if_pos (by omega)], p1⟩
  · with_reducible (refine cnd_f ?_; refine mv_i ?_)
    refine loop1 ws.length (fun k h2 => g1 = h2 ∧ ∀ j, j < k → wErr (ws.getD j []) m.inputs 1200 = 0) ⟨rfl, fun j hj => by omega⟩ ?_
    rintro k _ _ hk ⟨rfl, hJ⟩
    with_reducible (refine mv_i ?_; refine mv_i ?_; refine lenr_i t22 (by assumption) ?_)
    refine lss_i (fun hlt => ?_) (fun hge => ?_)
    · with_reducible (refine cnd_t ?_; refine mv_i ?_; refine mv_i ?_; refine idxr_i t22 (by assumption) (by omega) ?_)
      refine ldr_i t22 r23 sw1 (by omega) fun row srow => ?_
      with_reducible (refine ⟨VB_of_ints (by assumption), ?_⟩; refine vk_i (fa36_1 _) ?_; refine ld5_1 r3 (by assumption) ?_; refine ⟨vbi _ _, ?_⟩)
      refine calld_r (c41 srow) ?_
      with_reducible (refine ⟨⟨[], (List.append_nil _).symm⟩, ?_⟩; refine mv_i ?_; refine mv_i ?_)
      refine neq_i (fun he => ?_) (fun he => ?_)
      · with_reducible (refine cnd_f ?_; refine mv_i ?_; refine inc_i (by omega) ?_; refine mv_i ?_)
        refine next1 (by omega) ⟨rfl, fun j hj => ?_⟩
        by_cases q : j = k
        · subst q; exact he
        · exact hJ j (by omega)
      · with_reducible (refine cnd_t ?_; refine mv_i ?_; refine mv_i ?_; refine ret1 ?_)
        exact ⟨by rw [wsE_some (by omega) hJ (by omega) he], p1⟩
    · with_reducible (refine cnd_f ?_; refine mv_i ?_; refine ret1 ?_)
      exact ⟨by rw [wsE_none (by omega) fun j hj => hJ j (by omega)], p1⟩

/-! ### steps counted -/
def bump (cs : List Int) (k : Nat) : List Int := cs.set k (cs.getD k 0 + 1)
def bumps (cs : List Int) (ks : List Nat) : List Int := ks.foldl bump cs
theorem bump_len (cs : List Int) (k : Nat) : (bump cs k).length = cs.length := by simp [bump]
theorem bumps_len (ks : List Nat) : ∀ cs : List Int, (bumps cs ks).length = cs.length := by
  induction ks with
  | nil => intro cs; rfl
  | cons k ks ih => intro cs; simp only [bumps, List.foldl_cons]; exact (ih _).trans (bump_len cs k)
theorem bumps_take {cs : List Int} {ks : List Nat} {j : Nat} (hj : j < ks.length) : bumps cs (ks.take (j + 1)) = bump (bumps cs (ks.take j)) (ks.getD j 0) := by
  rw [take_gd 0 hj]; simp [bumps]
def small (cs : List Int) (b : Int) : Prop := ∀ k, 0 ≤ cs.getD k 0 ∧ cs.getD k 0 ≤ b
theorem bump_small {cs : List Int} {b : Int} (s : small cs b) (k : Nat) : small (bump cs k) (b + 1) := by
  intro j
  unfold bump
  by_cases q : k = j
  · subst q
    by_cases hk : k < cs.length
    · have := s k
      simp [List.getD, List.getElem?_set, hk] at this ⊢
      omega
    · have := s k
      simp [List.getD, List.getElem?_set, hk] at this ⊢
      omega
  · have := s j
    simp [List.getD, List.getElem?_set, q] at this ⊢
    omega
def takenBy (m : Mac) (ws : List (List Int)) : List Int := ws.foldl (fun cs w => bumps cs (takenI m.steps m.start w)) (List.replicate m.steps.length 0)
theorem takenBy_len (ws : List (List Int)) : (takenBy m ws).length = m.steps.length := by
  unfold takenBy
  have : ∀ (ws : List (List Int)) (cs : List Int), (ws.foldl (fun cs w => bumps cs (takenI m.steps m.start w)) cs).length = cs.length := by
    intro ws
    induction ws with
    | nil => intro cs; rfl
    | cons w ws ih => intro cs; simp only [List.foldl_cons]; rw [ih, bumps_len]
  rw [this]; simp
theorem takenBy_take {ws : List (List Int)} {k : Nat} (hk : k < ws.length) : takenBy m (ws.take (k + 1)) = bumps (takenBy m (ws.take k)) (takenI m.steps m.start (ws.getD k [])) := by
  rw [take_gd [] hk]; simp [takenBy]
def oneE : Nat → Nat := fun _ => 1
theorem rep_map (n : Nat) (x : Int) : List.replicate n (Value.int .i64 x) = (List.replicate n x).map (.int .i64) := by simp
theorem c29 {a b : Value} {ws : List (List Int)} (s : MacV h a m) (sw : RowsS h b ws) :
    DetP Try.prog 29 [a, b] h fun v h' => h <+: h' ∧ if orOf [(mErr m).2, wsE ws m.inputs] ≠ 0 then v = .tuple #[.slice none 0 0, .int .i64 (orOf [(mErr m).2, wsE ws m.inputs])] else ∃ r, v = .tuple #[r, .int .i64 0] ∧ Only h h' fun g => IntS g r (takenBy m ws) := by
  refine w29 ?_
  unfold n29
  obtain ⟨o, l, c, rfl, ss0⟩ := s
  rw [box36]
  refine ok_i rfl ?_
  have p1 := pre_new h [.int .i64 m.states, .int .i64 m.inputs, .int .i64 m.outputs, .int .i64 m.start, .slice o l c] 5
  have hb1 := newArr_get h [.int .i64 m.states, .int .i64 m.inputs, .int .i64 m.outputs, .int .i64 m.start, .slice o l c] 5
  have ss := ss0.mono (Sub.of_pre p1)
  generalize hg1 : newArr h [.int .i64 m.states, .int .i64 m.inputs, .int .i64 m.outputs, .int .i64 m.start, .slice o l c] 5 = g1 at p1 hb1 ss ⊢
  have sw1 := sw.mono (Sub.of_pre p1)
  have mv1 : MacV g1 (.agg #[.int .i64 m.states, .int .i64 m.inputs, .int .i64 m.outputs, .int .i64 m.start, .slice o l c]) m := macv_of ss
  with_reducible (refine mv_i ?_; refine mv_i ?_)
  refine vk_i (ld36 hb1) ?_
  refine ⟨vb_mac ss, ?_⟩
  refine calld_r (c51 mv1) ⟨⟨[], by simp⟩, ?_⟩
  refine vk_i (ld36 hb1) ?_
  refine ⟨vb_mac ss, ?_⟩
  with_reducible (refine mv_i ?_)
  refine calld_r (c67 mv1 sw1) ⟨⟨[], by simp⟩, ?_⟩
  refine ok_i (bs94_2 _ _ _) ?_
  have p2 := pre_new g1 [.int .i64 (mErr m).2, .int .i64 (wsE ws m.inputs)] 1
  have sx : IntS (newArr g1 [.int .i64 (mErr m).2, .int .i64 (wsE ws m.inputs)] 1) (.slice (some ⟨g1.length, 0, none⟩) 2 3) [(mErr m).2, wsE ws m.inputs] := Seg.new 3 (by rfl) (by simp)
  generalize newArr g1 [.int .i64 (mErr m).2, .int .i64 (wsE ws m.inputs)] 1 = g2 at p2 sx ⊢
  refine calld_r (c50 sx) ⟨⟨[], by simp⟩, ?_⟩
  generalize he : orOf [(mErr m).2, wsE ws m.inputs] = e
  with_reducible (refine mv_i ?_; refine mv_i ?_)
  refine neq_i (fun hz => ?_) (fun hz => ?_)
  · subst hz
    rw [or2] at he
    have he1 : (mErr m).2 = 0 := by by_cases q : (mErr m).2 = 0 <;> simp_all
    rw [if_pos he1] at he
    have r := right_of he1
    obtain ⟨hw1, hw2⟩ := wsE_zero he
    obtain ⟨b1, b2, b3, b4, b5, b6⟩ := r.bounds
    have hfew := r.few
    have hsl : m.steps.length ≤ 320 := by
      have : m.states * m.inputs ≤ 40 * 8 := Int.mul_le_mul b2 b4 (by omega) (by omega)
      omega
    have hb2 := (Sub.of_pre p2).2 _ _ hb1
    with_reducible (refine cnd_f ?_)
    refine vk_i (ld36 hb2) ?_
    refine call_i (c54 (mv1.mono (Sub.of_pre p2)) r) ?_
    rintro _ g3 ⟨p3, gi, st, by_, fr, rfl, sst, og⟩
    have gr : Graph gi g3 m st by_ fr := og.self (sst.mono (Sub.of_pre p3))
    have hb3 := (Sub.of_pre p3).2 _ _ hb2
    have ss3 := ss.mono (Sub.of_pre (p2.trans p3))
    have sw3 := sw1.mono (Sub.of_pre (p2.trans p3))
    with_reducible (refine mv_i ?_; refine vk_i (fa36_4 _) ?_; refine ld5_4 r34 (by assumption) ?_; refine lenst t34 (by assumption) ?_)
    refine mk1_i (n := m.steps.length) t23 z3 (by omega) ⟨by omega, by omega⟩ ?_
    rw [Int.toNat_natCast, rep_map]
    have o0 := (Owns.start (fun _ => []) oneE (List.prefix_refl g3)).add 0 ((List.replicate m.steps.length (0 : Int)).map (.int .i64)) 1 rfl
    generalize hoi : g3.length = oi at o0 ⊢
    generalize newArr g3 ((List.replicate m.steps.length (0 : Int)).map (.int .i64)) 1 = g4 at o0 ⊢
    have sw4 := sw3.mono o0.sub
    with_reducible (refine mv_i ?_; refine mv_i ?_; refine lenr_i t22 (by assumption) ?_; refine mv_i ?_)
    refine loop1 ws.length (fun k h2 => ∃ N C, Owns g3 h2 N C oneE ∧ N 0 = some oi ∧ C 0 = (takenBy m (ws.take k)).map (.int .i64) ∧ small (takenBy m (ws.take k)) (1200 * k)) ⟨_, _, o0, upN_self _ _ _, by rw [upN_self]; rfl, fun j => ?_⟩ ?_
    · show 0 ≤ (List.replicate m.steps.length (0 : Int)).getD j 0 ∧ (List.replicate m.steps.length (0 : Int)).getD j 0 ≤ _
      simp [List.getD, List.getElem?_replicate]
      split <;> simp
    rintro k h2 _ hk ⟨N, C, o2, n0, c0, hsm⟩
    have sw5 := sw3.mono o2.sub
    skip
    refine lss_i (fun hlt => ?_) (fun hge => ?_)
    · have hkl : k < ws.length := by omega
      with_reducible (refine cnd_t ?_; refine idxr_i t22 (by assumption) (by omega) ?_)
      refine ldr_i t22 r23 sw5 (by omega) fun row srow => ?_
      with_reducible (refine mv_i ?_; refine mv_i ?_; refine mv_i ?_)
      have hwk := hw2 k hkl
      have hwl := (w_ok hwk).1
      refine call_i (c55 (gr.mono o2.sub) r srow (inW_of r hwk) (by omega)) ?_
      rintro v h3 ⟨p3', q3⟩
      have fz := Frz.of_only o2 p3' q3
      have o3 := o2.ext p3'
      have hkl2 := takenI_len (l := m.steps) (ws.getD k []) m.start
      have hkin := takenI_has (l := m.steps) (f := m.start) (w := ws.getD k [])
      have htk := takenBy_take (m := m) hkl
      generalize hks : takenI m.steps m.start (ws.getD k []) = ks at fz hkl2 hkin htk
      have hcl : (takenBy m (ws.take k)).length = m.steps.length := takenBy_len _
      generalize takenBy m (ws.take k) = cs at c0 hsm htk hcl
      have sv := fz.self
      with_reducible (refine leni_i t23 (by assumption) ?_; refine mv_i ?_)
      refine loop1 ks.length (fun j h4 => ∃ C, Owns g3 h4 N C oneE ∧ Frz N h4 (fun g => IntS g v (ks.map fun k : Nat => (k : Int))) ∧ C 0 = (bumps cs (ks.take j)).map (.int .i64) ∧ small (bumps cs (ks.take j)) (1200 * k + j)) ⟨C, o3, fz, c0, by simpa [bumps] using hsm⟩ ?_
      rintro j h4 _ hj ⟨C, o4, fz4, c0, hsm⟩
      have sv := fz4.self
      have hml : (ks.map fun k : Nat => (k : Int)).length = ks.length := by simp
      have hbl := bumps_len (ks.take j) cs
      have sc : IntS h4 (.slice (some ⟨oi, 0, none⟩) m.steps.length (m.steps.length + 1)) (bumps cs (ks.take j)) := by
        have := LS.ints o4 (v := .slice (some ⟨oi, 0, none⟩) m.steps.length (m.steps.length + 1)) (xs := bumps cs (ks.take j)) (l := 0) (by have := LS.whole (C := C) (c := m.steps.length + 1) n0 (k := m.steps.length) (by rw [c0, List.length_map]; omega); rw [c0] at this; exact this) rfl (by omega)
        exact this
      have sm := hsm (ks.getD j 0)
      skip
      refine lss_i (fun hlt2 => ?_) (fun hge => ?_)
      · have hj2 : j < ks.length := by omega
        have hz : (ks.map fun k : Nat => (k : Int)).getD j 0 = ((ks.getD j 0 : Nat) : Int) := by simp [List.getD, hj2]
        have hkj : ks.getD j 0 < m.steps.length := hkin _ (gd_mem 0 hj2)
        with_reducible (refine cnd_t ?_)
        refine idxi_i t23 sv (by omega) ?_
        refine ldi_i t23 r3 sv (by omega) ?_
        rw [hz]
        with_reducible (refine mv_i ?_; refine mv_i ?_; refine mv_i ?_; refine idxi_i t23 (by assumption) (by omega) ?_; refine ldi_i t23 r3 (by assumption) (by omega) ?_)
        refine add_i ⟨by omega, by omega⟩ ?_
        with_reducible (refine idxi_i t23 (by assumption) (by omega) ?_)
        rw [elt_at1]
        refine stl s3 o4 n0 (by rw [c0, List.length_map]; omega) rfl rfl fun o5 => ?_
        have fz5 := fz4.set n0 (.arr ⟨(C 0).set (ks.getD j 0) (.int .i64 ((bumps cs (ks.take j)).getD (ks.getD j 0) 0 + 1)), oneE 0, false⟩)
        with_reducible (refine inc_i (by omega) ?_; refine mv_i ?_)
        refine next1 hj2 ⟨_, o5, fz5, ?_, ?_⟩
        · rw [upN_self, c0, bumps_take hj2, bump, set_map]
        · rw [bumps_take hj2]
          have := bump_small hsm (ks.getD j 0)
          intro q
          have := this q
          push_cast
          omega
      · have ej : j = ks.length := by omega
        subst ej
        rw [List.take_of_length_le (Nat.le_refl _), ← htk] at c0 hsm
        with_reducible (refine cnd_f ?_; refine inc_i (by omega) ?_; refine mv_i ?_)
        refine next1 hkl ⟨N, C, o4, n0, c0, fun q => ?_⟩
        have := hsm q
        push_cast
        omega
    · have ek : k = ws.length := by omega
      subst ek
      rw [List.take_of_length_le (Nat.le_refl _)] at c0
      with_reducible (refine cnd_f ?_; refine mv_i ?_; refine mv_i ?_; refine mv_i ?_; refine ret2 ?_)
      refine ⟨p1.trans (p2.trans (p3.trans o2.pre)), ?_⟩
      rw [if_neg (by simp)]
      refine ⟨_, rfl, Only.from (p1.trans (p2.trans p3)) (o2.only fun g og => ?_)⟩
      have hcl : (takenBy m ws).length = m.steps.length := takenBy_len _
      have := LS.ints og (v := .slice (some ⟨oi, 0, none⟩) m.steps.length (m.steps.length + 1)) (xs := takenBy m ws) (l := 0) (by have := LS.whole (C := C) (c := m.steps.length + 1) n0 (k := m.steps.length) (by rw [c0, List.length_map]; omega); rw [c0] at this; exact this) rfl (by omega)
      exact this
  · with_reducible (refine cnd_t ?_; refine mv_i ?_; refine mv_i ?_; refine mv_i ?_; refine ret2 ?_)
    exact ⟨p1.trans p2, by rw [if_pos hz]⟩
end Go.Proofs.Ytdjoednhfoligaa

set_option linter.unusedSimpArgs false
set_option linter.unusedVariables false
set_option maxRecDepth 100000
namespace Go.Proofs.Ytdjoednhfoligaa
open Go.AM
variable {h h' h0 h1 : Heap} {K : Value → Heap → Prop} {m : Mac}

theorem c31 {a b : Value} {ws : List (List Int)} (s : MacV h a m) (r : Right m) (sw : RowsS h b ws) (hz : wsE ws m.inputs = 0) :
    DetP Try.prog 31 [a, b] h fun v h' => h <+: h' ∧ Only h h' fun g => IntS g v (takenBy m ws) := by
  obtain ⟨hw1, hw2⟩ := wsE_zero hz
  obtain ⟨b1, b2, b3, b4, b5, b6⟩ := r.bounds
  have hfew := r.few
  have hsl : m.steps.length ≤ 320 := by
    have : m.states * m.inputs ≤ 40 * 8 := Int.mul_le_mul b2 b4 (by omega) (by omega)
    omega
  refine w31 ?_
  unfold n31
  obtain ⟨o, l, c, rfl, ss0⟩ := s
  rw [box36]
  refine ok_i rfl ?_
  have p1 := pre_new h [.int .i64 m.states, .int .i64 m.inputs, .int .i64 m.outputs, .int .i64 m.start, .slice o l c] 5
  have hb1 := newArr_get h [.int .i64 m.states, .int .i64 m.inputs, .int .i64 m.outputs, .int .i64 m.start, .slice o l c] 5
  have ss := ss0.mono (Sub.of_pre p1)
  generalize hg1 : newArr h [.int .i64 m.states, .int .i64 m.inputs, .int .i64 m.outputs, .int .i64 m.start, .slice o l c] 5 = g1 at p1 hb1 ss ⊢
  have sw1 := sw.mono (Sub.of_pre p1)
  with_reducible (refine mv_i ?_; refine vk_i (fa36_4 _) ?_; refine ld5_4 r34 (by assumption) ?_; refine lenst t34 (by assumption) ?_)
  refine mk1_i (n := m.steps.length) t23 z3 (by omega) ⟨by omega, by omega⟩ ?_
  rw [Int.toNat_natCast, rep_map]
  have o0 := (Owns.start (fun _ => []) oneE (List.prefix_refl g1)).add 0 ((List.replicate m.steps.length (0 : Int)).map (.int .i64)) 1 rfl
  generalize hoi : g1.length = oi at o0 ⊢
  generalize newArr g1 ((List.replicate m.steps.length (0 : Int)).map (.int .i64)) 1 = g4 at o0 ⊢
  with_reducible (refine mv_i ?_; refine mv_i ?_)
  refine loop1 ws.length (fun k h2 => ∃ N C, Owns g1 h2 N C oneE ∧ N 0 = some oi ∧ C 0 = (takenBy m (ws.take k)).map (.int .i64) ∧ small (takenBy m (ws.take k)) (1200 * k)) ⟨_, _, o0, upN_self _ _ _, by rw [upN_self]; rfl, fun j => ?_⟩ ?_
  · show 0 ≤ (List.replicate m.steps.length (0 : Int)).getD j 0 ∧ (List.replicate m.steps.length (0 : Int)).getD j 0 ≤ _
    simp [List.getD, List.getElem?_replicate]
    split <;> simp
  rintro k h2 _ hk ⟨N, C, o2, n0, c0, hsm⟩
  have sw5 := sw1.mono o2.sub
  have hb5 := o2.sub.2 _ _ hb1
  have ss5 := ss.mono o2.sub
  with_reducible (refine mv_i ?_; refine mv_i ?_; refine lenr_i t22 (by assumption) ?_)
  refine lss_i (fun hlt => ?_) (fun hge => ?_)
  · have hkl : k < ws.length := by omega
    with_reducible (refine cnd_t ?_)
    refine vk_i (ld36 hb5) ?_
    refine ⟨vb_mac ss5, ?_⟩
    with_reducible (refine vk_i (fa36_3 _) ?_; refine ld5_3 r3 (by assumption) ?_; refine ⟨vbi _ _, ?_⟩; refine mv_i ?_; refine mv_i ?_; refine idxr_i t22 (by assumption) (by omega) ?_)
    refine ldr_i t22 r23 sw5 (by omega) fun row srow => ?_
    with_reducible (refine ⟨VB_of_ints (by assumption), ?_⟩)
    have hwk := hw2 k hkl
    have hwl := (w_ok hwk).1
    refine calld_i (c46 (macv_of ss5) srow (by omega)) ?_
    rintro v h3 ⟨p3', q3⟩
    have fz := Frz.of_only o2 p3' q3
    refine ⟨p3'.imp fun t ht => ht.symm, ?_⟩
    have o3 := o2.ext p3'
    have hkl2 := takenI_len (l := m.steps) (ws.getD k []) m.start
    have hkin := takenI_has (l := m.steps) (f := m.start) (w := ws.getD k [])
    have htk := takenBy_take (m := m) hkl
    generalize hks : takenI m.steps m.start (ws.getD k []) = ks at fz hkl2 hkin htk
    have hcl : (takenBy m (ws.take k)).length = m.steps.length := takenBy_len _
    generalize takenBy m (ws.take k) = cs at c0 hsm htk hcl
    have sv := fz.self
    with_reducible (refine mv_i ?_; refine mv_i ?_)
    refine loop1 ks.length (fun j h4 => ∃ C, Owns g1 h4 N C oneE ∧ Frz N h4 (fun g => IntS g v (ks.map fun k : Nat => (k : Int))) ∧ C 0 = (bumps cs (ks.take j)).map (.int .i64) ∧ small (bumps cs (ks.take j)) (1200 * k + j)) ⟨C, o3, fz, c0, by simpa [bumps] using hsm⟩ ?_
    rintro j h4 _ hj ⟨C, o4, fz4, c0, hsm⟩
    have sv := fz4.self
    have hml : (ks.map fun k : Nat => (k : Int)).length = ks.length := by simp
    have hbl := bumps_len (ks.take j) cs
    have sc : IntS h4 (.slice (some ⟨oi, 0, none⟩) m.steps.length (m.steps.length + 1)) (bumps cs (ks.take j)) := by
      have := LS.ints o4 (v := .slice (some ⟨oi, 0, none⟩) m.steps.length (m.steps.length + 1)) (xs := bumps cs (ks.take j)) (l := 0) (by have := LS.whole (C := C) (c := m.steps.length + 1) n0 (k := m.steps.length) (by rw [c0, List.length_map]; omega); rw [c0] at this; exact this) rfl (by omega)
      exact this
    have sm := hsm (ks.getD j 0)
    with_reducible (refine mv_i ?_; refine mv_i ?_; refine leni_i t23 (by assumption) ?_)
    refine lss_i (fun hlt2 => ?_) (fun hge => ?_)
    · have hj2 : j < ks.length := by omega
      have hz : (ks.map fun k : Nat => (k : Int)).getD j 0 = ((ks.getD j 0 : Nat) : Int) := by simp [List.getD, hj2]
      have hkj : ks.getD j 0 < m.steps.length := hkin _ (gd_mem 0 hj2)
      with_reducible (refine cnd_t ?_; refine mv_i ?_; refine mv_i ?_; refine mv_i ?_; refine idxi_i t23 (by assumption) (by omega) ?_; refine ldi_i t23 r3 (by assumption) (by omega) ?_; refine ⟨vbi _ _, ?_⟩; refine mv_i ?_; refine mv_i ?_; refine mv_i ?_; refine idxi_i t23 (by assumption) (by omega) ?_; refine ldi_i t23 r3 (by assumption) (by omega) ?_; refine ⟨vbi _ _, ?_⟩; refine idxzi t23 (by assumption) (by omega) (by omega) ?_; refine ldi_i t23 r3 (by assumption) (by omega) ?_; refine ⟨vbi _ _, ?_⟩)
      rw [hz, Int.toNat_natCast]
      refine add_i ⟨by omega, by omega⟩ ?_
      with_reducible (refine idxi_i t23 (by assumption) (by omega) ?_)
      rw [elt_at1]
      refine stl s3 o4 n0 (by rw [c0, List.length_map]; omega) rfl rfl fun o5 => ?_
      have fz5 := fz4.set n0 (.arr ⟨(C 0).set (ks.getD j 0) (.int .i64 ((bumps cs (ks.take j)).getD (ks.getD j 0) 0 + 1)), oneE 0, false⟩)
      with_reducible (refine ⟨trivial, ?_⟩; refine mv_i ?_; refine inc_i (by omega) ?_; refine mv_i ?_)
      refine next1 hj2 ⟨_, o5, fz5, ?_, ?_⟩
      · rw [upN_self, c0, bumps_take hj2, bump, set_map]
      · rw [bumps_take hj2]
        have := bump_small hsm (ks.getD j 0)
        intro q
        have := this q
        push_cast
        omega
    · have ej : j = ks.length := by omega
      subst ej
      rw [List.take_of_length_le (Nat.le_refl _), ← htk] at c0 hsm
      with_reducible (refine cnd_f ?_; refine mv_i ?_; refine inc_i (by omega) ?_; refine mv_i ?_)
      refine next1 hkl ⟨N, C, o4, n0, c0, fun q => ?_⟩
      have := hsm q
      push_cast
      omega
  · have ek : k = ws.length := by omega
    subst ek
    rw [List.take_of_length_le (Nat.le_refl _)] at c0
    with_reducible (refine cnd_f ?_; refine mv_i ?_; refine mv_i ?_; refine ret1 ?_)
    refine ⟨p1.trans o2.pre, Only.from p1 (o2.only fun g og => ?_)⟩
    have hcl : (takenBy m ws).length = m.steps.length := takenBy_len _
    have := LS.ints og (v := .slice (some ⟨oi, 0, none⟩) m.steps.length (m.steps.length + 1)) (xs := takenBy m ws) (l := 0) (by have := LS.whole (C := C) (c := m.steps.length + 1) n0 (k := m.steps.length) (by rw [c0, List.length_map]; omega); rw [c0] at this; exact this) rfl (by omega)
    exact this
end Go.Proofs.Ytdjoednhfoligaa

set_option linter.unusedSimpArgs false
set_option linter.unusedVariables false
set_option maxRecDepth 100000
namespace Go.Proofs.Ytdjoednhfoligaa
open Go.AM
variable {h h' h0 h1 : Heap} {K : Value → Heap → Prop} {m : Mac}

/-! ### what is reached -/
inductive Rch (l : List St) (f : Int) : Int → Prop
  | refl : Rch l f f
  | step {k : Nat} (h : Rch l f (l.getD k dst).fr) (hk : k < l.length) : Rch l f (l.getD k dst).to
/-- Sets of states that are closed. -/
theorem Rch.closed {l : List St} {f : Int} {Q : Int → Prop} (h0 : Q f) (hs : ∀ k, k < l.length → Q (l.getD k dst).fr → Q (l.getD k dst).to) {s : Int} (h : Rch l f s) : Q s := by
  induction h with
  | refl => exact h0
  | step h hk ih => exact hs _ hk ih
open Classical in
noncomputable def rchB (m : Mac) (f : Int) : List Bool := (List.range m.states.toNat).map fun s : Nat => decide (Rch m.steps f (s : Int))
theorem rchB_len (f : Int) : (rchB m f).length = m.states.toNat := by simp [rchB]
open Classical in
theorem rchB_at {f : Int} {s : Nat} (hs : s < m.states.toNat) : (rchB m f).getD s false = decide (Rch m.steps f (s : Int)) := by simp [rchB, hs]
open Classical in
theorem rchB_of {f : Int} {bs : List Bool} (hl : bs.length = m.states.toNat) (hb : ∀ s, s < m.states.toNat → (bs.getD s false = true ↔ Rch m.steps f (s : Int))) : bs = rchB m f := by
  refine List.ext_getElem (by rw [hl, rchB_len]) fun j h1 h2 => ?_
  have e1 := gd_at false h1
  have e2 := gd_at false h2
  rw [← e1, ← e2, rchB_at (by omega), Bool.eq_iff_iff, decide_eq_true_eq]
  exact hb j (by omega)
theorem z4' : zeroB Try.prog 4 (.bool false) := z4
def countT (bs : List Bool) : Nat := bs.countP id
theorem countT_rep (n : Nat) : countT (List.replicate n false) = 0 := by
  induction n with
  | zero => rfl
  | succ n ih => simp [countT, List.replicate_succ] at ih ⊢
theorem repB (n s : Nat) : (List.replicate n false).getD s false = false := by
  simp only [List.getD, List.getElem?_replicate]
  split <;> rfl
theorem setB_map {xs : List Bool} {n : Nat} {x : Bool} : (xs.map Value.bool).set n (.bool x) = (xs.set n x).map .bool := by rw [List.map_set]
theorem set_getB {bs : List Bool} {k : Nat} (hk : k < bs.length) (j : Nat) : (bs.set k true).getD j false = (decide (j = k) || bs.getD j false) := by
  by_cases q : j = k
  · subst q; simp [List.getD, hk]
  · have : ¬ k = j := fun e => q e.symm
    simp [List.getD, List.getElem?_set, this, q]
theorem countT_le (bs : List Bool) : countT bs ≤ bs.length := List.countP_le_length
theorem countT_set {bs : List Bool} {k : Nat} (hk : k < bs.length) (hf : bs.getD k false = false) : countT (bs.set k true) = countT bs + 1 := by
  induction bs generalizing k with
  | nil => simp at hk
  | cons b bs ih =>
    cases k with
    | zero =>
      simp only [List.getD_cons_zero] at hf
      subst hf
      simp [countT]
    | succ k =>
      simp only [List.getD_cons_succ] at hf
      have := ih (by simpa using hk) hf
      unfold countT at this ⊢
      simp only [List.set_cons_succ, List.countP_cons]
      omega
theorem fr_mem {m : Mac} {s : Nat} {x : Int} : x ∈ frRow m m.steps.length s ↔ ∃ k : Nat, x = (k : Int) ∧ k < m.steps.length ∧ (m.steps.getD k dst).fr = (s : Int) := by
  unfold frRow
  simp only [List.mem_map, List.mem_filter, List.mem_range, decide_eq_true_eq]
  constructor
  · rintro ⟨k, ⟨h1, h2⟩, rfl⟩; exact ⟨k, rfl, h1, h2⟩
  · rintro ⟨k, rfl, h1, h2⟩; exact ⟨k, ⟨h1, h2⟩, rfl⟩
/-- The states seen so far: those in the queue are seen; what is seen and not in the queue has its targets seen. -/
structure Seen (m : Mac) (f : Int) (bs : List Bool) (q : List Int) : Prop where
  len : bs.length = m.states.toNat
  rch : ∀ s, bs.getD s false = true → Rch m.steps f (s : Int)
  fst : bs.getD f.toNat false = true
  inq : ∀ x ∈ q, 0 ≤ x ∧ x < m.states ∧ bs.getD x.toNat false = true
theorem c64 {gi : Nat} {st by_ fr : Value} {f : Int} (g : Graph gi h m st by_ fr) (r : Right m) (f0 : 0 ≤ f) (f1 : f < m.states) :
    DetP Try.prog 64 [.pointer (some ⟨gi, 0, none⟩), .int .i64 f] h fun v h' => h <+: h' ∧ Only h h' fun g => BoolS g v (rchB m f) := by
  obtain ⟨b1, b2, b3, b4, b5, b6⟩ := r.bounds
  have hfew := r.few
  have hsl : m.steps.length ≤ 320 := by
    have : m.states * m.inputs ≤ 40 * 8 := Int.mul_le_mul b2 b4 (by omega) (by omega)
    omega
  refine w64 ?_
  unfold n64
  with_reducible (refine mv_i ?_; refine mv_i ?_; refine nil_i ?_; refine vk_i (fa92_0 _) ?_; refine vk_i (fa36_0 _) ?_; refine ldgr r3 (by assumption) rfl ?_)
  refine mk1_i (n := m.states) t48 z4 (by omega) ⟨by omega, by omega⟩ ?_
  have ez : List.replicate m.states.toNat (Value.bool false) = (List.replicate m.states.toNat false).map .bool := by simp
  rw [ez]
  have o0 := (Owns.start (fun _ => []) oneE (List.prefix_refl h)).add 0 ((List.replicate m.states.toNat false).map .bool) 1 rfl
  generalize hoi : h.length = oi at o0 ⊢
  generalize newArr h ((List.replicate m.states.toNat false).map .bool) 1 = h2 at o0 ⊢
  have sB : ∀ {h2 N C} {bs : List Bool} (o2 : Owns h h2 N C oneE), N 0 = some oi → C 0 = bs.map .bool → bs.length = m.states.toNat → BoolS h2 (.slice (some ⟨oi, 0, none⟩) m.states.toNat (m.states.toNat + 1)) bs := by
    intro h2 N C bs o2 n0 c0 hl
    have := LS.bools o2 (v := .slice (some ⟨oi, 0, none⟩) m.states.toNat (m.states.toNat + 1)) (xs := bs) (l := 0) (by have := LS.whole (C := C) (c := m.states.toNat + 1) n0 (k := m.states.toNat) (by rw [c0, List.length_map]; omega); rw [c0] at this; exact this) rfl (by omega)
    exact this
  have b0 := sB o0 (upN_self _ _ _) (by rw [upN_self]) (by simp)
  have hlr : (List.replicate m.states.toNat false).length = m.states.toNat := by simp
  with_reducible (refine mv_i ?_; refine mv_i ?_; refine mv_i ?_; refine idxzb t48 (by assumption) (by omega) (by omega) ?_)
  rw [elt_at1]
  refine stl s4 o0 (upN_self _ _ _) (by rw [upN_self]; simp; omega) rfl rfl fun o1 => ?_
  rw [upN_self, setB_map] at o1 ⊢
  have n1 : (upN (fun _ => none) 0 (some oi)) 0 = some oi := upN_self _ _ _
  have n1' : (upN (fun _ => none) 0 (some oi)) 1 = none := by rw [upN_ne (by omega)]
  have c1 := upN_self (upN (fun _ => []) 0 ((List.replicate m.states.toNat false).map Value.bool)) 0 (((List.replicate m.states.toNat false).set f.toNat true).map Value.bool)
  generalize upN (upN (fun _ => []) 0 ((List.replicate m.states.toNat false).map Value.bool)) 0 (((List.replicate m.states.toNat false).set f.toNat true).map Value.bool) = C1 at o1 c1
  generalize upN (fun _ => none) 0 (some oi) = N1 at o1 n1 n1'
  have e1 : oneE 0 = 1 := rfl
  rw [e1] at o1 ⊢
  generalize h2.set oi (.arr ⟨((List.replicate m.states.toNat false).set f.toNat true).map Value.bool, 1, false⟩) = h3 at o1 ⊢
  with_reducible (refine mv_i ?_)
  refine ok_i (bs23_1 _ _) ?_
  have o2 := o1.add 1 [.int .i64 f] 1 rfl
  have l1 : LS (upN N1 1 (some h3.length)) (upN C1 1 [.int .i64 f]) 1 (.slice (some ⟨h3.length, 0, none⟩) 1 2) ([f].map (.int .i64)) := by
    have := LS.whole (N := upN N1 1 (some h3.length)) (C := upN C1 1 [.int .i64 f]) (c := 2) (l := 1) (k := 1) (upN_self _ _ _) (by rw [upN_self]; rfl)
    rw [upN_self] at this
    exact this
  have n2 : (upN N1 1 (some h3.length)) 0 = some oi := by rw [upN_ne (by omega)]; exact n1
  have c2 : (upN C1 1 [.int .i64 f]) 0 = ((List.replicate m.states.toNat false).set f.toNat true).map Value.bool := by rw [upN_ne (by omega)]; exact c1
  generalize upN C1 1 [.int .i64 f] = C2 at o2 l1 c2
  generalize upN N1 1 (some h3.length) = N2 at o2 l1 n2
  generalize (Value.slice (some ⟨h3.length, 0, none⟩) 1 2) = ov at l1 ⊢
  generalize newArr h3 [.int .i64 f] 1 = h4 at o2 ⊢
  with_reducible (refine mv_i ?_)
  have hfn : f.toNat < m.states.toNat := by omega
  have seen0 : Seen m f ((List.replicate m.states.toNat false).set f.toNat true) [f] := by
    refine ⟨by simp, fun s hs => ?_, ?_, ?_⟩
    · rw [set_getB (by simpa using hfn)] at hs
      by_cases q : s = f.toNat
      · subst q; rw [Int.toNat_of_nonneg f0]; exact .refl
      · rw [repB, decide_eq_false q] at hs; cases hs
    · rw [set_getB (by simpa using hfn)]; simp
    · intro x hx
      simp at hx
      subst hx
      exact ⟨f0, f1, by rw [set_getB (by simpa using hfn)]; simp⟩
  have hc0 : countT ((List.replicate m.states.toNat false).set f.toNat true) = 1 := by
    rw [countT_set (by simpa using hfn) (repB _ _), countT_rep]
  refine lp1 (fun n vs h2 => ∃ v N C bs q, vs = [v] ∧ Owns h h2 N C oneE ∧ N 0 = some oi ∧ C 0 = bs.map .bool ∧ LS N C 1 v (q.map (.int .i64)) ∧ Seen m f bs q ∧
      (∀ k, k < m.steps.length → bs.getD (m.steps.getD k dst).fr.toNat false = true → (m.steps.getD k dst).fr ∉ q → bs.getD (m.steps.getD k dst).to.toNat false = true) ∧ q.length ≤ countT bs ∧ n = 2 * (m.states.toNat - countT bs) + q.length)
    ⟨ov, N2, C2, _, [f], rfl, o2, n2, c2, l1, seen0, fun k hk hb hf => ?_, by rw [hc0]; simp, rfl⟩ ?_
  · exfalso
    rw [set_getB (by simpa using hfn)] at hb
    have hst := r.st hk
    rw [List.mem_singleton] at hf
    by_cases q : (m.steps.getD k dst).fr.toNat = f.toNat
    · omega
    · rw [repB, decide_eq_false q] at hb; cases hb
  rintro n _ h2 _ ⟨v, N, C, bs, q, e, ow, n0, cc, ls, sn, dn, hq, rfl⟩ hr
  cases e
  have hcle := countT_le bs
  have hbl := sn.len
  have si := ls.ints ow rfl (by omega)
  have g2 := g.mono ow.sub
  have gf := g2.fr
  have hfl : (frL m).length = m.states.toNat := by simp [frL]
  with_reducible (refine mv_i ?_; refine leni_i t23 (by assumption) ?_)
  refine gtr_i (fun hg => ?_) (fun hg => ?_)
  · obtain ⟨x, q, rfl⟩ : ∃ x q', q = x :: q' := by
      cases q with
      | nil => simp at hg
      | cons x q => exact ⟨x, q, rfl⟩
    obtain ⟨x0, x1, x2⟩ := sn.inq x (by simp)
    with_reducible (refine cnd_t ?_; refine mv_i ?_)
    refine idxi_i (k := 0) t23 si (by omega) ?_
    refine ldi_i t23 r3 si (by omega) ?_
    rw [List.getD_cons_zero]
    with_reducible (refine mv_i ?_; refine mv_i ?_)
    rw [List.map_cons] at ls
    refine ltail t23 ow ls rfl fun v' ls => ?_
    with_reducible (refine mv_i ?_; refine mv_i ?_; refine nil_i ?_; refine vk_i (fa92_2 _) ?_; refine ldgr r45 (by assumption) rfl ?_; refine mv_i ?_; refine idxzr t22 (by assumption) (by omega) (by omega) ?_)
    refine ldrb t22 r23 g.fr ow.sub (by omega) fun row srow => ?_
    rw [frL_at m (by omega)] at srow
    have hfrl := frRow_len m m.steps.length x.toNat
    have hmem := fun y => @fr_mem m x.toNat y
    rw [Int.toNat_of_nonneg x0] at hmem
    generalize hks : frRow m m.steps.length x.toNat = ks at srow hfrl hmem
    have srow2 := srow.mono ow.sub
    with_reducible (refine leni_i t23 (by assumption) ?_; refine mv_i ?_)
    simp only [List.length_cons] at hq
    refine loop2 ks.length (fun j v h3 => ∃ N C bs' q', Owns h h3 N C oneE ∧ N 0 = some oi ∧ C 0 = bs'.map .bool ∧ LS N C 1 v (q'.map (.int .i64)) ∧ Seen m f bs' q' ∧ (∀ s, bs.getD s false = true → bs'.getD s false = true) ∧
        (∀ k, k < m.steps.length → bs'.getD (m.steps.getD k dst).fr.toNat false = true → (m.steps.getD k dst).fr ∉ q' → ((m.steps.getD k dst).fr = x → (k : Int) ∈ ks.take j) → bs'.getD (m.steps.getD k dst).to.toNat false = true) ∧ q'.length + 1 ≤ countT bs' ∧ 2 * (m.states.toNat - countT bs') + q'.length ≤ 2 * (m.states.toNat - countT bs) + q.length)
      ⟨N, C, bs, q, ow, n0, cc, ls, ⟨sn.len, sn.rch, sn.fst, fun y hy => sn.inq y (by simp [hy])⟩, fun s hs => hs, fun k hk hb hf ht => ?_, by omega, by omega⟩ ?_
    · refine dn k hk hb fun hm => ?_
      rcases List.mem_cons.mp hm with e | e
      · have := ht e
        simp at this
      · exact hf e
    clear ls dn sn
    rintro j v3 h3 _ hj ⟨N, C, bs', q', ow, n0, cc, ls, sn, hsub, dn, hq', hrk⟩
    have srow3 := srow.mono ow.sub
    have g3 := g.mono ow.sub
    have gst3 := g3.steps
    have hcle := countT_le bs'
    have hbl' := sn.len
    have sb3 := sB ow n0 cc sn.len
    skip
    refine lss_i (fun hlt => ?_) (fun hge => ?_)
    · have hj2 : j < ks.length := by omega
      obtain ⟨k, hzk, hk, hkf⟩ := (hmem _).mp (gd_mem 0 hj2)
      have hst := r.st hk
      have htk := take_gd 0 hj2
      refine cnd_t ?_
      refine seq_J (fun xs h4 => ∃ v, xs = [v] ∧ upI2 (fun j v h3 => ∃ N C bs' q', Owns h h3 N C oneE ∧ N 0 = some oi ∧ C 0 = bs'.map .bool ∧ LS N C 1 v (q'.map (.int .i64)) ∧ Seen m f bs' q' ∧ (∀ s, bs.getD s false = true → bs'.getD s false = true) ∧
        (∀ k, k < m.steps.length → bs'.getD (m.steps.getD k dst).fr.toNat false = true → (m.steps.getD k dst).fr ∉ q' → ((m.steps.getD k dst).fr = x → (k : Int) ∈ ks.take j) → bs'.getD (m.steps.getD k dst).to.toNat false = true) ∧ q'.length + 1 ≤ countT bs' ∧ 2 * (m.states.toNat - countT bs') + q'.length ≤ 2 * (m.states.toNat - countT bs) + q.length) ks.length [v, .int .i64 ((j + 1 : Nat) : Int)] h4) ?_ ?_
      · rintro _ h4 ⟨v, rfl, hv⟩ _
        show vK _ h4 _
        refine inc_i (by omega) ?_
        with_reducible (refine mv_i ?_)
        exact ⟨hv, by simp only [upμ]; omega⟩
      intro k' hk'
      refine idxi_i t23 srow3 hj2 ?_
      refine ldi_i t23 r3 srow3 hj2 ?_
      rw [hzk]
      with_reducible (refine mv_i ?_; refine mv_i ?_; refine nil_i ?_; refine vk_i (fa92_0 _) ?_; refine vk_i (fa36_4 _) ?_; refine ldgr r34 (by assumption) rfl ?_; refine mv_i ?_; refine idxst t34 (by assumption) (by omega) ?_; refine fae_i st63 (by assumption) (by omega) (by omega) ?_; refine ldto dst st63 (by assumption) (by omega) ?_; refine mv_i ?_; refine mv_i ?_; refine mv_i ?_; refine idxzb t48 (by assumption) (by omega) (by omega) ?_; refine ldb_i t48 r4 (by assumption) (by omega) ?_)
      rcases hbt : bs'.getD (m.steps.getD k dst).to.toNat false with _ | _
      · have htn : (m.steps.getD k dst).to.toNat < bs'.length := by omega
        have hcs := countT_set htn hbt
        have hcs2 := countT_le (bs'.set (m.steps.getD k dst).to.toNat true)
        rw [List.length_set] at hcs2
        have hxr : Rch m.steps f (m.steps.getD k dst).fr := by
          have := sn.rch x.toNat (hsub _ x2)
          rw [Int.toNat_of_nonneg x0] at this
          rw [hkf]; exact this
        have hget := set_getB htn
        with_reducible (refine not_f ?_; refine cnd_t ?_; refine mv_i ?_; refine mv_i ?_; refine idxzb t48 (by assumption) (by omega) (by omega) ?_)
        rw [elt_at1]
        refine stl s4 ow n0 (by rw [cc, List.length_map]; omega) rfl rfl fun o5 => ?_
        rw [cc, setB_map, e1] at o5 ⊢
        have l5 := ls.neC (cs := (bs'.set (m.steps.getD k dst).to.toNat true).map Value.bool) (l' := 0) (by omega)
        have c5 := upN_self C 0 ((bs'.set (m.steps.getD k dst).to.toNat true).map Value.bool)
        generalize upN C 0 ((bs'.set (m.steps.getD k dst).to.toNat true).map Value.bool) = C5 at o5 l5 c5
        generalize h3.set oi (.arr ⟨(bs'.set (m.steps.getD k dst).to.toNat true).map Value.bool, 1, false⟩) = h5 at o5 ⊢
        with_reducible (refine mv_i ?_; refine mv_i ?_)
        refine ok_i (bs23_1 _ _) ?_
        have o6 := o5.ext (pre_new h5 [.int .i64 (m.steps.getD k dst).to] 1)
        refine lapp t23 o6 l5 rfl (Seg.new (n := 1) 2 (by simp) (by omega)) (by simp [Value.oneCell']) (by omega) (by simp; omega) fun h7 v7 o7 l7 _ _ _ => ?_
        with_reducible (refine mv_i ?_)
        refine hk' _ _ ⟨v7, rfl, j + 1, v7, rfl, hj2, _, _, bs'.set (m.steps.getD k dst).to.toNat true, q' ++ [(m.steps.getD k dst).to], o7, by rw [upN_ne (by omega)]; exact n0, by rw [upN_ne (by omega)]; exact c5, by simpa using l7, ⟨by simpa using sn.len, fun s hs => ?_, ?_, ?_⟩, ?_, ?_, ?_, ?_⟩
        · rw [hget] at hs
          by_cases q : s = (m.steps.getD k dst).to.toNat
          · subst q
            rw [Int.toNat_of_nonneg hst.2.2.1]
            exact .step hxr hk
          · rw [decide_eq_false q] at hs
            exact sn.rch s hs
        · rw [hget, sn.fst]; simp
        · intro y hy
          rcases List.mem_append.mp hy with hy | hy
          · obtain ⟨h1, h2, h3⟩ := sn.inq y hy
            exact ⟨h1, h2, by rw [hget, h3]; simp⟩
          · rw [List.mem_singleton] at hy
            subst hy
            exact ⟨hst.2.2.1, hst.2.2.2.1, by rw [hget]; simp⟩
        · intro s hs
          rw [hget, hsub s hs]; simp
        · intro k2 hk2 hb2 hf2 ht2
          rw [hget] at hb2 ⊢
          rw [List.mem_append, List.mem_singleton] at hf2
          rw [htk, hzk] at ht2
          have hst2 := r.st hk2
          have q : ¬ (m.steps.getD k2 dst).fr.toNat = (m.steps.getD k dst).to.toNat := by
            intro e
            exact hf2 (.inr (by omega))
          rw [decide_eq_false q] at hb2
          by_cases q2 : k2 = k
          · subst q2; simp
          · rw [dn k2 hk2 hb2 (fun e => hf2 (.inl e)) fun e => by
              have := ht2 e
              rw [List.mem_append] at this
              rcases this with this | this
              · exact this
              · rw [List.mem_singleton] at this; omega]
            simp
        · rw [hcs, List.length_append, List.length_singleton]; omega
        · rw [hcs, List.length_append, List.length_singleton]; omega
      · with_reducible (refine not_t ?_; refine cnd_f ?_)
        refine hk' _ _ ⟨v3, rfl, j + 1, v3, rfl, hj2, N, C, bs', q', ow, n0, cc, ls, sn, hsub, fun k2 hk2 hb2 hf2 ht2 => ?_, hq', hrk⟩
        rw [htk, hzk] at ht2
        by_cases q : k2 = k
        · subst q; exact hbt
        · exact dn k2 hk2 hb2 hf2 fun e => by
            have := ht2 e
            rw [List.mem_append] at this
            rcases this with this | this
            · exact this
            · simp at this; omega
    · have ej : j = ks.length := by omega
      subst ej
      with_reducible (refine cnd_f ?_)
      refine nxt (n' := 2 * (m.states.toNat - countT bs') + q'.length) hr (by simp; omega) ⟨v3, N, C, bs', q', rfl, ow, n0, cc, ls, sn, fun k hk hb hf => dn k hk hb hf fun e => ?_, by omega, rfl⟩
      rw [List.take_of_length_le (Nat.le_refl _)]
      exact (hmem _).mpr ⟨k, rfl, hk, e⟩
  · have q0 : q = [] := by
      cases q with
      | nil => rfl
      | cons x q => simp at hg
    subst q0
    with_reducible (refine cnd_f ?_; refine mv_i ?_; refine mv_i ?_; refine ret1 ?_)
    refine ⟨ow.pre, ow.only fun g og => ?_⟩
    have hbs : bs = rchB m f := rchB_of sn.len fun s hs => ⟨sn.rch s, fun hR => ?_⟩
    · subst hbs
      have := LS.bools og (v := .slice (some ⟨oi, 0, none⟩) m.states.toNat (m.states.toNat + 1)) (xs := rchB m f) (l := 0) (by have := LS.whole (C := C) (c := m.states.toNat + 1) n0 (k := m.states.toNat) (by rw [cc, List.length_map]; omega); rw [cc] at this; exact this) rfl (by omega)
      exact this
    · have := Rch.closed (Q := fun z => bs.getD z.toNat false = true) sn.fst (fun k hk hz => dn k hk hz (by simp)) hR
      simpa using this
end Go.Proofs.Ytdjoednhfoligaa

set_option linter.unusedSimpArgs false
set_option linter.unusedVariables false
set_option maxRecDepth 100000
namespace Go.Proofs.Ytdjoednhfoligaa
open Go.AM
variable {h h' h0 h1 : Heap} {K : Value → Heap → Prop} {m : Mac}

/-- The indexes below n for which something holds. -/
def idxs (p : Nat → Bool) (n : Nat) : List Int := ((List.range n).filter p).map fun k : Nat => (k : Int)
theorem idxs_succ (p : Nat → Bool) (n : Nat) : idxs p (n + 1) = if p n = true then idxs p n ++ [(n : Int)] else idxs p n := by
  unfold idxs
  rw [List.range_succ, List.filter_append]
  by_cases q : p n = true
  · simp [q]
  · simp [q]
theorem idxs_len (p : Nat → Bool) (n : Nat) : (idxs p n).length ≤ n := by
  unfold idxs
  rw [List.length_map]
  have := List.length_filter_le p (List.range n)
  simpa using this
theorem idxs_mem {p : Nat → Bool} {n : Nat} {x : Int} : x ∈ idxs p n ↔ ∃ k : Nat, x = (k : Int) ∧ k < n ∧ p k = true := by
  unfold idxs
  simp only [List.mem_map, List.mem_filter, List.mem_range]
  constructor
  · rintro ⟨k, ⟨h1, h2⟩, rfl⟩; exact ⟨k, rfl, h1, h2⟩
  · rintro ⟨k, rfl, h1, h2⟩; exact ⟨k, ⟨h1, h2⟩, rfl⟩
theorem idxs_congr {p q : Nat → Bool} {n : Nat} (h : ∀ k, k < n → p k = q k) : idxs p n = idxs q n := by
  unfold idxs
  congr 1
  exact List.filter_congr fun k hk => h k (List.mem_range.mp hk)
/-- The steps from states that are marked. -/
def leav (m : Mac) (bs : List Bool) : List Int := idxs (fun k => bs.getD (m.steps.getD k dst).fr.toNat false) m.steps.length
theorem c65 {gi : Nat} {a st by_ fr : Value} {bs : List Bool} (g : Graph gi h m st by_ fr) (r : Right m) (s : BoolS h a bs) (hl : bs.length = m.states.toNat) :
    DetP Try.prog 65 [.pointer (some ⟨gi, 0, none⟩), a] h fun v h' => h <+: h' ∧ Only h h' fun g => IntS g v (leav m bs) := by
  obtain ⟨b1, b2, b3, b4, b5, b6⟩ := r.bounds
  have hfew := r.few
  have hsl : m.steps.length ≤ 320 := by
    have : m.states * m.inputs ≤ 40 * 8 := Int.mul_le_mul b2 b4 (by omega) (by omega)
    omega
  have gst := g.steps
  refine w65 ?_
  unfold n65
  with_reducible (refine mv_i ?_; refine mv_i ?_; refine mv_i ?_; refine nil_i ?_; refine vk_i (fa92_0 _) ?_; refine vk_i (fa36_4 _) ?_; refine ldgr r34 (by assumption) rfl ?_; refine lenst t34 (by assumption) ?_; refine mv_i ?_)
  refine loop2 m.steps.length (fun k v h2 => Own 1 h h2 v (idxs (fun k => bs.getD (m.steps.getD k dst).fr.toNat false) k).length ((idxs (fun k => bs.getD (m.steps.getD k dst).fr.toNat false) k).map (.int .i64))) (Own.nil 1 (List.prefix_refl _)) ?_
  rintro k v h2 _ hk ow
  have gst2 := gst.mono (Sub.of_pre ow.pre)
  have s2 := s.mono (Sub.of_pre ow.pre)
  have hll := idxs_len (fun k => bs.getD (m.steps.getD k dst).fr.toNat false) k
  have hsc := idxs_succ (fun k => bs.getD (m.steps.getD k dst).fr.toNat false) k
  skip
  refine lss_i (fun hlt => ?_) (fun hge => ?_)
  · have hk2 : k < m.steps.length := by omega
    have hst := r.st hk2
    refine cnd_t ?_
    refine seq_J (fun xs h4 => ∃ v, xs = [v] ∧ Own 1 h h4 v (idxs (fun k => bs.getD (m.steps.getD k dst).fr.toNat false) (k + 1)).length ((idxs (fun k => bs.getD (m.steps.getD k dst).fr.toNat false) (k + 1)).map (.int .i64))) ?_ ?_
    · rintro _ h4 ⟨v, rfl, ow⟩ _
      show vK _ h4 _
      with_reducible (refine inc_i (by omega) ?_; refine mv_i ?_)
      exact next2 hk2 ow
    intro k' hk'
    with_reducible (refine mv_i ?_; refine idxst t34 (by assumption) (by omega) ?_)
    refine ldst_i st63 gst2 hk2 dst ?_
    refine ok_i (al63 _) ?_
    with_reducible (refine mv_i ?_)
    refine ok_i (v := undef) (h' := newArr h2 (m.steps.getD k dst).cells 4) (by rw [sto63]; rfl) ?_
    obtain ⟨o3, _⟩ := ow.ext (pre_new h2 (m.steps.getD k dst).cells 4)
    have hy : (newArr h2 (m.steps.getD k dst).cells 4)[h2.length]? = some (.arr ⟨[.int .i64 (m.steps.getD k dst).fr, .int .i64 (m.steps.getD k dst).inp, .int .i64 (m.steps.getD k dst).out, .int .i64 (m.steps.getD k dst).to], 4, false⟩) := newArr_get _ _ _
    generalize hyi : h2.length = yi at hy ⊢
    generalize newArr h2 (m.steps.getD k dst).cells 4 = h3 at o3 hy ⊢
    have s3 := s.mono (Sub.of_pre o3.pre)
    with_reducible (refine mv_i ?_; refine vk_i (fa63_0 _) ?_; refine ld4_0 r3 (by assumption) ?_; refine idxzb t48 (by assumption) (by omega) (by omega) ?_; refine ldb_i t48 r4 (by assumption) (by omega) ?_)
    rcases hb : bs.getD (m.steps.getD k dst).fr.toNat false with _ | _
    · with_reducible (refine cnd_f ?_)
      rw [hb, if_neg (by simp)] at hsc
      exact hk' _ _ ⟨v, rfl, by rw [hsc]; exact o3⟩
    · with_reducible (refine cnd_t ?_; refine mv_i ?_; refine mv_i ?_)
      rw [hb, if_pos rfl] at hsc
      refine ok_i (bs23_1 _ _) ?_
      obtain ⟨o4, _⟩ := o3.ext (pre_new h3 [.int .i64 (k : Int)] 1)
      refine app_i t23 o4 (Seg.new (n := 1) 2 (by simp) (by omega)) (by simp [Value.oneCell']) (by omega) ⟨by omega, by omega⟩ fun v' h' o5 _ => ?_
      with_reducible (refine mv_i ?_)
      exact hk' _ _ ⟨v', rfl, by rw [hsc]; simpa using o5⟩
  · have ek : k = m.steps.length := by omega
    subst ek
    with_reducible (refine cnd_f ?_; refine mv_i ?_; refine mv_i ?_; refine ret1 ?_)
    exact ⟨ow.pre, ow.only⟩
theorem c60 {gi : Nat} {st by_ fr : Value} (g : Graph gi h m st by_ fr) (r : Right m) :
    DetP Try.prog 60 [.pointer (some ⟨gi, 0, none⟩)] h fun v h' => h <+: h' ∧ Only h h' fun g => IntS g v (leav m (rchB m m.start)) := by
  obtain ⟨b1, b2, b3, b4, b5, b6⟩ := r.bounds
  have hfew := r.few
  have hsl : m.steps.length ≤ 320 := by
    have : m.states * m.inputs ≤ 40 * 8 := Int.mul_le_mul b2 b4 (by omega) (by omega)
    omega
  refine w60 ?_
  unfold n60
  with_reducible (refine mv_i ?_; refine mv_i ?_; refine mv_i ?_; refine mv_i ?_; refine nil_i ?_; refine vk_i (fa92_0 _) ?_; refine vk_i (fa36_3 _) ?_; refine ldgr r3 (by assumption) rfl ?_)
  refine call_i (c64 g r b5 b6) ?_
  rintro v h2 ⟨p2, q2⟩
  refine call_i (c65 (g.mono (Sub.of_pre p2)) r q2.self (rchB_len _)) ?_
  rintro w h3 ⟨p3, q3⟩
  with_reducible (refine mv_i ?_; refine ret1 ?_)
  exact ⟨p2.trans p3, Only.from p2 q3⟩
def markedL (bs : List Bool) : List Int := idxs (fun k => bs.getD k false) bs.length
theorem c27 {a : Value} {bs : List Bool} (s : BoolS h a bs) (hl : bs.length ≤ 2 ^ 40) : DetP Try.prog 27 [a] h fun v h' => h <+: h' ∧ Only h h' fun g => IntS g v (markedL bs) := by
  refine w27 ?_
  unfold n27
  with_reducible (refine mv_i ?_; refine mv_i ?_; refine mv_i ?_)
  refine loop2 bs.length (fun k v h2 => Own 1 h h2 v (idxs (fun k => bs.getD k false) k).length ((idxs (fun k => bs.getD k false) k).map (.int .i64))) (Own.nil 1 (List.prefix_refl _)) ?_
  rintro k v h2 _ hk ow
  have s2 := s.mono (Sub.of_pre ow.pre)
  have hll := idxs_len (fun k => bs.getD k false) k
  have hsc := idxs_succ (fun k => bs.getD k false) k
  with_reducible (refine mv_i ?_; refine mv_i ?_; refine lenb_i t48 (by assumption) ?_)
  refine lss_i (fun hlt => ?_) (fun hge => ?_)
  · have hk2 : k < bs.length := by omega
    refine cnd_t ?_
    refine seq_J (fun xs h4 => ∃ v, xs = [v] ∧ Own 1 h h4 v (idxs (fun k => bs.getD k false) (k + 1)).length ((idxs (fun k => bs.getD k false) (k + 1)).map (.int .i64))) ?_ ?_
    · rintro _ h4 ⟨v, rfl, ow⟩ _
      show mvK _ h4 _
      with_reducible (refine mv_i ?_; refine inc_i (by omega) ?_; refine mv_i ?_)
      exact next2 hk2 ow
    intro k' hk'
    with_reducible (refine mv_i ?_; refine mv_i ?_; refine idxb_i t48 (by assumption) (by omega) ?_; refine ldb_i t48 r4 (by assumption) (by omega) ?_)
    rcases hb : bs.getD k false with _ | _
    · with_reducible (refine cnd_f ?_)
      rw [hb, if_neg (by simp)] at hsc
      exact hk' _ _ ⟨v, rfl, by rw [hsc]; exact ow⟩
    · with_reducible (refine cnd_t ?_; refine mv_i ?_; refine mv_i ?_)
      rw [hb, if_pos rfl] at hsc
      refine ok_i (bs23_1 _ _) ?_
      obtain ⟨o4, _⟩ := ow.ext (pre_new h2 [.int .i64 (k : Int)] 1)
      refine app_i t23 o4 (Seg.new (n := 1) 2 (by simp) (by omega)) (by simp [Value.oneCell']) (by omega) ⟨by omega, by omega⟩ fun v' h' o5 _ => ?_
      with_reducible (refine mv_i ?_)
      exact hk' _ _ ⟨v', rfl, by rw [hsc]; simpa using o5⟩
  · have ek : k = bs.length := by omega
    subst ek
    with_reducible (refine cnd_f ?_; refine mv_i ?_; refine mv_i ?_; refine ret1 ?_)
    exact ⟨ow.pre, ow.only⟩
theorem markedL_at {bs : List Bool} : markedL bs = idxs (fun k => bs.getD k false) bs.length := rfl
theorem c25 {a : Value} (s : MacV h a m) :
    DetP Try.prog 25 [a] h fun v h' => h <+: h' ∧ if (mErr m).2 ≠ 0 then v = .tuple #[.slice none 0 0, .slice none 0 0, .int .i64 (mErr m).2] else ∃ x y, v = .tuple #[x, y, .int .i64 0] ∧ Only h h' fun g => IntS g x (markedL (rchB m m.start)) ∧ IntS g y (leav m (rchB m m.start)) := by
  refine w25 ?_
  unfold n25
  obtain ⟨o, l, c, rfl, ss0⟩ := s
  rw [box36]
  refine ok_i rfl ?_
  have p1 := pre_new h [.int .i64 m.states, .int .i64 m.inputs, .int .i64 m.outputs, .int .i64 m.start, .slice o l c] 5
  have hb1 := newArr_get h [.int .i64 m.states, .int .i64 m.inputs, .int .i64 m.outputs, .int .i64 m.start, .slice o l c] 5
  have ss := ss0.mono (Sub.of_pre p1)
  generalize hg1 : newArr h [.int .i64 m.states, .int .i64 m.inputs, .int .i64 m.outputs, .int .i64 m.start, .slice o l c] 5 = g1 at p1 hb1 ss ⊢
  have mv1 : MacV g1 (.agg #[.int .i64 m.states, .int .i64 m.inputs, .int .i64 m.outputs, .int .i64 m.start, .slice o l c]) m := macv_of ss
  with_reducible (refine mv_i ?_; refine mv_i ?_; refine mv_i ?_)
  refine vk_i (ld36 hb1) ?_
  refine call_r (c51 mv1) ?_
  with_reducible (refine mv_i ?_; refine mv_i ?_)
  refine neq_i (fun hz => ?_) (fun hz => ?_)
  · have r := right_of hz
    obtain ⟨b1, b2, b3, b4, b5, b6⟩ := r.bounds
    have hfew := r.few
    have hsl : m.steps.length ≤ 320 := by
      have : m.states * m.inputs ≤ 40 * 8 := Int.mul_le_mul b2 b4 (by omega) (by omega)
      omega
    with_reducible (refine cnd_f ?_)
    refine vk_i (ld36 hb1) ?_
    refine call_i (c54 mv1 r) ?_
    rintro _ g3 ⟨p3, gi, st, by_, fr, rfl, sst, og⟩
    have gr : Graph gi g3 m st by_ fr := og.self (sst.mono (Sub.of_pre p3))
    with_reducible (refine mv_i ?_; refine mv_i ?_; refine mv_i ?_; refine mv_i ?_; refine nil_i ?_; refine vk_i (fa92_0 _) ?_; refine vk_i (fa36_3 _) ?_; refine ldgr r3 (by assumption) rfl ?_)
    refine call_i (c64 gr r b5 b6) ?_
    rintro bv g4 ⟨p4, q4⟩
    have sb := q4.self
    have hlb := rchB_len (m := m) m.start
    with_reducible (refine lenb_i t48 (by assumption) ?_; refine mv_i ?_)
    rw [hlb]
    refine loop2 m.states.toNat (fun k v h2 => Own 1 g4 h2 v (idxs (fun k => (rchB m m.start).getD k false) k).length ((idxs (fun k => (rchB m m.start).getD k false) k).map (.int .i64))) (Own.nil 1 (List.prefix_refl _)) ?_
    rintro k v h2 _ hk ow
    have s2 := sb.mono (Sub.of_pre ow.pre)
    have hll := idxs_len (fun k => (rchB m m.start).getD k false) k
    have hsc := idxs_succ (fun k => (rchB m m.start).getD k false) k
    skip
    refine lss_i (fun hlt => ?_) (fun hge => ?_)
    · have hk2 : k < m.states.toNat := by omega
      refine cnd_t ?_
      refine seq_J (fun xs h4 => ∃ v, xs = [v] ∧ Own 1 g4 h4 v (idxs (fun k => (rchB m m.start).getD k false) (k + 1)).length ((idxs (fun k => (rchB m m.start).getD k false) (k + 1)).map (.int .i64))) ?_ ?_
      · rintro _ h4 ⟨v, rfl, ow⟩ _
        show vK _ h4 _
        with_reducible (refine inc_i (by omega) ?_; refine mv_i ?_)
        exact next2 hk2 ow
      intro k' hk'
      with_reducible (refine mv_i ?_; refine idxb_i t48 (by assumption) (by omega) ?_; refine ldb_i t48 r4 (by assumption) (by omega) ?_; refine mv_i ?_; refine mv_i ?_; refine mv_i ?_)
      rcases hb : (rchB m m.start).getD k false with _ | _
      · with_reducible (refine cnd_f ?_)
        rw [hb, if_neg (by simp)] at hsc
        exact hk' _ _ ⟨v, rfl, by rw [hsc]; exact ow⟩
      · with_reducible (refine cnd_t ?_; refine mv_i ?_; refine mv_i ?_)
        rw [hb, if_pos rfl] at hsc
        refine ok_i (bs23_1 _ _) ?_
        obtain ⟨o4, _⟩ := ow.ext (pre_new h2 [.int .i64 (k : Int)] 1)
        refine app_i t23 o4 (Seg.new (n := 1) 2 (by simp) (by omega)) (by simp [Value.oneCell']) (by omega) ⟨by omega, by omega⟩ fun v' h' o5 _ => ?_
        with_reducible (refine mv_i ?_)
        exact hk' _ _ ⟨v', rfl, by rw [hsc]; simpa using o5⟩
    · have ek : k = m.states.toNat := by omega
      with_reducible (refine cnd_f ?_; refine mv_i ?_; refine mv_i ?_)
      refine call_i (c60 (gr.mono (Sub.of_pre (p4.trans ow.pre))) r) ?_
      rintro w h3 ⟨p5, q5⟩
      with_reducible (refine mv_i ?_; refine mv_i ?_; refine mv_i ?_; refine ret3 ?_)
      refine ⟨p1.trans (p3.trans (p4.trans (ow.pre.trans p5))), ?_⟩
      rw [if_neg (by simp [hz])]
      refine ⟨v, w, rfl, ?_⟩
      have ho := (ow.only.pre p5)
      rw [markedL_at, hlb, ← ek]
      intro g hg
      exact ⟨ho g fun j a hj e => hg j a (Nat.le_trans (p1.trans (p3.trans p4)).length_le hj) e, q5 g fun j a hj e => hg j a (Nat.le_trans (p1.trans (p3.trans (p4.trans ow.pre))).length_le hj) e⟩
  · with_reducible (refine cnd_t ?_; refine mv_i ?_; refine mv_i ?_; refine mv_i ?_; refine mv_i ?_; refine ret3 ?_)
    exact ⟨p1, by rw [if_pos hz]⟩
end Go.Proofs.Ytdjoednhfoligaa

set_option linter.unusedSimpArgs false
set_option linter.unusedVariables false
set_option maxRecDepth 100000
namespace Go.Proofs.Ytdjoednhfoligaa
open Go.AM
variable {h h' h0 h1 : Heap} {K : Value → Heap → Prop} {m : Mac}
variable {N : Nat → Option Nat} {C : Nat → List Value}

theorem own_lab (l : Nat) (o : Owns h0 h N C oneE) (xs : List Int) : ∃ i, Owns h0 (ownH h xs) (upN N l (some i)) (upN C l (xs.map (.int .i64))) oneE ∧ LS (upN N l (some i)) (upN C l (xs.map (.int .i64))) l (ownV h xs) (xs.map (.int .i64)) := by
  unfold ownH ownV
  by_cases q : xs.length = 0
  · have e : xs = [] := List.length_eq_zero_iff.mp q
    subst e
    rw [if_pos q, if_pos q]
    refine ⟨h.length, o.add l [] 1 rfl, ?_⟩
    have := LS.whole (N := upN N l (some h.length)) (C := upN C l []) (c := 1) (l := l) (k := 0) (upN_self _ _ _) (by rw [upN_self]; rfl)
    rw [upN_self] at this
    exact this
  · rw [if_neg q, if_neg q]
    have o2 := (o.ext (pre_new h [] 1)).add l (xs.map (.int .i64)) 1 rfl
    rw [newArr_length] at o2
    refine ⟨h.length + 1, o2, ?_⟩
    have := LS.whole (N := upN N l (some (h.length + 1))) (C := upN C l (xs.map (Value.int .i64))) (c := 0) (l := l) (k := xs.length) (upN_self _ _ _) (by rw [upN_self]; simp)
    rw [upN_self] at this
    exact this
theorem stepAt_right (r : Right m) {k : Nat} (hk : k < m.steps.length) : stepAt m.steps (m.steps.getD k dst).fr (m.steps.getD k dst).inp = some k := by
  unfold stepAt
  refine firstOf_some (fun j hj => ?_) hk ?_
  · unfold stAt
    rw [if_neg]
    exact fun e => r.key hj hk e
  · unfold stAt
    rw [if_pos ⟨rfl, rfl⟩]
theorem upN_dead {l : Nat} {n n' : Option Nat} : upN (upN N l n) l n' = upN N l n' := by
  funext j; unfold upN; split <;> rfl
theorem upN_deadC {l : Nat} {n n' : List Value} : upN (upN C l n) l n' = upN C l n' := by
  funext j; unfold upN; split <;> rfl
theorem LS.vb (o : Owns h0 h N C oneE) {l : Nat} {v : Value} {q : List Value} (s : LS N C l v q) : VB h.length v := by
  rcases s with ⟨_, rfl, _⟩ | ⟨i, off, c, hn, rfl, _⟩
  · trivial
  · exact o.lt hn
theorem LS.eqv {N' : Nat → Option Nat} {C' : Nat → List Value} {l : Nat} {v : Value} {q : List Value} (s : LS N C l v q) (h1 : N' l = N l) (h2 : C' l = C l) : LS N' C' l v q := by
  unfold LS at *; rw [h1, h2]; exact s
/-- What the search knows. -/
structure Acc (m : Mac) (oi wi : Nat) (h0 h : Heap) (v : Value) (N : Nat → Option Nat) (C : Nat → List Value) (bs : List Bool) (q : List Int) (rs : List Value) (W : Nat → List Int) : Prop where
  own : Owns h0 h N C oneE
  n0 : N 0 = some oi
  n2 : N 2 = some wi
  c0 : C 0 = bs.map .bool
  c2 : C 2 = rs
  ls : LS N C 1 v (q.map (.int .i64))
  sn : Seen m m.start bs q
  ql : q.length = countT bs
  rl : rs.length = m.states.toNat
  wl : ∀ s, (W s).length < countT bs
  ws : ∀ s, s < m.states.toNat → LS N C (4 + s) (rs.getD s undef) ((W s).map (.int .i64))
  qa : ∀ s, s < m.states.toNat → bs.getD s false = true → (s : Int) ∈ q
/-- All steps from a state, by the first inputs, lead to what is seen. -/
def doneI (m : Mac) (bs : List Bool) (x : Int) (n : Int) : Prop := ∀ k, k < m.steps.length → (m.steps.getD k dst).fr = x → (m.steps.getD k dst).inp < n → bs.getD (m.steps.getD k dst).to.toNat false = true
set_option maxHeartbeats 1000000 in
theorem c66 {a : Value} (s : MacV h a m) (r : Right m) :
    DetP Try.prog 66 [a] h fun v h' => h <+: h' ∧ ∃ x y, v = .tuple #[x, y] ∧ Only h h' fun g => BoolS g y (rchB m m.start) := by
  obtain ⟨b1, b2, b3, b4, b5, b6⟩ := r.bounds
  have hfew := r.few
  have hsl : m.steps.length ≤ 320 := by
    have : m.states * m.inputs ≤ 40 * 8 := Int.mul_le_mul b2 b4 (by omega) (by omega)
    omega
  refine w66 ?_
  unfold n66
  obtain ⟨o, l, c, rfl, ss0⟩ := s
  rw [box36]
  refine ok_i rfl ?_
  have p1 := pre_new h [.int .i64 m.states, .int .i64 m.inputs, .int .i64 m.outputs, .int .i64 m.start, .slice o l c] 5
  have hb1 := newArr_get h [.int .i64 m.states, .int .i64 m.inputs, .int .i64 m.outputs, .int .i64 m.start, .slice o l c] 5
  have ss := ss0.mono (Sub.of_pre p1)
  generalize hg1 : newArr h [.int .i64 m.states, .int .i64 m.inputs, .int .i64 m.outputs, .int .i64 m.start, .slice o l c] 5 = g1 at p1 hb1 ss ⊢
  with_reducible (refine mv_i ?_; refine mv_i ?_; refine vk_i (fa36_0 _) ?_; refine ld5_0 r3 (by assumption) ?_; refine ⟨vbi _ _, ?_⟩)
  refine mk1_i (n := m.states) t22 z25 (by omega) ⟨by omega, by omega⟩ ?_
  have o0 := (Owns.start (fun _ => []) oneE (List.prefix_refl g1)).add 2 (List.replicate m.states.toNat (.slice none 0 0)) 1 rfl
  generalize hwi : g1.length = wi at o0 ⊢
  generalize newArr g1 (List.replicate m.states.toNat (.slice none 0 0)) 1 = h2 at o0 ⊢
  have hb2 := o0.sub.2 _ _ hb1
  with_reducible (refine vk_i (fa36_0 _) ?_; refine ld5_0 r3 (by assumption) ?_; refine ⟨vbi _ _, ?_⟩)
  refine mk1_i (n := m.states) t48 z4 (by omega) ⟨by omega, by omega⟩ ?_
  have ez : List.replicate m.states.toNat (Value.bool false) = (List.replicate m.states.toNat false).map .bool := by simp
  rw [ez]
  have o1 := o0.add 0 ((List.replicate m.states.toNat false).map .bool) 1 rfl
  generalize hoi : h2.length = oi at o1 ⊢
  generalize newArr h2 ((List.replicate m.states.toNat false).map .bool) 1 = h3 at o1 ⊢
  have hb3 := o1.sub.2 _ _ hb1
  have sB : ∀ {h2 N C} {bs : List Bool} (o2 : Owns g1 h2 N C oneE), N 0 = some oi → C 0 = bs.map .bool → bs.length = m.states.toNat → BoolS h2 (.slice (some ⟨oi, 0, none⟩) m.states.toNat (m.states.toNat + 1)) bs := by
    intro h2 N C bs o2 n0 c0 hl
    have := LS.bools o2 (v := .slice (some ⟨oi, 0, none⟩) m.states.toNat (m.states.toNat + 1)) (xs := bs) (l := 0) (by have := LS.whole (C := C) (c := m.states.toNat + 1) n0 (k := m.states.toNat) (by rw [c0, List.length_map]; omega); rw [c0] at this; exact this) rfl (by omega)
    exact this
  with_reducible (refine mv_i ?_; refine mv_i ?_; refine vk_i (fa36_3 _) ?_; refine ld5_3 r3 (by assumption) ?_)
  refine ok_i (bs23_1 _ _) ?_
  have o2 := o1.add 1 [.int .i64 m.start] 1 rfl
  have l1 : LS (upN (upN (upN (fun _ => none) 2 (some wi)) 0 (some oi)) 1 (some h3.length)) (upN (upN (upN (fun _ => []) 2 (List.replicate m.states.toNat (Value.slice none 0 0))) 0 ((List.replicate m.states.toNat false).map Value.bool)) 1 [Value.int .i64 m.start]) 1 (Value.slice (some ⟨h3.length, 0, none⟩) 1 2) ([m.start].map (Value.int .i64)) := by
    have := LS.whole (N := (upN (upN (upN (fun _ => none) 2 (some wi)) 0 (some oi)) 1 (some h3.length))) (C := (upN (upN (upN (fun _ => []) 2 (List.replicate m.states.toNat (Value.slice none 0 0))) 0 ((List.replicate m.states.toNat false).map Value.bool)) 1 [Value.int .i64 m.start])) (c := 2) (l := 1) (k := 1) (upN_self _ _ _) (by rw [upN_self]; rfl)
    rw [upN_self] at this
    exact this
  have n0 : (upN (upN (upN (fun _ => none) 2 (some wi)) 0 (some oi)) 1 (some h3.length)) 0 = some oi := by rw [upN_ne (by omega), upN_self]
  have n2 : (upN (upN (upN (fun _ => none) 2 (some wi)) 0 (some oi)) 1 (some h3.length)) 2 = some wi := by rw [upN_ne (by omega), upN_ne (by omega), upN_self]
  have n4 : ∀ s, (upN (upN (upN (fun _ => none) 2 (some wi)) 0 (some oi)) 1 (some h3.length)) (4 + s) = none := fun s => by rw [upN_ne (by omega), upN_ne (by omega), upN_ne (by omega)]
  have c0 : (upN (upN (upN (fun _ => []) 2 (List.replicate m.states.toNat (Value.slice none 0 0))) 0 ((List.replicate m.states.toNat false).map Value.bool)) 1 [Value.int .i64 m.start]) 0 = (List.replicate m.states.toNat false).map Value.bool := by rw [upN_ne (by omega), upN_self]
  have c2 : (upN (upN (upN (fun _ => []) 2 (List.replicate m.states.toNat (Value.slice none 0 0))) 0 ((List.replicate m.states.toNat false).map Value.bool)) 1 [Value.int .i64 m.start]) 2 = List.replicate m.states.toNat (Value.slice none 0 0) := by rw [upN_ne (by omega), upN_ne (by omega), upN_self]
  generalize (upN (upN (upN (fun _ => []) 2 (List.replicate m.states.toNat (Value.slice none 0 0))) 0 ((List.replicate m.states.toNat false).map .bool)) 1 [.int .i64 m.start]) = C1 at o2 l1 c0 c2
  generalize (upN (upN (upN (fun _ => none) 2 (some wi)) 0 (some oi)) 1 (some h3.length)) = N1 at o2 l1 n0 n2 n4
  generalize (Value.slice (some ⟨h3.length, 0, none⟩) 1 2) = ov at l1 ⊢
  generalize newArr h3 [.int .i64 m.start] 1 = h4 at o2 ⊢
  have b4' := sB o2 n0 c0 (by simp)
  have hb4 := o2.sub.2 _ _ hb1
  have hlr : (List.replicate m.states.toNat false).length = m.states.toNat := by simp
  with_reducible (refine mv_i ?_; refine mv_i ?_; refine vk_i (fa36_3 _) ?_; refine ld5_3 r3 (by assumption) ?_; refine idxzb t48 (by assumption) (by omega) (by omega) ?_)
  rw [elt_at1]
  refine stl s4 o2 n0 (by rw [c0]; simp; omega) rfl rfl fun o3 => ?_
  rw [c0, setB_map] at o3 ⊢
  have e1 : oneE 0 = 1 := rfl
  rw [e1] at o3 ⊢
  have l3 := l1.neC (cs := ((List.replicate m.states.toNat false).set m.start.toNat true).map Value.bool) (l' := 0) (by omega)
  have c3 := upN_self C1 0 (((List.replicate m.states.toNat false).set m.start.toNat true).map Value.bool)
  have c32 : upN C1 0 (((List.replicate m.states.toNat false).set m.start.toNat true).map Value.bool) 2 = List.replicate m.states.toNat (.slice none 0 0) := by rw [upN_ne (by omega)]; exact c2
  generalize upN C1 0 (((List.replicate m.states.toNat false).set m.start.toNat true).map Value.bool) = C3 at o3 l3 c3 c32
  generalize h4.set oi (.arr ⟨((List.replicate m.states.toNat false).set m.start.toNat true).map Value.bool, 1, false⟩) = h5 at o3 ⊢
  have hfn : m.start.toNat < m.states.toNat := by omega
  have seen0 : Seen m m.start ((List.replicate m.states.toNat false).set m.start.toNat true) [m.start] := by
    refine ⟨by simp, fun s hs => ?_, ?_, ?_⟩
    · rw [set_getB (by simpa using hfn)] at hs
      by_cases q : s = m.start.toNat
      · subst q; rw [Int.toNat_of_nonneg b5]; exact .refl
      · rw [repB, decide_eq_false q] at hs; cases hs
    · rw [set_getB (by simpa using hfn)]; simp
    · intro x hx
      rw [List.mem_singleton] at hx
      subst hx
      exact ⟨b5, b6, by rw [set_getB (by simpa using hfn)]; simp⟩
  have hc0 : countT ((List.replicate m.states.toNat false).set m.start.toNat true) = 1 := by
    rw [countT_set (by simpa using hfn) (repB _ _), countT_rep]
  have acc0 : Acc m oi wi g1 h5 ov N1 C3 ((List.replicate m.states.toNat false).set m.start.toNat true) [m.start] (List.replicate m.states.toNat (.slice none 0 0)) (fun _ => []) := by
    refine ⟨o3, n0, n2, c3, c32, l3, seen0, by rw [hc0]; rfl, by simp, fun s => by rw [hc0]; simp, fun s hs => .inl ⟨n4 s, ?_, rfl⟩, fun s hs hb => ?_⟩
    · simp only [List.getD, List.getElem?_replicate]; rw [if_pos hs]; rfl
    · rw [set_getB (by simpa using hfn)] at hb
      by_cases q : s = m.start.toNat
      · subst q; rw [Int.toNat_of_nonneg b5]; simp
      · rw [repB, decide_eq_false q] at hb; cases hb
  with_reducible (refine mv_i ?_)
  refine loop2 m.states.toNat (fun i v h2 => ∃ N C bs q rs W, Acc m oi wi g1 h2 v N C bs q rs W ∧ i ≤ q.length ∧ ∀ j, j < i → doneI m bs (q.getD j 0) m.inputs) ⟨N1, C3, _, _, _, _, acc0, Nat.zero_le _, fun j hj => by omega⟩ ?_
  rintro i v h6 _ hi ⟨N, C, bs, q, rs, W, ac, hiq, dn⟩
  have hcle := countT_le bs
  have hbl := ac.sn.len
  have hql := ac.ql
  have si := ac.ls.ints ac.own rfl (by omega)
  have hb6 := ac.own.sub.2 _ _ hb1
  with_reducible (refine mv_i ?_; refine mv_i ?_; refine leni_i t23 (by assumption) ?_)
  refine lss_i (fun hlt => ?_) (fun hge => ?_)
  · have hiq2 : i < q.length := by omega
    obtain ⟨x0, x1, x2⟩ := ac.sn.inq _ (gd_mem 0 hiq2)
    generalize hx : q.getD i 0 = x at x0 x1 x2
    obtain ⟨I, hI⟩ : ∃ I : Nat, m.inputs = (I : Int) := ⟨m.inputs.toNat, (Int.toNat_of_nonneg (by omega)).symm⟩
    with_reducible (refine cnd_t ?_; refine mv_i ?_)
    refine loop2 I (fun n v h2 => ∃ N C bs' q' rs W, Acc m oi wi g1 h2 v N C bs' q' rs W ∧ i < q'.length ∧ q'.getD i 0 = x ∧ (∀ j, j < i → doneI m bs' (q'.getD j 0) (I : Int)) ∧ doneI m bs' x (n : Int)) ⟨N, C, bs, q, rs, W, ac, hiq2, hx, fun j hj => by rw [← hI]; exact dn j hj, fun k hk _ hn => ?_⟩ ?_
    · have := r.st hk
      omega
    clear si ac dn
    rintro n v h7 _ hn ⟨N, C, bs', q', rs, W, ac, hiq3, hx3, dn, dx⟩
    have hb7 := ac.own.sub.2 _ _ hb1
    with_reducible (refine mv_i ?_; refine vk_i (fa36_1 _) ?_; refine ld5_1 r3 (by assumption) ?_)
    rw [hI]
    refine lss_i (fun hltn => ?_) (fun hge => ?_)
    · have hnI : n < I := by omega
      have si7 := ac.ls.ints ac.own rfl (by have := ac.ql; have := countT_le bs'; have := ac.sn.len; omega)
      have ss7 := ss.mono ac.own.sub
      have hcle' := countT_le bs'
      have hbl' := ac.sn.len
      have hql' := ac.ql
      obtain ⟨_, _, xseen⟩ := ac.sn.inq x (by rw [← hx3]; exact gd_mem 0 hiq3)
      refine cnd_t ?_
      refine seq_J (fun xs h4 => ∃ v, xs = [v] ∧ upI2 (fun n v h2 => ∃ N C bs' q' rs W, Acc m oi wi g1 h2 v N C bs' q' rs W ∧ i < q'.length ∧ q'.getD i 0 = x ∧ (∀ j, j < i → doneI m bs' (q'.getD j 0) (I : Int)) ∧ doneI m bs' x (n : Int)) I [v, .int .i64 ((n + 1 : Nat) : Int)] h4) ?_ ?_
      · rintro _ h4 ⟨v, rfl, hv⟩ _
        show mvK _ h4 _
        with_reducible (refine mv_i ?_; refine inc_i (by omega) ?_; refine mv_i ?_)
        exact ⟨hv, by simp only [upμ]; omega⟩
      intro k' hk'
      skip
      refine vk_i (ld36 hb7) ?_
      refine ⟨vb_mac ss7, ?_⟩
      with_reducible (refine mv_i ?_; refine mv_i ?_; refine idxi_i t23 (by assumption) (by omega) ?_; refine ldi_i t23 r3 (by assumption) (by omega) ?_; refine ⟨vbi _ _, ?_⟩; refine mv_i ?_)
      rw [hx3]
      refine calld_r (c81 (macv_of ss7)) ⟨⟨[], by simp⟩, ?_⟩
      with_reducible (refine mv_i ?_; refine mv_i ?_)
      cases hst : stepAt m.steps x (n : Int) with
      | none =>
        refine neq_i (fun _ => ?_) (fun hne => absurd rfl hne)
        with_reducible (refine mv_i ?_; refine gd_ft ?_; refine gd_ft ?_; refine gd_ft ?_; refine gd_ft ?_; refine gd_ft ?_; refine gd_ft ?_; refine gd_ft ?_; refine gd_ft ?_; refine gd_ft ?_; refine gd_ft ?_; refine pick_f ?_; refine cnd_f ?_)
        refine hk' _ _ ⟨v, rfl, n + 1, v, rfl, hnI, N, C, bs', q', rs, W, ac, hiq3, hx3, dn, fun k hk hf hi => ?_⟩
        by_cases e : (m.steps.getD k dst).inp = (n : Int)
        · have := stepAt_right r hk
          rw [hf, e, hst] at this
          cases this
        · exact dx k hk hf (by omega)
      | some k =>
        obtain ⟨hk, hkf, hki⟩ := stepAt_lt hst
        have hst2 := r.st hk
        have sb7 := sB ac.own ac.n0 ac.c0 ac.sn.len
        have hsame : ∀ k2, k2 < m.steps.length → (m.steps.getD k2 dst).fr = x → (m.steps.getD k2 dst).inp = (n : Int) → k2 = k := by
          intro k2 hk2 h1 h2
          have := stepAt_right r hk2
          rw [h1, h2, hst] at this
          exact (Option.some.inj this).symm
        refine neq_i (fun he => absurd he (by simp only [optI]; omega)) (fun _ => ?_)
        simp only [optI]
        with_reducible (refine mv_i ?_; refine gd_tt ?_; refine mv_i ?_; refine gd_tt ?_; refine vk_i (fa36_4 _) ?_; refine gd_tt ?_; refine ld5_4 r34 (by assumption) ?_; refine gd_tt ?_; refine mv_i ?_; refine gd_tt ?_; refine idxst t34 (by assumption) (by omega) ?_; refine gd_tt ?_; refine fae_i st63 (by assumption) (by omega) (by omega) ?_; refine gd_tt ?_; refine ldto dst st63 (by assumption) (by omega) ?_; refine gd_tt ?_; refine idxzb t48 (by assumption) (by omega) (by omega) ?_; refine gd_tt ?_; refine ldb_i t48 r4 (by assumption) (by omega) ?_; refine gd_tt ?_)
        rcases hbt : bs'.getD (m.steps.getD k dst).to.toNat false with _ | _
        · have htn : (m.steps.getD k dst).to.toNat < bs'.length := by omega
          have hcs := countT_set htn hbt
          have hcs2 := countT_le (bs'.set (m.steps.getD k dst).to.toNat true)
          rw [List.length_set] at hcs2
          have hxr : Rch m.steps m.start (m.steps.getD k dst).fr := by
            have := ac.sn.rch x.toNat xseen
            rw [Int.toNat_of_nonneg x0] at this
            rw [hkf]; exact this
          have hget := set_getB htn
          have hxn : x.toNat < m.states.toNat := by omega
          have hwx := ac.wl x.toNat
          with_reducible (refine not_f ?_; refine pick_t ?_; refine cnd_t ?_; refine mv_i ?_; refine vk_i (fa36_4 _) ?_; refine ld5_4 r34 (by assumption) ?_; refine mv_i ?_; refine idxst t34 (by assumption) (by omega) ?_; refine fae_i st63 (by assumption) (by omega) (by omega) ?_; refine ldto dst st63 (by assumption) (by omega) ?_; refine idxzb t48 (by assumption) (by omega) (by omega) ?_)
          rw [elt_at1]
          refine stl s4 ac.own ac.n0 (by rw [ac.c0, List.length_map]; omega) rfl rfl fun o5 => ?_
          rw [ac.c0, setB_map, e1] at o5 ⊢
          have l5 := ac.ls.neC (cs := (bs'.set (m.steps.getD k dst).to.toNat true).map Value.bool) (l' := 0) (by omega)
          have w5 : ∀ s, s < m.states.toNat → LS N (upN C 0 ((bs'.set (m.steps.getD k dst).to.toNat true).map Value.bool)) (4 + s) (rs.getD s undef) ((W s).map (.int .i64)) := fun s hs => (ac.ws s hs).neC (by omega)
          have c50 := upN_self C 0 ((bs'.set (m.steps.getD k dst).to.toNat true).map Value.bool)
          have c52 : upN C 0 ((bs'.set (m.steps.getD k dst).to.toNat true).map Value.bool) 2 = rs := by rw [upN_ne (by omega)]; exact ac.c2
          generalize upN C 0 ((bs'.set (m.steps.getD k dst).to.toNat true).map Value.bool) = C5 at o5 l5 w5 c50 c52
          generalize h7.set oi (.arr ⟨(bs'.set (m.steps.getD k dst).to.toNat true).map Value.bool, 1, false⟩) = h8 at o5 ⊢
          have hb8 := o5.sub.2 _ _ hb1
          have ss8 := ss.mono o5.sub
          have si8 := l5.ints o5 rfl (by omega)
          with_reducible (refine mv_i ?_; refine vk_i (fa36_4 _) ?_; refine ld5_4 r34 (by assumption) ?_; refine ⟨VB_of_steps (by assumption), ?_⟩; refine mv_i ?_; refine idxst t34 (by assumption) (by omega) ?_; refine fae_i st63 (by assumption) (by omega) (by omega) ?_; refine ldto dst st63 (by assumption) (by omega) ?_; refine ⟨vbi _ _, ?_⟩; refine mv_i ?_; refine mv_i ?_; refine mv_i ?_; refine idxi_i t23 (by assumption) (by omega) ?_; refine ldi_i t23 r3 (by assumption) (by omega) ?_; refine ⟨vbi _ _, ?_⟩)
          rw [hx3]
          have sw8 : Seg 1 h8 (.slice (some ⟨wi, 0, none⟩) m.states.toNat (m.states.toNat + 1)) m.states.toNat rs := by
            have := o5.seg ac.n2 (k := m.states.toNat) (c := m.states.toNat + 1) (sz := 1) rfl (by rw [c52, ac.rl]; omega) (by omega)
            rw [c52] at this
            exact this
          refine idxz t22 sw8 x0 (by omega) ?_
          refine ld_i t22 r23 sw8 hxn (y := rs.getD x.toNat undef) (by rw [List.getD_eq_getElem?_getD, List.getElem?_eq_getElem (by rw [ac.rl]; exact hxn)]; rfl) ?_
          refine ⟨LS.vb o5 (w5 _ hxn), ?_⟩
          refine calld_r (c17 ((w5 _ hxn).ints o5 rfl (by omega)) (by omega)) ⟨(ownH_pre _ _).imp fun t ht => ht.symm, ?_⟩
          obtain ⟨ai, o6, l6⟩ := own_lab (4 + (m.steps.getD k dst).to.toNat) o5 (W x.toNat)
          have e6 := ownH_pre h8 (W x.toNat)
          generalize ownV h8 (W x.toNat) = v6 at l6 ⊢
          generalize ownH h8 (W x.toNat) = h9 at o6 e6 ⊢
          with_reducible (refine mv_i ?_)
          refine ok_i (bs23_1 _ _) ?_
          have o7 := o6.ext (pre_new h9 [.int .i64 (n : Int)] 1)
          refine lapp t23 o7 l6 rfl (Seg.new (n := 1) 2 (by simp) (by omega)) (by simp [Value.oneCell']) (by omega) (by rw [List.length_map]; omega) fun h10 v10 o8 l8 _ _ hv10 => ?_
          rw [upN_dead, upN_deadC] at o8 l8
          have hb10 := o8.sub.2 _ _ hb1
          have ss10 := ss.mono o8.sub
          refine ⟨⟨again (ldf_e dst st63 ss10 hk (by omega)), again (ldc_e r34 hb10 rfl), trivial⟩, ?_⟩
          have hne : ∀ j, j < 4 → j ≠ 4 + (m.steps.getD k dst).to.toNat := fun j hj => by omega
          generalize hN8 : upN N (4 + (m.steps.getD k dst).to.toNat) (some (newArr h9 [.int .i64 (n : Int)] 1).length) = N8 at o8 l8
          have n80 : N8 0 = some oi := by rw [← hN8, upN_ne (hne 0 (by omega))]; exact ac.n0
          have n82 : N8 2 = some wi := by rw [← hN8, upN_ne (hne 2 (by omega))]; exact ac.n2
          have l81 : LS N8 (upN C5 (4 + (m.steps.getD k dst).to.toNat) ((W x.toNat).map (Value.int .i64) ++ [.int .i64 (n : Int)])) 1 v (q'.map (.int .i64)) := by
            rw [← hN8]; exact l5.ne (hne 1 (by omega))
          have w8 : ∀ s, s < m.states.toNat → s ≠ (m.steps.getD k dst).to.toNat → LS N8 (upN C5 (4 + (m.steps.getD k dst).to.toNat) ((W x.toNat).map (Value.int .i64) ++ [.int .i64 (n : Int)])) (4 + s) (rs.getD s undef) ((W s).map (.int .i64)) := fun s hs hne => by
            rw [← hN8]; exact (w5 s hs).ne (by omega)
          have c80 : upN C5 (4 + (m.steps.getD k dst).to.toNat) ((W x.toNat).map (Value.int .i64) ++ [.int .i64 (n : Int)]) 0 = (bs'.set (m.steps.getD k dst).to.toNat true).map Value.bool := by rw [upN_ne (hne 0 (by omega))]; exact c50
          have c82 : upN C5 (4 + (m.steps.getD k dst).to.toNat) ((W x.toNat).map (Value.int .i64) ++ [.int .i64 (n : Int)]) 2 = rs := by rw [upN_ne (hne 2 (by omega))]; exact c52
          generalize upN C5 (4 + (m.steps.getD k dst).to.toNat) ((W x.toNat).map (Value.int .i64) ++ [.int .i64 (n : Int)]) = C8 at o8 l8 l81 w8 c80 c82
          refine idxz (h1 := h10) (n := m.states.toNat) (cs := rs) t22 ?_ hst2.2.2.1 (by omega) ?_
          · have := o8.seg n82 (k := m.states.toNat) (c := m.states.toNat + 1) (sz := 1) rfl (by rw [c82, ac.rl]; omega) (by omega)
            rw [c82] at this
            exact this
          rw [elt_at1]
          obtain ⟨c10, hv10⟩ := hv10
          refine stl s25 o8 n82 (by rw [c82, ac.rl]; omega) (by rw [hv10]; rfl) (by rw [hv10]; rfl) fun o9 => ?_
          rw [c82, show oneE 2 = 1 from rfl] at o9 ⊢
          generalize h10.set wi (.arr ⟨rs.set (m.steps.getD k dst).to.toNat v10, 1, false⟩) = h11 at o9 ⊢
          have hb11 := o9.sub.2 _ _ hb1
          have ss11 := ss.mono o9.sub
          with_reducible (refine ⟨trivial, ?_⟩; refine mv_i ?_; refine vk_i (fa36_4 _) ?_; refine ld5_4 r34 (by assumption) ?_; refine mv_i ?_; refine idxst t34 (by assumption) (by omega) ?_; refine fae_i st63 (by assumption) (by omega) (by omega) ?_; refine ldto dst st63 (by assumption) (by omega) ?_)
          refine ok_i (bs23_1 _ _) ?_
          have o10 := o9.ext (pre_new h11 [.int .i64 (m.steps.getD k dst).to] 1)
          have l11 := l81.neC (cs := rs.set (m.steps.getD k dst).to.toNat v10) (l' := 2) (by omega)
          refine lapp t23 o10 l11 rfl (Seg.new (n := 1) 2 (by simp) (by omega)) (by simp [Value.oneCell']) (by omega) (by rw [List.length_map]; omega) fun h12 v12 o11 l12 _ _ _ => ?_
          with_reducible (refine mv_i ?_)
          refine hk' _ _ ⟨v12, rfl, n + 1, v12, rfl, hnI, _, _, bs'.set (m.steps.getD k dst).to.toNat true, q' ++ [(m.steps.getD k dst).to], rs.set (m.steps.getD k dst).to.toNat v10, fun s => if s = (m.steps.getD k dst).to.toNat then W x.toNat ++ [(n : Int)] else W s,
            ⟨o11, by rw [upN_ne (by omega)]; exact n80, by rw [upN_ne (by omega)]; exact n82, by rw [upN_ne (by omega), upN_ne (by omega)]; exact c80, by rw [upN_ne (by omega), upN_self], by simpa using l12, ⟨by simpa using ac.sn.len, fun s hs => ?_, ?_, ?_⟩, ?_, by simpa using ac.rl, fun s => ?_, fun s hs => ?_, fun s hs hb => ?_⟩, by simp; omega, ?_, fun j hj => ?_, ?_⟩
          · rw [hget] at hs
            by_cases q : s = (m.steps.getD k dst).to.toNat
            · subst q
              rw [Int.toNat_of_nonneg hst2.2.2.1]
              exact .step hxr hk
            · rw [decide_eq_false q] at hs
              exact ac.sn.rch s hs
          · rw [hget, ac.sn.fst]; simp
          · intro y hy
            rcases List.mem_append.mp hy with hy | hy
            · obtain ⟨h1, h2, h3⟩ := ac.sn.inq y hy
              exact ⟨h1, h2, by rw [hget, h3]; simp⟩
            · rw [List.mem_singleton] at hy
              subst hy
              exact ⟨hst2.2.2.1, hst2.2.2.2.1, by rw [hget]; simp⟩
          · rw [hcs, List.length_append, List.length_singleton]; omega
          · show (if s = _ then _ else _ : List Int).length < _
            split
            · rw [hcs, List.length_append, List.length_singleton]; omega
            · have := ac.wl s
              omega
          · show LS _ _ _ _ ((if s = _ then _ else _ : List Int).map _)
            by_cases q : s = (m.steps.getD k dst).to.toNat
            · subst q
              rw [if_pos rfl, gd_set (by rw [ac.rl]; omega), List.map_append]
              exact LS.eqv l8 (by rw [upN_ne (by omega)]) (by rw [upN_ne (by omega), upN_ne (by omega)])
            · rw [if_neg q, gd_set_ne q]
              exact LS.eqv (w8 s hs q) (by rw [upN_ne (by omega)]) (by rw [upN_ne (by omega), upN_ne (by omega)])
          · rw [hget] at hb
            by_cases q : s = (m.steps.getD k dst).to.toNat
            · subst q
              rw [Int.toNat_of_nonneg hst2.2.2.1]; simp
            · rw [decide_eq_false q] at hb
              exact List.mem_append_left _ (ac.qa s hs hb)
          · rw [gd_app hiq3]; exact hx3
          · rw [gd_app (by omega)]
            intro k2 hk2 h1 h2
            rw [hget, dn j hj k2 hk2 h1 h2]; simp
          · intro k2 hk2 h1 h2
            by_cases e : (m.steps.getD k2 dst).inp = (n : Int)
            · rw [hsame k2 hk2 h1 e, hget]; simp
            · rw [hget, dx k2 hk2 h1 (by omega)]; simp
        · with_reducible (refine not_t ?_; refine pick_t ?_; refine cnd_f ?_)
          refine hk' _ _ ⟨v, rfl, n + 1, v, rfl, hnI, N, C, bs', q', rs, W, ac, hiq3, hx3, dn, fun k2 hk2 hf hi => ?_⟩
          by_cases e : (m.steps.getD k2 dst).inp = (n : Int)
          · rw [hsame k2 hk2 hf e]; exact hbt
          · exact dx k2 hk2 hf (by omega)
    · with_reducible (refine cnd_f ?_; refine mv_i ?_; refine inc_i (by omega) ?_; refine mv_i ?_)
      have en : (n : Int) = m.inputs := by omega
      refine next2 (by omega) ⟨N, C, bs', q', rs, W, ac, by omega, fun j hj => ?_⟩
      by_cases q : j = i
      · subst q
        have en2 : n = I := by omega
        rw [hx3, ← en2]; exact dx
      · exact dn j (by omega)
  · have ei : i = q.length := by omega
    with_reducible (refine cnd_f ?_; refine mv_i ?_; refine mv_i ?_; refine mv_i ?_; refine mv_i ?_; refine ret2 ?_)
    refine ⟨p1.trans ac.own.pre, _, _, rfl, Only.from p1 (ac.own.only fun g og => ?_)⟩
    have hbs : bs = rchB m m.start := rchB_of ac.sn.len fun s hs => ⟨ac.sn.rch s, fun hR => ?_⟩
    · subst hbs
      have := LS.bools og (v := .slice (some ⟨oi, 0, none⟩) m.states.toNat (m.states.toNat + 1)) (xs := rchB m m.start) (l := 0) (by have := LS.whole (C := C) (c := m.states.toNat + 1) ac.n0 (k := m.states.toNat) (by rw [ac.c0, List.length_map]; omega); rw [ac.c0] at this; exact this) rfl (by omega)
      exact this
    · have := Rch.closed (Q := fun z => bs.getD z.toNat false = true) ac.sn.fst (fun k hk hz => by
        have hst2 := r.st hk
        have hm := ac.qa _ (by omega) hz
        rw [Int.toNat_of_nonneg hst2.1] at hm
        obtain ⟨j, hj, he⟩ := mem_gd 0 hm
        exact dn j (by omega) k hk he.symm hst2.2.2.2.2.2) hR
      simpa using this
theorem c26 {a : Value} (s : MacV h a m) (r : Right m) :
    DetP Try.prog 26 [a] h fun v h' => h <+: h' ∧ ∃ x y, v = .tuple #[x, y] ∧ Only h h' fun g => BoolS g x (rchB m m.start) ∧ BoolS g y ((List.range m.steps.length).map fun k => (rchB m m.start).getD (m.steps.getD k dst).fr.toNat false) := by
  obtain ⟨b1, b2, b3, b4, b5, b6⟩ := r.bounds
  have hfew := r.few
  have hsl : m.steps.length ≤ 320 := by
    have : m.states * m.inputs ≤ 40 * 8 := Int.mul_le_mul b2 b4 (by omega) (by omega)
    omega
  refine w26 ?_
  unfold n26
  obtain ⟨o, l, c, rfl, ss0⟩ := s
  rw [box36]
  refine ok_i rfl ?_
  have p1 := pre_new h [.int .i64 m.states, .int .i64 m.inputs, .int .i64 m.outputs, .int .i64 m.start, .slice o l c] 5
  have hb1 := newArr_get h [.int .i64 m.states, .int .i64 m.inputs, .int .i64 m.outputs, .int .i64 m.start, .slice o l c] 5
  have ss := ss0.mono (Sub.of_pre p1)
  generalize hg1 : newArr h [.int .i64 m.states, .int .i64 m.inputs, .int .i64 m.outputs, .int .i64 m.start, .slice o l c] 5 = g1 at p1 hb1 ss ⊢
  have mv1 : MacV g1 (.agg #[.int .i64 m.states, .int .i64 m.inputs, .int .i64 m.outputs, .int .i64 m.start, .slice o l c]) m := macv_of ss
  with_reducible (refine mv_i ?_; refine mv_i ?_)
  refine vk_i (ld36 hb1) ?_
  refine call_i (c66 mv1 r) ?_
  rintro _ g2 ⟨p2, x0, x, rfl, q2⟩
  have hb2 := (Sub.of_pre p2).2 _ _ hb1
  have ss2 := ss.mono (Sub.of_pre p2)
  have hlb := rchB_len (m := m) m.start
  with_reducible (refine mv_i ?_; refine ex2_0 ?_; refine ex2_1 ?_; refine mv_i ?_; refine mv_i ?_; refine vk_i (fa36_4 _) ?_; refine ld5_4 r34 (by assumption) ?_; refine lenst t34 (by assumption) ?_)
  refine mk1_i (n := m.steps.length) t48 z4 (by omega) ⟨by omega, by omega⟩ ?_
  rw [Int.toNat_natCast]
  have ez : List.replicate m.steps.length (Value.bool false) = (List.replicate m.steps.length false).map .bool := by simp
  rw [ez]
  have o0 := (Owns.start (fun _ => []) oneE (List.prefix_refl g2)).add 0 ((List.replicate m.steps.length false).map .bool) 1 rfl
  generalize hoi : g2.length = oi at o0 ⊢
  generalize newArr g2 ((List.replicate m.steps.length false).map .bool) 1 = g3 at o0 ⊢
  with_reducible (refine mv_i ?_; refine mv_i ?_)
  refine loop1 m.steps.length (fun k h2 => ∃ N C, Owns g2 h2 N C oneE ∧ N 0 = some oi ∧ C 0 = ((List.range m.steps.length).map fun j => if j < k then (rchB m m.start).getD (m.steps.getD j dst).fr.toNat false else false).map .bool) ⟨_, _, o0, upN_self _ _ _, ?_⟩ ?_
  · rw [upN_self]
    congr 1
    refine List.ext_getElem (by simp) fun j h1 h2 => by simp
  rintro k h2 _ hk ⟨N, C, o2, n0, c0⟩
  have hb3 := o2.sub.2 _ _ hb2
  have ss3 := ss2.mono o2.sub
  have sx := q2.self.mono o2.sub
  have sc : ∀ {g N C} {bs : List Bool} (o2 : ∃ h0, Owns h0 g N C oneE), N 0 = some oi → C 0 = bs.map .bool → bs.length = m.steps.length → BoolS g (.slice (some ⟨oi, 0, none⟩) m.steps.length (m.steps.length + 1)) bs := by
    rintro g N C bs ⟨h0, o2⟩ n0 c0 hl
    have := LS.bools o2 (v := .slice (some ⟨oi, 0, none⟩) m.steps.length (m.steps.length + 1)) (xs := bs) (l := 0) (by have := LS.whole (C := C) (c := m.steps.length + 1) n0 (k := m.steps.length) (by rw [c0, List.length_map]; omega); rw [c0] at this; exact this) rfl (by omega)
    exact this
  have sb := sc ⟨_, o2⟩ n0 c0 (by simp)
  have hll : ((List.range m.steps.length).map fun j => if j < k then (rchB m m.start).getD (m.steps.getD j dst).fr.toNat false else false).length = m.steps.length := by simp
  with_reducible (refine mv_i ?_; refine vk_i (fa36_4 _) ?_; refine ld5_4 r34 (by assumption) ?_; refine lenst t34 (by assumption) ?_)
  refine lss_i (fun hlt => ?_) (fun hge => ?_)
  · have hk2 : k < m.steps.length := by omega
    have hst := r.st hk2
    with_reducible (refine cnd_t ?_; refine mv_i ?_; refine mv_i ?_; refine mv_i ?_; refine vk_i (fa36_4 _) ?_; refine ld5_4 r34 (by assumption) ?_; refine mv_i ?_; refine idxst t34 (by assumption) (by omega) ?_; refine fae_i st63 (by assumption) (by omega) (by omega) ?_; refine ldfr dst st63 (by assumption) (by omega) ?_; refine idxzb t48 (by assumption) (by omega) (by omega) ?_; refine ldb_i t48 r4 (by assumption) (by omega) ?_; refine idxb_i t48 (by assumption) (by omega) ?_)
    rw [elt_at1]
    refine stl s4 o2 n0 (by rw [c0, List.length_map]; omega) rfl rfl fun o5 => ?_
    with_reducible (refine mv_i ?_; refine inc_i (by omega) ?_; refine mv_i ?_)
    refine next1 hk2 ⟨_, _, o5, n0, ?_⟩
    rw [upN_self, c0, setB_map]
    congr 1
    refine List.ext_getElem (by simp) fun j h1 h2 => ?_
    rw [List.getElem_set]
    simp only [List.getElem_map, List.getElem_range]
    by_cases q : k = j
    · subst q
      rw [if_pos rfl, if_pos (by omega)]
    · rw [if_neg q]
      by_cases q2 : j < k
      · rw [if_pos q2, if_pos (by omega)]
      · rw [if_neg q2, if_neg (by omega)]
  · have ek : k = m.steps.length := by omega
    subst ek
    with_reducible (refine cnd_f ?_; refine mv_i ?_; refine mv_i ?_; refine mv_i ?_; refine mv_i ?_; refine ret2 ?_)
    refine ⟨p1.trans (p2.trans o2.pre), x, _, rfl, ?_⟩
    have e : ((List.range m.steps.length).map fun j => if j < m.steps.length then (rchB m m.start).getD (m.steps.getD j dst).fr.toNat false else false) = (List.range m.steps.length).map fun j => (rchB m m.start).getD (m.steps.getD j dst).fr.toNat false := List.map_congr_left fun j hj => by rw [if_pos (List.mem_range.mp hj)]
    rw [e] at c0
    have q3 := Only.from (p1.trans p2) (o2.only fun g og => sc ⟨_, og⟩ n0 c0 (by simp))
    have q4 := Only.from p1 (q2.pre o2.pre)
    exact fun g hg => ⟨q4 g hg, q3 g hg⟩
end Go.Proofs.Ytdjoednhfoligaa
