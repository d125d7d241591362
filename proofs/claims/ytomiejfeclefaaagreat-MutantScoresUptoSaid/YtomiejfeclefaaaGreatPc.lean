import Derived.Test.YtomiejfeclefaaaGreatPb
import Derived.Test.YtomiejfeclefaaaGreatAnI
import Derived.Test.YtomiejfeclefaaaGreatAnJ
import Derived.Test.YtomiejfeclefaaaGreatPa
import Derived.Test.YtomiejfeclefaaaGreatAmW
import Derived.Test.YtomiejfeclefaaaGreatProg
import Derived.KernelRfl
set_option linter.unusedSimpArgs false
set_option linter.unusedVariables false
set_option linter.unnecessarySimpa false
set_option maxRecDepth 100000
set_option maxHeartbeats 4000000
namespace Go.Proofs.YtomiejfeclefaaaGreat
open Go.AM
variable {h g : Heap}
/-! ### the reference's error of a mutant -/
theorem c89 {x : Value} {xs : List Int} (s : L g x xs) (z : Int) : Runs Tryz.prog 89 [x, .int .i64 z] g (.bool (decide (z ∈ xs))) g := by
  have lt := s.lt
  refine DetP.runs (w89 ?_)
  unfold n89
  ((with_reducible (refine mv_i ?_; refine mv_i ?_)))
  refine loop1 xs.length (fun k h2 => g = h2 ∧ ∀ j, j < k → gt xs j ≠ z) ⟨rfl, fun j hj => by omega⟩ ?_
  rintro k _ _ hk ⟨rfl, hJ⟩
  ((with_reducible (refine mv_i ?_; refine mv_i ?_; refine len_g (by assumption) ?_; refine lss_i (fun hc => ?_) (fun hc => ?_); refine cnd_t ?_; refine mv_i ?_; refine mv_i ?_)); (refine idxA fun p hp => ?_); (refine ldgA ?_); (with_reducible (refine mv_i ?_; refine eql_i (fun hc => ?_) (fun hc => ?_); refine cnd_t ?_; refine mv_i ?_; refine ret1 ?_)); (rotate_left); (with_reducible (refine cnd_f ?_; refine mv_i ?_; refine inc_i (by omega) ?_; refine mv_i ?_)); (rotate_left); (with_reducible (refine cnd_f ?_; refine mv_i ?_; refine ret1 ?_)); (rotate_left))
  · refine ⟨?_, rfl⟩
    rw [decide_eq_true]
    rw [← hc]
    exact gd_mem _ (by omega)
  · refine next1 (by omega) ⟨rfl, fun j hj => ?_⟩
    by_cases q : j = k
    · subst q; assumption
    · exact hJ j (by omega)
  · refine ⟨?_, rfl⟩
    rw [decide_eq_false]
    intro hm
    obtain ⟨j, hj, e⟩ := mem_gd Df.d hm
    exact hJ j (by omega) e
theorem c59 (t : Mut) : DetP Tryz.prog 62 [fv t] g fun v' h' => g <+: h' ∧ L h' v' [t.kind, t.step, t.to] := by
  refine DetP.freeze ?_
  have m := Mem.start g
  refine w59 ?_
  unfold n59
  ((with_reducible (refine box_a (by assumption) fun i h z p m => ?_; refine mv_i ?_; refine fao ?_)); (refine ldoA ?_); (with_reducible (refine fao ?_)); (refine ldoA ?_); (with_reducible (refine fao ?_)); (refine ldoA ?_); (refine bs_g (bs141_3 _ _ _ _) (by assumption) fun i h p m => ?_); (with_reducible (refine mv_i ?_; refine ret1 ?_)))
  exact ⟨m.pre, ret_flat (xs := [t.kind, t.step, t.to]) (k := 0) m rfl (by simp) (.inr (by simp))⟩
def tgR (m : Mut) : List Int := if m.kind = 3 then [m.step, m.to] else [m.step]
theorem c88 (t : Mut) : DetP Tryz.prog 88 [fv t] g fun v' h' => g <+: h' ∧ L h' v' (tgR t) := by
  refine DetP.freeze ?_
  have m := Mem.start g
  refine w88 ?_
  unfold n88
  ((with_reducible (refine box_a (by assumption) fun i h z p m => ?_; refine mv_i ?_; refine fao ?_)); (refine ldoA ?_); (with_reducible (refine eql_i (fun hc => ?_) (fun hc => ?_); refine cnd_t ?_; refine fao ?_)); (refine ldoA ?_); (with_reducible (refine fao ?_)); (refine ldoA ?_); (refine bs_g (bs53_2 _ _ _) (by assumption) fun i h p m => ?_); (with_reducible (refine mv_i ?_; refine ret1 ?_)); (rotate_left); (with_reducible (refine cnd_f ?_; refine fao ?_)); (refine ldoA ?_); (refine bs_g (bs53_1 _ _) (by assumption) fun i h p m => ?_); (with_reducible (refine mv_i ?_; refine ret1 ?_)); (rotate_left))
  · rw [show tgR t = [t.step, t.to] by simp [tgR, *]]
    exact ⟨m.pre, ret_flat (xs := [t.step, t.to]) (k := 0) m rfl (by simp) (.inr (by simp))⟩
  · rw [show tgR t = [t.step] by simp [tgR, *]]
    exact ⟨m.pre, ret_flat (xs := [t.step]) (k := 0) m rfl (by simp) (.inr (by simp))⟩
def clS (a b : Mut) : Prop :=
  if a.kind = 0 ∨ b.kind = 0 then a.kind = b.kind ∧ a.step = b.step else if a.kind = 2 ∨ b.kind = 2 then a.kind = b.kind else ∃ z ∈ tgR a, z ∈ tgR b
theorem cl0 {a b : Mut} (h : a.kind = 0 ∨ b.kind = 0) : clS a b ↔ (a.kind = b.kind ∧ a.step = b.step) := by rw [clS, if_pos h]
theorem cl2 {a b : Mut} (h1 : ¬ a.kind = 0) (h2 : ¬ b.kind = 0) (h : a.kind = 2 ∨ b.kind = 2) : clS a b ↔ a.kind = b.kind := by rw [clS, if_neg (by rintro (q | q) <;> contradiction), if_pos h]
theorem cl3 {a b : Mut} (h1 : ¬ a.kind = 0) (h2 : ¬ b.kind = 0) (h3 : ¬ a.kind = 2) (h4 : ¬ b.kind = 2) : clS a b ↔ ∃ z ∈ tgR a, z ∈ tgR b := by rw [clS, if_neg (by rintro (q | q) <;> contradiction), if_neg (by rintro (q | q) <;> contradiction)]
open Classical in
theorem c60 (a b : Mut) : Runs Tryz.prog 63 [fv a, fv b] g (.bool (decide (clS a b))) g := by
  have m := Mem.start g
  refine DetP.forget rfl ?_
  refine w60 ?_
  unfold n60
  ((with_reducible (refine box_a (by assumption) fun i h z p m => ?_; refine box_a (by assumption) fun i h z p m => ?_; refine mv_i ?_; refine fao ?_)); (refine ldoA ?_); (with_reducible (refine eql_i (fun hc => ?_) (fun hc => ?_); refine mv_i ?_; refine gd_tf ?_; refine gd_tf ?_; refine gd_tf ?_; refine pick_t ?_; refine cnd_t ?_; refine fao ?_)); (refine ldoA ?_); (with_reducible (refine fao ?_)); (refine ldoA ?_); (with_reducible (refine eql_i (fun hc => ?_) (fun hc => ?_); refine mv_i ?_; refine gd_tt ?_; refine fao ?_; refine gd_tt ?_)); (refine ldoA ?_); (with_reducible (refine gd_tt ?_; refine fao ?_; refine gd_tt ?_)); (refine ldoA ?_); (with_reducible (refine gd_tt ?_; refine eql_i (fun hc => ?_) (fun hc => ?_); refine pick_t ?_; refine mv_i ?_; refine ret1 ?_)); (rotate_left); (with_reducible (refine pick_t ?_; refine mv_i ?_; refine ret1 ?_)); (rotate_left); (with_reducible (refine mv_i ?_; refine gd_ft ?_; refine gd_ft ?_; refine gd_ft ?_; refine gd_ft ?_; refine gd_ft ?_; refine pick_f ?_; refine mv_i ?_; refine ret1 ?_)); (rotate_left); (with_reducible (refine mv_i ?_; refine gd_ff ?_; refine fao ?_; refine gd_ff ?_)); (refine ldoA ?_); (with_reducible (refine gd_ff ?_; refine eql_i (fun hc => ?_) (fun hc => ?_); refine pick_f ?_; refine cnd_t ?_; refine fao ?_)); (refine ldoA ?_); (with_reducible (refine fao ?_)); (refine ldoA ?_); (with_reducible (refine eql_i (fun hc => ?_) (fun hc => ?_); refine mv_i ?_; refine gd_tt ?_; refine fao ?_; refine gd_tt ?_)); (refine ldoA ?_); (with_reducible (refine gd_tt ?_; refine fao ?_; refine gd_tt ?_)); (refine ldoA ?_); (with_reducible (refine gd_tt ?_; refine eql_i (fun hc => ?_) (fun hc => ?_); refine pick_t ?_; refine mv_i ?_; refine ret1 ?_)); (rotate_left); (with_reducible (refine pick_t ?_; refine mv_i ?_; refine ret1 ?_)); (rotate_left); (with_reducible (refine mv_i ?_; refine gd_ft ?_; refine gd_ft ?_; refine gd_ft ?_; refine gd_ft ?_; refine gd_ft ?_; refine pick_f ?_; refine mv_i ?_; refine ret1 ?_)); (rotate_left); (with_reducible (refine pick_f ?_; refine cnd_f ?_; refine fao ?_)); (refine ldoA ?_); (with_reducible (refine eql_i (fun hc => ?_) (fun hc => ?_); refine mv_i ?_; refine gd_tf ?_; refine gd_tf ?_; refine gd_tf ?_; refine pick_t ?_; refine cnd_t ?_; refine fao ?_)); (refine ldoA ?_); (with_reducible (refine fao ?_)); (refine ldoA ?_); (with_reducible (refine eql_i (fun hc => ?_) (fun hc => ?_); refine mv_i ?_; refine ret1 ?_)); (rotate_left); (with_reducible (refine mv_i ?_; refine ret1 ?_)); (rotate_left); (with_reducible (refine mv_i ?_; refine gd_ff ?_; refine fao ?_; refine gd_ff ?_)); (refine ldoA ?_); (with_reducible (refine gd_ff ?_; refine eql_i (fun hc => ?_) (fun hc => ?_); refine pick_f ?_; refine cnd_t ?_; refine fao ?_)); (refine ldoA ?_); (with_reducible (refine fao ?_)); (refine ldoA ?_); (with_reducible (refine eql_i (fun hc => ?_) (fun hc => ?_); refine mv_i ?_; refine ret1 ?_)); (rotate_left); (with_reducible (refine mv_i ?_; refine ret1 ?_)); (rotate_left); (with_reducible (refine pick_f ?_; refine cnd_f ?_)); (refine ldwA ?_); (with_reducible (refine vb_f ?_)); (rotate_left))
  all_goals first
    | (have e := cl0 (a := a) (b := b) (by first | (left; assumption) | (right; assumption))
       refine ⟨?_, Mem.pre (by assumption)⟩
       first
         | (rw [decide_eq_true (e.mpr ⟨by assumption, by assumption⟩)]; done)
         | (rw [decide_eq_false (fun q => by have := e.mp q; obtain ⟨q1, q2⟩ := this; contradiction)]; done))
    | (have e := cl2 (a := a) (b := b) (by assumption) (by assumption) (by first | (left; assumption) | (right; assumption))
       refine ⟨?_, Mem.pre (by assumption)⟩
       first
         | (rw [decide_eq_true (e.mpr (by assumption))]; done)
         | (rw [decide_eq_false (fun q => absurd (e.mp q) (by assumption))]; done))
    | skip
  have e := cl3 (a := a) (b := b) (by assumption) (by assumption) (by assumption) (by assumption)
  refine calld_d (c88 a) m fun v1 h1 p1 p2 m s1 => ?_
  obtain ⟨b1, q1, rfl, _⟩ := s1.shape
  refine new_p p1 ?_
  ((refine ldwA ?_); (with_reducible (refine vb_f ?_)))
  refine calld_d (c88 b) m fun v2 h2 p3 p4 m s2 => ?_
  obtain ⟨b2, q2, rfl, _⟩ := s2.shape
  refine new_p p3 ?_
  have hl1 : (tgR a).length ≤ 2 := by unfold tgR; split <;> simp
  ((with_reducible (refine mv_i ?_; refine mv_i ?_; refine mv_i ?_)))
  refine loop1 (tgR a).length (fun k h3 => h2 = h3 ∧ ∀ j, j < k → gt (tgR a) j ∉ tgR b) ⟨rfl, fun j hj => by omega⟩ ?_
  rintro k _ _ hk ⟨rfl, hJ⟩
  ((with_reducible (refine mv_i ?_; refine mv_i ?_; refine len_g (by assumption) ?_; refine lss_i (fun hc => ?_) (fun hc => ?_); refine cnd_t ?_; refine mv_i ?_; refine mv_i ?_; refine mv_i ?_)); (refine idxA fun p hp => ?_); (refine ldgA ?_); (rotate_left); (with_reducible (refine cnd_f ?_; refine mv_i ?_; refine ret1 ?_)); (rotate_left))
  · refine call_r (c89 s2.up _) ?_
    ((with_reducible (refine cnd_d (fun hb => ?_) (fun hb => ?_); refine mv_i ?_; refine ret1 ?_)); (rotate_left); (with_reducible (refine mv_i ?_; refine inc_i (by omega) ?_; refine mv_i ?_)); (rotate_left))
    · refine ⟨?_, Mem.pre (by assumption)⟩
      rw [decide_eq_true (e.mpr ⟨_, gd_mem Df.d (show k < (tgR a).length by omega), hb⟩)]
    · refine next1 (by omega) ⟨rfl, fun j hj => ?_⟩
      by_cases q : j = k
      · subst q; exact hb
      · exact hJ j (by omega)
  · refine ⟨?_, Mem.pre (by assumption)⟩
    rw [decide_eq_false]
    rw [e]
    rintro ⟨z, h1, h2⟩
    obtain ⟨j, hj, rfl⟩ := mem_gd Df.d h1
    exact hJ j (by omega) h2
theorem c58 {v : Value} {x : Mach} (s : MacV g v x) (hh : headOK x) (t : Mut) : Runs Tryz.prog 60 [v, fv t] g (.int .i64 (if ¬ (0 ≤ t.kind ∧ t.kind ≤ 3) then 4 else if ¬ rightS x t then 3 else 0)) g := by
  obtain ⟨tv, rfl, s⟩ := s
  have lt := s.lt
  obtain ⟨a1, a2, a3, a4⟩ := hh
  have m := Mem.start g
  refine DetP.forget rfl ?_
  refine w58 ?_
  unfold n58
  by_cases hk : 0 ≤ t.kind ∧ t.kind ≤ 3
  · have hk2 : t.kind = 0 ∨ t.kind = 1 ∨ t.kind = 2 ∨ t.kind = 3 := by omega
    rcases hk2 with e | e | e | e
    · have n2 : ¬ t.kind = 2 := by omega
      have n3 : ¬ t.kind = 3 := by omega
      ((with_reducible (refine box_a (by assumption) fun i h z p m => ?_; refine box_a (by assumption) fun i h z p m => ?_; refine mv_i ?_; refine fao ?_)); (refine ldoA ?_); (refine call_r (c53 _ _ _) ?_); (with_reducible (refine not_dh (by assumption) ?_; refine cnd_f ?_; refine fao ?_)); (refine ldoA ?_); (with_reducible (refine vb_l (by assumption) ?_; refine len_g (by assumption) ?_; refine sub_j (by omega) (by omega) ?_; refine fao ?_)); (refine ldoA ?_); (refine vbA ?_); (with_reducible (refine sub_a (by assumption) (by decide) (by decide) ?_; refine mv_i ?_; refine mv_i ?_; refine seq_i ?_; refine fao ?_)); (refine ldoA ?_); (with_reducible (refine eql_h (by first | assumption | decide) ?_; refine cnd_t ?_; refine fao ?_)); (refine ldoA ?_); (with_reducible (refine sub_a (by assumption) (by decide) (by decide) ?_; refine mv_i ?_)); ((with_reducible refine fun (_ : Tmps) => ?_); (try dsimp only [nth])); (with_reducible (refine seq_i ?_; refine fao ?_)); (refine ldoA ?_); (with_reducible (refine eql_n (by first | assumption | decide) ?_; refine cnd_f ?_)); ((with_reducible refine fun (_ : Tmps) => ?_); (try dsimp only [nth])); (with_reducible (refine seq_i ?_; refine fao ?_)); (refine ldoA ?_); (with_reducible (refine eql_n (by first | assumption | decide) ?_; refine cnd_f ?_)); ((with_reducible refine fun (_ : Tmps) => ?_); (try dsimp only [nth])); (with_reducible (refine fao ?_)); (refine ldoA ?_); (with_reducible (refine mv_i ?_)); (refine call_r (c53 _ _ _) ?_); (with_reducible (refine not_d (fun hb => ?_) (fun hb => ?_); refine mv_i ?_; refine gd_ff ?_; refine fao ?_; refine gd_ff ?_)); (refine ldoA ?_); (with_reducible (refine gd_ff ?_; refine mv_i ?_; refine gd_ff ?_)); (refine call_r (c53 _ _ _) ?_); (with_reducible (refine gd_ff ?_; refine not_d (fun hb => ?_) (fun hb => ?_); refine pick_f ?_; refine cnd_f ?_; refine mv_i ?_; refine ret1 ?_)); (rotate_left); (with_reducible (refine pick_f ?_; refine cnd_t ?_; refine mv_i ?_; refine ret1 ?_)); (rotate_left); (with_reducible (refine mv_i ?_; refine gd_tf ?_; refine gd_tf ?_; refine gd_tf ?_; refine gd_tf ?_; refine gd_tf ?_; refine pick_t ?_; refine cnd_t ?_; refine mv_i ?_; refine ret1 ?_)); (rotate_left))
      all_goals
        refine ⟨?_, Mem.pre (by assumption)⟩
        rw [if_neg (by simpa using hk)]
        first
          | (rw [if_neg (by simp [rightS, e]; omega)]; done)
          | (rw [if_pos (by simp [rightS, e]; omega)]; done)
          | (simp [rightS, e]; done)
          | (simp [rightS, e]; omega)
    · have n0 : ¬ t.kind = 0 := by omega
      have n2 : ¬ t.kind = 2 := by omega
      have n3 : ¬ t.kind = 3 := by omega
      ((with_reducible (refine box_a (by assumption) fun i h z p m => ?_; refine box_a (by assumption) fun i h z p m => ?_; refine mv_i ?_; refine fao ?_)); (refine ldoA ?_); (refine call_r (c53 _ _ _) ?_); (with_reducible (refine not_dh (by assumption) ?_; refine cnd_f ?_; refine fao ?_)); (refine ldoA ?_); (with_reducible (refine vb_l (by assumption) ?_; refine len_g (by assumption) ?_; refine sub_j (by omega) (by omega) ?_; refine fao ?_)); (refine ldoA ?_); (refine vbA ?_); (with_reducible (refine sub_a (by assumption) (by decide) (by decide) ?_; refine mv_i ?_; refine mv_i ?_; refine seq_i ?_; refine fao ?_)); (refine ldoA ?_); (with_reducible (refine eql_n (by first | assumption | decide) ?_; refine cnd_f ?_)); ((with_reducible refine fun (_ : Tmps) => ?_); (try dsimp only [nth])); (with_reducible (refine seq_i ?_; refine fao ?_)); (refine ldoA ?_); (with_reducible (refine eql_n (by first | assumption | decide) ?_; refine cnd_f ?_)); ((with_reducible refine fun (_ : Tmps) => ?_); (try dsimp only [nth])); (with_reducible (refine seq_i ?_; refine fao ?_)); (refine ldoA ?_); (with_reducible (refine eql_n (by first | assumption | decide) ?_; refine cnd_f ?_)); ((with_reducible refine fun (_ : Tmps) => ?_); (try dsimp only [nth])); (with_reducible (refine fao ?_)); (refine ldoA ?_); (with_reducible (refine mv_i ?_)); (refine call_r (c53 _ _ _) ?_); (with_reducible (refine not_d (fun hb => ?_) (fun hb => ?_); refine mv_i ?_; refine gd_ff ?_; refine fao ?_; refine gd_ff ?_)); (refine ldoA ?_); (with_reducible (refine gd_ff ?_; refine mv_i ?_; refine gd_ff ?_)); (refine call_r (c53 _ _ _) ?_); (with_reducible (refine gd_ff ?_; refine not_d (fun hb => ?_) (fun hb => ?_); refine pick_f ?_; refine cnd_f ?_; refine mv_i ?_; refine ret1 ?_)); (rotate_left); (with_reducible (refine pick_f ?_; refine cnd_t ?_; refine mv_i ?_; refine ret1 ?_)); (rotate_left); (with_reducible (refine mv_i ?_; refine gd_tf ?_; refine gd_tf ?_; refine gd_tf ?_; refine gd_tf ?_; refine gd_tf ?_; refine pick_t ?_; refine cnd_t ?_; refine mv_i ?_; refine ret1 ?_)); (rotate_left))
      all_goals
        refine ⟨?_, Mem.pre (by assumption)⟩
        rw [if_neg (by simpa using hk)]
        first
          | (rw [if_neg (by simp [rightS, e]; omega)]; done)
          | (rw [if_pos (by simp [rightS, e]; omega)]; done)
          | (simp [rightS, e]; done)
          | (simp [rightS, e]; omega)
    · have n0 : ¬ t.kind = 0 := by omega
      have n3 : ¬ t.kind = 3 := by omega
      ((with_reducible (refine box_a (by assumption) fun i h z p m => ?_; refine box_a (by assumption) fun i h z p m => ?_; refine mv_i ?_; refine fao ?_)); (refine ldoA ?_); (refine call_r (c53 _ _ _) ?_); (with_reducible (refine not_dh (by assumption) ?_; refine cnd_f ?_; refine fao ?_)); (refine ldoA ?_); (with_reducible (refine vb_l (by assumption) ?_; refine len_g (by assumption) ?_; refine sub_j (by omega) (by omega) ?_; refine fao ?_)); (refine ldoA ?_); (refine vbA ?_); (with_reducible (refine sub_a (by assumption) (by decide) (by decide) ?_; refine mv_i ?_; refine mv_i ?_; refine seq_i ?_; refine fao ?_)); (refine ldoA ?_); (with_reducible (refine eql_n (by first | assumption | decide) ?_; refine cnd_f ?_)); ((with_reducible refine fun (_ : Tmps) => ?_); (try dsimp only [nth])); (with_reducible (refine seq_i ?_; refine fao ?_)); (refine ldoA ?_); (with_reducible (refine eql_h (by first | assumption | decide) ?_; refine cnd_t ?_; refine mv_i ?_)); ((with_reducible refine fun (_ : Tmps) => ?_); (try dsimp only [nth])); (with_reducible (refine seq_i ?_; refine fao ?_)); (refine ldoA ?_); (with_reducible (refine eql_n (by first | assumption | decide) ?_; refine cnd_f ?_)); ((with_reducible refine fun (_ : Tmps) => ?_); (try dsimp only [nth])); (with_reducible (refine fao ?_)); (refine ldoA ?_); (with_reducible (refine mv_i ?_)); (refine call_r (c53 _ _ _) ?_); (with_reducible (refine not_d (fun hb => ?_) (fun hb => ?_); refine mv_i ?_; refine gd_ff ?_; refine fao ?_; refine gd_ff ?_)); (refine ldoA ?_); (with_reducible (refine gd_ff ?_; refine mv_i ?_; refine gd_ff ?_)); (refine call_r (c53 _ _ _) ?_); (with_reducible (refine gd_ff ?_; refine not_d (fun hb => ?_) (fun hb => ?_); refine pick_f ?_; refine cnd_f ?_; refine mv_i ?_; refine ret1 ?_)); (rotate_left); (with_reducible (refine pick_f ?_; refine cnd_t ?_; refine mv_i ?_; refine ret1 ?_)); (rotate_left); (with_reducible (refine mv_i ?_; refine gd_tf ?_; refine gd_tf ?_; refine gd_tf ?_; refine gd_tf ?_; refine gd_tf ?_; refine pick_t ?_; refine cnd_t ?_; refine mv_i ?_; refine ret1 ?_)); (rotate_left))
      all_goals
        refine ⟨?_, Mem.pre (by assumption)⟩
        rw [if_neg (by simpa using hk)]
        first
          | (rw [if_neg (by simp [rightS, e]; omega)]; done)
          | (rw [if_pos (by simp [rightS, e]; omega)]; done)
          | (simp [rightS, e]; done)
          | (simp [rightS, e]; omega)
    · have n0 : ¬ t.kind = 0 := by omega
      have n2 : ¬ t.kind = 2 := by omega
      ((with_reducible (refine box_a (by assumption) fun i h z p m => ?_; refine box_a (by assumption) fun i h z p m => ?_; refine mv_i ?_; refine fao ?_)); (refine ldoA ?_); (refine call_r (c53 _ _ _) ?_); (with_reducible (refine not_dh (by assumption) ?_; refine cnd_f ?_; refine fao ?_)); (refine ldoA ?_); (with_reducible (refine vb_l (by assumption) ?_; refine len_g (by assumption) ?_; refine sub_j (by omega) (by omega) ?_; refine fao ?_)); (refine ldoA ?_); (refine vbA ?_); (with_reducible (refine sub_a (by assumption) (by decide) (by decide) ?_; refine mv_i ?_; refine mv_i ?_; refine seq_i ?_; refine fao ?_)); (refine ldoA ?_); (with_reducible (refine eql_n (by first | assumption | decide) ?_; refine cnd_f ?_)); ((with_reducible refine fun (_ : Tmps) => ?_); (try dsimp only [nth])); (with_reducible (refine seq_i ?_; refine fao ?_)); (refine ldoA ?_); (with_reducible (refine eql_n (by first | assumption | decide) ?_; refine cnd_f ?_)); ((with_reducible refine fun (_ : Tmps) => ?_); (try dsimp only [nth])); (with_reducible (refine seq_i ?_; refine fao ?_)); (refine ldoA ?_); (with_reducible (refine eql_h (by first | assumption | decide) ?_; refine cnd_t ?_; refine fao ?_)); (refine ldoA ?_); (with_reducible (refine len_g (by assumption) ?_; refine sub_j (by omega) (by omega) ?_; refine mv_i ?_)); ((with_reducible refine fun (_ : Tmps) => ?_); (try dsimp only [nth])); (with_reducible (refine fao ?_)); (refine ldoA ?_); (with_reducible (refine mv_i ?_)); (refine call_r (c53 _ _ _) ?_); (with_reducible (refine not_d (fun hb => ?_) (fun hb => ?_); refine mv_i ?_; refine gd_ff ?_; refine fao ?_; refine gd_ff ?_)); (refine ldoA ?_); (with_reducible (refine gd_ff ?_; refine mv_i ?_; refine gd_ff ?_)); (refine call_r (c53 _ _ _) ?_); (with_reducible (refine gd_ff ?_; refine not_d (fun hb => ?_) (fun hb => ?_); refine pick_f ?_; refine cnd_f ?_; refine mv_i ?_; refine ret1 ?_)); (rotate_left); (with_reducible (refine pick_f ?_; refine cnd_t ?_; refine mv_i ?_; refine ret1 ?_)); (rotate_left); (with_reducible (refine mv_i ?_; refine gd_tf ?_; refine gd_tf ?_; refine gd_tf ?_; refine gd_tf ?_; refine gd_tf ?_; refine pick_t ?_; refine cnd_t ?_; refine mv_i ?_; refine ret1 ?_)); (rotate_left))
      all_goals
        refine ⟨?_, Mem.pre (by assumption)⟩
        rw [if_neg (by simpa using hk)]
        first
          | (rw [if_neg (by simp [rightS, e]; omega)]; done)
          | (rw [if_pos (by simp [rightS, e]; omega)]; done)
          | (simp [rightS, e]; done)
          | (simp [rightS, e]; omega)
  · ((with_reducible (refine box_a (by assumption) fun i h z p m => ?_; refine box_a (by assumption) fun i h z p m => ?_; refine mv_i ?_; refine fao ?_)); (refine ldoA ?_); (refine call_r (c53 _ _ _) ?_); (with_reducible (refine not_dn (by assumption) ?_; refine cnd_t ?_; refine mv_i ?_; refine ret1 ?_)))
    exact ⟨by rw [if_pos hk], Mem.pre (by assumption)⟩
end Go.Proofs.YtomiejfeclefaaaGreat

set_option linter.unusedSimpArgs false
set_option linter.unusedVariables false
set_option linter.unnecessarySimpa false
set_option maxRecDepth 100000
set_option maxHeartbeats 4000000
namespace Go.Proofs.YtomiejfeclefaaaGreat
open Go.AM
variable {h g : Heap}
theorem com_iff (xs ys : List Int) : com xs ys = true ↔ ∃ z ∈ xs, z ∈ ys := by
  unfold com
  rw [decide_eq_true_iff, idxOf_any, List.any_eq_true]
  constructor
  · rintro ⟨z, hz, q⟩
    rw [decide_eq_true_iff, idxOf_any, List.any_eq_true] at q
    obtain ⟨y, hy, e⟩ := q
    have : z = y := by simpa using e
    exact ⟨z, hz, this ▸ hy⟩
  · rintro ⟨z, hz, hy⟩
    refine ⟨z, hz, ?_⟩
    rw [decide_eq_true_iff, idxOf_any, List.any_eq_true]
    exact ⟨z, hy, by simp⟩
theorem meet_cl {a b : Mut} (ha : 0 ≤ a.kind ∧ a.kind ≤ 3) (hb : 0 ≤ b.kind ∧ b.kind ≤ 3) : meetS a b = true ↔ clS a b := by
  unfold meetS
  rw [Bool.or_eq_true, Bool.or_eq_true, Bool.and_eq_true, com_iff, com_iff]
  have ha2 : a.kind = 0 ∨ a.kind = 1 ∨ a.kind = 2 ∨ a.kind = 3 := by omega
  have hb2 : b.kind = 0 ∨ b.kind = 1 ∨ b.kind = 2 ∨ b.kind = 3 := by omega
  rcases ha2 with e1 | e1 | e1 | e1 <;> rcases hb2 with e2 | e2 | e2 | e2 <;> simp [clS, tgs, ous, sms, tgR, e1, e2]
theorem cmpL3 (a b : Mut) : 0 ≤ cmpL [a.kind, a.step, a.to] [b.kind, b.step, b.to] ↔ ¬ cmpM a b < 0 := by
  unfold cmpM
  rw [orOf_cons, orOf_cons, orOf_cons, orOf_nil]
  simp only [cmpL, cmpI]
  repeat' split
  all_goals omega
theorem agn_iff {l : List Mut} {k : Nat} (hk : k < l.length) : agn l k ↔ ∃ j, j < k ∧ meetS (gt l j) (gt l k) = true := by
  unfold agn
  rw [idxOf_any, List.any_eq_true]
  constructor
  · rintro ⟨t, ht, q⟩
    obtain ⟨j, hj, e⟩ := mem_gd Df.d ht
    have hjk : j < k := by simp at hj; omega
    refine ⟨j, hjk, ?_⟩
    have : gt l j = t := by
      rw [← e]
      unfold gt
      rw [List.getD_eq_getElem?_getD, List.getD_eq_getElem?_getD, List.getElem?_take, if_pos hjk]
    rw [this]; exact q
  · rintro ⟨j, hj, q⟩
    refine ⟨gt l j, ?_, q⟩
    rw [List.mem_take_iff_getElem]
    exact ⟨j, by omega, by rw [gt_at (by omega)]⟩
theorem muE_ok {x : Mach} {l : List Mut} {k : Nat} (h0 : muE x l k = 0) : (0 ≤ (gt l k).kind ∧ (gt l k).kind ≤ 3) ∧ rightS x (gt l k) ∧ ordS l k ∧ ¬ agn l k := by
  unfold muE at h0
  split at h0
  · cases h0
  · rename_i h1
    split at h0
    · cases h0
    · rename_i h2
      split at h0
      · cases h0
      · rename_i h3
        split at h0
        · cases h0
        · rename_i h4
          exact ⟨by simpa using h1, by simpa using h2, by simpa using h3, h4⟩
theorem muE_is {x : Mach} {l : List Mut} {k : Nat} (h1 : 0 ≤ (gt l k).kind ∧ (gt l k).kind ≤ 3) (h2 : rightS x (gt l k)) : muE x l k = if ¬ ordS l k then 14 else if agn l k then 13 else 0 := by
  rw [muE, if_neg (by simpa using h1), if_neg (by simpa using h2)]
open Classical in
theorem c21 {v y : Value} {x : Mach} {l : List Mut} (s : MacV g v x) (t : L g y l) (hh : headOK x) : Runs Tryz.prog 21 [v, y] g (mk2 (mutE x l).1 (mutE x l).2) g := by
  obtain ⟨tv, rfl, s⟩ := s
  have lt := t.lt
  have m := Mem.start g
  refine DetP.forget rfl ?_
  refine w21 ?_
  unfold n21
  refine box_a m fun i0 h0 z0 p0 m => ?_
  ((with_reducible (refine mv_i ?_; refine mv_i ?_; refine mv_i ?_; refine len_g (by assumption) ?_; refine gtr_i (fun hc => ?_) (fun hc => ?_); refine cnd_t ?_; refine mv_i ?_; refine mv_i ?_; refine ret2 ?_)); (rotate_left); (with_reducible (refine cnd_f ?_; refine mv_i ?_)); (rotate_left))
  · exact ⟨by rw [mutE, if_pos (by omega)]; rfl, Mem.pre (by assumption)⟩
  · have hlen := hc
    refine loop1 l.length (fun k h2 => Prec h0 h2 ∧ Mem g h2 [⟨some i0, [.int .i64 x.states, .int .i64 x.inputs, .int .i64 x.outputs, .int .i64 x.start, tv], z0⟩] ∧ ∀ j, j < k → muE x l j = 0) ⟨⟨Stab.refl _⟩, m, fun j hj => by omega⟩ ?_
    rintro k h2 _ hk ⟨p2, m, hJ⟩
    by_cases hkl : k < l.length
    · have hlk : (k : Int) < l.length := by omega
      by_cases h1 : 0 ≤ (gt l k).kind ∧ (gt l k).kind ≤ 3
      · by_cases h3 : rightS x (gt l k)
        · have e58 : (if ¬ (0 ≤ (gt l k).kind ∧ (gt l k).kind ≤ 3) then (4 : Int) else if ¬ rightS x (gt l k) then 3 else 0) = 0 := by rw [if_neg (by simpa using h1), if_neg (by simpa using h3)]
          have hm := muE_is h1 h3
          ((with_reducible (refine mv_i ?_; refine mv_i ?_; refine len_g (by assumption) ?_; refine lss_i (fun hc => ?_) (fun hc => ?_); refine cnd_t ?_)); (refine ldwA ?_); (refine vb_mac (by assumption) ?_); (with_reducible (refine mv_i ?_; refine mv_i ?_)); (refine idxA fun p hp => ?_); (refine ldr_w (by assumption) (by with_unfolding_all rfl) ?_); (with_reducible (refine vb_f ?_)); (rotate_left); (with_reducible (refine cnd_f ?_; refine mv_i ?_; refine mv_i ?_; refine ret2 ?_)); (rotate_left))
          · refine calld_r (c58 ⟨_, rfl, s.up⟩ hh (gt l k)) ?_
            rw [e58]
            ((with_reducible (refine new_n ?_; refine mv_i ?_; refine mv_i ?_; refine neq_h (by first | assumption | decide) ?_; refine cnd_f ?_; refine mv_i ?_; refine gtr_i (fun hc => ?_) (fun hc => ?_); refine mv_i ?_; refine gd_tt ?_; refine mv_i ?_; refine gd_tt ?_; refine mv_i ?_; refine gd_tt ?_; refine sub_j (by omega) (by omega) ?_; refine gd_tt ?_)); (refine idx_dp (by assumption) (by with_unfolding_all rfl) (by omega) (by omega) fun p hp => ?_); (with_reducible (refine gd_tt ?_)); (refine ldr_w (by assumption) (by with_unfolding_all rfl) ?_); (with_reducible (refine vb_f ?_; refine gd_tt ?_)); (refine calld_d (c59 _) (by assumption) fun v h p1 p m s1 => ?_); (with_reducible (refine new_p (by assumption) ?_; refine gd_tt ?_; refine mv_i ?_; refine gd_tt ?_; refine mv_i ?_; refine gd_tt ?_)); (refine idxA fun p hp => ?_); (with_reducible (refine gd_tt ?_)); (refine ldr_w (by assumption) (by with_unfolding_all rfl) ?_); (with_reducible (refine vb_f ?_; refine gd_tt ?_)); (refine calld_d (c59 _) (by assumption) fun v h p1 p m s1 => ?_); (with_reducible (refine new_p (by assumption) ?_; refine gd_tt ?_)); (refine calld_r (c54 (L.ints (L.up (by assumption))) (L.ints (L.up (by assumption)))) ?_); (with_reducible (refine new_n ?_; refine gd_tt ?_; refine geq_i (fun hc => ?_) (fun hc => ?_); refine pick_t ?_; refine mv_i ?_; refine gd_tf ?_; refine gd_tf ?_; refine gd_tf ?_; refine gd_tf ?_; refine gd_tf ?_; refine gd_tf ?_; refine gd_tf ?_; refine gd_u ?_; refine gd_u ?_; refine gd_u ?_; refine gd_u ?_; refine gd_u ?_; refine gd_u ?_; refine gd_u ?_; refine gd_u ?_; refine gd_u ?_; refine gd_u ?_; refine gd_u ?_; refine gd_tf ?_; refine pick_t ?_; refine cnd_t ?_; refine mv_i ?_; refine mv_i ?_; refine mv_i ?_; refine ret2 ?_)); (rotate_left); (with_reducible (refine pick_t ?_; refine mv_i ?_; refine gd_ff ?_; refine mv_i ?_; refine gd_ff ?_; refine mv_i ?_; refine gd_ff ?_)); (refine idxA fun p hp => ?_); (with_reducible (refine gd_ff ?_; refine fa_g (by assumption) fun p hp => ?_; refine gd_ff ?_)); (refine ldgA ?_); (refine vbA ?_); (with_reducible (refine gd_ff ?_; refine eql_i (fun hc => ?_) (fun hc => ?_); refine gd_ff ?_; refine mv_i ?_; refine gd_tt ?_; refine mv_i ?_; refine gd_tt ?_; refine mv_i ?_; refine gd_tt ?_)); (refine idxA fun p hp => ?_); (with_reducible (refine gd_tt ?_; refine fa_g (by assumption) fun p hp => ?_; refine gd_tt ?_)); (refine ldgA ?_); (refine vbA ?_); (with_reducible (refine gd_tt ?_; refine mv_i ?_; refine gd_tt ?_; refine mv_i ?_; refine gd_tt ?_)); (refine idxA fun p hp => ?_); (with_reducible (refine gd_tt ?_; refine fa_g (by assumption) fun p hp => ?_; refine gd_tt ?_)); (refine ldgA ?_); (refine vbA ?_); (with_reducible (refine gd_tt ?_; refine leq_i (fun hc => ?_) (fun hc => ?_); refine gd_ff ?_; refine pick_t ?_; refine pick_f ?_; refine cnd_t ?_; refine mv_i ?_; refine mv_i ?_; refine mv_i ?_; refine ret2 ?_)); (rotate_left); (with_reducible (refine gd_ff ?_; refine pick_t ?_; refine pick_f ?_; refine cnd_f ?_; refine mv_i ?_)); (rotate_left); (with_reducible (refine gd_ff ?_; refine mv_i ?_; refine gd_ft ?_; refine gd_ft ?_; refine gd_ft ?_; refine gd_ft ?_; refine gd_ft ?_; refine gd_ft ?_; refine gd_ft ?_; refine gd_ft ?_; refine gd_ft ?_; refine gd_ft ?_; refine gd_ft ?_; refine gd_ff ?_; refine pick_f ?_; refine pick_f ?_; refine cnd_f ?_; refine mv_i ?_)); (rotate_left); (with_reducible (refine mv_i ?_; refine gd_ft ?_; refine gd_ft ?_; refine gd_ft ?_; refine gd_ft ?_; refine gd_ft ?_; refine gd_ft ?_; refine gd_ft ?_; refine gd_ft ?_; refine gd_ft ?_; refine gd_ft ?_; refine gd_ft ?_; refine gd_ft ?_; refine gd_ft ?_; refine pick_f ?_; refine mv_i ?_; refine gd_ff ?_; refine mv_i ?_; refine gd_ff ?_; refine mv_i ?_; refine gd_ff ?_)); (refine idxA fun p hp => ?_); (with_reducible (refine gd_ff ?_; refine fa_g (by assumption) fun p hp => ?_; refine gd_ff ?_)); (refine ldgA ?_); (refine vbA ?_); (with_reducible (refine gd_ff ?_; refine eql_i (fun hc => ?_) (fun hc => ?_); refine gd_ff ?_; refine mv_i ?_; refine gd_tt ?_; refine mv_i ?_; refine gd_tt ?_; refine mv_i ?_; refine gd_tt ?_)); (refine idxA fun p hp => ?_); (with_reducible (refine gd_tt ?_; refine fa_g (by assumption) fun p hp => ?_; refine gd_tt ?_)); (refine ldgA ?_); (refine vbA ?_); (with_reducible (refine gd_tt ?_; refine mv_i ?_; refine gd_tt ?_; refine mv_i ?_; refine gd_tt ?_)); (refine idxA fun p hp => ?_); (with_reducible (refine gd_tt ?_; refine fa_g (by assumption) fun p hp => ?_; refine gd_tt ?_)); (refine ldgA ?_); (refine vbA ?_); (with_reducible (refine gd_tt ?_; refine leq_i (fun hc => ?_) (fun hc => ?_); refine gd_ff ?_; refine pick_t ?_; refine pick_f ?_; refine cnd_t ?_; refine mv_i ?_; refine mv_i ?_; refine mv_i ?_; refine ret2 ?_)); (rotate_left); (with_reducible (refine gd_ff ?_; refine pick_t ?_; refine pick_f ?_; refine cnd_f ?_; refine mv_i ?_)); (rotate_left); (with_reducible (refine gd_ff ?_; refine mv_i ?_; refine gd_ft ?_; refine gd_ft ?_; refine gd_ft ?_; refine gd_ft ?_; refine gd_ft ?_; refine gd_ft ?_; refine gd_ft ?_; refine gd_ft ?_; refine gd_ft ?_; refine gd_ft ?_; refine gd_ft ?_; refine gd_ff ?_; refine pick_f ?_; refine pick_f ?_; refine cnd_f ?_; refine mv_i ?_)); (rotate_left))
            all_goals first
              | (have hno : ¬ ordS l k := by
                   rintro ⟨q1, q2⟩
                   first
                     | (rcases q2 with q2 | q2
                        · contradiction
                        · omega)
                     | (rcases q1 with q1 | q1
                        · omega
                        · exact (cmpL3 _ _).mp (by assumption) q1)
                 exact ⟨by rw [mutE, if_neg (by omega), firstErr_at hJ hkl (by rw [hm, if_pos hno]; decide), hm, if_pos hno]; rfl, Mem.pre (by assumption)⟩)
              | skip
            all_goals
              have ho : ordS l k := ⟨by first | (left; omega) | (right; exact Classical.byContradiction fun q => absurd ((cmpL3 _ _).mpr q) (by assumption)), by first | (left; assumption) | (right; omega)⟩
              rw [if_neg (by simpa using ho)] at hm
              refine loop1 k (fun j h3 => Prec h0 h3 ∧ Mem g h3 [⟨some i0, [.int .i64 x.states, .int .i64 x.inputs, .int .i64 x.outputs, .int .i64 x.start, tv], z0⟩] ∧ ∀ q, q < j → ¬ clS (gt l q) (gt l k)) ⟨⟨Stb.st⟩, m, fun q hq => by omega⟩ ?_
              rintro j h3 _ hj ⟨p3, m, hJ2⟩
              (repeat' (first|((with_reducible refine is_callf 54 ?_); refine call_r (c48 _ _ _) ?_)|((with_reducible refine is_calldf 54 ?_); refine calld_r (c48 _ _ _) ?_)|((with_reducible refine is_callf 64 ?_); refine call_r (c53 _ _ _) ?_)|((with_reducible refine is_calldf 64 ?_); refine calld_r (c53 _ _ _) ?_)|((with_reducible refine is_callf 91 ?_); refine call_r (c96 _ _ _) ?_)|((with_reducible refine is_calldf 91 ?_); refine calld_r (c96 _ _ _) ?_)|((with_reducible refine is_callf 52 ?_); refine call_r c72t ?_)|((with_reducible refine is_calldf 52 ?_); refine calld_r c72t ?_)|((with_reducible refine is_callf 52 ?_); refine call_r c72f ?_)|((with_reducible refine is_calldf 52 ?_); refine calld_r c72f ?_)|((with_reducible refine is_callf 52 ?_); refine call_r (c72 _) ?_)|((with_reducible refine is_calldf 52 ?_); refine calld_r (c72 _) ?_)|((with_reducible refine is_callf 65 ?_); refine call_r (c77 _ _) ?_)|((with_reducible refine is_calldf 65 ?_); refine calld_r (c77 _ _) ?_)|((with_reducible refine is_callf 72 ?_); refine call_r (c91 _ _) ?_)|((with_reducible refine is_calldf 72 ?_); refine calld_r (c91 _ _) ?_)|((with_reducible refine is_callf 79 ?_); refine call_r (c107 _) ?_)|((with_reducible refine is_calldf 79 ?_); refine calld_r (c107 _) ?_)|((with_reducible refine is_callf 39 ?_); refine call_r (c81 _ _) ?_)|((with_reducible refine is_calldf 39 ?_); refine calld_r (c81 _ _) ?_)|((with_reducible refine is_callf 23 ?_); refine call_r (c76 (own_ints (xs := [_, _, _]) (by assumption) (q := by infer_instance) rfl rfl (by decide))) ?_)|((with_reducible refine is_calldf 23 ?_); refine calld_r (c76 (own_ints (xs := [_, _, _]) (by assumption) (q := by infer_instance) rfl rfl (by decide))) ?_)|((with_reducible refine is_callf 38 ?_); refine call_r (c80 (own_ints (xs := [_, _, _]) (by assumption) (q := by infer_instance) rfl rfl (by decide))) ?_)|((with_reducible refine is_calldf 38 ?_); refine calld_r (c80 (own_ints (xs := [_, _, _]) (by assumption) (q := by infer_instance) rfl rfl (by decide))) ?_)|((with_reducible refine is_callf 38 ?_); refine call_r (c80 (own_ints (xs := [_, _]) (by assumption) (q := by infer_instance) rfl rfl (by decide))) ?_)|((with_reducible refine is_calldf 38 ?_); refine calld_r (c80 (own_ints (xs := [_, _]) (by assumption) (q := by infer_instance) rfl rfl (by decide))) ?_)|((with_reducible refine is_callf 51 ?_); refine call_r (c46 _ _) ?_)|((with_reducible refine is_calldf 51 ?_); refine calld_r (c46 _ _) ?_)|((with_reducible refine is_callf 55 ?_); refine call_r (c49 _ _) ?_)|((with_reducible refine is_calldf 55 ?_); refine calld_r (c49 _ _) ?_)|((with_reducible refine is_callf 61 ?_); refine call_r (c54 (own_ints (xs := [_, _]) (by assumption) (q := by infer_instance) rfl rfl (by decide)) (own_ints (xs := [_, _]) (by assumption) (q := by infer_instance) rfl rfl (by decide))) ?_)|((with_reducible refine is_calldf 61 ?_); refine calld_r (c54 (own_ints (xs := [_, _]) (by assumption) (q := by infer_instance) rfl rfl (by decide)) (own_ints (xs := [_, _]) (by assumption) (q := by infer_instance) rfl rfl (by decide))) ?_)|((with_reducible refine is_callf 87 ?_); refine call_r (c74 ⟨_, by with_unfolding_all rfl, L.up (by assumption)⟩ _ _) ?_)|((with_reducible refine is_calldf 87 ?_); refine calld_r (c74 ⟨_, by with_unfolding_all rfl, L.up (by assumption)⟩ _ _) ?_)|((with_reducible refine is_callf 86 ?_); refine call_r (c73 ⟨_, by with_unfolding_all rfl, L.up (by assumption)⟩) ?_)|((with_reducible refine is_callf 82 ?_); refine call_r (c75 ⟨_, by with_unfolding_all rfl, L.up (by assumption)⟩) ?_)|((with_reducible refine is_calldf 62 ?_); refine calld_d (c59 _) (by assumption) fun v h p1 p m s1 => ?_)|((with_reducible refine is_calldf 61 ?_); refine calld_r (c54 (L.ints (L.up (by assumption))) (L.ints (L.up (by assumption)))) ?_)|((with_reducible refine is_callf 63 ?_); refine call_r (c60 _ _) ?_)|((with_reducible refine is_calldf 63 ?_); refine calld_r (c60 _ _) ?_)|((with_reducible refine is_rl1 ?_); first|(refine rt_w1 (by assumption) (by infer_instance) (by with_unfolding_all rfl) ?_)|(refine rt_11 (by assumption) (by infer_instance) (by with_unfolding_all rfl) ?_))|((with_reducible refine is_rl2 ?_); first|(refine rt_w2 (by assumption) (by infer_instance) (by with_unfolding_all rfl) ?_)|(refine rt_12 (by assumption) (by infer_instance) (by with_unfolding_all rfl) ?_))|((with_reducible refine is_vk ?_); first|(with_reducible refine not_dh (by assumption) ?_)|(with_reducible refine not_dn (by assumption) ?_)|(with_reducible refine not_d (fun hb => ?_) (fun hb => ?_))|(with_reducible refine pick_dh (by assumption) ?_)|(with_reducible refine pick_dn (by assumption) ?_)|(with_reducible refine pick_d (fun hb => ?_) (fun hb => ?_))|(with_reducible refine len_o (by assumption) ?_)|(with_reducible refine nil_i ?_)|(with_reducible refine ex2_0 ?_)|(with_reducible refine ex2_1 ?_)|(with_reducible refine ex3_0 ?_)|(with_reducible refine ex3_1 ?_)|(with_reducible refine ex3_2 ?_)|(with_reducible refine pick_t ?_)|(with_reducible refine pick_f ?_)|(with_reducible refine not_t ?_)|(with_reducible refine not_f ?_)|(with_reducible refine pick_h (by assumption) ?_)|(with_reducible refine pick_n (by assumption) ?_)|(with_reducible refine not_h (by assumption) ?_)|(with_reducible refine not_n (by assumption) ?_)|(with_reducible refine not_s (fun hb => ?_) (fun hb => ?_))|(with_reducible refine pick_s (fun hb => ?_) (fun hb => ?_))|(with_reducible refine len_g (by assumption) ?_)|(with_reducible refine slen_i ?_)|(with_reducible refine len_s ?_)|(refine fld_g (by with_unfolding_all rfl) ?_)|(with_reducible refine leni_t (by assumption) ?_))|((with_reducible refine is_gd ?_); first|(with_reducible refine gd_dht (by assumption) ?_)|(with_reducible refine gd_dnt (by assumption) ?_)|(with_reducible refine gd_dhf (by assumption) ?_)|(with_reducible refine gd_dnf (by assumption) ?_)|(with_reducible refine gd_dt (fun hb => ?_) (fun hb => ?_))|(with_reducible refine gd_df (fun hb => ?_) (fun hb => ?_))|(with_reducible refine gd_tt ?_)|(with_reducible refine gd_ff ?_)|(with_reducible refine gd_tf ?_)|(with_reducible refine gd_ft ?_)|(with_reducible refine gd_u ?_)|(with_reducible refine gd_ht (by assumption) ?_)|(with_reducible refine gd_hf (by assumption) ?_)|(with_reducible refine gd_nt (by assumption) ?_)|(with_reducible refine gd_nf (by assumption) ?_)|(with_reducible refine gd_st (fun hb => ?_) (fun hb => ?_))|(with_reducible refine gd_sf (fun hb => ?_) (fun hb => ?_)))|((with_reducible refine is_cnd ?_); first|(with_reducible refine cnd_dh (by assumption) ?_)|(with_reducible refine cnd_dn (by assumption) ?_)|(with_reducible refine cnd_d (fun hb => ?_) (fun hb => ?_))|(with_reducible refine cnd_t ?_)|(with_reducible refine cnd_f ?_)|(with_reducible refine cnd_h (by assumption) ?_)|(with_reducible refine cnd_n (by assumption) ?_)|(with_reducible refine cnd_b (fun hb => ?_) (fun hb => ?_)))|((with_reducible refine is_bin ?_); first|(with_reducible refine sub_a (by assumption) (by decide) (by decide) ?_)|(with_reducible refine snil_i (fun hn => ?_) (fun hn => ?_))|(with_reducible refine prq_i (fun hc => ?_) (fun hc => ?_))|(refine mul_j (by omega) (by omega) ?_)|(with_reducible refine eql_h (by first | assumption | decide) ?_)|(with_reducible refine eql_n (by first | assumption | decide) ?_)|(with_reducible refine neq_h (by first | assumption | decide) ?_)|(with_reducible refine neq_n (by first | assumption | decide) ?_)|(with_reducible refine lss_i (fun hc => ?_) (fun hc => ?_))|(with_reducible refine leq_i (fun hc => ?_) (fun hc => ?_))|(with_reducible refine gtr_i (fun hc => ?_) (fun hc => ?_))|(with_reducible refine geq_i (fun hc => ?_) (fun hc => ?_))|(with_reducible refine eql_i (fun hc => ?_) (fun hc => ?_))|(with_reducible refine neq_i (fun hc => ?_) (fun hc => ?_))|(with_reducible refine seq_s (fun hc => ?_) (fun hc => ?_))|(with_reducible refine sne_s (fun hc => ?_) (fun hc => ?_))|(with_reducible refine sls_i ?_)|(with_reducible refine inc_i (by omega) ?_)|(with_reducible refine sub_j (by omega) (by omega) ?_)|(with_reducible refine add_j (by omega) (by omega) ?_))|((with_reducible refine is_six ?_); first|(with_reducible refine sidx_0 (by omega) ?_))|((with_reducible refine is_idx ?_); first|(refine ia_g (by assumption) (by omega) (by omega) fun p hp => ?_)|(refine ia_o (by omega) (by omega) ?_)|(refine idxA fun p hp => ?_)|(refine idx_dp (by assumption) (by with_unfolding_all rfl) (by omega) (by omega) fun p hp => ?_)|(refine idx_dz (by assumption) (by with_unfolding_all rfl) (by omega) (by omega) fun p hp => ?_)|(refine idx_f (by assumption) (by with_unfolding_all rfl) (by omega) fun p hp => ?_)|(refine idx_fz (by assumption) (by with_unfolding_all rfl) (by omega) (by omega) fun p hp => ?_)|(refine idxi_t (by assumption) (by omega) ?_)|(refine idx_o (by assumption) (by omega) ?_)|(refine idx_oz (by assumption) (by omega) (by omega) ?_))|((with_reducible refine is_fa ?_); first|(with_reducible refine fa_g (by assumption) fun p hp => ?_)|(with_reducible refine fao_e ?_)|(with_reducible refine fao ?_))|((with_reducible refine is_ldo ?_); first|(refine ldoA ?_)|(refine ldwA ?_)|(refine ldor (by assumption) (q := by infer_instance) (by with_unfolding_all rfl) (by with_unfolding_all exact Nat.le_refl _) ?_)|(refine ldf_d (by assumption) (by infer_instance) (by with_unfolding_all rfl) (by omega) (by with_unfolding_all exact Nat.le_of_ble_eq_true rfl) (by with_unfolding_all rfl) ?_)|(refine ldw_d (by assumption) (by infer_instance) (by with_unfolding_all rfl) (by omega) ?_))|((with_reducible refine is_ld ?_); first|(refine ldgA ?_)|(refine ldr_w (by assumption) (by with_unfolding_all rfl) ?_)|(refine ldr_g (by assumption) (by with_unfolding_all rfl) (by with_unfolding_all exact Nat.le_refl _) ?_)|(refine ldi_t (by assumption) (by omega) ?_))|((with_reducible refine is_box ?_); first|(with_reducible refine box_a (by assumption) fun i h z p m => ?_)|(refine box_1 (by assumption) (by with_unfolding_all rfl) fun i h z p m => ?_))|((with_reducible refine is_ok ?_); first|(with_reducible refine alloc_z (by assumption) fun i h z p m => ?_))|((with_reducible refine is_st ?_); first|(refine sto (by assumption) (q := by infer_instance) (by with_unfolding_all exact Nat.le_of_ble_eq_true rfl) rfl rfl (u := by infer_instance) fun h p m => ?_)|(refine st_w (by assumption) (by infer_instance) (by with_unfolding_all rfl) (by with_unfolding_all rfl) (by first | rfl | exact flat_ones (Flat.flat _)) (by infer_instance) fun h p m => ?_)|(refine stw_o (by assumption) (by infer_instance) (by with_unfolding_all rfl) (by omega) (by infer_instance) fun h p m => ?_))|((with_reducible refine is_new ?_); first|(with_reducible refine new_n ?_)|(with_reducible refine new_p (by assumption) ?_))|((with_reducible refine is_pd ?_); first|(refine pd_p (by assumption) (by with_unfolding_all rfl) ?_)|(refine pd_c (by assumption) (by infer_instance) (by with_unfolding_all rfl) ?_)|(refine pd_o (by assumption) (by infer_instance) (by with_unfolding_all rfl) ?_))|((with_reducible refine is_vb ?_); first|(refine vb_mac (by assumption) ?_)|(with_reducible refine vb_f ?_)|(refine vbA ?_)|(with_reducible refine vb_l (by assumption) ?_)|(refine vb_as rfl (by assumption) ?_)|(refine vb_ao rfl (by assumption) (by assumption) (by infer_instance) ?_)|(refine IsSl.vb (by assumption) (by assumption) (by infer_instance) ?_))|((with_reducible refine is_tru ?_); first|(with_reducible refine ⟨trivial, ?_⟩))|((with_reducible refine is_ret ?_); first|(with_reducible refine ret1 ?_)|(with_reducible refine ret2 ?_)|(with_reducible refine ret3 ?_)|(with_reducible refine ret0 ?_))|((with_reducible refine is_bld ?_); first|(refine vk_i (bd24_z) ?_)|(refine vk_i (bd77_01 _ _) ?_))|((with_reducible refine is_bsl ?_); first|(refine bs_g (bs36_0 _) (by assumption) fun i h p m => ?_)|(refine bs_g (bs22_0 _) (by assumption) fun i h p m => ?_)|(refine bs_g (bs51_1 _ _ _ _) (by assumption) fun i h p m => ?_)|(refine bs_g (bs27_0 _) (by assumption) fun i h p m => ?_)|(refine bs_g (bs53_2 _ _ _) (by assumption) fun i h p m => ?_)|(refine bs_g (bs141_3 _ _ _ _) (by assumption) fun i h p m => ?_)|(refine bs_g (bs53_3 _ _ _ _) (by assumption) fun i h p m => ?_)|(refine bs_g (bs53_1 _ _) (by assumption) fun i h p m => ?_))|(with_reducible refine mv_i ?_)|(with_reducible refine seq_i ?_)|((with_reducible refine fun (_ : Tmps) => ?_); (try dsimp only [nth]))))
              · have ha : agn l k := (agn_iff hkl).mpr ⟨j, by omega, (meet_cl (muE_ok (hJ j (by omega))).1 h1).mpr hb⟩
                exact ⟨by rw [mutE, if_neg (by omega), firstErr_at hJ hkl (by rw [hm, if_pos ha]; decide), hm, if_pos ha]; rfl, Mem.pre (by assumption)⟩
              · refine next1 (by omega) ⟨⟨Stb.st⟩, m, fun q hq => ?_⟩
                by_cases e : q = j
                · subst e; exact hb
                · exact hJ2 q (by omega)
              · have ha : ¬ agn l k := by
                  rw [agn_iff hkl]
                  rintro ⟨q, hq, e⟩
                  exact hJ2 q (by omega) ((meet_cl (muE_ok (hJ q hq)).1 h1).mp e)
                rw [if_neg ha] at hm
                exact next1 hkl ⟨⟨Stb.st⟩, m, up_no hm hJ⟩
          · exfalso; omega
        · have e58 : (if ¬ (0 ≤ (gt l k).kind ∧ (gt l k).kind ≤ 3) then (4 : Int) else if ¬ rightS x (gt l k) then 3 else 0) = 3 := by rw [if_neg (by simpa using h1), if_pos h3]
          have hm : muE x l k = 3 := by rw [muE, if_neg (by simpa using h1), if_pos h3]
          ((with_reducible (refine mv_i ?_; refine mv_i ?_; refine len_g (by assumption) ?_; refine lss_i (fun hc => ?_) (fun hc => ?_); refine cnd_t ?_)); (refine ldwA ?_); (refine vb_mac (by assumption) ?_); (with_reducible (refine mv_i ?_; refine mv_i ?_)); (refine idxA fun p hp => ?_); (refine ldr_w (by assumption) (by with_unfolding_all rfl) ?_); (with_reducible (refine vb_f ?_)); (rotate_left); (with_reducible (refine cnd_f ?_; refine mv_i ?_; refine mv_i ?_; refine ret2 ?_)); (rotate_left))
          · refine calld_r (c58 ⟨_, rfl, s.up⟩ hh (gt l k)) ?_
            rw [e58]
            ((with_reducible (refine new_n ?_; refine mv_i ?_; refine mv_i ?_; refine neq_n (by first | assumption | decide) ?_; refine cnd_t ?_; refine mv_i ?_; refine mv_i ?_; refine mv_i ?_; refine mv_i ?_; refine ret2 ?_)))
            exact ⟨by rw [mutE, if_neg (by omega), firstErr_at hJ hkl (by rw [hm]; decide), hm]; rfl, Mem.pre (by assumption)⟩
          · exfalso; omega
      · have e58 : (if ¬ (0 ≤ (gt l k).kind ∧ (gt l k).kind ≤ 3) then (4 : Int) else if ¬ rightS x (gt l k) then 3 else 0) = 4 := by rw [if_pos h1]
        have hm : muE x l k = 4 := by rw [muE, if_pos h1]
        ((with_reducible (refine mv_i ?_; refine mv_i ?_; refine len_g (by assumption) ?_; refine lss_i (fun hc => ?_) (fun hc => ?_); refine cnd_t ?_)); (refine ldwA ?_); (refine vb_mac (by assumption) ?_); (with_reducible (refine mv_i ?_; refine mv_i ?_)); (refine idxA fun p hp => ?_); (refine ldr_w (by assumption) (by with_unfolding_all rfl) ?_); (with_reducible (refine vb_f ?_)); (rotate_left); (with_reducible (refine cnd_f ?_; refine mv_i ?_; refine mv_i ?_; refine ret2 ?_)); (rotate_left))
        · refine calld_r (c58 ⟨_, rfl, s.up⟩ hh (gt l k)) ?_
          rw [e58]
          ((with_reducible (refine new_n ?_; refine mv_i ?_; refine mv_i ?_; refine neq_n (by first | assumption | decide) ?_; refine cnd_t ?_; refine mv_i ?_; refine mv_i ?_; refine mv_i ?_; refine mv_i ?_; refine ret2 ?_)))
          exact ⟨by rw [mutE, if_neg (by omega), firstErr_at hJ hkl (by rw [hm]; decide), hm]; rfl, Mem.pre (by assumption)⟩
        · exfalso; omega
    · ((with_reducible (refine mv_i ?_; refine mv_i ?_; refine len_g (by assumption) ?_; refine lss_i (fun hc => ?_) (fun hc => ?_); refine cnd_t ?_)); (refine ldwA ?_); (refine vb_mac (by assumption) ?_); (with_reducible (refine mv_i ?_; refine mv_i ?_)); (refine idxA fun p hp => ?_); (refine ldr_w (by assumption) (by with_unfolding_all rfl) ?_); (with_reducible (refine vb_f ?_)); (rotate_left); (with_reducible (refine cnd_f ?_; refine mv_i ?_; refine mv_i ?_; refine ret2 ?_)); (rotate_left))
      all_goals (try (exfalso; omega))
      exact ⟨by rw [mutE, if_neg (by omega), firstErr_no fun j hj => hJ j (by omega)]; rfl, Mem.pre (by assumption)⟩
end Go.Proofs.YtomiejfeclefaaaGreat

set_option linter.unusedSimpArgs false
set_option linter.unusedVariables false
set_option linter.unnecessarySimpa false
set_option maxRecDepth 100000
set_option maxHeartbeats 4000000
namespace Go.Proofs.YtomiejfeclefaaaGreat
open Go.AM
variable {h g : Heap}
/-! ### copies -/
theorem c82 {x : Value} {l : List Stp} (s : L g x l) (hb : l.length ≤ 1048576) : DetP Tryz.prog 68 [x] g fun v h' => g <+: h' ∧ ∃ o, IsSl v o l.length ∧ OwnNew g h' o (flat l) 4 := by
  have m := Mem.start g
  refine w82 ?_
  unfold n82
  obtain ⟨b, c, rfl, hb2⟩ := s.shape
  ((with_reducible (refine mv_i ?_; refine mv_i ?_; refine snil_i (fun hn => ?_) (fun hn => ?_); refine cnd_t ?_; refine mv_i ?_; refine ret1 ?_)); (rotate_left); (with_reducible (refine cnd_f ?_)); (refine bs_g (bs22_0 _) (by assumption) fun i h p m => ?_); (with_reducible (refine mv_i ?_)); (rotate_left))
  · subst hn
    have := s.none_len
    subst this
    exact ⟨m.pre, none, IsSl.nil, fun _ _ m' => m'.nil 4⟩
  · by_cases hl : l = []
    · subst hl
      refine app_none (b := b) (c2 := c) rfl hb2 ?_
      ((with_reducible (refine mv_i ?_; refine ret1 ?_)))
      exact ⟨m.pre, some i, IsSl.some1, OwnNew.of m⟩
    · have hpos : 0 < l.length := List.length_pos_iff.mpr hl
      refine app_o m (IsSl.some1 (n := 0)) (by infer_instance) (by simp) (src_ro s hpos) (by omega) fun i h p m => ?_
      ((with_reducible (refine mv_i ?_; refine ret1 ?_)))
      refine ⟨m.pre, some i, ?_, ?_⟩
      · rw [Nat.zero_add]; exact IsSl.some0
      · simp only [List.nil_append, List.set_cons_zero] at m
        exact OwnNew.of m
/-- The reference's copy, one's own. -/
theorem c14o {v : Value} {x : Mach} (s : MacV g v x) (hb : x.steps.length ≤ 1048576) : DetP Tryz.prog 10 [v] g fun v h' => g <+: h' ∧ ∃ y o, v = .agg #[.int .i64 x.states, .int .i64 x.inputs, .int .i64 x.outputs, .int .i64 x.start, y] ∧ IsSl y o x.steps.length ∧ OwnNew g h' o (flat x.steps) 4 := by
  obtain ⟨tv, rfl, s⟩ := s
  have m := Mem.start g
  refine w14 ?_
  unfold n14
  obtain ⟨b, q, rfl, hb2⟩ := s.shape
  ((with_reducible (refine box_a (by assumption) fun i h z p m => ?_; refine alloc_z (by assumption) fun i h z p m => ?_)); (refine bs_g (bs22_0 _) (by assumption) fun i h p m => ?_); (with_reducible (refine fao ?_)); (refine ldoA ?_))
  by_cases hl : x.steps = []
  · refine app_none (b := b) (c2 := q) (by rw [hl]; rfl) hb2 ?_
    ((with_reducible (refine fao ?_)); (refine sto (by assumption) (q := by infer_instance) (by with_unfolding_all exact Nat.le_of_ble_eq_true rfl) rfl rfl (u := by infer_instance) fun h p m => ?_); (refine ldwA ?_); (refine st_w (by assumption) (by infer_instance) (by with_unfolding_all rfl) (by with_unfolding_all rfl) (by first | rfl | exact flat_ones (Flat.flat _)) (by infer_instance) fun h p m => ?_); (refine rt_w1 (by assumption) (by infer_instance) (by with_unfolding_all rfl) ?_); (with_reducible (refine ret1 ?_)))
    refine ⟨m.pre, _, some i, rfl, ?_, ?_⟩
    · rw [hl]; exact IsSl.some1 (n := 0)
    · rw [hl]; exact OwnNew.of m
  · have hpos : 0 < x.steps.length := List.length_pos_iff.mpr hl
    refine app_o m (IsSl.some1 (n := 0)) (by infer_instance) (by simp) (src_ro s hpos) (by omega) fun i h p m => ?_
    rw [Nat.zero_add]
    simp only [List.nil_append, List.set_cons_zero] at m
    ((with_reducible (refine fao ?_)); (refine sto (by assumption) (q := by infer_instance) (by with_unfolding_all exact Nat.le_of_ble_eq_true rfl) rfl rfl (u := by infer_instance) fun h p m => ?_); (refine ldwA ?_); (refine st_w (by assumption) (by infer_instance) (by with_unfolding_all rfl) (by with_unfolding_all rfl) (by first | rfl | exact flat_ones (Flat.flat _)) (by infer_instance) fun h p m => ?_); (refine rt_w1 (by assumption) (by infer_instance) (by with_unfolding_all rfl) ?_); (with_reducible (refine ret1 ?_)))
    exact ⟨m.pre, _, some i, rfl, IsSl.some0, OwnNew.of m⟩
/-- The same, to be read only. -/
theorem c14 {v : Value} {x : Mach} (s : MacV g v x) (hb : x.steps.length ≤ 1048576) : DetP Tryz.prog 10 [v] g fun v h' => g <+: h' ∧ ∃ b q n, v = .agg #[.int .i64 x.states, .int .i64 x.inputs, .int .i64 x.outputs, .int .i64 x.start, .slice b n q] ∧ n = x.steps.length ∧ L h' (.slice b n q) x.steps := by
  refine DetP.freeze ?_
  obtain ⟨v, h', hr, hp, y, o, rfl, hs, hn⟩ := c14o s hb
  have m := hn _ _ (Mem.start g)
  have hl := IsSl.ro hs m (k := 0) rfl (by omega)
  obtain ⟨b, q, rfl, _⟩ := hl.shape
  exact ⟨_, _, hr, hp, b, q, _, rfl, rfl, hl⟩
/-- Mutations copied. -/
theorem c17 {x : Value} {l : List Mut} (s : L g x l) (hb : l.length ≤ 1048576) : DetP Tryz.prog 31 [x] g fun v h' => g <+: h' ∧ ∃ b q n, v = .slice b n q ∧ n = l.length ∧ L h' (.slice b n q) l := by
  refine DetP.freeze ?_
  have m := Mem.start g
  refine w17 ?_
  unfold n17
  obtain ⟨b, c, rfl, hb2⟩ := s.shape
  ((with_reducible (refine mv_i ?_)); (refine bs_g (bs27_0 _) (by assumption) fun i h p m => ?_); (with_reducible (refine mv_i ?_)))
  by_cases hl : l = []
  · subst hl
    refine app_none (b := b) (c2 := c) rfl hb2 ?_
    ((with_reducible (refine mv_i ?_; refine ret1 ?_)))
    exact ⟨m.pre, _, _, _, rfl, rfl, ret_flat (xs := ([] : List Mut)) (k := 0) m rfl (by decide) (.inr (by decide))⟩
  · have hpos : 0 < l.length := List.length_pos_iff.mpr hl
    refine app_o m (IsSl.some1 (n := 0)) (by infer_instance) (by simp) (src_ro s hpos) (by omega) fun i h p m => ?_
    rw [Nat.zero_add]
    simp only [List.nil_append, List.set_cons_zero] at m
    ((with_reducible (refine mv_i ?_; refine ret1 ?_)))
    exact ⟨m.pre, _, _, _, rfl, rfl, ret_flat (k := 0) m rfl (by omega) (.inl rfl)⟩
/-! ### a step -/
/-! ### machines that are the same -/
theorem eq82 (a b : Stp) : eqSt Tryz.prog 87 (Flat.cells a).toArray (Flat.cells b).toArray = cond (a.frm == b.frm) (cond (a.inp == b.inp) (cond (a.out == b.out) (cond (a.to == b.to) (some true) (some false)) (some false)) (some false)) (some false) := by kernel_rfl
theorem eq82' (a b : Stp) : eqSt Tryz.prog 87 (Flat.cells a).toArray (Flat.cells b).toArray = some (decide (a = b)) := by
  rw [eq82]
  by_cases e : a = b
  · subst e; simp
  · rw [decide_eq_false e]
    cases a; cases b
    simp only [Stp.mk.injEq] at e
    simp only [Bool.cond_eq_ite, beq_iff_eq]
    repeat' split
    all_goals first
      | rfl
      | (exfalso; simp_all; done)
theorem stne_i {K : Value → Heap → Prop} {a b : Stp} (h1 : a = b → K (.bool false) g) (h2 : ¬ a = b → K (.bool true) g) : vK (aBin Tryz.prog .neq 87 (fv a) (fv b)) g K := by
  refine vk_i (v := .bool (!decide (a = b))) (by show (eqSt Tryz.prog 87 (Flat.cells a).toArray (Flat.cells b).toArray).map (fun r => Value.bool !r) = _; rw [eq82']; rfl) ?_
  by_cases e : a = b
  · subst e; simpa using h1 rfl
  · rw [decide_eq_false e]; exact h2 e
end Go.Proofs.YtomiejfeclefaaaGreat

set_option linter.unusedSimpArgs false
set_option linter.unusedVariables false
set_option linter.unnecessarySimpa false
set_option maxRecDepth 100000
set_option maxHeartbeats 4000000
namespace Go.Proofs.YtomiejfeclefaaaGreat
open Go.AM
variable {h g : Heap}
theorem errM_ok {x : Mach} (h0 : errM x = 0) : (chkM x).2 = 0 ∧ headOK x ∧ (x.steps.length : Int) = x.states * x.inputs ∧ x.states ≤ 12 := by
  unfold errM at h0
  split at h0
  · contradiction
  · rename_i h1
    have h1 : (chkM x).2 = 0 := by simpa using h1
    split at h0
    · cases h0
    · split at h0
      · rename_i h2 h3
        exact ⟨h1, (chk_ok h1).1, (opn_iff h1).mp h3, by omega⟩
      · cases h0
noncomputable def bothE (x : Mach) (l : List Mut) : Int := if errM x ≠ 0 then errM x else (mutE x l).2
/-! ### several mutants -/
noncomputable def allE (x : Mach) : List (List Mut) → Int
  | [] => 0
  | l :: ls => if (mutE x l).2 ≠ 0 then (mutE x l).2 else allE x ls
theorem allE_at {x : Mach} {ls : List (List Mut)} {k : Nat} (hJ : ∀ j (hj : j < k) (hl : j < ls.length), (mutE x ls[j]).2 = 0) (hk : k < ls.length) (he : (mutE x ls[k]).2 ≠ 0) : allE x ls = (mutE x ls[k]).2 := by
  induction ls generalizing k with
  | nil => simp at hk
  | cons l ls ih =>
    unfold allE
    cases k with
    | zero => rw [if_pos (by simpa using he)]; rfl
    | succ k =>
      have := hJ 0 (by omega) (by simp)
      rw [if_neg (by simpa using this)]
      exact ih (k := k) (fun j hj hl => hJ (j + 1) (by omega) (by simpa using hl)) (by simpa using hk) (by simpa using he)
theorem allE_no {x : Mach} {ls : List (List Mut)} (hJ : ∀ j (hl : j < ls.length), (mutE x ls[j]).2 = 0) : allE x ls = 0 := by
  induction ls with
  | nil => rfl
  | cons l ls ih =>
    unfold allE
    have := hJ 0 (by simp)
    rw [if_neg (by simpa using this)]
    exact ih fun j hl => hJ (j + 1) (by simpa using hl)
theorem c47 {v y : Value} {x : Mach} {ls : List (List Mut)} (s : MacV g v x) (t : L g y ls) : Runs Tryz.prog 53 [v, y] g (.int .i64 (if errM x ≠ 0 then errM x else allE x ls)) g := by
  obtain ⟨tv, rfl, s⟩ := s
  have lt := t.lt
  have m := Mem.start g
  refine DetP.forget rfl ?_
  refine w47 ?_
  unfold n47
  refine box_a m fun i0 h0 z0 p0 m => ?_
  ((with_reducible (refine mv_i ?_)); (refine ldwA ?_); (refine call_r (c43 ⟨_, by with_unfolding_all rfl, L.up (by assumption)⟩) ?_); (with_reducible (refine mv_i ?_; refine mv_i ?_; refine neq_i (fun hc => ?_) (fun hc => ?_); refine cnd_f ?_; refine mv_i ?_; refine len_g (by assumption) ?_; refine mv_i ?_)); (rotate_left); (with_reducible (refine cnd_t ?_; refine mv_i ?_; refine mv_i ?_; refine ret1 ?_)); (rotate_left))
  · rw [if_neg (by simpa using hc)]
    have hm := (errM_ok hc).2.1
    refine loop1 ls.length (fun k h2 => Prec h0 h2 ∧ Mem g h2 [⟨some i0, [.int .i64 x.states, .int .i64 x.inputs, .int .i64 x.outputs, .int .i64 x.start, tv], z0⟩] ∧ ∀ j (hj : j < k) (hl : j < ls.length), (mutE x ls[j]).2 = 0) ⟨⟨Stab.refl _⟩, m, fun j hj => by omega⟩ ?_
    rintro k h2 _ hk ⟨p2, m, hJ⟩
    ((with_reducible (refine lss_i (fun hc => ?_) (fun hc => ?_); refine cnd_t ?_)); (rotate_left); (with_reducible (refine cnd_f ?_; refine mv_i ?_; refine ret1 ?_)); (rotate_left))
    · have hkl : k < ls.length := by omega
      refine idx_l t rfl hkl fun p y1 hp s1 => ?_
      ((refine ldgA ?_); (with_reducible (refine mv_i ?_)); (refine ldwA ?_); (with_reducible (refine mv_i ?_)))
      refine call_r (c57 ⟨_, rfl, s.up⟩ s1.up hm) ?_
      unfold mk2
      ((with_reducible (refine mv_i ?_; refine ex2_0 ?_; refine ex2_1 ?_; refine mv_i ?_; refine mv_i ?_; refine mv_i ?_; refine neq_i (fun hc => ?_) (fun hc => ?_); refine cnd_f ?_; refine inc_i (by omega) ?_; refine mv_i ?_)); (rotate_left); (with_reducible (refine cnd_t ?_; refine mv_i ?_; refine mv_i ?_; refine ret1 ?_)); (rotate_left))
      · refine next1 hkl ⟨⟨Stb.st⟩, m, fun j hj hl => ?_⟩
        by_cases e : j = k
        · subst e; assumption
        · exact hJ j (by omega) hl
      · exact ⟨by rw [allE_at hJ hkl (by assumption)], Mem.pre (by assumption)⟩
    · exact ⟨by rw [allE_no fun j hl => hJ j (by omega) hl], Mem.pre (by assumption)⟩
  · exact ⟨by rw [if_pos hc], Mem.pre (by assumption)⟩
/-! ### lists of one's own, lent -/
end Go.Proofs.YtomiejfeclefaaaGreat

set_option linter.unusedSimpArgs false
set_option linter.unusedVariables false
set_option linter.unnecessarySimpa false
set_option maxRecDepth 100000
set_option maxHeartbeats 4000000
namespace Go.Proofs.YtomiejfeclefaaaGreat
open Go.AM
variable {h g : Heap}
/-! ### mutants as machines -/
def setOut (l : List Stp) (k : Nat) (v : Int) : List Stp := l.set k { gt l k with out := v }
def setTo (l : List Stp) (k : Nat) (v : Int) : List Stp := l.set k { gt l k with to := v }
def ap1 (x cur : Mach) (m : Mut) : Mach :=
  if m.kind = 0 then { cur with steps := setOut cur.steps m.step.toNat m.to }
  else if m.kind = 1 then { cur with steps := setTo cur.steps m.step.toNat m.to }
  else if m.kind = 2 then { cur with start := m.to }
  else { cur with steps := setTo (setTo cur.steps m.step.toNat (gt x.steps m.to.toNat).to) m.to.toNat (gt x.steps m.step.toNat).to }
def muts (x : Mach) (l : List Mut) (k : Nat) : Mach := (l.take k).foldl (ap1 x) x
def mutd (x : Mach) (l : List Mut) : Mach := l.foldl (ap1 x) x
theorem ap1_same (x cur : Mach) (m : Mut) : (ap1 x cur m).states = cur.states ∧ (ap1 x cur m).inputs = cur.inputs ∧ (ap1 x cur m).outputs = cur.outputs ∧ (ap1 x cur m).steps.length = cur.steps.length := by
  unfold ap1 setOut setTo
  repeat' split
  all_goals simp
theorem muts_next {x : Mach} {l : List Mut} {k : Nat} (hk : k < l.length) : muts x l (k + 1) = ap1 x (muts x l k) (gt l k) := by
  unfold muts
  rw [take_gd Df.d hk, List.foldl_append]
  rfl
theorem muts_same (x : Mach) (l : List Mut) : ∀ k, (muts x l k).states = x.states ∧ (muts x l k).inputs = x.inputs ∧ (muts x l k).outputs = x.outputs ∧ (muts x l k).steps.length = x.steps.length := by
  intro k
  induction k with
  | zero => simp [muts]
  | succ k ih =>
    by_cases hk : k < l.length
    · rw [muts_next hk]
      have := ap1_same x (muts x l k) (gt l k)
      omega
    · have : muts x l (k + 1) = muts x l k := by
        unfold muts
        rw [List.take_of_length_le (by omega), List.take_of_length_le (by omega)]
      rw [this]; exact ih
/-- The program's mutant. -/
theorem c50 {v y : Value} {x : Mach} {l : List Mut} (s : MacV g v x) (t : L g y l) (hb : x.steps.length ≤ 1048576) (hv : ∀ k, k < l.length → (0 ≤ (gt l k).kind ∧ (gt l k).kind ≤ 3) ∧ rightS x (gt l k)) :
    DetP Tryz.prog 26 [v, y] g fun v' h' => g <+: h' ∧ ∃ b q n, v' = .agg #[.int .i64 (mutd x l).states, .int .i64 (mutd x l).inputs, .int .i64 (mutd x l).outputs, .int .i64 (mutd x l).start, .slice b n q] ∧ n = (mutd x l).steps.length ∧ L h' (.slice b n q) (mutd x l).steps := by
  refine DetP.freeze ?_
  obtain ⟨tv, rfl, s⟩ := s
  have lt := t.lt
  obtain ⟨b0, q0, rfl, _⟩ := s.shape
  have m := Mem.start g
  refine w50 ?_
  unfold n50
  refine box_a m fun i0 h0 z0 p0 m => ?_
  refine alloc_z m fun i1 h1 z1 p1 m => ?_
  ((refine ldwA ?_); (with_reducible (refine alloc_z (by assumption) fun i h z p m => ?_)); (refine st_w (by assumption) (by infer_instance) (by with_unfolding_all rfl) (by with_unfolding_all rfl) (by first | rfl | exact flat_ones (Flat.flat _)) (by infer_instance) fun h p m => ?_); (with_reducible (refine fao ?_)); (refine ldoA ?_))
  refine call_d (c82 s.up hb) m fun y1 h3 p3 p4 _ ⟨o, hs, hn⟩ => ?_
  have m := hn _ _ m
  obtain ⟨a, d, rfl⟩ := hs.isS
  ((with_reducible (refine fao ?_)); (refine sto (by assumption) (q := by infer_instance) (by with_unfolding_all exact Nat.le_of_ble_eq_true rfl) rfl rfl (u := by infer_instance) fun h p m => ?_); (with_reducible (refine mv_i ?_; refine len_g (by assumption) ?_; refine mv_i ?_)))
  refine loop1 l.length (fun k h5 => Prec h h5 ∧ Mem g h5 [⟨o, flat (muts x l k).steps, 4⟩, ⟨some i, [.int .i64 x.states, .int .i64 x.inputs, .int .i64 x.outputs, .int .i64 (muts x l k).start, .slice a x.steps.length d], z⟩, ⟨some i1, [.int .i64 0, .int .i64 0, .int .i64 0, .int .i64 0, .slice none 0 0], z1⟩, ⟨some i0, [.int .i64 x.states, .int .i64 x.inputs, .int .i64 x.outputs, .int .i64 x.start, .slice b0 x.steps.length q0], z0⟩]) ⟨⟨Stab.refl _⟩, m⟩ ?_
  rintro k h5 _ hk ⟨p5, m⟩
  obtain ⟨u1, u2, u3, u4⟩ := muts_same x l k
  have hs0 := hs
  have hs : IsSl (.slice a x.steps.length d) o (muts x l k).steps.length := by rw [u4]; exact hs
  by_cases hkl : k < l.length
  · have hnx := muts_next (x := x) hkl
    obtain ⟨r1, r2⟩ := hv k hkl
    ((with_reducible (refine lss_i (fun hc => ?_) (fun hc => ?_); refine cnd_t ?_)); (rotate_left); (with_reducible (refine cnd_f ?_)); (refine ldwA ?_); (refine st_w (by assumption) (by infer_instance) (by with_unfolding_all rfl) (by with_unfolding_all rfl) (by first | rfl | exact flat_ones (Flat.flat _)) (by infer_instance) fun h p m => ?_); (refine rt_w1 (by assumption) (by infer_instance) (by with_unfolding_all rfl) ?_); (with_reducible (refine ret1 ?_)); (rotate_left))
    · refine seq_J (fun xs h6 => xs = [] ∧ Prec h h6 ∧ Mem g h6 [⟨o, flat (muts x l (k + 1)).steps, 4⟩, ⟨some i, [.int .i64 x.states, .int .i64 x.inputs, .int .i64 x.outputs, .int .i64 (muts x l (k + 1)).start, .slice a x.steps.length d], z⟩, ⟨some i1, [.int .i64 0, .int .i64 0, .int .i64 0, .int .i64 0, .slice none 0 0], z1⟩, ⟨some i0, [.int .i64 x.states, .int .i64 x.inputs, .int .i64 x.outputs, .int .i64 x.start, .slice b0 x.steps.length q0], z0⟩]) ?_ ?_
      · rintro _ h6 ⟨rfl, p6, m⟩
        (((with_reducible refine fun (_ : Tmps) => ?_); (try dsimp only [nth])); (with_reducible (refine inc_i (by omega) ?_; refine mv_i ?_)))
        exact next1 hkl ⟨p6, m⟩
      · intro k' hk'
        have hk2 : (gt l k).kind = 0 ∨ (gt l k).kind = 1 ∨ (gt l k).kind = 2 ∨ (gt l k).kind = 3 := by omega
        rcases hk2 with e | e | e | e
        · rw [rightS, if_pos e] at r2
          obtain ⟨r2, r3⟩ := r2
          have hap : ap1 x (muts x l k) (gt l k) = { muts x l k with steps := setOut (muts x l k).steps (gt l k).step.toNat (gt l k).to } := by rw [ap1, if_pos e]
          rw [hap] at hnx
          ((refine idxA fun p hp => ?_); (refine ldr_w (by assumption) (by with_unfolding_all rfl) ?_); (with_reducible (refine alloc_z (by assumption) fun i h z p m => ?_)); (refine st_w (by assumption) (by infer_instance) (by with_unfolding_all rfl) (by with_unfolding_all rfl) (by first | rfl | exact flat_ones (Flat.flat _)) (by infer_instance) fun h p m => ?_); (with_reducible (refine fao ?_)); (refine ldoA ?_); (with_reducible (refine eql_h (by first | assumption | decide) ?_; refine mv_i ?_; refine cnd_t ?_; refine fao ?_)); (refine ldoA ?_); (with_reducible (refine fao ?_)); (refine ldoA ?_); (with_reducible (refine fao ?_)); (refine ldoA ?_); (refine idx_oz (by assumption) (by omega) (by omega) ?_); (with_reducible (refine fao_e ?_)))
          refine stf_d { gt (muts x l k).steps (gt l k).step.toNat with out := (gt l k).to } m (by infer_instance) rfl (by omega) (by decide) rfl rfl rfl (by infer_instance) fun h p m => ?_
          exact hk' _ _ ⟨rfl, ⟨Stb.st⟩, by rw [hnx]; exact m.tail⟩
        · have n0 : ¬ (gt l k).kind = 0 := by omega
          rw [rightS, if_neg n0, if_pos e] at r2
          obtain ⟨r2, r3⟩ := r2
          have hap : ap1 x (muts x l k) (gt l k) = { muts x l k with steps := setTo (muts x l k).steps (gt l k).step.toNat (gt l k).to } := by rw [ap1, if_neg n0, if_pos e]
          rw [hap] at hnx
          ((refine idxA fun p hp => ?_); (refine ldr_w (by assumption) (by with_unfolding_all rfl) ?_); (with_reducible (refine alloc_z (by assumption) fun i h z p m => ?_)); (refine st_w (by assumption) (by infer_instance) (by with_unfolding_all rfl) (by with_unfolding_all rfl) (by first | rfl | exact flat_ones (Flat.flat _)) (by infer_instance) fun h p m => ?_); (with_reducible (refine fao ?_)); (refine ldoA ?_); (with_reducible (refine eql_n (by first | assumption | decide) ?_; refine mv_i ?_; refine cnd_f ?_; refine eql_h (by first | assumption | decide) ?_; refine mv_i ?_; refine cnd_t ?_; refine fao ?_)); (refine ldoA ?_); (with_reducible (refine fao ?_)); (refine ldoA ?_); (with_reducible (refine fao ?_)); (refine ldoA ?_); (refine idx_oz (by assumption) (by omega) (by omega) ?_); (with_reducible (refine fao_e ?_)))
          refine stf_d { gt (muts x l k).steps (gt l k).step.toNat with to := (gt l k).to } m (by infer_instance) rfl (by omega) (by decide) rfl rfl rfl (by infer_instance) fun h p m => ?_
          exact hk' _ _ ⟨rfl, ⟨Stb.st⟩, by rw [hnx]; exact m.tail⟩
        · have n0 : ¬ (gt l k).kind = 0 := by omega
          have n1 : ¬ (gt l k).kind = 1 := by omega
          have hap : ap1 x (muts x l k) (gt l k) = { muts x l k with start := (gt l k).to } := by rw [ap1, if_neg n0, if_neg n1, if_pos e]
          rw [hap] at hnx
          ((refine idxA fun p hp => ?_); (refine ldr_w (by assumption) (by with_unfolding_all rfl) ?_); (with_reducible (refine alloc_z (by assumption) fun i h z p m => ?_)); (refine st_w (by assumption) (by infer_instance) (by with_unfolding_all rfl) (by with_unfolding_all rfl) (by first | rfl | exact flat_ones (Flat.flat _)) (by infer_instance) fun h p m => ?_); (with_reducible (refine fao ?_)); (refine ldoA ?_); (with_reducible (refine eql_n (by first | assumption | decide) ?_; refine mv_i ?_; refine cnd_f ?_; refine eql_n (by first | assumption | decide) ?_; refine mv_i ?_; refine cnd_f ?_; refine eql_h (by first | assumption | decide) ?_; refine mv_i ?_; refine cnd_t ?_; refine fao ?_)); (refine ldoA ?_); (with_reducible (refine fao ?_)); (refine sto (by assumption) (q := by infer_instance) (by with_unfolding_all exact Nat.le_of_ble_eq_true rfl) rfl rfl (u := by infer_instance) fun h p m => ?_))
          exact hk' _ _ ⟨rfl, ⟨Stb.st⟩, by rw [hnx]; exact m.tail⟩
        · have n0 : ¬ (gt l k).kind = 0 := by omega
          have n1 : ¬ (gt l k).kind = 1 := by omega
          have n2 : ¬ (gt l k).kind = 2 := by omega
          rw [rightS, if_neg n0, if_neg n1, if_neg n2] at r2
          obtain ⟨r2, r3⟩ := r2
          have hap : ap1 x (muts x l k) (gt l k) = { muts x l k with steps := setTo (setTo (muts x l k).steps (gt l k).step.toNat (gt x.steps (gt l k).to.toNat).to) (gt l k).to.toNat (gt x.steps (gt l k).step.toNat).to } := by rw [ap1, if_neg n0, if_neg n1, if_neg n2]
          rw [hap] at hnx
          ((refine idxA fun p hp => ?_); (refine ldr_w (by assumption) (by with_unfolding_all rfl) ?_); (with_reducible (refine alloc_z (by assumption) fun i h z p m => ?_)); (refine st_w (by assumption) (by infer_instance) (by with_unfolding_all rfl) (by with_unfolding_all rfl) (by first | rfl | exact flat_ones (Flat.flat _)) (by infer_instance) fun h p m => ?_); (with_reducible (refine fao ?_)); (refine ldoA ?_); (with_reducible (refine eql_n (by first | assumption | decide) ?_; refine mv_i ?_; refine cnd_f ?_; refine eql_n (by first | assumption | decide) ?_; refine mv_i ?_; refine cnd_f ?_; refine eql_n (by first | assumption | decide) ?_; refine mv_i ?_; refine cnd_f ?_; refine eql_h (by first | assumption | decide) ?_; refine mv_i ?_; refine cnd_t ?_; refine fao ?_)); (refine ldoA ?_); (refine IsSl.vb (by assumption) (by assumption) (by infer_instance) ?_); (with_reducible (refine fao ?_)); (refine ldoA ?_); (refine vbA ?_); (with_reducible (refine fao ?_)); (refine ldoA ?_); (refine IsSl.vb (by assumption) (by assumption) (by infer_instance) ?_); (with_reducible (refine fao ?_)); (refine ldoA ?_); (refine vbA ?_); (with_reducible (refine fao ?_)); (refine ldoA ?_); (with_reducible (refine vb_l (by assumption) ?_; refine fao ?_)); (refine ldoA ?_); (refine vbA ?_); (refine idx_dz (by assumption) (by with_unfolding_all rfl) (by omega) (by omega) fun p hp => ?_); (with_reducible (refine fa_g (by assumption) fun p hp => ?_)); (refine ldgA ?_); (refine vbA ?_); (with_reducible (refine fao ?_)); (refine ldoA ?_); (with_reducible (refine vb_l (by assumption) ?_; refine fao ?_)); (refine ldoA ?_); (refine vbA ?_); (refine idx_dz (by assumption) (by with_unfolding_all rfl) (by omega) (by omega) fun p hp => ?_); (with_reducible (refine fa_g (by assumption) fun p hp => ?_)); (refine ldgA ?_); (refine vbA ?_); (refine idx_oz (by assumption) (by omega) (by omega) ?_); (with_reducible (refine fao_e ?_)))
          refine stf_d { gt (muts x l k).steps (gt l k).step.toNat with to := (gt x.steps (gt l k).to.toNat).to } m (by infer_instance) rfl (by omega) (by decide) rfl rfl rfl (by infer_instance) fun h p m => ?_
          ((refine pd_c (by assumption) (by infer_instance) (by with_unfolding_all rfl) ?_); (refine pd_c (by assumption) (by infer_instance) (by with_unfolding_all rfl) ?_); (with_reducible (refine ⟨trivial, ?_⟩)); (refine idx_oz (by assumption) (by omega) (by omega) ?_); (with_reducible (refine fao_e ?_)))
          have hl2 : (setTo (muts x l k).steps (gt l k).step.toNat (gt x.steps (gt l k).to.toNat).to).length = x.steps.length := by unfold setTo; rw [List.length_set, u4]
          change Mem g h (_ :: ⟨o, flat (setTo (muts x l k).steps (gt l k).step.toNat (gt x.steps (gt l k).to.toNat).to), 4⟩ :: _) at m
          refine stf_d { gt (setTo (muts x l k).steps (gt l k).step.toNat (gt x.steps (gt l k).to.toNat).to) (gt l k).to.toNat with to := (gt x.steps (gt l k).step.toNat).to } m (by infer_instance) rfl (by omega) (by decide) rfl rfl rfl (by infer_instance) fun h p m => ?_
          refine ⟨trivial, ?_⟩
          exact hk' _ _ ⟨rfl, ⟨Stb.st⟩, by rw [hnx]; exact m.tail⟩
    · exfalso; omega
  · ((with_reducible (refine lss_i (fun hc => ?_) (fun hc => ?_); refine cnd_t ?_; refine seq_i ?_)); (refine idxA fun p hp => ?_); (refine ldr_w (by assumption) (by with_unfolding_all rfl) ?_); (with_reducible (refine alloc_z (by assumption) fun i h z p m => ?_)); (refine st_w (by assumption) (by infer_instance) (by with_unfolding_all rfl) (by with_unfolding_all rfl) (by first | rfl | exact flat_ones (Flat.flat _)) (by infer_instance) fun h p m => ?_); (with_reducible (refine fao ?_)); (refine ldoA ?_); (with_reducible (refine eql_i (fun hc => ?_) (fun hc => ?_); refine mv_i ?_; refine cnd_t ?_; refine fao ?_)); (refine ldoA ?_); (with_reducible (refine fao ?_)); (refine ldoA ?_); (with_reducible (refine fao ?_)); (refine ldoA ?_); (refine idx_oz (by assumption) (by omega) (by omega) ?_); (with_reducible (refine fao_e ?_)); (rotate_left); (with_reducible (refine mv_i ?_; refine cnd_f ?_; refine eql_i (fun hc => ?_) (fun hc => ?_); refine mv_i ?_; refine cnd_t ?_; refine fao ?_)); (refine ldoA ?_); (with_reducible (refine fao ?_)); (refine ldoA ?_); (with_reducible (refine fao ?_)); (refine ldoA ?_); (refine idx_oz (by assumption) (by omega) (by omega) ?_); (with_reducible (refine fao_e ?_)); (rotate_left); (with_reducible (refine mv_i ?_; refine cnd_f ?_; refine eql_i (fun hc => ?_) (fun hc => ?_); refine mv_i ?_; refine cnd_t ?_; refine fao ?_)); (refine ldoA ?_); (with_reducible (refine fao ?_)); (refine sto (by assumption) (q := by infer_instance) (by with_unfolding_all exact Nat.le_of_ble_eq_true rfl) rfl rfl (u := by infer_instance) fun h p m => ?_); ((with_reducible refine fun (_ : Tmps) => ?_); (try dsimp only [nth])); (with_reducible (refine inc_i (by omega) ?_; refine mv_i ?_)); (rotate_left); (with_reducible (refine mv_i ?_; refine cnd_f ?_; refine eql_i (fun hc => ?_) (fun hc => ?_); refine mv_i ?_; refine cnd_t ?_; refine fao ?_)); (refine ldoA ?_); (refine IsSl.vb (by assumption) (by assumption) (by infer_instance) ?_); (with_reducible (refine fao ?_)); (refine ldoA ?_); (refine vbA ?_); (with_reducible (refine fao ?_)); (refine ldoA ?_); (refine IsSl.vb (by assumption) (by assumption) (by infer_instance) ?_); (with_reducible (refine fao ?_)); (refine ldoA ?_); (refine vbA ?_); (with_reducible (refine fao ?_)); (refine ldoA ?_); (with_reducible (refine vb_l (by assumption) ?_; refine fao ?_)); (refine ldoA ?_); (refine vbA ?_); (refine idx_dz (by assumption) (by with_unfolding_all rfl) (by omega) (by omega) fun p hp => ?_); (with_reducible (refine fa_g (by assumption) fun p hp => ?_)); (refine ldgA ?_); (refine vbA ?_); (with_reducible (refine fao ?_)); (refine ldoA ?_); (with_reducible (refine vb_l (by assumption) ?_; refine fao ?_)); (refine ldoA ?_); (refine vbA ?_); (refine idx_dz (by assumption) (by with_unfolding_all rfl) (by omega) (by omega) fun p hp => ?_); (with_reducible (refine fa_g (by assumption) fun p hp => ?_)); (refine ldgA ?_); (refine vbA ?_); (refine idx_oz (by assumption) (by omega) (by omega) ?_); (with_reducible (refine fao_e ?_)); (rotate_left); (with_reducible (refine mv_i ?_; refine cnd_f ?_)); ((with_reducible refine fun (_ : Tmps) => ?_); (try dsimp only [nth])); (with_reducible (refine inc_i (by omega) ?_; refine mv_i ?_)); (rotate_left); (with_reducible (refine cnd_f ?_)); (refine ldwA ?_); (refine st_w (by assumption) (by infer_instance) (by with_unfolding_all rfl) (by with_unfolding_all rfl) (by first | rfl | exact flat_ones (Flat.flat _)) (by infer_instance) fun h p m => ?_); (refine rt_w1 (by assumption) (by infer_instance) (by with_unfolding_all rfl) ?_); (with_reducible (refine ret1 ?_)); (rotate_left))
    all_goals (try (exfalso; omega))
    have hkk : k = l.length := by omega
    have e1 : muts x l k = mutd x l := by rw [hkk]; simp [muts, mutd]
    refine ⟨m.pre, a, d, x.steps.length, by rw [← e1, u1, u2, u3], by rw [← e1, u4], ?_⟩
    rw [← e1]
    exact IsSl.ro hs m (k := 0) rfl (by omega)
end Go.Proofs.YtomiejfeclefaaaGreat

set_option linter.unusedSimpArgs false
set_option linter.unusedVariables false
set_option linter.unnecessarySimpa false
set_option maxRecDepth 100000
set_option maxHeartbeats 4000000
namespace Go.Proofs.YtomiejfeclefaaaGreat
open Go.AM
variable {h g : Heap}
theorem mutE_ok {x : Mach} {l : List Mut} (h0 : (mutE x l).2 = 0) : l.length ≤ 4 ∧ ∀ k, k < l.length → (0 ≤ (gt l k).kind ∧ (gt l k).kind ≤ 3) ∧ rightS x (gt l k) := by
  unfold mutE at h0
  split at h0
  · cases h0
  · exact ⟨by omega, fun k hk => ⟨(muE_ok (firstErr_zero h0 k hk)).1, (muE_ok (firstErr_zero h0 k hk)).2.1⟩⟩
theorem bothE_ok {x : Mach} {l : List Mut} (h0 : bothE x l = 0) : errM x = 0 ∧ (mutE x l).2 = 0 := by
  unfold bothE at h0
  split at h0
  · contradiction
  · rename_i h1; exact ⟨by simpa using h1, h0⟩
theorem small {x : Mach} (h0 : errM x = 0) : x.steps.length ≤ 320 := by
  obtain ⟨h1, h2, h3, _⟩ := errM_ok h0
  have := prod_bd h2
  omega
/-- The reference's mutant. -/
theorem c24 {v y : Value} {x : Mach} {l : List Mut} (s : MacV g v x) (t : L g y l) (hb : x.steps.length ≤ 1048576) (hv : ∀ k, k < l.length → (0 ≤ (gt l k).kind ∧ (gt l k).kind ≤ 3) ∧ rightS x (gt l k)) :
    DetP Tryz.prog 34 [v, y] g fun v' h' => g <+: h' ∧ ∃ b q n, v' = .agg #[.int .i64 (mutd x l).states, .int .i64 (mutd x l).inputs, .int .i64 (mutd x l).outputs, .int .i64 (mutd x l).start, .slice b n q] ∧ n = (mutd x l).steps.length ∧ L h' (.slice b n q) (mutd x l).steps := by
  refine DetP.freeze ?_
  obtain ⟨tv, rfl, s⟩ := s
  have lt := t.lt
  obtain ⟨b0, q0, rfl, _⟩ := s.shape
  have m := Mem.start g
  refine w24 ?_
  unfold n24
  refine box_a m fun i0 h0 z0 p0 m => ?_
  refine alloc_z m fun i1 h1 z1 p1 m => ?_
  ((refine ldwA ?_))
  refine call_d (c14o ⟨_, rfl, s.up⟩ hb) m fun y1 h3 p3 p4 _ ⟨y1, o, ev, hs, hn⟩ => ?_
  subst ev
  have m := hn _ _ m
  obtain ⟨a, d, rfl⟩ := hs.isS
  ((with_reducible (refine alloc_z (by assumption) fun i h z p m => ?_)); (refine st_w (by assumption) (by infer_instance) (by with_unfolding_all rfl) (by with_unfolding_all rfl) (by first | rfl | exact flat_ones (Flat.flat _)) (by infer_instance) fun h p m => ?_); (with_reducible (refine mv_i ?_)))
  refine loop1 l.length (fun k h5 => Prec h h5 ∧ Mem g h5 [⟨some i, [.int .i64 x.states, .int .i64 x.inputs, .int .i64 x.outputs, .int .i64 (muts x l k).start, .slice a x.steps.length d], z⟩, ⟨o, flat (muts x l k).steps, 4⟩, ⟨some i1, [.int .i64 0, .int .i64 0, .int .i64 0, .int .i64 0, .slice none 0 0], z1⟩, ⟨some i0, [.int .i64 x.states, .int .i64 x.inputs, .int .i64 x.outputs, .int .i64 x.start, .slice b0 x.steps.length q0], z0⟩]) ⟨⟨Stab.refl _⟩, m⟩ ?_
  rintro k h5 _ hk ⟨p5, m⟩
  obtain ⟨u1, u2, u3, u4⟩ := muts_same x l k
  have hs0 := hs
  have hs : IsSl (.slice a x.steps.length d) o (muts x l k).steps.length := by rw [u4]; exact hs
  by_cases hkl : k < l.length
  · have hnx := muts_next (x := x) hkl
    obtain ⟨r1, r2⟩ := hv k hkl
    have hk2 : (gt l k).kind = 0 ∨ (gt l k).kind = 1 ∨ (gt l k).kind = 2 ∨ (gt l k).kind = 3 := by omega
    rcases hk2 with e | e | e | e
    · rw [rightS, if_pos e] at r2
      obtain ⟨r2, r3⟩ := r2
      have n1 : ¬ (gt l k).kind = 1 := by omega
      have n2 : ¬ (gt l k).kind = 2 := by omega
      have n3 : ¬ (gt l k).kind = 3 := by omega
      have hap : ap1 x (muts x l k) (gt l k) = { muts x l k with steps := setOut (muts x l k).steps (gt l k).step.toNat (gt l k).to } := by rw [ap1, if_pos e]
      rw [hap] at hnx
      ((with_reducible (refine mv_i ?_; refine mv_i ?_; refine len_g (by assumption) ?_; refine lss_i (fun hc => ?_) (fun hc => ?_); refine cnd_t ?_; refine seq_i ?_; refine seq_i ?_; refine mv_i ?_; refine mv_i ?_)); (refine idxA fun p hp => ?_); (with_reducible (refine fa_g (by assumption) fun p hp => ?_)); (refine ldgA ?_); (with_reducible (refine eql_h (by first | assumption | decide) ?_; refine cnd_t ?_; refine fao ?_)); (refine ldoA ?_); (refine IsSl.vb (by assumption) (by assumption) (by infer_instance) ?_); (with_reducible (refine mv_i ?_; refine mv_i ?_)); (refine idxA fun p hp => ?_); (with_reducible (refine fa_g (by assumption) fun p hp => ?_)); (refine ldgA ?_); (refine vbA ?_); (with_reducible (refine mv_i ?_; refine mv_i ?_)); (refine idxA fun p hp => ?_); (with_reducible (refine fa_g (by assumption) fun p hp => ?_)); (refine ldgA ?_); (refine vbA ?_); (refine idx_oz (by assumption) (by omega) (by omega) ?_); (with_reducible (refine fao_e ?_)); (rotate_left); (with_reducible (refine cnd_f ?_)); (refine ldwA ?_); (refine st_w (by assumption) (by infer_instance) (by with_unfolding_all rfl) (by with_unfolding_all rfl) (by first | rfl | exact flat_ones (Flat.flat _)) (by infer_instance) fun h p m => ?_); (refine rt_w1 (by assumption) (by infer_instance) (by with_unfolding_all rfl) ?_); (with_reducible (refine ret1 ?_)); (rotate_left))
      rotate_left
      · exfalso; omega
      refine stf_d { gt (muts x l k).steps (gt l k).step.toNat with out := (gt l k).to } m (by infer_instance) rfl (by omega) (by decide) rfl rfl rfl (by infer_instance) fun h p m => ?_
      ((with_reducible (refine ⟨trivial, ?_⟩)); ((with_reducible refine fun (_ : Tmps) => ?_); (try dsimp only [nth])); (with_reducible (refine seq_i ?_; refine mv_i ?_; refine mv_i ?_)); (refine idxA fun p hp => ?_); (with_reducible (refine fa_g (by assumption) fun p hp => ?_)); (refine ldgA ?_); (with_reducible (refine eql_n (by first | assumption | decide) ?_; refine cnd_f ?_)); ((with_reducible refine fun (_ : Tmps) => ?_); (try dsimp only [nth])); (with_reducible (refine seq_i ?_; refine mv_i ?_; refine mv_i ?_)); (refine idxA fun p hp => ?_); (with_reducible (refine fa_g (by assumption) fun p hp => ?_)); (refine ldgA ?_); (with_reducible (refine eql_n (by first | assumption | decide) ?_; refine cnd_f ?_)); ((with_reducible refine fun (_ : Tmps) => ?_); (try dsimp only [nth])); (with_reducible (refine mv_i ?_; refine mv_i ?_)); (refine idxA fun p hp => ?_); (with_reducible (refine fa_g (by assumption) fun p hp => ?_)); (refine ldgA ?_); (with_reducible (refine eql_n (by first | assumption | decide) ?_; refine cnd_f ?_)); ((with_reducible refine fun (_ : Tmps) => ?_); (try dsimp only [nth])); (with_reducible (refine mv_i ?_; refine inc_i (by omega) ?_; refine mv_i ?_)))
      exact next1 hkl ⟨⟨Stb.st⟩, by rw [hnx]; exact m⟩
    · have n0 : ¬ (gt l k).kind = 0 := by omega
      have n2 : ¬ (gt l k).kind = 2 := by omega
      have n3 : ¬ (gt l k).kind = 3 := by omega
      rw [rightS, if_neg n0, if_pos e] at r2
      obtain ⟨r2, r3⟩ := r2
      have hap : ap1 x (muts x l k) (gt l k) = { muts x l k with steps := setTo (muts x l k).steps (gt l k).step.toNat (gt l k).to } := by rw [ap1, if_neg n0, if_pos e]
      rw [hap] at hnx
      ((with_reducible (refine mv_i ?_; refine mv_i ?_; refine len_g (by assumption) ?_; refine lss_i (fun hc => ?_) (fun hc => ?_); refine cnd_t ?_; refine seq_i ?_; refine seq_i ?_; refine mv_i ?_; refine mv_i ?_)); (refine idxA fun p hp => ?_); (with_reducible (refine fa_g (by assumption) fun p hp => ?_)); (refine ldgA ?_); (with_reducible (refine eql_n (by first | assumption | decide) ?_; refine cnd_f ?_)); ((with_reducible refine fun (_ : Tmps) => ?_); (try dsimp only [nth])); (with_reducible (refine seq_i ?_; refine mv_i ?_; refine mv_i ?_)); (refine idxA fun p hp => ?_); (with_reducible (refine fa_g (by assumption) fun p hp => ?_)); (refine ldgA ?_); (with_reducible (refine eql_h (by first | assumption | decide) ?_; refine cnd_t ?_; refine fao ?_)); (refine ldoA ?_); (refine IsSl.vb (by assumption) (by assumption) (by infer_instance) ?_); (with_reducible (refine mv_i ?_; refine mv_i ?_)); (refine idxA fun p hp => ?_); (with_reducible (refine fa_g (by assumption) fun p hp => ?_)); (refine ldgA ?_); (refine vbA ?_); (with_reducible (refine mv_i ?_; refine mv_i ?_)); (refine idxA fun p hp => ?_); (with_reducible (refine fa_g (by assumption) fun p hp => ?_)); (refine ldgA ?_); (refine vbA ?_); (refine idx_oz (by assumption) (by omega) (by omega) ?_); (with_reducible (refine fao_e ?_)); (rotate_left); (with_reducible (refine cnd_f ?_)); (refine ldwA ?_); (refine st_w (by assumption) (by infer_instance) (by with_unfolding_all rfl) (by with_unfolding_all rfl) (by first | rfl | exact flat_ones (Flat.flat _)) (by infer_instance) fun h p m => ?_); (refine rt_w1 (by assumption) (by infer_instance) (by with_unfolding_all rfl) ?_); (with_reducible (refine ret1 ?_)); (rotate_left))
      rotate_left
      · exfalso; omega
      refine stf_d { gt (muts x l k).steps (gt l k).step.toNat with to := (gt l k).to } m (by infer_instance) rfl (by omega) (by decide) rfl rfl rfl (by infer_instance) fun h p m => ?_
      ((with_reducible (refine ⟨trivial, ?_⟩)); ((with_reducible refine fun (_ : Tmps) => ?_); (try dsimp only [nth])); (with_reducible (refine seq_i ?_; refine mv_i ?_; refine mv_i ?_)); (refine idxA fun p hp => ?_); (with_reducible (refine fa_g (by assumption) fun p hp => ?_)); (refine ldgA ?_); (with_reducible (refine eql_n (by first | assumption | decide) ?_; refine cnd_f ?_)); ((with_reducible refine fun (_ : Tmps) => ?_); (try dsimp only [nth])); (with_reducible (refine mv_i ?_; refine mv_i ?_)); (refine idxA fun p hp => ?_); (with_reducible (refine fa_g (by assumption) fun p hp => ?_)); (refine ldgA ?_); (with_reducible (refine eql_n (by first | assumption | decide) ?_; refine cnd_f ?_)); ((with_reducible refine fun (_ : Tmps) => ?_); (try dsimp only [nth])); (with_reducible (refine mv_i ?_; refine inc_i (by omega) ?_; refine mv_i ?_)))
      exact next1 hkl ⟨⟨Stb.st⟩, by rw [hnx]; exact m⟩
    · have n0 : ¬ (gt l k).kind = 0 := by omega
      have n1 : ¬ (gt l k).kind = 1 := by omega
      have n3 : ¬ (gt l k).kind = 3 := by omega
      have hap : ap1 x (muts x l k) (gt l k) = { muts x l k with start := (gt l k).to } := by rw [ap1, if_neg n0, if_neg n1, if_pos e]
      rw [hap] at hnx
      ((with_reducible (refine mv_i ?_; refine mv_i ?_; refine len_g (by assumption) ?_; refine lss_i (fun hc => ?_) (fun hc => ?_); refine cnd_t ?_; refine seq_i ?_; refine seq_i ?_; refine mv_i ?_; refine mv_i ?_)); (refine idxA fun p hp => ?_); (with_reducible (refine fa_g (by assumption) fun p hp => ?_)); (refine ldgA ?_); (with_reducible (refine eql_n (by first | assumption | decide) ?_; refine cnd_f ?_)); ((with_reducible refine fun (_ : Tmps) => ?_); (try dsimp only [nth])); (with_reducible (refine seq_i ?_; refine mv_i ?_; refine mv_i ?_)); (refine idxA fun p hp => ?_); (with_reducible (refine fa_g (by assumption) fun p hp => ?_)); (refine ldgA ?_); (with_reducible (refine eql_n (by first | assumption | decide) ?_; refine cnd_f ?_)); ((with_reducible refine fun (_ : Tmps) => ?_); (try dsimp only [nth])); (with_reducible (refine seq_i ?_; refine mv_i ?_; refine mv_i ?_)); (refine idxA fun p hp => ?_); (with_reducible (refine fa_g (by assumption) fun p hp => ?_)); (refine ldgA ?_); (with_reducible (refine eql_h (by first | assumption | decide) ?_; refine cnd_t ?_; refine mv_i ?_; refine mv_i ?_)); (refine idxA fun p hp => ?_); (with_reducible (refine fa_g (by assumption) fun p hp => ?_)); (refine ldgA ?_); (with_reducible (refine fao ?_)); (refine sto (by assumption) (q := by infer_instance) (by with_unfolding_all exact Nat.le_of_ble_eq_true rfl) rfl rfl (u := by infer_instance) fun h p m => ?_); ((with_reducible refine fun (_ : Tmps) => ?_); (try dsimp only [nth])); (with_reducible (refine mv_i ?_; refine mv_i ?_)); (refine idxA fun p hp => ?_); (with_reducible (refine fa_g (by assumption) fun p hp => ?_)); (refine ldgA ?_); (with_reducible (refine eql_n (by first | assumption | decide) ?_; refine cnd_f ?_)); ((with_reducible refine fun (_ : Tmps) => ?_); (try dsimp only [nth])); (with_reducible (refine mv_i ?_; refine inc_i (by omega) ?_; refine mv_i ?_)); (rotate_left); (with_reducible (refine cnd_f ?_)); (refine ldwA ?_); (refine st_w (by assumption) (by infer_instance) (by with_unfolding_all rfl) (by with_unfolding_all rfl) (by first | rfl | exact flat_ones (Flat.flat _)) (by infer_instance) fun h p m => ?_); (refine rt_w1 (by assumption) (by infer_instance) (by with_unfolding_all rfl) ?_); (with_reducible (refine ret1 ?_)); (rotate_left))
      · exact next1 hkl ⟨⟨Stb.st⟩, by rw [hnx]; exact m⟩
      · exfalso; omega
    · have n0 : ¬ (gt l k).kind = 0 := by omega
      have n1 : ¬ (gt l k).kind = 1 := by omega
      have n2 : ¬ (gt l k).kind = 2 := by omega
      rw [rightS, if_neg n0, if_neg n1, if_neg n2] at r2
      obtain ⟨r2, r3⟩ := r2
      have hap : ap1 x (muts x l k) (gt l k) = { muts x l k with steps := setTo (setTo (muts x l k).steps (gt l k).step.toNat (gt x.steps (gt l k).to.toNat).to) (gt l k).to.toNat (gt x.steps (gt l k).step.toNat).to } := by rw [ap1, if_neg n0, if_neg n1, if_neg n2]
      rw [hap] at hnx
      ((with_reducible (refine mv_i ?_; refine mv_i ?_; refine len_g (by assumption) ?_; refine lss_i (fun hc => ?_) (fun hc => ?_); refine cnd_t ?_; refine seq_i ?_; refine seq_i ?_; refine mv_i ?_; refine mv_i ?_)); (refine idxA fun p hp => ?_); (with_reducible (refine fa_g (by assumption) fun p hp => ?_)); (refine ldgA ?_); (with_reducible (refine eql_n (by first | assumption | decide) ?_; refine cnd_f ?_)); ((with_reducible refine fun (_ : Tmps) => ?_); (try dsimp only [nth])); (with_reducible (refine seq_i ?_; refine mv_i ?_; refine mv_i ?_)); (refine idxA fun p hp => ?_); (with_reducible (refine fa_g (by assumption) fun p hp => ?_)); (refine ldgA ?_); (with_reducible (refine eql_n (by first | assumption | decide) ?_; refine cnd_f ?_)); ((with_reducible refine fun (_ : Tmps) => ?_); (try dsimp only [nth])); (with_reducible (refine seq_i ?_; refine mv_i ?_; refine mv_i ?_)); (refine idxA fun p hp => ?_); (with_reducible (refine fa_g (by assumption) fun p hp => ?_)); (refine ldgA ?_); (with_reducible (refine eql_n (by first | assumption | decide) ?_; refine cnd_f ?_)); ((with_reducible refine fun (_ : Tmps) => ?_); (try dsimp only [nth])); (with_reducible (refine mv_i ?_; refine mv_i ?_)); (refine idxA fun p hp => ?_); (with_reducible (refine fa_g (by assumption) fun p hp => ?_)); (refine ldgA ?_); (with_reducible (refine eql_h (by first | assumption | decide) ?_; refine cnd_t ?_; refine fao ?_)); (refine ldoA ?_); (refine IsSl.vb (by assumption) (by assumption) (by infer_instance) ?_); (with_reducible (refine mv_i ?_; refine mv_i ?_)); (refine idxA fun p hp => ?_); (with_reducible (refine fa_g (by assumption) fun p hp => ?_)); (refine ldgA ?_); (refine vbA ?_); (with_reducible (refine fao ?_)); (refine ldoA ?_); (refine IsSl.vb (by assumption) (by assumption) (by infer_instance) ?_); (with_reducible (refine mv_i ?_; refine mv_i ?_)); (refine idxA fun p hp => ?_); (with_reducible (refine fa_g (by assumption) fun p hp => ?_)); (refine ldgA ?_); (refine vbA ?_); (with_reducible (refine fao ?_)); (refine ldoA ?_); (with_reducible (refine vb_l (by assumption) ?_; refine mv_i ?_; refine mv_i ?_)); (refine idxA fun p hp => ?_); (with_reducible (refine fa_g (by assumption) fun p hp => ?_)); (refine ldgA ?_); (refine vbA ?_); (refine idx_dz (by assumption) (by with_unfolding_all rfl) (by omega) (by omega) fun p hp => ?_); (with_reducible (refine fa_g (by assumption) fun p hp => ?_)); (refine ldgA ?_); (refine vbA ?_); (with_reducible (refine fao ?_)); (refine ldoA ?_); (with_reducible (refine vb_l (by assumption) ?_; refine mv_i ?_; refine mv_i ?_)); (refine idxA fun p hp => ?_); (with_reducible (refine fa_g (by assumption) fun p hp => ?_)); (refine ldgA ?_); (refine vbA ?_); (refine idx_dz (by assumption) (by with_unfolding_all rfl) (by omega) (by omega) fun p hp => ?_); (with_reducible (refine fa_g (by assumption) fun p hp => ?_)); (refine ldgA ?_); (refine vbA ?_); (refine idx_oz (by assumption) (by omega) (by omega) ?_); (with_reducible (refine fao_e ?_)); (rotate_left); (with_reducible (refine cnd_f ?_)); (refine ldwA ?_); (refine st_w (by assumption) (by infer_instance) (by with_unfolding_all rfl) (by with_unfolding_all rfl) (by first | rfl | exact flat_ones (Flat.flat _)) (by infer_instance) fun h p m => ?_); (refine rt_w1 (by assumption) (by infer_instance) (by with_unfolding_all rfl) ?_); (with_reducible (refine ret1 ?_)); (rotate_left))
      rotate_left
      · exfalso; omega
      refine stf_d { gt (muts x l k).steps (gt l k).step.toNat with to := (gt x.steps (gt l k).to.toNat).to } m (by infer_instance) rfl (by omega) (by decide) rfl rfl rfl (by infer_instance) fun h p m => ?_
      ((refine pd_c (by assumption) (by infer_instance) (by with_unfolding_all rfl) ?_); (with_reducible (refine ⟨trivial, ?_⟩)); (refine idx_oz (by assumption) (by omega) (by omega) ?_); (with_reducible (refine fao_e ?_)))
      have hl2 : (setTo (muts x l k).steps (gt l k).step.toNat (gt x.steps (gt l k).to.toNat).to).length = x.steps.length := by unfold setTo; rw [List.length_set, u4]
      change Mem g h (_ :: ⟨o, flat (setTo (muts x l k).steps (gt l k).step.toNat (gt x.steps (gt l k).to.toNat).to), 4⟩ :: _) at m
      refine stf_d { gt (setTo (muts x l k).steps (gt l k).step.toNat (gt x.steps (gt l k).to.toNat).to) (gt l k).to.toNat with to := (gt x.steps (gt l k).step.toNat).to } m (by infer_instance) rfl (by omega) (by decide) rfl rfl rfl (by infer_instance) fun h p m => ?_
      ((with_reducible (refine ⟨trivial, ?_⟩)); ((with_reducible refine fun (_ : Tmps) => ?_); (try dsimp only [nth])); (with_reducible (refine mv_i ?_; refine inc_i (by omega) ?_; refine mv_i ?_)))
      exact next1 hkl ⟨⟨Stb.st⟩, by rw [hnx]; exact m⟩
  · ((with_reducible (refine mv_i ?_; refine mv_i ?_; refine len_g (by assumption) ?_; refine lss_i (fun hc => ?_) (fun hc => ?_); refine cnd_t ?_; refine seq_i ?_; refine seq_i ?_; refine mv_i ?_; refine mv_i ?_)); (refine idxA fun p hp => ?_); (with_reducible (refine fa_g (by assumption) fun p hp => ?_)); (refine ldgA ?_); (with_reducible (refine eql_i (fun hc => ?_) (fun hc => ?_); refine cnd_t ?_; refine fao ?_)); (refine ldoA ?_); (refine IsSl.vb (by assumption) (by assumption) (by infer_instance) ?_); (with_reducible (refine mv_i ?_; refine mv_i ?_)); (refine idxA fun p hp => ?_); (with_reducible (refine fa_g (by assumption) fun p hp => ?_)); (refine ldgA ?_); (refine vbA ?_); (with_reducible (refine mv_i ?_; refine mv_i ?_)); (refine idxA fun p hp => ?_); (with_reducible (refine fa_g (by assumption) fun p hp => ?_)); (refine ldgA ?_); (refine vbA ?_); (refine idx_oz (by assumption) (by omega) (by omega) ?_); (with_reducible (refine fao_e ?_)); (rotate_left); (with_reducible (refine cnd_f ?_)); ((with_reducible refine fun (_ : Tmps) => ?_); (try dsimp only [nth])); (with_reducible (refine seq_i ?_; refine mv_i ?_; refine mv_i ?_)); (refine idxA fun p hp => ?_); (with_reducible (refine fa_g (by assumption) fun p hp => ?_)); (refine ldgA ?_); (with_reducible (refine eql_i (fun hc => ?_) (fun hc => ?_); refine cnd_t ?_; refine fao ?_)); (refine ldoA ?_); (refine IsSl.vb (by assumption) (by assumption) (by infer_instance) ?_); (with_reducible (refine mv_i ?_; refine mv_i ?_)); (refine idxA fun p hp => ?_); (with_reducible (refine fa_g (by assumption) fun p hp => ?_)); (refine ldgA ?_); (refine vbA ?_); (with_reducible (refine mv_i ?_; refine mv_i ?_)); (refine idxA fun p hp => ?_); (with_reducible (refine fa_g (by assumption) fun p hp => ?_)); (refine ldgA ?_); (refine vbA ?_); (refine idx_oz (by assumption) (by omega) (by omega) ?_); (with_reducible (refine fao_e ?_)); (rotate_left); (with_reducible (refine cnd_f ?_)); ((with_reducible refine fun (_ : Tmps) => ?_); (try dsimp only [nth])); (with_reducible (refine seq_i ?_; refine mv_i ?_; refine mv_i ?_)); (refine idxA fun p hp => ?_); (with_reducible (refine fa_g (by assumption) fun p hp => ?_)); (refine ldgA ?_); (with_reducible (refine eql_i (fun hc => ?_) (fun hc => ?_); refine cnd_t ?_; refine mv_i ?_; refine mv_i ?_)); (refine idxA fun p hp => ?_); (with_reducible (refine fa_g (by assumption) fun p hp => ?_)); (refine ldgA ?_); (with_reducible (refine fao ?_)); (refine sto (by assumption) (q := by infer_instance) (by with_unfolding_all exact Nat.le_of_ble_eq_true rfl) rfl rfl (u := by infer_instance) fun h p m => ?_); ((with_reducible refine fun (_ : Tmps) => ?_); (try dsimp only [nth])); (with_reducible (refine mv_i ?_; refine mv_i ?_)); (refine idxA fun p hp => ?_); (with_reducible (refine fa_g (by assumption) fun p hp => ?_)); (refine ldgA ?_); (with_reducible (refine eql_i (fun hc => ?_) (fun hc => ?_); refine cnd_t ?_; refine fao ?_)); (refine ldoA ?_); (refine IsSl.vb (by assumption) (by assumption) (by infer_instance) ?_); (with_reducible (refine mv_i ?_; refine mv_i ?_)); (refine idxA fun p hp => ?_); (with_reducible (refine fa_g (by assumption) fun p hp => ?_)); (refine ldgA ?_); (refine vbA ?_); (with_reducible (refine fao ?_)); (refine ldoA ?_); (refine IsSl.vb (by assumption) (by assumption) (by infer_instance) ?_); (with_reducible (refine mv_i ?_; refine mv_i ?_)); (refine idxA fun p hp => ?_); (with_reducible (refine fa_g (by assumption) fun p hp => ?_)); (refine ldgA ?_); (refine vbA ?_); (with_reducible (refine fao ?_)); (refine ldoA ?_); (with_reducible (refine vb_l (by assumption) ?_; refine mv_i ?_; refine mv_i ?_)); (refine idxA fun p hp => ?_); (with_reducible (refine fa_g (by assumption) fun p hp => ?_)); (refine ldgA ?_); (refine vbA ?_); (refine idx_dz (by assumption) (by with_unfolding_all rfl) (by omega) (by omega) fun p hp => ?_); (with_reducible (refine fa_g (by assumption) fun p hp => ?_)); (refine ldgA ?_); (refine vbA ?_); (with_reducible (refine fao ?_)); (refine ldoA ?_); (with_reducible (refine vb_l (by assumption) ?_; refine mv_i ?_; refine mv_i ?_)); (refine idxA fun p hp => ?_); (with_reducible (refine fa_g (by assumption) fun p hp => ?_)); (refine ldgA ?_); (refine vbA ?_); (refine idx_dz (by assumption) (by with_unfolding_all rfl) (by omega) (by omega) fun p hp => ?_); (with_reducible (refine fa_g (by assumption) fun p hp => ?_)); (refine ldgA ?_); (refine vbA ?_); (refine idx_oz (by assumption) (by omega) (by omega) ?_); (with_reducible (refine fao_e ?_)); (rotate_left); (with_reducible (refine cnd_f ?_)); ((with_reducible refine fun (_ : Tmps) => ?_); (try dsimp only [nth])); (with_reducible (refine mv_i ?_; refine inc_i (by omega) ?_; refine mv_i ?_)); (rotate_left); (with_reducible (refine cnd_f ?_)); ((with_reducible refine fun (_ : Tmps) => ?_); (try dsimp only [nth])); (with_reducible (refine mv_i ?_; refine mv_i ?_)); (refine idxA fun p hp => ?_); (with_reducible (refine fa_g (by assumption) fun p hp => ?_)); (refine ldgA ?_); (with_reducible (refine eql_i (fun hc => ?_) (fun hc => ?_); refine cnd_t ?_; refine fao ?_)); (refine ldoA ?_); (refine IsSl.vb (by assumption) (by assumption) (by infer_instance) ?_); (with_reducible (refine mv_i ?_; refine mv_i ?_)); (refine idxA fun p hp => ?_); (with_reducible (refine fa_g (by assumption) fun p hp => ?_)); (refine ldgA ?_); (refine vbA ?_); (with_reducible (refine fao ?_)); (refine ldoA ?_); (refine IsSl.vb (by assumption) (by assumption) (by infer_instance) ?_); (with_reducible (refine mv_i ?_; refine mv_i ?_)); (refine idxA fun p hp => ?_); (with_reducible (refine fa_g (by assumption) fun p hp => ?_)); (refine ldgA ?_); (refine vbA ?_); (with_reducible (refine fao ?_)); (refine ldoA ?_); (with_reducible (refine vb_l (by assumption) ?_; refine mv_i ?_; refine mv_i ?_)); (refine idxA fun p hp => ?_); (with_reducible (refine fa_g (by assumption) fun p hp => ?_)); (refine ldgA ?_); (refine vbA ?_); (refine idx_dz (by assumption) (by with_unfolding_all rfl) (by omega) (by omega) fun p hp => ?_); (with_reducible (refine fa_g (by assumption) fun p hp => ?_)); (refine ldgA ?_); (refine vbA ?_); (with_reducible (refine fao ?_)); (refine ldoA ?_); (with_reducible (refine vb_l (by assumption) ?_; refine mv_i ?_; refine mv_i ?_)); (refine idxA fun p hp => ?_); (with_reducible (refine fa_g (by assumption) fun p hp => ?_)); (refine ldgA ?_); (refine vbA ?_); (refine idx_dz (by assumption) (by with_unfolding_all rfl) (by omega) (by omega) fun p hp => ?_); (with_reducible (refine fa_g (by assumption) fun p hp => ?_)); (refine ldgA ?_); (refine vbA ?_); (refine idx_oz (by assumption) (by omega) (by omega) ?_); (with_reducible (refine fao_e ?_)); (rotate_left); (with_reducible (refine cnd_f ?_)); ((with_reducible refine fun (_ : Tmps) => ?_); (try dsimp only [nth])); (with_reducible (refine mv_i ?_; refine inc_i (by omega) ?_; refine mv_i ?_)); (rotate_left); (with_reducible (refine cnd_f ?_)); (refine ldwA ?_); (refine st_w (by assumption) (by infer_instance) (by with_unfolding_all rfl) (by with_unfolding_all rfl) (by first | rfl | exact flat_ones (Flat.flat _)) (by infer_instance) fun h p m => ?_); (refine rt_w1 (by assumption) (by infer_instance) (by with_unfolding_all rfl) ?_); (with_reducible (refine ret1 ?_)); (rotate_left))
    all_goals (try (exfalso; omega))
    have hkk : k = l.length := by omega
    have e1 : muts x l k = mutd x l := by rw [hkk]; simp [muts, mutd]
    refine ⟨m.pre, a, d, x.steps.length, by rw [← e1, u1, u2, u3], by rw [← e1, u4], ?_⟩
    rw [← e1]
    exact IsSl.ro hs m (k := 1) rfl (by omega)
end Go.Proofs.YtomiejfeclefaaaGreat

set_option linter.unusedSimpArgs false
set_option linter.unusedVariables false
set_option linter.unnecessarySimpa false
set_option maxRecDepth 100000
set_option maxHeartbeats 4000000
namespace Go.Proofs.YtomiejfeclefaaaGreat
open Go.AM
variable {h g : Heap}
/-! ### a mutant is a right machine -/
theorem gst {α : Type} [Df α] {l : List α} {k j : Nat} {a : α} (hk : k < l.length) : gt (l.set k a) j = if k = j then a else gt l j := by
  unfold gt
  by_cases e : k = j
  · subst e; simp [hk]
  · simp [e]
structure Alk (x c : Mach) : Prop where
  st : c.states = x.states
  ip : c.inputs = x.inputs
  ot : c.outputs = x.outputs
  ln : c.steps.length = x.steps.length
  hs : 0 ≤ c.start ∧ c.start ≤ x.states - 1
  fi : ∀ k, k < x.steps.length → (gt c.steps k).frm = (gt x.steps k).frm ∧ (gt c.steps k).inp = (gt x.steps k).inp ∧ inR x (gt c.steps k)
theorem Alk.self {x : Mach} (h0 : (chkM x).2 = 0) : Alk x x := by
  obtain ⟨hh, _, hs⟩ := chk_ok h0
  exact ⟨rfl, rfl, rfl, rfl, hh.2.2.2, fun k hk => ⟨rfl, rfl, (st_ok (hs k hk)).1⟩⟩
theorem setTo_fi {x : Mach} {l : List Stp} (hl : l.length = x.steps.length) (hf : ∀ k, k < x.steps.length → (gt l k).frm = (gt x.steps k).frm ∧ (gt l k).inp = (gt x.steps k).inp ∧ inR x (gt l k))
    {j : Nat} {v : Int} (hj : j < x.steps.length) (hv : 0 ≤ v ∧ v ≤ x.states - 1) : ∀ k, k < x.steps.length → (gt (setTo l j v) k).frm = (gt x.steps k).frm ∧ (gt (setTo l j v) k).inp = (gt x.steps k).inp ∧ inR x (gt (setTo l j v) k) := by
  intro k hk
  unfold setTo
  rw [gst (by omega)]
  by_cases e : j = k
  · subst e
    rw [if_pos rfl]
    obtain ⟨f1, f2, f3, f4, f5, f6⟩ := hf j hj
    exact ⟨f1, f2, f3, hv, f5, f6⟩
  · rw [if_neg e]; exact hf k hk
theorem Alk.ap1 {x c : Mach} (h0 : (chkM x).2 = 0) (a : Alk x c) {m : Mut} (hk : 0 ≤ m.kind ∧ m.kind ≤ 3) (hr : rightS x m) : Alk x (ap1 x c m) := by
  have S := Alk.self h0
  unfold rightS at hr
  unfold Go.Proofs.YtomiejfeclefaaaGreat.ap1
  split at hr
  · rename_i e
    rw [if_pos e]
    obtain ⟨r1, r2⟩ := hr
    refine ⟨a.st, a.ip, a.ot, by simpa [setOut] using a.ln, a.hs, fun k hk => ?_⟩
    show (gt (setOut c.steps _ _) k).frm = _ ∧ _
    unfold setOut
    rw [gst (by rw [a.ln]; omega)]
    by_cases e : m.step.toNat = k
    · subst e
      rw [if_pos rfl]
      obtain ⟨f1, f2, f3, f4, f5, f6⟩ := a.fi _ hk
      exact ⟨f1, f2, f3, f4, f5, r2⟩
    · rw [if_neg e]; exact a.fi k hk
  · rename_i e
    rw [if_neg e]
    split at hr
    · rename_i e
      rw [if_pos e]
      obtain ⟨r1, r2⟩ := hr
      exact ⟨a.st, a.ip, a.ot, by simpa [setTo] using a.ln, a.hs, setTo_fi a.ln a.fi (by omega) r2⟩
    · rename_i e
      rw [if_neg e]
      split at hr
      · rename_i e
        rw [if_pos e]
        exact ⟨a.st, a.ip, a.ot, a.ln, hr.2, a.fi⟩
      · rename_i e
        rw [if_neg e]
        obtain ⟨r1, r2⟩ := hr
        refine ⟨a.st, a.ip, a.ot, by simpa [setTo] using a.ln, a.hs, ?_⟩
        exact setTo_fi (by simpa [setTo] using a.ln) (setTo_fi a.ln a.fi (by omega) (S.fi m.to.toNat (by omega)).2.2.2.1) (by omega) (S.fi m.step.toNat (by omega)).2.2.2.1
theorem Alk.fold {x : Mach} (h0 : (chkM x).2 = 0) : ∀ (l : List Mut) (c : Mach), Alk x c → (∀ m ∈ l, (0 ≤ m.kind ∧ m.kind ≤ 3) ∧ rightS x m) → Alk x (l.foldl (Go.Proofs.YtomiejfeclefaaaGreat.ap1 x) c)
  | [], _, a, _ => a
  | m :: l, _, a, hl => Alk.fold h0 l _ (a.ap1 h0 (hl m (by simp)).1 (hl m (by simp)).2) fun m' h' => hl m' (by simp [h'])
theorem mem_gt {α : Type} [Df α] {l : List α} {p : α} : p ∈ l ↔ ∃ j, j < l.length ∧ gt l j = p := by
  rw [List.mem_iff_getElem]
  constructor
  · rintro ⟨j, hj, e⟩; exact ⟨j, hj, by rw [← gt_at hj]; exact e⟩
  · rintro ⟨j, hj, e⟩; exact ⟨j, hj, by rw [gt_at hj]; exact e⟩
theorem mutd_alk {x : Mach} {l : List Mut} (h0 : (chkM x).2 = 0) (h1 : (mutE x l).2 = 0) : Alk x (mutd x l) := by
  obtain ⟨_, hv⟩ := mutE_ok h1
  refine Alk.fold h0 l x (Alk.self h0) fun m hm => ?_
  obtain ⟨j, hj, rfl⟩ := mem_gt.mp hm
  exact hv j hj
theorem Alk.chk {x c : Mach} (h0 : (chkM x).2 = 0) (a : Alk x c) : (chkM c).2 = 0 := by
  obtain ⟨hh, hl, hs⟩ := chk_ok h0
  obtain ⟨b1, b2, b3, b4⟩ := hh
  have := a.st
  have := a.ip
  have := a.ot
  have := a.ln
  have hI : ∀ t, inR x t → inR c t := by
    intro t ht
    unfold inR at *
    rw [a.st, a.ip, a.ot]; exact ht
  rw [chk_no (x := c)]
  · exact ⟨by omega, by omega, by omega, by have := a.hs; omega⟩
  · rw [a.st, a.ip]; omega
  · intro j hj
    obtain ⟨f1, f2, f3⟩ := a.fi j (by omega)
    refine st_n (hI _ f3) ?_
    rintro ⟨q1, q2⟩
    refine q2 ?_
    obtain ⟨e1, e2, _⟩ := a.fi (j - 1) (by omega)
    have := (st_ok (hs j (by omega))).2 q1
    unfold lexLt at *
    rw [e1, e2, f1, f2]; exact this
/-! ### pairs -/
theorem c83 {y : Value} {l : List Pr} (s : L g y l) (pr : Pr) : Runs Tryz.prog 85 [y, fv pr] g (.int .i64 (idxOf (fun t => decide (pr = t)) l)) g := by
  have lt := s.lt
  have m := Mem.start g
  refine DetP.forget rfl ?_
  refine w83 ?_
  unfold n83
  refine box_a m fun i h z p m => ?_
  ((with_reducible (refine mv_i ?_; refine mv_i ?_; refine len_g (by assumption) ?_; refine mv_i ?_)))
  refine loop1 l.length (fun k h2 => Prec h h2 ∧ Mem g h2 [⟨some i, Flat.cells pr, z⟩] ∧ ∀ j, j < k → (fun t => decide (pr = t)) (gt l j) = false) ⟨⟨Stab.refl _⟩, m, fun j hj => by omega⟩ ?_
  rintro k h2 _ hk ⟨p2, m, hJ⟩
  ((with_reducible (refine lss_i (fun hc => ?_) (fun hc => ?_); refine cnd_t ?_; refine mv_i ?_; refine mv_i ?_)); (refine ldwA ?_); (with_reducible (refine vb_f ?_; refine mv_i ?_; refine mv_i ?_)); (refine idxA fun p hp => ?_); (refine ldr_w (by assumption) (by with_unfolding_all rfl) ?_); (with_reducible (refine vb_f ?_; refine prq_i (fun hc => ?_) (fun hc => ?_); refine cnd_t ?_; refine mv_i ?_; refine mv_i ?_; refine ret1 ?_)); (rotate_left); (with_reducible (refine cnd_f ?_; refine inc_i (by omega) ?_; refine mv_i ?_)); (rotate_left); (with_reducible (refine cnd_f ?_; refine mv_i ?_; refine ret1 ?_)); (rotate_left))
  · exact ⟨by rw [idxOf_at (p := fun t => decide (pr = t)) hJ (by omega) (decide_eq_true hc)], Mem.pre (by assumption)⟩
  · refine next1 (by omega) ⟨⟨Stb.st⟩, m, fun j hj => ?_⟩
    by_cases q : j = k
    · subst q; exact decide_eq_false hc
    · exact hJ j (by omega)
  · exact ⟨by rw [idxOf_no fun j hj => hJ j (by omega)], Mem.pre (by assumption)⟩
theorem idx_mem {α : Type} [DecidableEq α] [Df α] (p : α) (l : List α) : 0 ≤ idxOf (fun t => decide (p = t)) l ↔ p ∈ l := by
  rw [idxOf_any]
  simp
theorem c51 {y : Value} {l : List Pr} (s : L g y l) (pr : Pr) : Runs Tryz.prog 56 [y, fv pr] g (.bool (decide (pr ∈ l))) g := by
  have m := Mem.start g
  refine DetP.forget rfl ?_
  refine w51 ?_
  unfold n51
  refine box_a m fun i h z p m => ?_
  ((with_reducible (refine mv_i ?_; refine mv_i ?_)); (refine ldwA ?_))
  refine call_r (c83 s.up pr) ?_
  ((with_reducible (refine geq_i (fun hc => ?_) (fun hc => ?_); refine mv_i ?_; refine ret1 ?_)); (rotate_left); (with_reducible (refine mv_i ?_; refine ret1 ?_)); (rotate_left))
  all_goals
    refine ⟨?_, Mem.pre (by assumption)⟩
    rw [idx_mem] at hc
    first
      | rw [decide_eq_true hc]
      | rw [decide_eq_false hc]
end Go.Proofs.YtomiejfeclefaaaGreat

set_option linter.unusedSimpArgs false
set_option linter.unusedVariables false
set_option linter.unnecessarySimpa false
set_option maxRecDepth 100000
set_option maxHeartbeats 4000000
namespace Go.Proofs.YtomiejfeclefaaaGreat
open Go.AM
variable {h g : Heap}
/-! ### the table of a complete machine: rows of pointers to copies of its steps -/
def rowC (n : Nat) (B : List (Nat × Nat)) (s : Nat) : List Value := (List.range n).map fun i => match B[s * n + i]? with | some b => .pointer (some ⟨b.1, 0, none⟩) | none => .pointer none
def hdrC (N n : Nat) (R : List Nat) : List Value := (List.range N).map fun s => match R[s]? with | some r => .slice (some ⟨r, 0, none⟩) n (n + 1) | none => .slice none 0 0
def rowsE (n : Nat) (R : List Nat) (B : List (Nat × Nat)) : List E := (List.range R.length).map fun s => ⟨some (R.getD s 0), rowC n B s, 1⟩
def stepsE (x : Mach) (B : List (Nat × Nat)) : List E := (List.range B.length).map fun q => ⟨some (B.getD q (0, 0)).1, Flat.cells (gt x.steps q), (B.getD q (0, 0)).2⟩
def tab (x : Mach) : List (List (Bx Stp)) := (List.range x.states.toNat).map fun s => (List.range x.inputs.toNat).map fun i => ⟨gt x.steps (s * x.inputs.toNat + i)⟩
theorem hdrC_zero (N n : Nat) : hdrC N n [] = List.replicate N (.slice none 0 0) := by
  refine List.ext_getElem (by simp [hdrC]) fun k h1 h2 => ?_
  simp [hdrC]
theorem hdrC_len (N n : Nat) (R : List Nat) : (hdrC N n R).length = N := by simp [hdrC]
theorem rowC_len (n : Nat) (B : List (Nat × Nat)) (s : Nat) : (rowC n B s).length = n := by simp [rowC]
theorem rowC_zero (n s : Nat) : rowC n [] s = List.replicate n (.pointer none) := by
  refine List.ext_getElem (by simp [rowC]) fun k h1 h2 => ?_
  simp [rowC]
theorem hdrC_add {N n : Nat} {R : List Nat} {r : Nat} (hR : R.length < N) : hdrC N n (R ++ [r]) = (hdrC N n R).set R.length (.slice (some ⟨r, 0, none⟩) n (n + 1)) := by
  refine List.ext_getElem (by simp [hdrC]) fun k h1 h2 => ?_
  simp only [hdrC, List.getElem_map, List.getElem_range, List.getElem_set]
  by_cases e : R.length = k
  · subst e; simp
  · rw [if_neg e]
    by_cases e2 : k < R.length
    · simp [List.getElem?_append_left e2, e2]
    · rw [List.getElem?_eq_none (by simp; omega), List.getElem?_eq_none (by omega)]
theorem hdrC_get {N n : Nat} {R : List Nat} {s : Nat} (hs : s < R.length) (hN : R.length ≤ N) : (hdrC N n R)[s]? = some (.slice (some ⟨R.getD s 0, 0, none⟩) n (n + 1)) := by
  unfold hdrC
  rw [List.getElem?_map, List.getElem?_range (by omega)]
  simp [hs]
theorem rowsE_len (n : Nat) (R : List Nat) (B : List (Nat × Nat)) : (rowsE n R B).length = R.length := by simp [rowsE]
theorem rowsE_add {n : Nat} {R : List Nat} {r : Nat} : rowsE n (R ++ [r]) [] = rowsE n R [] ++ [⟨some r, List.replicate n (.pointer none), 1⟩] := by
  unfold rowsE
  rw [List.length_append, List.length_singleton, List.range_succ, List.map_append]
  congr 1
  · refine List.map_congr_left fun s hs => ?_
    rw [List.mem_range] at hs
    simp [List.getD, List.getElem?_append_left hs]
  · simp [rowC_zero, List.getD]
theorem rowsE_get {n : Nat} {R : List Nat} {B : List (Nat × Nat)} {f : Nat} (hf : f < R.length) : (rowsE n R B)[f]? = some ⟨some (R.getD f 0), rowC n B f, 1⟩ := by
  unfold rowsE
  rw [List.getElem?_map, List.getElem?_range hf]; rfl
theorem lex_uniq {f i s t n : Nat} (hi : i < n) (ht : t < n) (e : s * n + t = f * n + i) : s = f ∧ t = i := by
  have h1 : s = f := by
    rcases Nat.lt_trichotomy s f with q | q | q
    · have := Nat.mul_le_mul_right n (show s + 1 ≤ f by omega); rw [Nat.add_mul, Nat.one_mul] at this; omega
    · exact q
    · have := Nat.mul_le_mul_right n (show f + 1 ≤ s by omega); rw [Nat.add_mul, Nat.one_mul] at this; omega
  subst h1
  exact ⟨rfl, by omega⟩
theorem rowC_add {n f i s : Nat} {B : List (Nat × Nat)} {b : Nat × Nat} (hB : B.length = f * n + i) (hi : i < n) : rowC n (B ++ [b]) s = if s = f then (rowC n B f).set i (.pointer (some ⟨b.1, 0, none⟩)) else rowC n B s := by
  have key : ∀ t, t < n → (B ++ [b])[s * n + t]? = if s = f ∧ t = i then some b else B[s * n + t]? := by
    intro t ht
    by_cases e : s * n + t = B.length
    · obtain ⟨e1, e2⟩ := lex_uniq hi ht (by omega : s * n + t = f * n + i)
      rw [if_pos ⟨e1, e2⟩, e, List.getElem?_append_right (Nat.le_refl _)]; simp
    · rw [if_neg (by rintro ⟨rfl, rfl⟩; omega)]
      by_cases e2 : s * n + t < B.length
      · rw [List.getElem?_append_left e2]
      · rw [List.getElem?_eq_none (by simp; omega), List.getElem?_eq_none (by omega)]
  by_cases e : s = f
  · subst e
    rw [if_pos rfl]
    refine List.ext_getElem (by simp [rowC]) fun t h1 h2 => ?_
    simp only [rowC, List.getElem_map, List.getElem_range, List.getElem_set]
    rw [key t (by simpa [rowC] using h1)]
    by_cases q : i = t
    · subst q; simp
    · rw [if_neg (by rintro ⟨_, rfl⟩; exact q rfl), if_neg q]
  · rw [if_neg e]
    refine List.ext_getElem (by simp [rowC]) fun t h1 h2 => ?_
    simp only [rowC, List.getElem_map, List.getElem_range]
    rw [key t (by simpa [rowC] using h1), if_neg (by rintro ⟨q, _⟩; exact e q)]
theorem rowsE_B {n f i : Nat} {R : List Nat} {B : List (Nat × Nat)} {b : Nat × Nat} (hB : B.length = f * n + i) (hi : i < n) : rowsE n R (B ++ [b]) = (rowsE n R B).set f ⟨some (R.getD f 0), (rowC n B f).set i (.pointer (some ⟨b.1, 0, none⟩)), 1⟩ := by
  refine List.ext_getElem (by simp [rowsE]) fun s h1 h2 => ?_
  simp only [rowsE, List.getElem_map, List.getElem_range, List.getElem_set]
  rw [rowC_add hB hi]
  by_cases e : f = s
  · subst e; simp
  · rw [if_neg (fun q => e q.symm), if_neg e]
theorem stepsE_add {x : Mach} {B : List (Nat × Nat)} {b : Nat × Nat} : stepsE x (B ++ [b]) = stepsE x B ++ [⟨some b.1, Flat.cells (gt x.steps B.length), b.2⟩] := by
  unfold stepsE
  rw [List.length_append, List.length_singleton, List.range_succ, List.map_append]
  congr 1
  · refine List.map_congr_left fun s hs => ?_
    rw [List.mem_range] at hs
    simp [List.getD, List.getElem?_append_left hs]
  · simp [List.getD]
theorem stepsE_get {x : Mach} {B : List (Nat × Nat)} {q : Nat} (hq : q < B.length) : (stepsE x B)[q]? = some ⟨some (B.getD q (0, 0)).1, Flat.cells (gt x.steps q), (B.getD q (0, 0)).2⟩ := by
  unfold stepsE
  rw [List.getElem?_map, List.getElem?_range hq]; rfl
theorem one_flat (l : List Value) : (l.map fun v => [v]).flatten = l := by
  induction l with
  | nil => rfl
  | cons a l ih => simp [ih]
theorem tab_ro {x : Mach} {T N n : Nat} {R : List Nat} {B : List (Nat × Nat)} {e : E} (hN : N = x.states.toNat) (hn : n = x.inputs.toNat) (m : Mem g h (⟨some T, hdrC N n R, 1⟩ :: e :: (rowsE n R B ++ stepsE x B)))
    (hR : R.length = N) (hB : B.length = N * n) (hb : N ≤ 2 ^ 50 ∧ n ≤ 2 ^ 50) : L (frz g.length h) (.slice (some ⟨T, 0, none⟩) N (N + 1)) (tab x) := by
  subst hN hn
  have hrow : ∀ s, s < x.states.toNat → L (frz g.length h) (.slice (some ⟨R.getD s 0, 0, none⟩) x.inputs.toNat (x.inputs.toNat + 1)) ((List.range x.inputs.toNat).map fun i => (⟨gt x.steps (s * x.inputs.toNat + i)⟩ : Bx Stp)) := by
    intro s hs
    refine ⟨(rowC x.inputs.toNat B s).map fun v => [v], by simp [rowC], ?_, fun k h1 h2 => ?_⟩
    · rw [one_flat, List.length_map, List.length_range]
      refine m.retro (k := s + 2) ?_ (by rw [rowC_len]; exact Nat.mul_one _) hb.2 (by unfold capOf; simp)
      show (rowsE _ R B ++ stepsE x B)[s]? = _
      rw [List.getElem?_append_left (by rw [rowsE_len]; omega), rowsE_get (by omega)]
      rfl
    · have hk : k < x.inputs.toNat := by simpa using h2
      have hq : s * x.inputs.toNat + k < B.length := by
        have := Nat.mul_le_mul_right x.inputs.toNat (show s + 1 ≤ x.states.toNat by omega)
        rw [Nat.add_mul, Nat.one_mul] at this
        omega
      refine ⟨_, by rw [List.getElem_map], ?_⟩
      simp only [rowC, List.getElem_map, List.getElem_range]
      rw [List.getElem?_eq_getElem hq]
      refine m.retp (k := R.length + (s * x.inputs.toNat + k) + 2) (sz := (B.getD (s * x.inputs.toNat + k) (0, 0)).2) ?_
      show (rowsE _ R B ++ stepsE x B)[R.length + (s * x.inputs.toNat + k)]? = _
      rw [List.getElem?_append_right (by rw [rowsE_len]; omega), rowsE_len, show R.length + (s * x.inputs.toNat + k) - R.length = s * x.inputs.toNat + k by omega, stepsE_get hq]
      simp [List.getD, hq]
  refine ⟨(hdrC x.states.toNat x.inputs.toNat R).map fun v => [v], by simp [hdrC, tab], ?_, fun k h1 h2 => ?_⟩
  · rw [one_flat]
    have hlen : (tab x).length = x.states.toNat := by simp [tab]
    rw [hlen]
    exact m.retro (k := 0) rfl (by rw [hdrC_len]; exact Nat.mul_one _) hb.1 (by unfold capOf; simp)
  · have hk : k < x.states.toNat := by simpa [tab] using h2
    refine ⟨_, by rw [List.getElem_map], ?_⟩
    have e1 := hdrC_get (n := x.inputs.toNat) (R := R) (s := k) (N := x.states.toNat) (by omega) (by omega)
    rw [List.getElem?_eq_getElem (by rw [hdrC_len]; omega)] at e1
    rw [Option.some.inj e1]
    have := hrow k hk
    simpa [tab] using this
theorem c92 {v : Value} {x : Mach} (s : MacV g v x) (h0 : (chkM x).2 = 0) (hl : (x.steps.length : Int) = x.states * x.inputs) :
    DetP Tryz.prog 73 [v] g fun v' h' => g <+: h' ∧ ∃ b q N, v' = .slice b N q ∧ N = x.states.toNat ∧ L h' (.slice b N q) (tab x) := by
  refine DetP.freeze ?_
  obtain ⟨tv, rfl, s⟩ := s
  have lt := s.lt
  obtain ⟨b0, q0, rfl, _⟩ := s.shape
  obtain ⟨hh, _, hst⟩ := chk_ok h0
  obtain ⟨d1, d2⟩ := prod_bd hh
  obtain ⟨⟨a1, a2⟩, ⟨a3, a4⟩, _⟩ := hh
  have m := Mem.start g
  refine w92 ?_
  unfold n92
  refine box_a m fun X hX zX pX m => ?_
  ((with_reducible (refine mv_i ?_; refine fao ?_)); (refine ldoA ?_))
  refine mk_g m (by omega) (by omega) fun T hT pT m => ?_
  ((with_reducible (refine mv_i ?_; refine mv_i ?_; refine len_s ?_; refine mv_i ?_)))
  refine loop1 x.states.toNat (fun k h2 => Prec hT h2 ∧ ∃ R : List Nat, R.length = k ∧ Mem g h2 (⟨some T, hdrC x.states.toNat x.inputs.toNat R, 1⟩ :: ⟨some X, [.int .i64 x.states, .int .i64 x.inputs, .int .i64 x.outputs, .int .i64 x.start, .slice b0 x.steps.length q0], zX⟩ :: rowsE x.inputs.toNat R [])) ⟨⟨Stab.refl _⟩, [], rfl, by rw [hdrC_zero]; exact m⟩ ?_
  rintro k h2 _ hk ⟨p2, R, hR, m⟩
  ((with_reducible (refine lss_i (fun hc => ?_) (fun hc => ?_); refine cnd_t ?_; refine mv_i ?_; refine mv_i ?_; refine mv_i ?_; refine mv_i ?_; refine fao ?_)); (refine ldoA ?_); (rotate_left); (with_reducible (refine cnd_f ?_; refine fao ?_)); (refine ldoA ?_); (with_reducible (refine len_g (by assumption) ?_; refine mv_i ?_)); (rotate_left))
  · have hkl : k < x.states.toNat := by omega
    refine mk_g m (by omega) (by omega) fun r hr pr m => ?_
    skip
    refine idxon hkl ?_
    refine sto m (by rw [hdrC_len]; omega) rfl rfl fun h5 p5 m => ?_
    rw [Nat.mul_one, ← hR, ← hdrC_add (by omega)] at m
    ((with_reducible (refine inc_i (by omega) ?_; refine mv_i ?_)))
    refine next1 hkl ⟨⟨Stb.st⟩, R ++ [r], by simp [hR], ?_⟩
    rw [rowsE_add]
    exact m.perm (List.perm_append_singleton _ (_ :: _ :: rowsE _ _ _)).symm
  · have hkk : k = x.states.toNat := by omega
    clear hc
    have en : (x.states.toNat : Int) = x.states := Int.toNat_of_nonneg (by omega)
    have em : (x.inputs.toNat : Int) = x.inputs := Int.toNat_of_nonneg (by omega)
    have hln : x.steps.length = x.states.toNat * x.inputs.toNat := by
      have : ((x.states.toNat * x.inputs.toNat : Nat) : Int) = x.steps.length := by push_cast; rw [en, em, hl]
      omega
    refine loop1 x.steps.length (fun j h3 => Prec h2 h3 ∧ ∃ B : List (Nat × Nat), B.length = j ∧ Mem g h3 (⟨some T, hdrC x.states.toNat x.inputs.toNat R, 1⟩ :: ⟨some X, [.int .i64 x.states, .int .i64 x.inputs, .int .i64 x.outputs, .int .i64 x.start, .slice b0 x.steps.length q0], zX⟩ :: (rowsE x.inputs.toNat R B ++ stepsE x B))) ⟨⟨Stab.refl _⟩, [], rfl, by simpa [stepsE] using m⟩ ?_
    rintro j h3 _ hj ⟨p3, B, hB, m⟩
    ((with_reducible (refine lss_i (fun hc => ?_) (fun hc => ?_); refine cnd_t ?_)); (refine idxA fun p hp => ?_); (refine ldr_w (by assumption) (by with_unfolding_all rfl) ?_); (with_reducible (refine alloc_z (by assumption) fun i h z p m => ?_)); (refine st_w (by assumption) (by infer_instance) (by with_unfolding_all rfl) (by with_unfolding_all rfl) (by first | rfl | exact flat_ones (Flat.flat _)) (by infer_instance) fun h p m => ?_); (with_reducible (refine mv_i ?_; refine fao ?_)); (refine ldoA ?_); (refine vbA ?_); (rotate_left); (with_reducible (refine cnd_f ?_; refine mv_i ?_; refine mv_i ?_; refine ret1 ?_)); (rotate_left))
    · have hjl : j < x.steps.length := by omega
      have hir := (st_ok (hst j hjl)).1
      obtain ⟨⟨f1, f2⟩, _, ⟨f3, f4⟩, _⟩ := hir
      have hcode := full_code h0 hl hjl
      unfold code at hcode
      have hf : (gt x.steps j).frm.toNat < x.states.toNat := by omega
      have hi : (gt x.steps j).inp.toNat < x.inputs.toNat := by omega
      have hBf : B.length = (gt x.steps j).frm.toNat * x.inputs.toNat + (gt x.steps j).inp.toNat := by
        have e1 : ((gt x.steps j).frm.toNat : Int) = (gt x.steps j).frm := Int.toNat_of_nonneg f1
        have e2 : ((gt x.steps j).inp.toNat : Int) = (gt x.steps j).inp := Int.toNat_of_nonneg f3
        have : (((gt x.steps j).frm.toNat * x.inputs.toNat + (gt x.steps j).inp.toNat : Nat) : Int) = j := by push_cast; rw [e1, e2, em, hcode]
        omega
      refine idxo f1 hf ?_
      refine ldo m (by rw [Nat.mul_one]; exact hdrC_get (by omega) (by omega)) ?_
      have hrow : ∀ e1 : E, (e1 :: ⟨some T, hdrC x.states.toNat x.inputs.toNat R, 1⟩ :: ⟨some X, [.int .i64 x.states, .int .i64 x.inputs, .int .i64 x.outputs, .int .i64 x.start, .slice b0 x.steps.length q0], zX⟩ :: (rowsE x.inputs.toNat R B ++ stepsE x B))[(gt x.steps j).frm.toNat + 3]? = some ⟨some (R.getD (gt x.steps j).frm.toNat 0), rowC x.inputs.toNat B (gt x.steps j).frm.toNat, 1⟩ := by
        intro e1
        show (rowsE x.inputs.toNat R B ++ stepsE x B)[(gt x.steps j).frm.toNat]? = _
        rw [List.getElem?_append_left (by rw [rowsE_len]; omega), rowsE_get (by omega)]
      refine ⟨m.lt (List.mem_of_getElem? (hrow _)) rfl, ?_⟩
      ((with_reducible (refine fao ?_)); (refine ldoA ?_); (refine vbA ?_))
      refine idxo f3 hi ?_
      refine sto m (q := ⟨hrow _⟩) (u := ⟨rfl⟩) (by rw [rowC_len, Nat.mul_one]; exact hi) rfl rfl fun h6 p6 m => ?_
      refine ⟨trivial, ?_⟩
      ((with_reducible (refine inc_i (by omega) ?_; refine mv_i ?_)))
      refine next1 hjl ⟨⟨Stb.st⟩, B ++ [(i, z)], by simp [hB], ?_⟩
      rw [rowsE_B hBf hi, stepsE_add, hB]
      simp only [List.set_cons_succ, Nat.mul_one] at m
      rw [List.set_append_left _ _ (by rw [rowsE_len]; omega)] at m
      rw [← List.append_assoc]
      exact m.perm (List.perm_append_singleton _ (_ :: _ :: (_ ++ _))).symm
    · exact ⟨m.pre, _, _, _, rfl, rfl, tab_ro rfl rfl m (by omega) (by omega) ⟨by omega, by omega⟩⟩
end Go.Proofs.YtomiejfeclefaaaGreat

set_option linter.unusedSimpArgs false
set_option linter.unusedVariables false
set_option linter.unnecessarySimpa false
set_option maxRecDepth 100000
set_option maxHeartbeats 4000000
namespace Go.Proofs.YtomiejfeclefaaaGreat
open Go.AM
variable {h g : Heap}
/-! ### the search for a word by which two machines differ -/
def stO (x : Mach) (q w : Int) : Stp := gt x.steps (q * x.inputs + w).toNat
def inP (x : Mach) (p : Pr) : Prop := (0 ≤ p.a ∧ p.a ≤ x.states - 1) ∧ (0 ≤ p.b ∧ p.b ≤ x.states - 1)
instance (x : Mach) (p : Pr) : Decidable (inP x p) := by unfold inP; infer_instance
structure BS where
  ps : List Pr
  ws : List (List Int)
  fnd : Option (List Int)
def tgt (x y : Mach) (p : Pr) (n : Int) : Pr := ⟨(stO x p.a n).to, (stO y p.b n).to⟩
def same (x y : Mach) (p : Pr) (n : Int) : Prop := (stO x p.a n).out = (stO y p.b n).out
instance (x y : Mach) (p : Pr) (n : Int) : Decidable (same x y p n) := by unfold same; infer_instance
def wrd (s : BS) (i n : Nat) : List Int := s.ws.getD i [] ++ [(n : Int)]
def bst (x y : Mach) (i n : Nat) (s : BS) : BS :=
  if s.fnd.isSome then s
  else if ¬ same x y (gt s.ps i) n then { s with fnd := some (wrd s i n) }
  else if tgt x y (gt s.ps i) n ∈ s.ps then s
  else ⟨s.ps ++ [tgt x y (gt s.ps i) n], s.ws ++ [wrd s i n], none⟩
def brow (x y : Mach) (i : Nat) (s : BS) : Nat → BS
  | 0 => s
  | n + 1 => bst x y i n (brow x y i s n)
def bfs (x y : Mach) (p0 : Pr) : Nat → BS
  | 0 => ⟨[p0], [[]], none⟩
  | k + 1 => if k < (bfs x y p0 k).ps.length then brow x y k (bfs x y p0 k) x.inputs.toNat else bfs x y p0 k
def srch (x y : Mach) (p0 : Pr) : BS := bfs x y p0 1601
theorem bst_fnd {x y : Mach} {i n : Nat} {s : BS} (hs : s.fnd ≠ none) : bst x y i n s = s := by
  unfold bst; rw [if_pos (by cases h : s.fnd <;> simp_all)]
theorem brow_fnd {x y : Mach} {i : Nat} {s : BS} (hs : s.fnd ≠ none) : ∀ n, brow x y i s n = s
  | 0 => rfl
  | n + 1 => by unfold brow; rw [brow_fnd hs n, bst_fnd hs]
theorem bst_no {x y : Mach} {i n : Nat} {s : BS} (hs : s.fnd = none) (hd : ¬ same x y (gt s.ps i) n) : bst x y i n s = { s with fnd := some (wrd s i n) } := by
  unfold bst; rw [if_neg (by simp [hs]), if_pos hd]
theorem bst_met {x y : Mach} {i n : Nat} {s : BS} (hs : s.fnd = none) (hd : same x y (gt s.ps i) n) (hm : tgt x y (gt s.ps i) n ∈ s.ps) : bst x y i n s = s := by
  unfold bst; rw [if_neg (by simp [hs]), if_neg (by simpa using hd), if_pos hm]
theorem bst_new {x y : Mach} {i n : Nat} {s : BS} (hs : s.fnd = none) (hd : same x y (gt s.ps i) n) (hm : ¬ tgt x y (gt s.ps i) n ∈ s.ps) : bst x y i n s = ⟨s.ps ++ [tgt x y (gt s.ps i) n], s.ws ++ [wrd s i n], none⟩ := by
  unfold bst; rw [if_neg (by simp [hs]), if_neg (by simpa using hd), if_neg hm]
/-- One more row, found before its end. -/
theorem brow_stop {x y : Mach} {i : Nat} {s : BS} {n : Nat} (hn : (brow x y i s n).fnd ≠ none) : ∀ N, n ≤ N → brow x y i s N = brow x y i s n := by
  intro N
  induction N with
  | zero => intro h; have : n = 0 := by omega
            subst this; rfl
  | succ N ih =>
    intro h
    by_cases e : n = N + 1
    · subst e; rfl
    · have := ih (by omega)
      show bst x y i N (brow x y i s N) = _
      rw [this, bst_fnd hn]
/-- What holds of a search between right machines. -/
structure BI (x : Mach) (s : BS) : Prop where
  nd : s.ps.Nodup
  inp : ∀ p ∈ s.ps, inP x p
  len : s.ws.length = s.ps.length
def allP (N : Nat) : List Pr := (List.range N).flatMap fun (a : Nat) => (List.range N).map fun (b : Nat) => (⟨(a : Int), (b : Int)⟩ : Pr)
theorem sum_const (l : List Nat) (N : Nat) : (l.map fun _ => N).sum = l.length * N := by
  induction l with
  | nil => simp
  | cons a l ih => simp [ih, Nat.add_mul]; omega
theorem allP_len (N : Nat) : (allP N).length = N * N := by
  unfold allP
  rw [List.length_flatMap]
  simp only [List.length_map, List.length_range]
  rw [sum_const, List.length_range]
theorem BI.few {x : Mach} {s : BS} (b : BI x s) (hN : x.states ≤ 40) : s.ps.length ≤ 1600 := by
  have h1 := b.nd.length_le_of_subset (l₂ := allP x.states.toNat) fun p hp => by
    obtain ⟨⟨q1, q2⟩, q3, q4⟩ := b.inp p hp
    refine List.mem_flatMap.mpr ⟨p.a.toNat, List.mem_range.mpr (by omega), List.mem_map.mpr ⟨p.b.toNat, List.mem_range.mpr (by omega), ?_⟩⟩
    cases p
    simp only [Pr.mk.injEq] at *
    omega
  rw [allP_len] at h1
  have h2 : x.states.toNat * x.states.toNat ≤ 40 * 40 := Nat.mul_le_mul (by omega) (by omega)
  omega
/-- Right machines beside each other. -/
structure Par (x y : Mach) : Prop where
  cx : (chkM x).2 = 0
  cy : (chkM y).2 = 0
  lx : (x.steps.length : Int) = x.states * x.inputs
  ly : (y.steps.length : Int) = y.states * y.inputs
  st : y.states = x.states
  ip : y.inputs = x.inputs
theorem stO_ok {x : Mach} (h0 : (chkM x).2 = 0) (hl : (x.steps.length : Int) = x.states * x.inputs) {q w : Int} (hq : 0 ≤ q ∧ q ≤ x.states - 1) (hw : 0 ≤ w ∧ w ≤ x.inputs - 1) : inR x (stO x q w) := by
  obtain ⟨e1, e2, _⟩ := full_at h0 hl hq hw
  exact (st_ok ((chk_ok h0).2.2 _ e2)).1
theorem Par.tgt {x y : Mach} (P : Par x y) {p : Pr} (hp : inP x p) {n : Nat} (hn : n < x.inputs.toNat) : inP x (Go.Proofs.YtomiejfeclefaaaGreat.tgt x y p n) := by
  have h1 := stO_ok P.cx P.lx hp.1 (w := (n : Int)) ⟨by omega, by omega⟩
  have h2 := stO_ok P.cy P.ly (q := p.b) (by rw [P.st]; exact hp.2) (w := (n : Int)) ⟨by omega, by rw [P.ip]; omega⟩
  have h3 := h2.2.1
  rw [P.st] at h3
  exact ⟨h1.2.1, h3⟩
theorem BI.step {x y : Mach} (P : Par x y) {s : BS} (b : BI x s) {i n : Nat} (hi : i < s.ps.length) (hn : n < x.inputs.toNat) : BI x (bst x y i n s) := by
  unfold bst
  split
  · exact b
  · split
    · exact ⟨b.nd, b.inp, b.len⟩
    · split
      · exact b
      · rename_i hm
        refine ⟨?_, ?_, by simp [b.len]⟩
        · rw [List.nodup_append]
          exact ⟨b.nd, by simp, by intro a ha c hc e; subst e; rw [List.mem_singleton] at hc; rw [hc] at ha; exact hm ha⟩
        · intro p hp
          rcases List.mem_append.mp hp with hp | hp
          · exact b.inp p hp
          · rw [List.mem_singleton] at hp; subst hp
            exact P.tgt (b.inp _ (gd_mem _ hi)) hn
theorem bst_grow {x y : Mach} {i n : Nat} {s : BS} : s.ps <+: (bst x y i n s).ps ∧ s.ws <+: (bst x y i n s).ws := by
  unfold bst
  split
  · exact ⟨List.prefix_refl _, List.prefix_refl _⟩
  · split
    · exact ⟨List.prefix_refl _, List.prefix_refl _⟩
    · split
      · exact ⟨List.prefix_refl _, List.prefix_refl _⟩
      · exact ⟨List.prefix_append _ _, List.prefix_append _ _⟩
theorem brow_grow {x y : Mach} {i : Nat} {s : BS} : ∀ n, s.ps <+: (brow x y i s n).ps ∧ s.ws <+: (brow x y i s n).ws
  | 0 => ⟨List.prefix_refl _, List.prefix_refl _⟩
  | n + 1 => ⟨(brow_grow n).1.trans bst_grow.1, (brow_grow n).2.trans bst_grow.2⟩
theorem BI.row {x y : Mach} (P : Par x y) {s : BS} (b : BI x s) {i : Nat} (hi : i < s.ps.length) : ∀ n, n ≤ x.inputs.toNat → BI x (brow x y i s n)
  | 0, _ => b
  | n + 1, h => (BI.row P b hi n (by omega)).step P (Nat.lt_of_lt_of_le hi (brow_grow n).1.length_le) (by omega)
theorem BI.all {x y : Mach} (P : Par x y) {p0 : Pr} (h0 : inP x p0) : ∀ k, BI x (bfs x y p0 k)
  | 0 => ⟨by simp [bfs], by intro p hp; simp [bfs] at hp; subst hp; exact h0, rfl⟩
  | k + 1 => by
    unfold bfs
    split
    · rename_i h; exact (BI.all P h0 k).row P h _ (Nat.le_refl _)
    · exact BI.all P h0 k
/-- Where it has come to an end. -/
theorem bfs_end {x y : Mach} {p0 : Pr} {k : Nat} (h : (bfs x y p0 k).fnd ≠ none ∨ (bfs x y p0 k).ps.length ≤ k) : ∀ m, k ≤ m → bfs x y p0 m = bfs x y p0 k := by
  intro m
  induction m with
  | zero => intro hm; have : k = 0 := by omega
            subst this; rfl
  | succ m ih =>
    intro hm
    by_cases e : k = m + 1
    · subst e; rfl
    · have := ih (by omega)
      show (if m < (bfs x y p0 m).ps.length then _ else _) = _
      rw [this]
      split
      · rcases h with h | h
        · exact brow_fnd h _
        · omega
      · rfl
theorem srch_end {x y : Mach} {p0 : Pr} {k : Nat} (hk : k ≤ 1600) (h : (bfs x y p0 k).ps.length ≤ k) : srch x y p0 = bfs x y p0 k := bfs_end (.inr h) 1601 (by omega)
/-- It has found a word. -/
theorem srch_fnd {x y : Mach} {p0 : Pr} {k n : Nat} (hk : k < (bfs x y p0 k).ps.length) (hk2 : k ≤ 1600) (hn : n < x.inputs.toNat) (h0 : (brow x y k (bfs x y p0 k) n).fnd = none)
    (hd : ¬ same x y (gt (brow x y k (bfs x y p0 k) n).ps k) n) : srch x y p0 = { brow x y k (bfs x y p0 k) n with fnd := some (wrd (brow x y k (bfs x y p0 k) n) k n) } := by
  have e1 : brow x y k (bfs x y p0 k) (n + 1) = { brow x y k (bfs x y p0 k) n with fnd := some (wrd (brow x y k (bfs x y p0 k) n) k n) } := bst_no h0 hd
  have e2 : bfs x y p0 (k + 1) = brow x y k (bfs x y p0 k) (n + 1) := by
    show (if k < (bfs x y p0 k).ps.length then _ else _) = _
    rw [if_pos hk]
    exact brow_stop (by rw [e1]; simp) _ (by omega)
  have e3 := bfs_end (x := x) (y := y) (p0 := p0) (k := k + 1) (.inl (by rw [e2, e1]; simp)) 1601 (by omega)
  rw [srch, e3, e2, e1]
theorem bfs_next {x y : Mach} {p0 : Pr} {k : Nat} (hk : k < (bfs x y p0 k).ps.length) : bfs x y p0 (k + 1) = brow x y k (bfs x y p0 k) x.inputs.toNat := by
  show (if k < (bfs x y p0 k).ps.length then _ else _) = _
  rw [if_pos hk]
end Go.Proofs.YtomiejfeclefaaaGreat

set_option linter.unusedSimpArgs false
set_option linter.unusedVariables false
set_option linter.unnecessarySimpa false
set_option maxRecDepth 100000
set_option maxHeartbeats 4000000
namespace Go.Proofs.YtomiejfeclefaaaGreat
open Go.AM
variable {h g : Heap}
/-! ### small functions -/
theorem bd104_01 (a1 : Int) (a2 : Int) : aBuild Tryz.prog 115 [(0, (.int .i64 a1)), (1, (.int .i64 a2))] = some (.agg #[(.int .i64 a1), (.int .i64 a2), (.slice none 0 0)]) := by kernel_rfl
theorem bd104_012 (a1 : Int) (a2 : Int) (o3 : Option Addr) (no3 co3 : Nat) : aBuild Tryz.prog 115 [(0, (.int .i64 a1)), (1, (.int .i64 a2)), (2, (.slice o3 no3 co3))] = some (.agg #[(.int .i64 a1), (.int .i64 a2), (.slice o3 no3 co3)]) := by kernel_rfl
theorem bs97_1 (a1 : Int) (a2 : Int) (a3 : Int) (a4 : Int) (o5 : Option Addr) (no5 co5 : Nat) (h : Heap) : aBuildSlice Tryz.prog 76 1 [(0, (.agg #[(.int .i64 a1), (.int .i64 a2), (.int .i64 a3), (.int .i64 a4), (.slice o5 no5 co5)]))] h = some (.slice (some ⟨h.length, 0, none⟩) 1 2, newArr h [(.int .i64 a1), (.int .i64 a2), (.int .i64 a3), (.int .i64 a4), (.slice o5 no5 co5)] 5) := by kernel_rfl
theorem bs109_1 (o1 : Option Addr) (no1 co1 : Nat) (h : Heap) : aBuildSlice Tryz.prog 26 1 [(0, (.slice o1 no1 co1))] h = some (.slice (some ⟨h.length, 0, none⟩) 1 2, newArr h [(.slice o1 no1 co1)] 1) := by kernel_rfl
theorem bs63_1 (a1 : Int) (a2 : Int) (o3 : Option Addr) (no3 co3 : Nat) (h : Heap) : aBuildSlice Tryz.prog 73 1 [(0, (.agg #[(.int .i64 a1), (.int .i64 a2), (.slice o3 no3 co3)]))] h = some (.slice (some ⟨h.length, 0, none⟩) 1 2, newArr h [(.int .i64 a1), (.int .i64 a2), (.slice o3 no3 co3)] 3) := by kernel_rfl
theorem bs53_0  (h : Heap) : aBuildSlice Tryz.prog 31 0 [] h = some (.slice (some ⟨h.length, 0, none⟩) 0 1, newArr h [] 1) := by kernel_rfl
theorem bs36_1 (x1 : Pr) (h : Heap) : aBuildSlice Tryz.prog 56 1 [(0, (fv x1))] h = some (.slice (some ⟨h.length, 0, none⟩) 1 2, newArr h (flat [x1]) 2) := by kernel_rfl
theorem bs27_1 (x1 : Mut) (h : Heap) : aBuildSlice Tryz.prog 47 1 [(0, (fv x1))] h = some (.slice (some ⟨h.length, 0, none⟩) 1 2, newArr h (flat [x1]) 3) := by kernel_rfl
theorem osl_i {K : Value → Heap → Prop} {x : Value} {o : Option Nat} {n : Nat} (s : IsSl x o n) (h1 : o = none → K (.bool true) h) (h2 : ∀ i, o = some i → K (.bool false) h) : vK (aBin Tryz.prog .eql 31 x (.slice none 0 0)) h K := by
  cases o with
  | none => obtain ⟨rfl, _⟩ := s; exact vk_i (v := .bool true) (by kernel_rfl) (h1 rfl)
  | some i => obtain ⟨c, rfl, _⟩ := s; exact vk_i (v := .bool false) (by unfold aBin; rw [Tryz.underlying31]; rfl) (h2 i rfl)
theorem c90 {v : Value} {x : Mach} (s : MacV g v x) : Runs Tryz.prog 71 [v] g (.int .i64 (chkM x).2) g := by
  obtain ⟨tv, rfl, s⟩ := s
  have m := Mem.start g
  refine DetP.forget rfl ?_
  refine w90 ?_
  unfold n90
  ((with_reducible (refine box_a (by assumption) fun i h z p m => ?_; refine mv_i ?_)); (refine ldwA ?_); (refine call_r (c75 ⟨_, by with_unfolding_all rfl, L.up (by assumption)⟩) ?_); (with_reducible (refine mv_i ?_)))
  unfold mk2
  ((with_reducible (refine ex2_0 ?_; refine ex2_1 ?_; refine mv_i ?_; refine mv_i ?_; refine mv_i ?_; refine mv_i ?_; refine ret1 ?_)))
  exact ⟨rfl, Mem.pre (by assumption)⟩
/-- A copy of a list of one's own. -/
theorem c70 {x : Value} {o : Option Nat} {k : Nat} {xs : List Int} {g0 : Base} {Lm : List E} (M : Mem g0 g Lm) (q : EntO Lm o k (flat xs) 1) (s : IsSl x o xs.length) (hb : xs.length ≤ 1048576) : DetP Tryz.prog 32 [x] g fun v h' => g <+: h' ∧ ∃ o', IsSl v o' xs.length ∧ OwnNew g h' o' (flat xs) 1 := by
  have m := Mem.start g
  refine w70 ?_
  unfold n70
  ((with_reducible (refine mv_i ?_)); (refine bs_g (bs53_0 _) (by assumption) fun i h p m => ?_); (with_reducible (refine mv_i ?_)))
  refine app_copyO m (by infer_instance) s (M.ext m.pre) q rfl (by decide) (by omega) fun v o2 h2 p2 hv m => ?_
  simp only [List.set_cons_zero] at m
  ((with_reducible (refine mv_i ?_; refine ret1 ?_)))
  exact ⟨m.pre, o2, hv, OwnNew.of m⟩
theorem c69 {x : Value} {o : Option Nat} {k : Nat} {xs : List Int} {g0 : Base} {Lm : List E} (M : Mem g0 g Lm) (q : EntO Lm o k (flat xs) 1) (s : IsSl x o xs.length) (hb : xs.length ≤ 1048576) : DetP Tryz.prog 74 [x] g fun v h' => g <+: h' ∧ ∃ o', IsSl v o' xs.length ∧ OwnNew g h' o' (flat xs) 1 := by
  have m := Mem.start g
  refine w69 ?_
  unfold n69
  ((with_reducible (refine mv_i ?_; refine mv_i ?_)))
  refine osl_i s (fun e => ?_) (fun i e => ?_)
  · subst e
    have hx := s.2
    rw [List.length_eq_zero_iff] at hx
    subst hx
    ((with_reducible (refine cnd_t ?_; refine mv_i ?_; refine ret1 ?_)))
    exact ⟨m.pre, none, IsSl.nil, fun _ _ m' => m'.nil 1⟩
  · ((with_reducible (refine cnd_f ?_)); (refine bs_g (bs53_0 _) (by assumption) fun i h p m => ?_); (with_reducible (refine mv_i ?_)))
    refine app_copyO m (by infer_instance) s (M.ext m.pre) q rfl (by decide) (by omega) fun v o2 h2 p2 hv m => ?_
    simp only [List.set_cons_zero] at m
    ((with_reducible (refine mv_i ?_; refine ret1 ?_)))
    exact ⟨m.pre, o2, hv, OwnNew.of m⟩
/-! ### pairs with words -/
structure PrX where
  get : Pr
instance : Rep PrX := ⟨3, fun _ cs p => ∃ v, cs = [.int .i64 p.get.a, .int .i64 p.get.b, v] ∧ v.oneCell' = true, by rintro h cs a ⟨v, rfl, _⟩; rfl, fun _ e => e, by rintro h cs a ⟨v, rfl, e⟩; simp only [List.all_cons, e]; rfl⟩
theorem len_x {K : Value → Heap → Prop} {h1 : Heap} {x : Value} {t e sz by_ : Nat} {ps : List Pr} [T : SlT Tryz.prog t e sz by_] (s : L h1 x (ps.map PrX.mk)) (hk : K (.int .i64 (ps.length : Int)) h) : vK (aLen Tryz.prog t x) h K :=
  len_g s (by rw [List.length_map]; exact hk)
theorem idx_x {K : Value → Heap → Prop} {h1 : Heap} {x : Value} {t e sz by_ k : Nat} {ps : List Pr} [T : SlT Tryz.prog t e sz by_] (s : L h1 x (ps.map PrX.mk)) (hz : sz = 3) (hk : k < ps.length)
    (hK : ∀ p v, Pt h1 p [.int .i64 (gt ps k).a, .int .i64 (gt ps k).b, v] 0 → K p h) : vK (aIndexAddr Tryz.prog t x (.int .i64 (k : Int))) h K := by
  refine idx_n hz s (by rw [List.length_map]; exact hk) fun p cs hp hr => ?_
  obtain ⟨v, rfl, _⟩ := hr
  rw [List.getElem_map] at hp
  rw [gt_at hk] at hp
  exact hK p v hp
theorem c94 {x : Value} {ps : List Pr} (s : L g x (ps.map PrX.mk)) (a b : Int) (w : Value) (hw : w.oneCell' = true) : Runs Tryz.prog 94 [x, .agg #[.int .i64 a, .int .i64 b, w]] g (.bool (decide ((⟨a, b⟩ : Pr) ∈ ps))) g := by
  have lt := s.lt
  rw [List.length_map] at lt
  have m := Mem.start g
  refine DetP.forget rfl ?_
  refine w94 ?_
  unfold n94
  refine box_a (cs := [.int .i64 a, .int .i64 b, w]) m fun i0 h0 z0 p0 m => ?_
  ((with_reducible (refine mv_i ?_; refine mv_i ?_)))
  refine loop1 ps.length (fun k h2 => Prec h0 h2 ∧ Mem g h2 [⟨some i0, [.int .i64 a, .int .i64 b, w], z0⟩] ∧ ∀ j, j < k → ¬ gt ps j = ⟨a, b⟩) ⟨⟨Stab.refl _⟩, m, fun j hj => by omega⟩ ?_
  rintro k h2 _ hk ⟨p2, m, hJ⟩
  ((with_reducible (refine mv_i ?_; refine mv_i ?_)); (refine len_x (by assumption) ?_); (with_reducible (refine lss_i (fun hc => ?_) (fun hc => ?_); refine cnd_t ?_; refine mv_i ?_; refine mv_i ?_)); (refine idx_x (by assumption) (by with_unfolding_all rfl) (by omega) fun p w hp => ?_); (with_reducible (refine fa_g (by assumption) fun p hp => ?_)); (refine ldgA ?_); (refine vbA ?_); (with_reducible (refine fao ?_)); (refine ldoA ?_); (refine vbA ?_); (with_reducible (refine eql_i (fun hc => ?_) (fun hc => ?_); refine mv_i ?_; refine gd_tt ?_; refine mv_i ?_; refine gd_tt ?_; refine mv_i ?_; refine gd_tt ?_)); (refine idx_x (by assumption) (by with_unfolding_all rfl) (by omega) fun p w hp => ?_); (with_reducible (refine gd_tt ?_; refine fa_g (by assumption) fun p hp => ?_; refine gd_tt ?_)); (refine ldgA ?_); (refine vbA ?_); (with_reducible (refine gd_tt ?_; refine fao ?_; refine gd_tt ?_)); (refine ldoA ?_); (refine vbA ?_); (with_reducible (refine gd_tt ?_; refine eql_i (fun hc => ?_) (fun hc => ?_); refine pick_t ?_; refine cnd_t ?_; refine mv_i ?_; refine ret1 ?_)); (rotate_left); (with_reducible (refine pick_t ?_; refine cnd_f ?_; refine mv_i ?_; refine inc_i (by omega) ?_; refine mv_i ?_)); (rotate_left); (with_reducible (refine mv_i ?_; refine gd_ft ?_; refine gd_ft ?_; refine gd_ft ?_; refine gd_ft ?_; refine gd_ft ?_; refine gd_ft ?_; refine gd_ft ?_; refine gd_ft ?_; refine pick_f ?_; refine cnd_f ?_; refine mv_i ?_; refine inc_i (by omega) ?_; refine mv_i ?_)); (rotate_left); (with_reducible (refine cnd_f ?_; refine mv_i ?_; refine ret1 ?_)); (rotate_left))
  · exact ⟨by rw [decide_eq_true (mem_gt.mpr ⟨k, by omega, by rw [show gt ps k = ⟨(gt ps k).a, (gt ps k).b⟩ from rfl]; simp only [Pr.mk.injEq]; exact ⟨by assumption, by assumption⟩⟩)], Mem.pre (by assumption)⟩
  · refine next1 (by omega) ⟨⟨Stb.st⟩, m, fun j hj => ?_⟩
    by_cases q : j = k
    · subst q; intro e; rw [e] at hc; exact hc rfl
    · exact hJ j (by omega)
  · refine next1 (by omega) ⟨⟨Stb.st⟩, m, fun j hj => ?_⟩
    by_cases q : j = k
    · subst q; intro e; rw [e] at hc; exact hc rfl
    · exact hJ j (by omega)
  · refine ⟨?_, Mem.pre (by assumption)⟩
    rw [decide_eq_false]
    intro hm
    obtain ⟨j, hj, e⟩ := mem_gt.mp hm
    exact hJ j (by omega) e
def pw3 : List Pr → List Value → List Value
  | p :: ps, v :: vs => .int .i64 p.a :: .int .i64 p.b :: v :: pw3 ps vs
  | _, _ => []
theorem pw3_get : ∀ {ps : List Pr} {vs : List Value} {k : Nat}, vs.length = ps.length → k < ps.length → (pw3 ps vs)[k * 3]? = some (.int .i64 (gt ps k).a) ∧ (pw3 ps vs)[k * 3 + 1]? = some (.int .i64 (gt ps k).b) ∧ (pw3 ps vs)[k * 3 + 2]? = vs[k]?
  | [], _, _, _, h => by simp at h
  | _ :: _, [], _, h, _ => by simp at h
  | p :: ps, v :: vs, 0, _, _ => by simp [pw3, gt]
  | p :: ps, v :: vs, k + 1, h1, h2 => by
    have := pw3_get (ps := ps) (vs := vs) (k := k) (by simpa using h1) (by simpa using h2)
    rw [show (k + 1) * 3 = k * 3 + 3 by omega]
    simpa [pw3, gt, Nat.add_assoc] using this
theorem pw3_add : ∀ {ps : List Pr} {vs : List Value} {p : Pr} {v : Value}, vs.length = ps.length → pw3 (ps ++ [p]) (vs ++ [v]) = pw3 ps vs ++ [.int .i64 p.a, .int .i64 p.b, v]
  | [], [], _, _, _ => rfl
  | _ :: _, [], _, _, h => by simp at h
  | [], _ :: _, _, _, h => by simp at h
  | p :: ps, v :: vs, p', v', h => by
    have := pw3_add (ps := ps) (vs := vs) (p := p') (v := v') (by simpa using h)
    simp [pw3, this]
theorem pw3_rd : ∀ {ps : List Pr} {vs : List Value}, vs.length = ps.length → (∀ v ∈ vs, v.oneCell' = true) → RdL h (pw3 ps vs) (ps.map PrX.mk)
  | [], [], _, _ => RdL.nil h
  | _ :: _, [], h, _ => by simp at h
  | [], _ :: _, h, _ => by simp at h
  | p :: ps, v :: vs, e, hv => by
    obtain ⟨css, e1, e2, e3⟩ := pw3_rd (ps := ps) (vs := vs) (by simpa using e) (fun w hw => hv w (by simp [hw]))
    refine ⟨[.int .i64 p.a, .int .i64 p.b, v] :: css, by simpa using e1, by simp [pw3, e2], fun k h1 h2 => ?_⟩
    cases k with
    | zero => exact ⟨v, rfl, hv v (by simp)⟩
    | succ k =>
      have h3 := e3 k (by simpa using h1) (by simpa using h2)
      simp only [List.getElem_map] at h3
      simpa using h3
end Go.Proofs.YtomiejfeclefaaaGreat

set_option linter.unusedSimpArgs false
set_option linter.unusedVariables false
set_option linter.unnecessarySimpa false
set_option maxRecDepth 100000
set_option maxHeartbeats 4000000
namespace Go.Proofs.YtomiejfeclefaaaGreat
open Go.AM
variable {h g : Heap}
/-! ### several mutants: their error -/
noncomputable def listE (x : Mach) (ls : List (List Mut)) : Int := if errM x ≠ 0 then errM x else if 40 < ls.length then 2 else allE x ls
theorem listE_or (x : Mach) (ls : List (List Mut)) (b : Bool) (hb : b = decide (ls.length ≤ 40)) : orOf [errM x, unl b 2, if errM x ≠ 0 then errM x else allE x ls] = listE x ls := by
  subst hb
  rw [orOf_cons, orOf_cons, orOf_cons, orOf_nil]
  unfold listE unl
  by_cases h1 : errM x = 0 <;> by_cases h2 : ls.length ≤ 40 <;> simp [h1, h2] <;> first | omega | (split <;> simp_all)
theorem c61 {v y : Value} {x : Mach} {ls : List (List Mut)} (s : MacV g v x) (t : L g y ls) : Runs Tryz.prog 24 [v, y] g (.int .i64 (listE x ls)) g := by
  obtain ⟨tv, rfl, s⟩ := s
  have lt := t.lt
  have m := Mem.start g
  refine DetP.forget rfl ?_
  refine w61 ?_
  unfold n61
  ((with_reducible (refine box_a (by assumption) fun i h z p m => ?_; refine mv_i ?_)); (refine ldwA ?_); (refine vb_mac (by assumption) ?_))
  refine calld_r (c43 ⟨_, rfl, s.up⟩) ?_
  ((with_reducible (refine new_n ?_; refine mv_i ?_; refine len_g (by assumption) ?_; refine leq_i (fun hc => ?_) (fun hc => ?_))); (refine calld_r (c77 _ _) ?_); (with_reducible (refine new_n ?_)); (refine ldwA ?_); (refine vb_mac (by assumption) ?_); (with_reducible (refine mv_i ?_)); (rotate_left); (refine calld_r (c77 _ _) ?_); (with_reducible (refine new_n ?_)); (refine ldwA ?_); (refine vb_mac (by assumption) ?_); (with_reducible (refine mv_i ?_)); (rotate_left))
  all_goals
    refine calld_r (c47 ⟨_, rfl, s.up⟩ t.up) ?_
    (repeat' (first|((with_reducible refine is_callf 54 ?_); refine call_r (c48 _ _ _) ?_)|((with_reducible refine is_calldf 54 ?_); refine calld_r (c48 _ _ _) ?_)|((with_reducible refine is_callf 64 ?_); refine call_r (c53 _ _ _) ?_)|((with_reducible refine is_calldf 64 ?_); refine calld_r (c53 _ _ _) ?_)|((with_reducible refine is_callf 91 ?_); refine call_r (c96 _ _ _) ?_)|((with_reducible refine is_calldf 91 ?_); refine calld_r (c96 _ _ _) ?_)|((with_reducible refine is_callf 52 ?_); refine call_r c72t ?_)|((with_reducible refine is_calldf 52 ?_); refine calld_r c72t ?_)|((with_reducible refine is_callf 52 ?_); refine call_r c72f ?_)|((with_reducible refine is_calldf 52 ?_); refine calld_r c72f ?_)|((with_reducible refine is_callf 52 ?_); refine call_r (c72 _) ?_)|((with_reducible refine is_calldf 52 ?_); refine calld_r (c72 _) ?_)|((with_reducible refine is_callf 65 ?_); refine call_r (c77 _ _) ?_)|((with_reducible refine is_calldf 65 ?_); refine calld_r (c77 _ _) ?_)|((with_reducible refine is_callf 72 ?_); refine call_r (c91 _ _) ?_)|((with_reducible refine is_calldf 72 ?_); refine calld_r (c91 _ _) ?_)|((with_reducible refine is_callf 79 ?_); refine call_r (c107 _) ?_)|((with_reducible refine is_calldf 79 ?_); refine calld_r (c107 _) ?_)|((with_reducible refine is_callf 39 ?_); refine call_r (c81 _ _) ?_)|((with_reducible refine is_calldf 39 ?_); refine calld_r (c81 _ _) ?_)|((with_reducible refine is_callf 23 ?_); refine call_r (c76 (own_ints (xs := [_, _, _]) (by assumption) (q := by infer_instance) rfl rfl (by decide))) ?_)|((with_reducible refine is_calldf 23 ?_); refine calld_r (c76 (own_ints (xs := [_, _, _]) (by assumption) (q := by infer_instance) rfl rfl (by decide))) ?_)|((with_reducible refine is_callf 38 ?_); refine call_r (c80 (own_ints (xs := [_, _, _]) (by assumption) (q := by infer_instance) rfl rfl (by decide))) ?_)|((with_reducible refine is_calldf 38 ?_); refine calld_r (c80 (own_ints (xs := [_, _, _]) (by assumption) (q := by infer_instance) rfl rfl (by decide))) ?_)|((with_reducible refine is_callf 38 ?_); refine call_r (c80 (own_ints (xs := [_, _]) (by assumption) (q := by infer_instance) rfl rfl (by decide))) ?_)|((with_reducible refine is_calldf 38 ?_); refine calld_r (c80 (own_ints (xs := [_, _]) (by assumption) (q := by infer_instance) rfl rfl (by decide))) ?_)|((with_reducible refine is_callf 51 ?_); refine call_r (c46 _ _) ?_)|((with_reducible refine is_calldf 51 ?_); refine calld_r (c46 _ _) ?_)|((with_reducible refine is_callf 55 ?_); refine call_r (c49 _ _) ?_)|((with_reducible refine is_calldf 55 ?_); refine calld_r (c49 _ _) ?_)|((with_reducible refine is_callf 61 ?_); refine call_r (c54 (own_ints (xs := [_, _]) (by assumption) (q := by infer_instance) rfl rfl (by decide)) (own_ints (xs := [_, _]) (by assumption) (q := by infer_instance) rfl rfl (by decide))) ?_)|((with_reducible refine is_calldf 61 ?_); refine calld_r (c54 (own_ints (xs := [_, _]) (by assumption) (q := by infer_instance) rfl rfl (by decide)) (own_ints (xs := [_, _]) (by assumption) (q := by infer_instance) rfl rfl (by decide))) ?_)|((with_reducible refine is_callf 87 ?_); refine call_r (c74 ⟨_, by with_unfolding_all rfl, L.up (by assumption)⟩ _ _) ?_)|((with_reducible refine is_calldf 87 ?_); refine calld_r (c74 ⟨_, by with_unfolding_all rfl, L.up (by assumption)⟩ _ _) ?_)|((with_reducible refine is_callf 86 ?_); refine call_r (c73 ⟨_, by with_unfolding_all rfl, L.up (by assumption)⟩) ?_)|((with_reducible refine is_callf 82 ?_); refine call_r (c75 ⟨_, by with_unfolding_all rfl, L.up (by assumption)⟩) ?_)|((with_reducible refine is_calldf 62 ?_); refine calld_d (c59 _) (by assumption) fun v h p1 p m s1 => ?_)|((with_reducible refine is_calldf 61 ?_); refine calld_r (c54 (L.ints (L.up (by assumption))) (L.ints (L.up (by assumption)))) ?_)|((with_reducible refine is_callf 63 ?_); refine call_r (c60 _ _) ?_)|((with_reducible refine is_calldf 63 ?_); refine calld_r (c60 _ _) ?_)|(with_reducible refine stne_i (fun hc => ?_) (fun hc => ?_))|((with_reducible refine is_callf 20 ?_); refine call_r (c12 ⟨_, by with_unfolding_all rfl, L.up (by assumption)⟩) ?_)|((with_reducible refine is_callf 48 ?_); refine call_r (c43 ⟨_, by with_unfolding_all rfl, L.up (by assumption)⟩) ?_)|((with_reducible refine is_rl1 ?_); first|(refine rt_w1 (by assumption) (by infer_instance) (by with_unfolding_all rfl) ?_)|(refine rt_11 (by assumption) (by infer_instance) (by with_unfolding_all rfl) ?_))|((with_reducible refine is_rl2 ?_); first|(refine rt_w2 (by assumption) (by infer_instance) (by with_unfolding_all rfl) ?_)|(refine rt_12 (by assumption) (by infer_instance) (by with_unfolding_all rfl) ?_))|((with_reducible refine is_vk ?_); first|(with_reducible refine not_dh (by assumption) ?_)|(with_reducible refine not_dn (by assumption) ?_)|(with_reducible refine not_d (fun hb => ?_) (fun hb => ?_))|(with_reducible refine pick_dh (by assumption) ?_)|(with_reducible refine pick_dn (by assumption) ?_)|(with_reducible refine pick_d (fun hb => ?_) (fun hb => ?_))|(refine len_x (by assumption) ?_)|(with_reducible refine pnn_g (by assumption) ?_)|(with_reducible refine len_o (by assumption) ?_)|(with_reducible refine nil_i ?_)|(with_reducible refine ex2_0 ?_)|(with_reducible refine ex2_1 ?_)|(with_reducible refine ex3_0 ?_)|(with_reducible refine ex3_1 ?_)|(with_reducible refine ex3_2 ?_)|(with_reducible refine pick_t ?_)|(with_reducible refine pick_f ?_)|(with_reducible refine not_t ?_)|(with_reducible refine not_f ?_)|(with_reducible refine pick_h (by assumption) ?_)|(with_reducible refine pick_n (by assumption) ?_)|(with_reducible refine not_h (by assumption) ?_)|(with_reducible refine not_n (by assumption) ?_)|(with_reducible refine not_s (fun hb => ?_) (fun hb => ?_))|(with_reducible refine pick_s (fun hb => ?_) (fun hb => ?_))|(with_reducible refine len_g (by assumption) ?_)|(with_reducible refine slen_i ?_)|(with_reducible refine len_s ?_)|(refine fld_g (by with_unfolding_all rfl) ?_)|(with_reducible refine leni_t (by assumption) ?_))|((with_reducible refine is_gd ?_); first|(with_reducible refine gd_dht (by assumption) ?_)|(with_reducible refine gd_dnt (by assumption) ?_)|(with_reducible refine gd_dhf (by assumption) ?_)|(with_reducible refine gd_dnf (by assumption) ?_)|(with_reducible refine gd_dt (fun hb => ?_) (fun hb => ?_))|(with_reducible refine gd_df (fun hb => ?_) (fun hb => ?_))|(with_reducible refine gd_tt ?_)|(with_reducible refine gd_ff ?_)|(with_reducible refine gd_tf ?_)|(with_reducible refine gd_ft ?_)|(with_reducible refine gd_u ?_)|(with_reducible refine gd_ht (by assumption) ?_)|(with_reducible refine gd_hf (by assumption) ?_)|(with_reducible refine gd_nt (by assumption) ?_)|(with_reducible refine gd_nf (by assumption) ?_)|(with_reducible refine gd_st (fun hb => ?_) (fun hb => ?_))|(with_reducible refine gd_sf (fun hb => ?_) (fun hb => ?_)))|((with_reducible refine is_cnd ?_); first|(with_reducible refine cnd_dh (by assumption) ?_)|(with_reducible refine cnd_dn (by assumption) ?_)|(with_reducible refine cnd_d (fun hb => ?_) (fun hb => ?_))|(with_reducible refine cnd_t ?_)|(with_reducible refine cnd_f ?_)|(with_reducible refine cnd_h (by assumption) ?_)|(with_reducible refine cnd_n (by assumption) ?_)|(with_reducible refine cnd_b (fun hb => ?_) (fun hb => ?_)))|((with_reducible refine is_bin ?_); first|(with_reducible refine sub_a (by assumption) (by decide) (by decide) ?_)|(with_reducible refine snil_i (fun hn => ?_) (fun hn => ?_))|(with_reducible refine prq_i (fun hc => ?_) (fun hc => ?_))|(refine mul_j (by omega) (by omega) ?_)|(with_reducible refine pnil_g ptr135 (by assumption) ?_)|(with_reducible refine eql_h (by first | assumption | decide) ?_)|(with_reducible refine eql_n (by first | assumption | decide) ?_)|(with_reducible refine neq_h (by first | assumption | decide) ?_)|(with_reducible refine neq_n (by first | assumption | decide) ?_)|(with_reducible refine lss_i (fun hc => ?_) (fun hc => ?_))|(with_reducible refine leq_i (fun hc => ?_) (fun hc => ?_))|(with_reducible refine gtr_i (fun hc => ?_) (fun hc => ?_))|(with_reducible refine geq_i (fun hc => ?_) (fun hc => ?_))|(with_reducible refine eql_i (fun hc => ?_) (fun hc => ?_))|(with_reducible refine neq_i (fun hc => ?_) (fun hc => ?_))|(with_reducible refine seq_s (fun hc => ?_) (fun hc => ?_))|(with_reducible refine sne_s (fun hc => ?_) (fun hc => ?_))|(with_reducible refine sls_i ?_)|(with_reducible refine inc_i (by omega) ?_)|(with_reducible refine sub_j (by omega) (by omega) ?_)|(with_reducible refine add_j (by omega) (by omega) ?_))|((with_reducible refine is_six ?_); first|(with_reducible refine sidx_0 (by omega) ?_))|((with_reducible refine is_idx ?_); first|(refine ia_g (by assumption) (by omega) (by omega) fun p hp => ?_)|(refine ia_o (by omega) (by omega) ?_)|(refine idx_x (by assumption) (by with_unfolding_all rfl) (by omega) fun p w hp => ?_)|(refine idx_tab (by assumption) (by with_unfolding_all rfl) (by omega) (by omega) (by omega) fun p w hp hr => ?_)|(refine idx_row (by assumption) (by with_unfolding_all rfl) (by omega) (by omega) fun p w hp hq => ?_)|(refine idxA fun p hp => ?_)|(refine idx_dp (by assumption) (by with_unfolding_all rfl) (by omega) (by omega) fun p hp => ?_)|(refine idx_dz (by assumption) (by with_unfolding_all rfl) (by omega) (by omega) fun p hp => ?_)|(refine idx_f (by assumption) (by with_unfolding_all rfl) (by omega) fun p hp => ?_)|(refine idx_fz (by assumption) (by with_unfolding_all rfl) (by omega) (by omega) fun p hp => ?_)|(refine idxi_t (by assumption) (by omega) ?_)|(refine idx_o (by assumption) (by omega) ?_)|(refine idx_oz (by assumption) (by omega) (by omega) ?_))|((with_reducible refine is_fa ?_); first|(with_reducible refine fa_g (by assumption) fun p hp => ?_)|(with_reducible refine fao_e ?_)|(with_reducible refine fao ?_))|((with_reducible refine is_ldo ?_); first|(refine ldoA ?_)|(refine ldwA ?_)|(refine ldor (by assumption) (q := by infer_instance) (by with_unfolding_all rfl) (by with_unfolding_all exact Nat.le_refl _) ?_)|(refine ldf_d (by assumption) (by infer_instance) (by with_unfolding_all rfl) (by omega) (by with_unfolding_all exact Nat.le_of_ble_eq_true rfl) (by with_unfolding_all rfl) ?_)|(refine ldw_d (by assumption) (by infer_instance) (by with_unfolding_all rfl) (by omega) ?_))|((with_reducible refine is_ld ?_); first|(refine ldgA ?_)|(refine ldr_w (by assumption) (by with_unfolding_all rfl) ?_)|(refine ldr_g (by assumption) (by with_unfolding_all rfl) (by with_unfolding_all exact Nat.le_refl _) ?_)|(refine ldi_t (by assumption) (by omega) ?_))|((with_reducible refine is_box ?_); first|(with_reducible refine box_a (by assumption) fun i h z p m => ?_)|(refine box_1 (by assumption) (by with_unfolding_all rfl) fun i h z p m => ?_))|((with_reducible refine is_ok ?_); first|(with_reducible refine alloc_z (by assumption) fun i h z p m => ?_))|((with_reducible refine is_st ?_); first|(refine sto (by assumption) (q := by infer_instance) (by with_unfolding_all exact Nat.le_of_ble_eq_true rfl) rfl rfl (u := by infer_instance) fun h p m => ?_)|(refine st_w (by assumption) (by infer_instance) (by with_unfolding_all rfl) (by with_unfolding_all rfl) (by first | rfl | exact flat_ones (Flat.flat _)) (by infer_instance) fun h p m => ?_)|(refine stw_o (by assumption) (by infer_instance) (by with_unfolding_all rfl) (by omega) (by infer_instance) fun h p m => ?_))|((with_reducible refine is_new ?_); first|(with_reducible refine new_n ?_)|(with_reducible refine new_p (by assumption) ?_))|((with_reducible refine is_pd ?_); first|(refine pd_p (by assumption) (by with_unfolding_all rfl) ?_)|(refine pd_c (by assumption) (by infer_instance) (by with_unfolding_all rfl) ?_)|(refine pd_o (by assumption) (by infer_instance) (by with_unfolding_all rfl) ?_))|((with_reducible refine is_vb ?_); first|(refine vb_mac (by assumption) ?_)|(with_reducible refine vb_pt (by assumption) ?_)|(with_reducible refine vb_f ?_)|(refine vbA ?_)|(with_reducible refine vb_l (by assumption) ?_)|(refine vb_as rfl (by assumption) ?_)|(refine vb_ao rfl (by assumption) (by assumption) (by infer_instance) ?_)|(refine IsSl.vb (by assumption) (by assumption) (by infer_instance) ?_))|((with_reducible refine is_tru ?_); first|(with_reducible refine ⟨trivial, ?_⟩))|((with_reducible refine is_ret ?_); first|(with_reducible refine ret1 ?_)|(with_reducible refine ret2 ?_)|(with_reducible refine ret3 ?_)|(with_reducible refine ret0 ?_))|((with_reducible refine is_bld ?_); first|(refine vk_i (bd24_z) ?_)|(refine vk_i (bd77_01 _ _) ?_)|(refine vk_i (bd104_01 _ _) ?_)|(refine vk_i (bd104_012 _ _ _ _ _) ?_))|((with_reducible refine is_bsl ?_); first|(refine bs_g (bs36_0 _) (by assumption) fun i h p m => ?_)|(refine bs_g (bs22_0 _) (by assumption) fun i h p m => ?_)|(refine bs_g (bs51_1 _ _ _ _) (by assumption) fun i h p m => ?_)|(refine bs_g (bs27_0 _) (by assumption) fun i h p m => ?_)|(refine bs_g (bs53_2 _ _ _) (by assumption) fun i h p m => ?_)|(refine bs_g (bs141_3 _ _ _ _) (by assumption) fun i h p m => ?_)|(refine bs_g (bs53_3 _ _ _ _) (by assumption) fun i h p m => ?_)|(refine bs_g (bs53_1 _ _) (by assumption) fun i h p m => ?_)|(refine bs_g (bs97_1 _ _ _ _ _ _ _ _) (by assumption) fun i h p m => ?_)|(refine bs_g (bs109_1 _ _ _ _) (by assumption) fun i h p m => ?_)|(refine bs_g (bs63_1 _ _ _ _ _ _) (by assumption) fun i h p m => ?_)|(refine bs_g (bs53_0 _) (by assumption) fun i h p m => ?_)|(refine bs_g (bs27_1 _ _) (by assumption) fun i h p m => ?_)|(refine bs_g (bs36_1 _ _) (by assumption) fun i h p m => ?_))|(with_reducible refine mv_i ?_)|(with_reducible refine seq_i ?_)|((with_reducible refine fun (_ : Tmps) => ?_); (try dsimp only [nth]))))
    refine ⟨?_, Mem.pre (by assumption)⟩
    rw [listE_or _ _ _ (by first | exact (decide_eq_true (by omega)).symm | exact (decide_eq_false (by omega)).symm)]
theorem c25 {v y : Value} {x : Mach} {ls : List (List Mut)} (s : MacV g v x) (t : L g y ls) : Runs Tryz.prog 6 [v, y] g (.int .i64 (listE x ls)) g := by
  obtain ⟨tv, rfl, s⟩ := s
  have lt := t.lt
  have m := Mem.start g
  refine DetP.forget rfl ?_
  refine w25 ?_
  unfold n25
  refine box_a m fun i0 h0 z0 p0 m => ?_
  by_cases hE : errM x = 0
  · have hm := (errM_ok hE).2.1
    ((with_reducible (refine mv_i ?_)); (refine ldwA ?_); (refine call_r (c12 ⟨_, by with_unfolding_all rfl, L.up (by assumption)⟩) ?_); (with_reducible (refine mv_i ?_; refine mv_i ?_; refine neq_h (by first | assumption | decide) ?_; refine cnd_f ?_; refine mv_i ?_; refine len_g (by assumption) ?_; refine gtr_i (fun hc => ?_) (fun hc => ?_); refine cnd_t ?_; refine mv_i ?_; refine ret1 ?_)); (rotate_left); (with_reducible (refine cnd_f ?_; refine mv_i ?_)); (rotate_left))
    · refine ⟨?_, Mem.pre (by assumption)⟩
      rw [listE, if_neg (by simpa using hE), if_pos (by omega)]
    · refine loop1 ls.length (fun k h2 => Prec h0 h2 ∧ Mem g h2 [⟨some i0, [.int .i64 x.states, .int .i64 x.inputs, .int .i64 x.outputs, .int .i64 x.start, tv], z0⟩] ∧ ∀ j (hj : j < k) (hl : j < ls.length), (mutE x ls[j]).2 = 0) ⟨⟨Stab.refl _⟩, m, fun j hj => by omega⟩ ?_
      rintro k h2 _ hk ⟨p2, m, hJ⟩
      ((with_reducible (refine mv_i ?_; refine mv_i ?_; refine len_g (by assumption) ?_; refine lss_i (fun hc => ?_) (fun hc => ?_); refine cnd_t ?_)); (refine ldwA ?_); (refine vb_mac (by assumption) ?_); (with_reducible (refine mv_i ?_; refine mv_i ?_)); (rotate_left); (with_reducible (refine cnd_f ?_; refine mv_i ?_; refine ret1 ?_)); (rotate_left))
      · have hkl : k < ls.length := by omega
        refine idx_l t rfl hkl fun p y1 hp s1 => ?_
        ((refine ldgA ?_); (with_reducible (refine vb_l (by assumption) ?_)))
        refine calld_r (c21 ⟨_, rfl, s.up⟩ s1.up hm) ?_
        unfold mk2
        ((with_reducible (refine new_n ?_; refine mv_i ?_; refine ex2_0 ?_; refine ex2_1 ?_; refine mv_i ?_; refine mv_i ?_; refine mv_i ?_; refine neq_i (fun hc => ?_) (fun hc => ?_); refine cnd_f ?_; refine mv_i ?_; refine inc_i (by omega) ?_; refine mv_i ?_)); (rotate_left); (with_reducible (refine cnd_t ?_; refine mv_i ?_; refine mv_i ?_; refine ret1 ?_)); (rotate_left))
        · refine next1 hkl ⟨⟨Stb.st⟩, m, fun j hj hl => ?_⟩
          by_cases e : j = k
          · subst e; assumption
          · exact hJ j (by omega) hl
        · refine ⟨?_, Mem.pre (by assumption)⟩
          rw [listE, if_neg (by simpa using hE), if_neg (by omega), allE_at hJ hkl (by assumption)]
      · refine ⟨?_, Mem.pre (by assumption)⟩
        rw [listE, if_neg (by simpa using hE), if_neg (by omega), allE_no fun j hl => hJ j (by omega) hl]
    all_goals (exfalso; contradiction)
  · ((with_reducible (refine mv_i ?_)); (refine ldwA ?_); (refine call_r (c12 ⟨_, by with_unfolding_all rfl, L.up (by assumption)⟩) ?_); (with_reducible (refine mv_i ?_; refine mv_i ?_; refine neq_n (by first | assumption | decide) ?_; refine cnd_t ?_; refine mv_i ?_; refine mv_i ?_; refine ret1 ?_)))
    all_goals first
      | (exfalso; contradiction)
      | (refine ⟨?_, Mem.pre (by assumption)⟩
         rw [listE, if_pos hE])
theorem allE_zero {x : Mach} : ∀ {ls : List (List Mut)}, allE x ls = 0 → ∀ l ∈ ls, (mutE x l).2 = 0
  | [], _ => by simp
  | l :: ls, h => by
    unfold allE at h
    split at h
    · contradiction
    · rename_i h1
      intro l' hl
      rcases List.mem_cons.mp hl with rfl | hl
      · simpa using h1
      · exact allE_zero h l' hl
theorem listE_ok {x : Mach} {ls : List (List Mut)} (h0 : listE x ls = 0) : errM x = 0 ∧ ls.length ≤ 40 ∧ ∀ l ∈ ls, (mutE x l).2 = 0 := by
  unfold listE at h0
  split at h0
  · contradiction
  · rename_i h1
    split at h0
    · cases h0
    · exact ⟨by simpa using h1, by omega, allE_zero h0⟩
open Classical in
theorem c26 {v : Value} {x : Mach} (s : MacV g v x) : Runs Tryz.prog 7 [v] g (.bool (decide (errM x ≠ 0 ∨ x.states ≤ 6 ∧ x.inputs ≤ 3))) g := by
  obtain ⟨tv, rfl, s⟩ := s
  have m := Mem.start g
  refine DetP.forget rfl ?_
  refine w26 ?_
  unfold n26
  ((with_reducible (refine box_a (by assumption) fun i h z p m => ?_; refine mv_i ?_)); (refine ldwA ?_); (refine call_r (c12 ⟨_, by with_unfolding_all rfl, L.up (by assumption)⟩) ?_); (with_reducible (refine neq_i (fun hc => ?_) (fun hc => ?_); refine mv_i ?_; refine gd_ff ?_; refine fao ?_; refine gd_ff ?_)); (refine ldoA ?_); (with_reducible (refine gd_ff ?_; refine leq_i (fun hc => ?_) (fun hc => ?_); refine gd_ff ?_; refine mv_i ?_; refine gd_tt ?_; refine fao ?_; refine gd_tt ?_)); (refine ldoA ?_); (with_reducible (refine gd_tt ?_; refine leq_i (fun hc => ?_) (fun hc => ?_); refine gd_ff ?_; refine pick_t ?_; refine pick_f ?_; refine mv_i ?_; refine ret1 ?_)); (rotate_left); (with_reducible (refine gd_ff ?_; refine pick_t ?_; refine pick_f ?_; refine mv_i ?_; refine ret1 ?_)); (rotate_left); (with_reducible (refine gd_ff ?_; refine mv_i ?_; refine gd_ft ?_; refine gd_ft ?_; refine gd_ft ?_; refine gd_ff ?_; refine pick_f ?_; refine pick_f ?_; refine mv_i ?_; refine ret1 ?_)); (rotate_left); (with_reducible (refine mv_i ?_; refine gd_tf ?_; refine gd_tf ?_; refine gd_tf ?_; refine gd_tf ?_; refine gd_u ?_; refine gd_u ?_; refine gd_u ?_; refine gd_tf ?_; refine pick_t ?_; refine mv_i ?_; refine ret1 ?_)); (rotate_left))
  all_goals exact ⟨by simp [*], Mem.pre (by assumption)⟩
/-! ### own copies of several mutants -/
theorem c28 {y : Value} {ls : List (List Mut)} (t : L g y ls) (hb : ls.length ≤ 1048576) (hl : ∀ l ∈ ls, l.length ≤ 1048576) : DetP Tryz.prog 11 [y] g fun v h' => g <+: h' ∧ ∃ b n q, v = .slice b n q ∧ n = ls.length ∧ L h' (.slice b n q) ls := by
  refine DetP.freeze ?_
  have m := Mem.start g
  refine w28 ?_
  unfold n28
  ((with_reducible (refine mv_i ?_; refine mv_i ?_; refine mv_i ?_)))
  refine loop2 ls.length (fun k a h => ∃ o cs, IsSl a o (ls.take k).length ∧ RdL h cs (ls.take k) ∧ Prec g h ∧ Mem g h [⟨o, cs, 1⟩]) ⟨none, [], IsSl.nil, RdL.nil _, ⟨Stab.refl _⟩, m.nil 1⟩ ?_
  rintro k a h2 _ hk ⟨o, cs, hs, hr, p2, m⟩
  ((with_reducible (refine mv_i ?_; refine mv_i ?_; refine len_g (by assumption) ?_; refine lss_i (fun hc => ?_) (fun hc => ?_); refine cnd_t ?_; refine mv_i ?_; refine mv_i ?_; refine mv_i ?_)); (rotate_left); (with_reducible (refine cnd_f ?_; refine mv_i ?_; refine mv_i ?_; refine ret1 ?_)); (rotate_left))
  · have hkl : k < ls.length := by omega
    refine idx_l t rfl hkl fun p y1 hp s1 => ?_
    ((refine ldgA ?_))
    refine call_d (c17 s1.up (hl _ (List.getElem_mem _))) m fun v2 h3 p3 p3' m ⟨b2, q2, n2, e2, hn2, s2⟩ => ?_
    subst e2
    ((refine bs_g (bs51_1 _ _ _ _) (by assumption) fun i h p m => ?_))
    have hrr : @Rep.rd (List Mut) _ h [.slice b2 n2 q2] ls[k] := ⟨_, rfl, s2.up⟩
    refine app_snocR (k2 := 0) (j := 0) (a := ls[k]) m hs (by infer_instance) hr.up ⟨rfl⟩ hrr rfl ⟨by rw [List.length_take]; omega, by rw [List.length_take]; omega⟩ fun i3 h4 p4 m hr => ?_
    simp only [List.set_cons_succ, List.set_cons_zero] at m
    ((with_reducible (refine mv_i ?_; refine mv_i ?_; refine inc_i (by omega) ?_; refine mv_i ?_)))
    have e : ls.take (k + 1) = ls.take k ++ [ls[k]] := by rw [List.take_add_one]; simp [hkl]
    refine next2 hkl ⟨some i3, cs ++ [.slice b2 n2 q2], ?_, by rw [e]; exact hr, ⟨Stb.st⟩, m.tail⟩
    rw [e, List.length_append]
    exact IsSl.some0
  · have e : ls.take k = ls := List.take_of_length_le (by omega)
    rw [e] at hs hr
    obtain ⟨b, q, rfl⟩ := hs.isS
    exact ⟨m.pre, b, _, q, rfl, rfl, IsSl.roR hs m (k := 0) rfl rfl hr (by omega)⟩
theorem c29 {x y : Value} {xs ys : List Int} (s : L g x xs) (t : L g y ys) : Runs Tryz.prog 14 [x, y] g (.bool (decide (xs = ys))) g := by
  have lt := s.lt
  have lt2 := t.lt
  refine DetP.runs (w29 ?_)
  unfold n29
  ((with_reducible (refine mv_i ?_; refine mv_i ?_; refine len_g (by assumption) ?_; refine mv_i ?_; refine len_g (by assumption) ?_; refine neq_i (fun hc => ?_) (fun hc => ?_); refine cnd_f ?_; refine mv_i ?_)); (rotate_left); (with_reducible (refine cnd_t ?_; refine mv_i ?_; refine ret1 ?_)); (rotate_left))
  · refine loop1 xs.length (fun k h2 => g = h2 ∧ ∀ j, j < k → gt xs j = gt ys j) ⟨rfl, fun j hj => by omega⟩ ?_
    rintro k _ _ hk ⟨rfl, hJ⟩
    ((with_reducible (refine mv_i ?_; refine mv_i ?_; refine len_g (by assumption) ?_; refine lss_i (fun hc => ?_) (fun hc => ?_); refine cnd_t ?_; refine mv_i ?_; refine mv_i ?_)); (refine idxA fun p hp => ?_); (refine ldgA ?_); (refine vbA ?_); (with_reducible (refine mv_i ?_; refine mv_i ?_)); (refine idxA fun p hp => ?_); (refine ldgA ?_); (refine vbA ?_); (with_reducible (refine neq_i (fun hc => ?_) (fun hc => ?_); refine cnd_f ?_; refine mv_i ?_; refine inc_i (by omega) ?_; refine mv_i ?_)); (rotate_left); (with_reducible (refine cnd_t ?_; refine mv_i ?_; refine ret1 ?_)); (rotate_left); (with_reducible (refine cnd_f ?_; refine mv_i ?_; refine ret1 ?_)); (rotate_left))
    · refine next1 (by omega) ⟨rfl, fun j hj => ?_⟩
      by_cases q : j = k
      · subst q; exact hc
      · exact hJ j (by omega)
    · refine ⟨?_, rfl⟩
      rw [decide_eq_false]
      rintro rfl; exact hc rfl
    · refine ⟨?_, rfl⟩
      rw [decide_eq_true]
      exact List.ext_getElem (by omega) fun j h1 h2 => by rw [gt_at h1, gt_at h2]; exact hJ j (by omega)
  · refine ⟨?_, rfl⟩
    rw [decide_eq_false]
    rintro rfl; exact hc rfl
end Go.Proofs.YtomiejfeclefaaaGreat

set_option linter.unusedVariables false
set_option maxRecDepth 100000
namespace Go.Proofs.YtomiejfeclefaaaGreat
open Go.AM

/-! ### examiner/examinerref37.WordErr: function 22 -/
def n36 (a0 a1 a2 : Value) (h : Heap) (R : Value → Heap → Prop) : Prop :=
  mvK (Value.int IntKind.i64 0) h fun v6 h =>
  mvK a0 h fun v8 h =>
  vK (aLen Tryz.prog 31 v8) h fun v9 h =>
  mvK a2 h fun v10 h =>
  vK (aBin Tryz.prog BinOp.gtr 3 v9 v10) h fun v11 h =>
  cnd v11 (
   mvK (Value.int IntKind.i64 2) h fun v6_1 h =>
   retV [some v6_1] R h) (
   mvK (Value.int IntKind.i64 0) h fun v7 h =>
   ∃ (I4 : List Value → Heap → Prop) (μ4 : List Value → Heap → Nat), I4 [v7] h ∧
   ∀ (h4 : Heap) (j4 : Tmps) (v7_1 : Value), I4 [v7_1] h4 → (let h := h4
    mvK v7_1 h fun v12 h =>
    mvK a0 h fun v13 h =>
    vK (aLen Tryz.prog 31 v13) h fun v14 h =>
    vK (aBin Tryz.prog BinOp.lss 3 v12 v14) h fun v15 h =>
    cnd v15 (
     mvK a0 h fun v18 h =>
     mvK v7_1 h fun v19 h =>
     vK (aIndexAddr Tryz.prog 31 v18 v19) h fun v20 h =>
     vK (aLoad Tryz.prog 3 v20 h) h fun v21 h =>
     mvK a1 h fun v22 h =>
     vK (aBin Tryz.prog BinOp.sub 3 v22 (Value.int IntKind.i64 1)) h fun v23 h =>
     cK Tryz.prog 64 [v21, (Value.int IntKind.i64 0), v23] h fun v24 h =>
     vK (aUn UnOp.not v24) h fun v25 h =>
     cnd v25 (
      mvK (Value.int IntKind.i64 3) h fun v6_2 h =>
      retV [some v6_2] R h) (
      mvK v7_1 h fun v16 h =>
      vK (aBin Tryz.prog BinOp.add 3 v16 (Value.int IntKind.i64 1)) h fun v17 h =>
      mvK v17 h fun v7_2 h =>
      I4 [v7_2] h ∧ μ4 [v7_2] h < μ4 [v7_1] h4)) (
     mvK (Value.int IntKind.i64 0) h fun v6_3 h =>
     retV [some v6_3] R h)))
def lv36 (q : Nat) : List Nat := bif Nat.beq q 8 then [67104960, 7] else []
theorem ok36 : lkOK Tryz.prog lv36 Tryz.f22 3 (Tryz.f22.body.getD .skip) 22 = true := by kernel_rfl
theorem e36 (a0 a1 a2 : Value) (h : Heap) (R : Value → Heap → Prop) : n36 a0 a1 a2 h R = wpK Tryz.prog lv36 (Tryz.f22.body.getD .skip) (endK Tryz.prog [.tmp 6] R) (argT [a0, a1, a2]) h := by kernel_rfl
theorem w36 {a0 a1 a2 : Value} {h : Heap} {R : Value → Heap → Prop} (hn : n36 a0 a1 a2 h R) : DetP Tryz.prog 22 [a0, a1, a2] h R :=
  DetP.of_code (rs := [.tmp 6]) (n := 3) Tryz.func22 (by kernel_rfl) (by kernel_rfl) lv36 ok36 rfl ((e36 a0 a1 a2 h R) ▸ hn)

/-! ### examiner/mutant.MutationsOf$1: function 49 -/
/-! ### examiner/examinerref40.Catches: function 75 -/
def n68 (a0 a1 a2 : Value) (h : Heap) (R : Value → Heap → Prop) : Prop :=
  okK (some (aBox Tryz.prog 24 a0 h)) fun v3 h =>
  okK (some (aBox Tryz.prog 24 a1 h)) fun v4 h =>
  mvK (Value.bool false) h fun v6 h =>
  vK (aLoad Tryz.prog 24 v3 h) h fun v12 h =>
  vK (aFieldAddr Tryz.prog 24 v3 3) h fun v13 h =>
  vK (aLoad Tryz.prog 3 v13 h) h fun v14 h =>
  mvK a2 h fun v15 h =>
  cK Tryz.prog 93 [v12, v14, v15] h fun v16 h =>
  mvK v16 h fun v11 h =>
  vK (aExtract v11 0) h fun v17 h =>
  vK (aExtract v11 1) h fun v18 h =>
  mvK v17 h fun v7 h =>
  mvK v18 h fun v8 h =>
  vK (aLoad Tryz.prog 24 v4 h) h fun v20 h =>
  vK (aFieldAddr Tryz.prog 24 v4 3) h fun v21 h =>
  vK (aLoad Tryz.prog 3 v21 h) h fun v22 h =>
  mvK a2 h fun v23 h =>
  cK Tryz.prog 93 [v20, v22, v23] h fun v24 h =>
  mvK v24 h fun v19 h =>
  vK (aExtract v19 0) h fun v25 h =>
  vK (aExtract v19 1) h fun v26 h =>
  mvK v25 h fun v9 h =>
  mvK v26 h fun v10 h =>
  mvK v7 h fun v27 h =>
  mvK v9 h fun v28 h =>
  cK Tryz.prog 14 [v27, v28] h fun v29 h =>
  vK (aUn UnOp.not v29) h fun v30 h =>
  mvK v30 h fun v6_1 h =>
  retV [some v6_1] R h
def lv68 (q : Nat) : List Nat := []
theorem ok68 : lkOK Tryz.prog lv68 Tryz.f75 3 (Tryz.f75.body.getD .skip) 75 = true := by kernel_rfl
theorem e68 (a0 a1 a2 : Value) (h : Heap) (R : Value → Heap → Prop) : n68 a0 a1 a2 h R = wpK Tryz.prog lv68 (Tryz.f75.body.getD .skip) (endK Tryz.prog [.tmp 6] R) (argT [a0, a1, a2]) h := by kernel_rfl
theorem w68 {a0 a1 a2 : Value} {h : Heap} {R : Value → Heap → Prop} (hn : n68 a0 a1 a2 h R) : DetP Tryz.prog 75 [a0, a1, a2] h R :=
  DetP.of_code (rs := [.tmp 6]) (n := 3) Tryz.func75 (by kernel_rfl) (by kernel_rfl) lv68 ok68 rfl ((e68 a0 a1 a2 h R) ▸ hn)

/-! ### examiner/examinerref37.Answer: function 93 -/
def n95 (a0 a1 a2 : Value) (h : Heap) (R : Value → Heap → Prop) : Prop :=
  okK (some (aBox Tryz.prog 24 a0 h)) fun v3 h =>
  mvK (Value.slice none 0 0) h fun v6 h =>
  mvK (Value.slice none 0 0) h fun v7 h =>
  mvK (Value.slice none 0 0) h fun v8 h =>
  mvK (Value.slice none 0 0) h fun v9 h =>
  vK (aLoad Tryz.prog 24 v3 h) h fun v12 h =>
  mvK a1 h fun v13 h =>
  mvK a2 h fun v14 h =>
  cK Tryz.prog 118 [v12, v13, v14] h fun v15 h =>
  mvK v15 h fun v10 h =>
  mvK (Value.int IntKind.i64 0) h fun v11 h =>
  ∃ (I4 : List Value → Heap → Prop) (μ4 : List Value → Heap → Nat), I4 [v8, v9, v11] h ∧
  ∀ (h4 : Heap) (j4 : Tmps) (v8_1 : Value) (v9_1 : Value) (v11_1 : Value), I4 [v8_1, v9_1, v11_1] h4 → (let h := h4
   mvK v11_1 h fun v16 h =>
   mvK v10 h fun v17 h =>
   vK (aLen Tryz.prog 31 v17) h fun v18 h =>
   vK (aBin Tryz.prog BinOp.lss 3 v16 v18) h fun v19 h =>
   cnd v19 (
    mvK v8_1 h fun v22 h =>
    vK (aFieldAddr Tryz.prog 24 v3 4) h fun v23 h =>
    vK (aLoad Tryz.prog 22 v23 h) h fun v24 g =>
    VB h.length v24 ∧ (let h := g
     mvK v10 h fun v25 h =>
     mvK v11_1 h fun v26 h =>
     vK (aIndexAddr Tryz.prog 31 v25 v26) h fun v27 h =>
     vK (aLoad Tryz.prog 3 v27 h) h fun v28 g =>
     VB h.length v28 ∧ (let h := g
      vK (aIndexAddr Tryz.prog 22 v24 v28) h fun v29 h =>
      vK (aFieldAddr Tryz.prog 87 v29 2) h fun v30 h =>
      vK (aLoad Tryz.prog 3 v30 h) h fun v31 g =>
      VB h.length v31 ∧ (let h := g
       okK (aBuildSlice Tryz.prog 31 1 [(0, v31)] h) fun v32 h =>
       okK (aAppend Tryz.prog 31 31 v22 v32 h) fun v33 h =>
       (True) ∧ (
        mvK v9_1 h fun v34 h =>
        vK (aFieldAddr Tryz.prog 24 v3 4) h fun v35 h =>
        vK (aLoad Tryz.prog 22 v35 h) h fun v36 g =>
        VB h.length v36 ∧ (let h := g
         mvK v10 h fun v37 h =>
         mvK v11_1 h fun v38 h =>
         vK (aIndexAddr Tryz.prog 31 v37 v38) h fun v39 h =>
         vK (aLoad Tryz.prog 3 v39 h) h fun v40 g =>
         VB h.length v40 ∧ (let h := g
          vK (aIndexAddr Tryz.prog 22 v36 v40) h fun v41 h =>
          vK (aFieldAddr Tryz.prog 87 v41 3) h fun v42 h =>
          vK (aLoad Tryz.prog 3 v42 h) h fun v43 g =>
          VB h.length v43 ∧ (let h := g
           okK (aBuildSlice Tryz.prog 31 1 [(0, v43)] h) fun v44 h =>
           okK (aAppend Tryz.prog 31 31 v34 v44 h) fun v45 h =>
           (True) ∧ (
            mvK v33 h fun v8_2 h =>
            mvK v45 h fun v9_2 h =>
            mvK v11_1 h fun v20 h =>
            vK (aBin Tryz.prog BinOp.add 3 v20 (Value.int IntKind.i64 1)) h fun v21 h =>
            mvK v21 h fun v11_2 h =>
            I4 [v8_2, v9_2, v11_2] h ∧ μ4 [v8_2, v9_2, v11_2] h < μ4 [v8_1, v9_1, v11_1] h4))))))))) (
    mvK v8_1 h fun v46 h =>
    mvK v9_1 h fun v47 h =>
    mvK v46 h fun v6_1 h =>
    mvK v47 h fun v7_1 h =>
    retV [some v6_1, some v7_1] R h))
def lv95 (q : Nat) : List Nat := bif Nat.beq q 8 then [70368744114944, 8, 9, 11] else []
theorem ok95 : lkOK Tryz.prog lv95 Tryz.f93 3 (Tryz.f93.body.getD .skip) 93 = true := by kernel_rfl
theorem e95 (a0 a1 a2 : Value) (h : Heap) (R : Value → Heap → Prop) : n95 a0 a1 a2 h R = wpK Tryz.prog lv95 (Tryz.f93.body.getD .skip) (endK Tryz.prog [.tmp 6, .tmp 7] R) (argT [a0, a1, a2]) h := by kernel_rfl
theorem w95 {a0 a1 a2 : Value} {h : Heap} {R : Value → Heap → Prop} (hn : n95 a0 a1 a2 h R) : DetP Tryz.prog 93 [a0, a1, a2] h R :=
  DetP.of_code (rs := [.tmp 6, .tmp 7]) (n := 3) Tryz.func93 (by kernel_rfl) (by kernel_rfl) lv95 ok95 rfl ((e95 a0 a1 a2 h R) ▸ hn)

/-! ### examiner/examinerref37.Taken: function 118 -/
def n122 (a0 a1 a2 : Value) (h : Heap) (R : Value → Heap → Prop) : Prop :=
  okK (some (aBox Tryz.prog 24 a0 h)) fun v3 h =>
  mvK (Value.slice none 0 0) h fun v6 h =>
  mvK (Value.slice none 0 0) h fun v7 h =>
  mvK (Value.int IntKind.i64 0) h fun v8 h =>
  ∃ (I3 : List Value → Heap → Prop) (μ3 : List Value → Heap → Nat), I3 [a1, v7, v8] h ∧
  ∀ (h3 : Heap) (j3 : Tmps) (v1 : Value) (v7_1 : Value) (v8_1 : Value), I3 [v1, v7_1, v8_1] h3 → (let h := h3
   mvK v8_1 h fun v10 h =>
   mvK a2 h fun v11 h =>
   vK (aLen Tryz.prog 31 v11) h fun v12 h =>
   vK (aBin Tryz.prog BinOp.lss 3 v10 v12) h fun v13 h =>
   cnd v13 (
    vK (aLoad Tryz.prog 24 v3 h) h fun v16 g =>
    VB h.length v16 ∧ (let h := g
     mvK v1 h fun v17 h =>
     mvK a2 h fun v18 h =>
     mvK v8_1 h fun v19 h =>
     vK (aIndexAddr Tryz.prog 31 v18 v19) h fun v20 h =>
     vK (aLoad Tryz.prog 3 v20 h) h fun v21 g =>
     VB h.length v21 ∧ (let h := g
      cKD Tryz.prog 87 [v16, v17, v21] h fun v22 g =>
      (∃ new, g = h ++ new) ∧ (let h := g
       mvK v22 h fun v9 h =>
       mvK v9 h fun v23 h =>
       vK (aBin Tryz.prog BinOp.eql 3 v23 (Value.int IntKind.i64 (-1))) h fun v24 h =>
       cnd v24 (
        mvK v7_1 h fun v25 h =>
        mvK v25 h fun v6_1 h =>
        retV [some v6_1] R h) (
        mvK v7_1 h fun v26 h =>
        mvK v9 h fun v27 h =>
        okK (aBuildSlice Tryz.prog 31 1 [(0, v27)] h) fun v28 h =>
        okK (aAppend Tryz.prog 31 31 v26 v28 h) fun v29 h =>
        mvK v29 h fun v7_2 h =>
        vK (aFieldAddr Tryz.prog 24 v3 4) h fun v30 h =>
        vK (aLoad Tryz.prog 22 v30 h) h fun v31 h =>
        mvK v9 h fun v32 h =>
        vK (aIndexAddr Tryz.prog 22 v31 v32) h fun v33 h =>
        vK (aFieldAddr Tryz.prog 87 v33 3) h fun v34 h =>
        vK (aLoad Tryz.prog 3 v34 h) h fun v35 h =>
        mvK v35 h fun v1_1 h =>
        mvK v8_1 h fun v14 h =>
        vK (aBin Tryz.prog BinOp.add 3 v14 (Value.int IntKind.i64 1)) h fun v15 h =>
        mvK v15 h fun v8_2 h =>
        I3 [v1_1, v7_2, v8_2] h ∧ μ3 [v1_1, v7_2, v8_2] h < μ3 [v1, v7_1, v8_1] h3))))) (
    mvK v7_1 h fun v36 h =>
    mvK v36 h fun v6_2 h =>
    retV [some v6_2] R h))
def lv122 (q : Nat) : List Nat := bif Nat.beq q 6 then [68719476674, 1, 7, 8] else []
theorem ok122 : lkOK Tryz.prog lv122 Tryz.f118 3 (Tryz.f118.body.getD .skip) 118 = true := by kernel_rfl
theorem e122 (a0 a1 a2 : Value) (h : Heap) (R : Value → Heap → Prop) : n122 a0 a1 a2 h R = wpK Tryz.prog lv122 (Tryz.f118.body.getD .skip) (endK Tryz.prog [.tmp 6] R) (argT [a0, a1, a2]) h := by kernel_rfl
theorem w122 {a0 a1 a2 : Value} {h : Heap} {R : Value → Heap → Prop} (hn : n122 a0 a1 a2 h R) : DetP Tryz.prog 118 [a0, a1, a2] h R :=
  DetP.of_code (rs := [.tmp 6]) (n := 3) Tryz.func118 (by kernel_rfl) (by kernel_rfl) lv122 ok122 rfl ((e122 a0 a1 a2 h R) ▸ hn)

end Go.Proofs.YtomiejfeclefaaaGreat

set_option linter.unusedSimpArgs false
set_option linter.unusedVariables false
set_option linter.unnecessarySimpa false
set_option maxRecDepth 100000
set_option maxHeartbeats 4000000
namespace Go.Proofs.YtomiejfeclefaaaGreat
open Go.AM
variable {h g : Heap}
/-! ### reading a table -/
def rowOf (x : Mach) (z : Int) : List (Bx Stp) := (List.range x.inputs.toNat).map fun (i : Nat) => ⟨stO x z (i : Int)⟩
theorem nat_code {z n w : Int} (h0 : 0 ≤ z) (hn : 0 ≤ n) (hw : 0 ≤ w) : (z * n + w).toNat = z.toNat * n.toNat + w.toNat := by
  have e1 : (z.toNat : Int) = z := Int.toNat_of_nonneg h0
  have e2 : (n.toNat : Int) = n := Int.toNat_of_nonneg hn
  have e3 : (w.toNat : Int) = w := Int.toNat_of_nonneg hw
  have : ((z.toNat * n.toNat + w.toNat : Nat) : Int) = z * n + w := by push_cast; rw [e1, e2, e3]
  omega
theorem tab_at {x : Mach} {z : Int} (h0 : 0 ≤ z) (hz : z.toNat < (tab x).length) (hn : 0 ≤ x.inputs) (hl : z ≤ x.states - 1) : (tab x)[z.toNat] = rowOf x z := by
  have h1 : (tab x)[z.toNat]? = some (rowOf x z) := by
    unfold tab
    rw [List.getElem?_map, List.getElem?_range (by omega)]
    simp only [Option.map_some, Option.some.injEq]
    unfold rowOf
    refine List.map_congr_left fun i hi => ?_
    unfold stO
    rw [nat_code h0 hn (by omega)]; simp
  rw [List.getElem?_eq_getElem hz] at h1
  exact Option.some.inj h1
theorem idx_tab {K : Value → Heap → Prop} {h1 : Heap} {v : Value} {x : Mach} {t e sz by_ : Nat} {z : Int} [T : SlT Tryz.prog t e sz by_] (s : L h1 v (tab x)) (hz : sz = 1) (h0 : 0 ≤ z) (hk : z ≤ x.states - 1) (hn : 0 ≤ x.inputs)
    (hK : ∀ p v, Pt h1 p [v] 0 → L h1 v (rowOf x z) → K p h) : vK (aIndexAddr Tryz.prog t v (.int .i64 z)) h K := by
  have hl : z.toNat < (tab x).length := by unfold tab; rw [List.length_map, List.length_range]; omega
  refine idx_lz s hz h0 hl fun p v hp hl2 => ?_
  rw [tab_at h0 hl hn hk] at hl2
  exact hK p v hp hl2
theorem idx_row {K : Value → Heap → Prop} {h1 : Heap} {v : Value} {x : Mach} {t e sz by_ : Nat} {z w : Int} [T : SlT Tryz.prog t e sz by_] (s : L h1 v (rowOf x z)) (hz : sz = 1) (h0 : 0 ≤ w) (hk : w ≤ x.inputs - 1)
    (hK : ∀ p v, Pt h1 p [v] 0 → Pt h1 v (Flat.cells (stO x z w)) 0 → K p h) : vK (aIndexAddr Tryz.prog t v (.int .i64 w)) h K := by
  have hl : w.toNat < (rowOf x z).length := by unfold rowOf; rw [List.length_map, List.length_range]; omega
  refine idx_b s hz h0 hl fun p v hp hl2 => ?_
  have : ((rowOf x z)[w.toNat]).get = stO x z w := by
    have h1 : (rowOf x z)[w.toNat]? = some ⟨stO x z w⟩ := by
      unfold rowOf
      rw [List.getElem?_map, List.getElem?_range (by omega)]
      simp only [Option.map_some, Option.some.injEq]
      rw [Int.toNat_of_nonneg h0]
    rw [List.getElem?_eq_getElem hl] at h1
    rw [Option.some.inj h1]
  rw [this] at hl2
  exact hK p v hp hl2
theorem ptr135 : ptrB Tryz.prog 111 = true := by kernel_rfl
/-! ### more of the search -/
theorem gt_pre {α : Type} [Df α] {p q : List α} (hp : p <+: q) {k : Nat} (hk : k < p.length) : gt q k = gt p k := by
  obtain ⟨t, rfl⟩ := hp
  unfold gt
  simp [List.getD, List.getElem?_append_left hk]
theorem bst_wl {x y : Mach} {i n m : Nat} {s : BS} (hs : ∀ w ∈ s.ws, w.length ≤ m) (hi : (s.ws.getD i []).length + 1 ≤ m) : ∀ w ∈ (bst x y i n s).ws, w.length ≤ m := by
  unfold bst
  split
  · exact hs
  · split
    · exact hs
    · split
      · exact hs
      · intro w hw
        rcases List.mem_append.mp hw with hw | hw
        · exact hs w hw
        · rw [List.mem_singleton] at hw; subst hw
          simpa [wrd] using hi
theorem brow_wl {x y : Mach} {i m : Nat} {s : BS} (hs : ∀ w ∈ s.ws, w.length ≤ m) (hi : i < s.ws.length) : ∀ n, ∀ w ∈ (brow x y i s n).ws, w.length ≤ m + 1
  | 0 => fun w hw => by have := hs w hw; omega
  | n + 1 => by
    refine bst_wl (brow_wl hs hi n) ?_
    obtain ⟨t, ht⟩ := (brow_grow (x := x) (y := y) (i := i) (s := s) n).2
    rw [← ht]
    have : (s.ws ++ t).getD i [] = s.ws.getD i [] := by simp [List.getD, List.getElem?_append_left hi]
    rw [this]
    have := hs _ (gd_mem [] hi)
    omega
theorem bfs_wl {x y : Mach} {p0 : Pr} (P : Par x y) (h0 : inP x p0) : ∀ k, ∀ w ∈ (bfs x y p0 k).ws, w.length ≤ k
  | 0 => by intro w hw; simp [bfs] at hw; subst hw; simp
  | k + 1 => by
    unfold bfs
    split
    · rename_i h
      exact brow_wl (bfs_wl P h0 k) (by rw [(BI.all P h0 k).len]; exact h) _
    · intro w hw; have := bfs_wl P h0 k w hw; omega
/-- What Difference gives. -/
def difE (x y : Mach) (p0 : Pr) : Int := if (srch x y p0).fnd = none then 23 else 0
def difW (x y : Mach) (p0 : Pr) : List Int := (srch x y p0).fnd.getD []
theorem c64 {v w : Value} {x y : Mach} (s : MacV g v x) (t : MacV g w y) (P : Par x y) (h0 : inP x ⟨x.start, y.start⟩) :
    DetP Tryz.prog 30 [v, w] g fun v' h' => g <+: h' ∧ ∃ b n q, v' = .tuple #[.slice b n q, .int .i64 (difE x y ⟨x.start, y.start⟩)] ∧ L h' (.slice b n q) (difW x y ⟨x.start, y.start⟩) := by
  refine DetP.freeze ?_
  obtain ⟨tv, rfl, s⟩ := s
  obtain ⟨uv, rfl, t⟩ := t
  obtain ⟨b0, q0, rfl, _⟩ := s.shape
  obtain ⟨b1, q1, rfl, _⟩ := t.shape
  obtain ⟨⟨a1, a2⟩, ⟨a3, a4⟩, _⟩ := (chk_ok P.cx).1
  have hip : x.inputs = y.inputs := P.ip.symm
  have hst : y.states = x.states := P.st
  have m := Mem.start g
  refine w64 ?_
  unfold n64
  refine box_a m fun ix h1 zx p1 m => ?_
  refine box_a m fun iy h2 zy p2 m => ?_
  ((with_reducible (refine mv_i ?_; refine mv_i ?_)); (refine ldwA ?_); (refine vb_mac (by assumption) ?_))
  have C := fun {h : Heap} {v : Value} (s : MacV h v x) => c90 (g := h) s
  have D := fun {h : Heap} {v : Value} (s : MacV h v y) => c90 (g := h) s
  rw [P.cx] at C
  rw [P.cy] at D
  refine calld_r (C ⟨_, rfl, s.up⟩) ?_
  ((with_reducible (refine new_n ?_)); (refine ldwA ?_); (refine vb_mac (by assumption) ?_))
  refine calld_r (D ⟨_, rfl, t.up⟩) ?_
  ((with_reducible (refine new_n ?_; refine fao ?_)); (refine ldoA ?_); (refine vbA ?_); (with_reducible (refine fao ?_)); (refine ldoA ?_); (refine vbA ?_); (with_reducible (refine eql_h (by first | assumption | decide) ?_)); (refine calld_r (c91 _ _) ?_); (with_reducible (refine new_n ?_)); (refine bs_g (bs141_3 _ _ _ _) (by assumption) fun i h p m => ?_); (refine calld_r (c76 (own_ints (xs := [_, _, _]) (by assumption) (q := by infer_instance) rfl rfl (by decide))) ?_); (with_reducible (refine new_n ?_; refine mv_i ?_; refine mv_i ?_; refine neq_h (by first | assumption | decide) ?_; refine cnd_f ?_)); (refine ldwA ?_); (refine vb_mac (by assumption) ?_))
  refine calld_d (c92 ⟨_, rfl, s.up⟩ P.cx P.lx) m fun v3 h3 p3 p3' m ⟨b3, q3, n3, e3, hn3, s3⟩ => ?_
  subst e3
  refine new_p p3 ?_
  ((refine ldwA ?_); (refine vb_mac (by assumption) ?_))
  refine calld_d (c92 ⟨_, rfl, t.up⟩ P.cy P.ly) m fun v4 h4 p4 p4' m ⟨b4, q4, n4, e4, hn4, s4⟩ => ?_
  subst e4
  refine new_p p4 ?_
  ((with_reducible (refine mv_i ?_; refine mv_i ?_; refine fao ?_)); (refine ldoA ?_); (with_reducible (refine fao ?_)); (refine ldoA ?_); (refine vk_i (bd77_01 _ _) ?_); (refine bs_g (bs36_1 _ _) (by assumption) fun i h p m => ?_); (refine bs_g (bs51_1 _ _ _ _) (by assumption) fun i h p m => ?_); (with_reducible (refine mv_i ?_; refine mv_i ?_; refine mv_i ?_)))
  obtain ⟨hx, rfl⟩ : ∃ q, q = h := ⟨h, rfl⟩
  rename_i o1
  refine loop3 1600 (fun k a b h => (bfs x y ⟨x.start, y.start⟩ k).fnd = none ∧ ∃ o1 o2 vs W, IsSl a (some o1) (bfs x y ⟨x.start, y.start⟩ k).ps.length ∧ IsSl b (some o2) (bfs x y ⟨x.start, y.start⟩ k).ps.length ∧ LL vs W (bfs x y ⟨x.start, y.start⟩ k).ws ∧ Prec hx h ∧
    Mem g h (⟨some o1, flat (bfs x y ⟨x.start, y.start⟩ k).ps, 2⟩ :: ⟨some o2, vs, 1⟩ :: ⟨some iy, [.int .i64 y.states, .int .i64 y.inputs, .int .i64 y.outputs, .int .i64 y.start, .slice b1 y.steps.length q1], zy⟩ :: ⟨some ix, [.int .i64 x.states, .int .i64 x.inputs, .int .i64 x.outputs, .int .i64 x.start, .slice b0 x.steps.length q0], zx⟩ :: rowsW W (bfs x y ⟨x.start, y.start⟩ k).ws)) ⟨rfl, ?_⟩ ?_
  · refine ⟨_, _, [.slice none 0 0], [none], IsSl.some1, IsSl.some1, ⟨rfl, rfl, fun j hj => ?_⟩, ⟨Stab.refl _⟩, ?_⟩
    · have : j = 0 := by simp [bfs] at hj; exact hj
      subst this; exact IsSl.nil
    · have m := m.sub (.cons_cons _ (.cons_cons _ (.cons _ (List.Sublist.refl _))))
      have m2 := (m.nil 1).perm (List.perm_append_singleton (⟨none, [], 1⟩ : E) [_, _, _, _]).symm
      exact m2.perm (List.Perm.swap _ _ _)
  rintro k a b h5 _ hk ⟨hf, o1, o2, vs, W, hs1, hs2, hll, p5, m⟩
  have B0 := BI.all P h0 k
  have W0 := bfs_wl P h0 k
  have hend := @srch_end x y ⟨x.start, y.start⟩ k hk
  have hfnd := fun (n : Nat) => @srch_fnd x y ⟨x.start, y.start⟩ k n
  have hnext := @bfs_next x y ⟨x.start, y.start⟩ k
  generalize hS : bfs x y ⟨x.start, y.start⟩ k = S at *
  have lw := B0.len
  have few := B0.few a2
  ((with_reducible (refine mv_i ?_; refine mv_i ?_; refine len_o (by assumption) ?_; refine lss_i (fun hc => ?_) (fun hc => ?_); refine cnd_t ?_; refine mv_i ?_; refine mv_i ?_)); (refine idx_o (by assumption) (by omega) ?_); (refine ldw_d (by assumption) (by infer_instance) (by with_unfolding_all rfl) (by omega) ?_); (with_reducible (refine alloc_z (by assumption) fun i h z p m => ?_)); (refine st_w (by assumption) (by infer_instance) (by with_unfolding_all rfl) (by with_unfolding_all rfl) (by first | rfl | exact flat_ones (Flat.flat _)) (by infer_instance) fun h p m => ?_); (with_reducible (refine fao ?_)); (refine ldoA ?_); (with_reducible (refine mv_i ?_)); (rotate_left); (with_reducible (refine cnd_f ?_; refine mv_i ?_; refine mv_i ?_; refine ret2 ?_)); (rotate_left))
  · have hkl : k < S.ps.length := by omega
    obtain ⟨⟨r1, r2⟩, r3, r4⟩ := B0.inp _ (gd_mem Df.d hkl)
    change 0 ≤ (gt S.ps k).a at r1
    change (gt S.ps k).a ≤ x.states - 1 at r2
    change 0 ≤ (gt S.ps k).b at r3
    change (gt S.ps k).b ≤ x.states - 1 at r4
    obtain ⟨ip, rfl⟩ : ∃ q, q = i := ⟨i, rfl⟩
    obtain ⟨zp, rfl⟩ : ∃ q, q = z := ⟨z, rfl⟩
    refine loop3 x.inputs.toNat (fun n a b h => (brow x y k S n).fnd = none ∧ ∃ o1 o2 vs W, IsSl a (some o1) (brow x y k S n).ps.length ∧ IsSl b (some o2) (brow x y k S n).ps.length ∧ LL vs W (brow x y k S n).ws ∧ Prec hx h ∧ Mem g h (⟨some o1, flat (brow x y k S n).ps, 2⟩ :: ⟨some o2, vs, 1⟩ :: ⟨some ip, Flat.cells (gt S.ps k), zp⟩ :: ⟨some iy, [.int .i64 y.states, .int .i64 y.inputs, .int .i64 y.outputs, .int .i64 y.start, .slice b1 y.steps.length q1], zy⟩ :: ⟨some ix, [.int .i64 x.states, .int .i64 x.inputs, .int .i64 x.outputs, .int .i64 x.start, .slice b0 x.steps.length q0], zx⟩ :: rowsW W (brow x y k S n).ws)) ⟨hf, o1, o2, vs, W, hs1, hs2, hll, ⟨Stb.st⟩, m.perm ((List.Perm.swap _ _ _).trans (List.Perm.cons _ (List.Perm.swap _ _ _)))⟩ ?_
    rintro n a b h6 _ hn ⟨hf2, o1, o2, vs, W, hs1, hs2, hll, p6, m⟩
    have B1 := B0.row P hkl n hn
    have W1 := brow_wl (x := x) (y := y) (i := k) W0 (by omega) n
    have hgp := gt_pre (brow_grow (x := x) (y := y) (i := k) (s := S) n).1 hkl
    have hlen2 := (brow_grow (x := x) (y := y) (i := k) (s := S) n).1.length_le
    have hfnd2 := hfnd n
    generalize hQ : brow x y k S n = Q at *
    have lw2 := B1.len
    have few2 := B1.few a2
    have hwl := W1 _ (gd_mem [] (show k < Q.ws.length by omega))
    ((with_reducible (refine lss_i (fun hc => ?_) (fun hc => ?_); refine cnd_t ?_)); (rotate_left); (with_reducible (refine cnd_f ?_; refine mv_i ?_; refine inc_i (by omega) ?_; refine mv_i ?_)); (rotate_left))
    · refine seq_J (fun xs h => ∃ a b, xs = [a, b] ∧ (bst x y k n Q).fnd = none ∧ ∃ o1 o2 vs W, IsSl a (some o1) (bst x y k n Q).ps.length ∧ IsSl b (some o2) (bst x y k n Q).ps.length ∧ LL vs W (bst x y k n Q).ws ∧ Prec hx h ∧ Mem g h (⟨some o1, flat (bst x y k n Q).ps, 2⟩ :: ⟨some o2, vs, 1⟩ :: ⟨some ip, Flat.cells (gt S.ps k), zp⟩ :: ⟨some iy, [.int .i64 y.states, .int .i64 y.inputs, .int .i64 y.outputs, .int .i64 y.start, .slice b1 y.steps.length q1], zy⟩ :: ⟨some ix, [.int .i64 x.states, .int .i64 x.inputs, .int .i64 x.outputs, .int .i64 x.start, .slice b0 x.steps.length q0], zx⟩ :: rowsW W (bst x y k n Q).ws)) ?_ ?_
      · rintro _ h7 ⟨a3, b3, rfl, hf3, rest⟩
        (((with_reducible refine fun (_ : Tmps) => ?_); (try dsimp only [nth])); (with_reducible (refine inc_i (by omega) ?_; refine mv_i ?_)))
        refine next3 (by omega) ⟨?_, ?_⟩
        · show (bst x y k n (brow x y k S n)).fnd = none
          rw [hQ]; exact hf3
        · show ∃ o1 o2 vs W, IsSl a3 (some o1) (bst x y k n (brow x y k S n)).ps.length ∧ IsSl b3 (some o2) (bst x y k n (brow x y k S n)).ps.length ∧ LL vs W (bst x y k n (brow x y k S n)).ws ∧ Prec hx h7 ∧ Mem g h7 (⟨some o1, flat (bst x y k n (brow x y k S n)).ps, 2⟩ :: ⟨some o2, vs, 1⟩ :: ⟨some ip, Flat.cells (gt S.ps k), zp⟩ :: ⟨some iy, [.int .i64 y.states, .int .i64 y.inputs, .int .i64 y.outputs, .int .i64 y.start, .slice b1 y.steps.length q1], zy⟩ :: ⟨some ix, [.int .i64 x.states, .int .i64 x.inputs, .int .i64 x.outputs, .int .i64 x.start, .slice b0 x.steps.length q0], zx⟩ :: rowsW W (bst x y k n (brow x y k S n)).ws)
          rw [hQ]; exact rest
      · intro k' hk'
        obtain ⟨vk, hvk, hvs⟩ := hll.at (j := k) (by omega)
        ((with_reducible (refine mv_i ?_; refine mv_i ?_; refine mv_i ?_; refine mv_i ?_)); (refine idx_o (by assumption) (by omega) ?_))
        refine ldo m (k := 1) (q := ⟨rfl⟩) (by rw [Nat.mul_one]; exact hvk) ?_
        skip
        refine call_d (c69 m (o := W.getD k none) (k := k + 5) ⟨by show (rowsW W Q.ws)[k]? = _; exact rowsW_get hll (by omega)⟩ hvs (by omega)) m fun v7 h7 p7 p7' _ ⟨o', hv, hnn⟩ => ?_
        have m := hnn _ _ m
        ((with_reducible (refine mv_i ?_)); (refine bs_g (bs53_1 _ _) (by assumption) fun i h p m => ?_))
        refine app_snoc (a := (n : Int)) (k2 := 0) (j := 0) m hv (by infer_instance) ⟨rfl⟩ rfl ⟨by omega, by omega⟩ fun i2 h8 p8 m => ?_
        simp only [List.set_cons_succ, List.set_cons_zero] at m
        ((with_reducible (refine mv_i ?_; refine mv_i ?_)); (refine ia_o (by omega) (by omega) ?_); (refine ldoA ?_); (refine vbA ?_); (refine idx_tab (by assumption) (by with_unfolding_all rfl) (by omega) (by omega) (by omega) fun p w hp hr => ?_); (refine ldgA ?_); (with_reducible (refine vb_l (by assumption) ?_; refine mv_i ?_)); (refine idx_row (by assumption) (by with_unfolding_all rfl) (by omega) (by omega) fun p w hp hq => ?_); (refine ldgA ?_); (with_reducible (refine vb_pt (by assumption) ?_; refine mv_i ?_)); (refine ia_o (by omega) (by omega) ?_); (refine ldoA ?_); (refine vbA ?_); (refine idx_tab (by assumption) (by with_unfolding_all rfl) (by omega) (by omega) (by omega) fun p w hp hr => ?_); (refine ldgA ?_); (with_reducible (refine vb_l (by assumption) ?_; refine mv_i ?_)); (refine idx_row (by assumption) (by with_unfolding_all rfl) (by omega) (by omega) fun p w hp hq => ?_); (refine ldgA ?_); (with_reducible (refine vb_pt (by assumption) ?_; refine mv_i ?_; refine mv_i ?_; refine mv_i ?_; refine pnil_g ptr135 (by assumption) ?_; refine mv_i ?_; refine gd_ft ?_; refine gd_ft ?_; refine pick_f ?_; refine cnd_f ?_; refine mv_i ?_; refine pnil_g ptr135 (by assumption) ?_; refine mv_i ?_; refine gd_ff ?_; refine mv_i ?_; refine gd_ff ?_; refine pnil_g ptr135 (by assumption) ?_; refine pick_f ?_; refine mv_i ?_; refine gd_ff ?_; refine mv_i ?_; refine gd_ff ?_; refine pnn_g (by assumption) ?_; refine gd_ff ?_; refine fa_g (by assumption) fun p hp => ?_; refine gd_ff ?_)); (refine ldgA ?_); (refine vbA ?_); (with_reducible (refine gd_ff ?_; refine mv_i ?_; refine gd_ff ?_; refine pnn_g (by assumption) ?_; refine gd_ff ?_; refine fa_g (by assumption) fun p hp => ?_; refine gd_ff ?_)); (refine ldgA ?_); (refine vbA ?_); (with_reducible (refine gd_ff ?_; refine neq_i (fun hc => ?_) (fun hc => ?_); refine pick_f ?_; refine cnd_f ?_; refine mv_i ?_; refine pnn_g (by assumption) ?_; refine fa_g (by assumption) fun p hp => ?_)); (refine ldgA ?_); (refine vbA ?_); (with_reducible (refine mv_i ?_; refine pnn_g (by assumption) ?_; refine fa_g (by assumption) fun p hp => ?_)); (refine ldgA ?_); (refine vbA ?_); (refine vk_i (bd77_01 _ _) ?_); (with_reducible (refine alloc_z (by assumption) fun i h z p m => ?_)); (refine st_w (by assumption) (by infer_instance) (by with_unfolding_all rfl) (by with_unfolding_all rfl) (by first | rfl | exact flat_ones (Flat.flat _)) (by infer_instance) fun h p m => ?_); (with_reducible (refine ⟨trivial, ?_⟩; refine mv_i ?_)); (refine ldwA ?_); (rotate_left); (with_reducible (refine pick_f ?_; refine cnd_t ?_; refine mv_i ?_; refine mv_i ?_; refine mv_i ?_; refine ret2 ?_)); (rotate_left))
        · refine call_r (Runs.lent (c51 (hs1.lent m (by infer_instance) (by omega)) _)) ?_
          have hd : same x y (gt Q.ps k) n := by rw [hgp]; exact hc
          have ht : tgt x y (gt Q.ps k) n = ⟨(stO x (gt S.ps k).a n).to, (stO y (gt S.ps k).b n).to⟩ := by rw [hgp]; rfl
          have hwd : (wrd Q k n).length = (Q.ws.getD k []).length + 1 := by simp [wrd]
          ((with_reducible (refine not_d (fun hb => ?_) (fun hb => ?_); refine cnd_f ?_)); (rotate_left); (with_reducible (refine cnd_t ?_; refine mv_i ?_)); (refine ldwA ?_); (refine bs_g (bs36_1 _ _) (by assumption) fun i h p m => ?_); (rotate_left))
          · have e := bst_met hf2 hd (by rw [ht]; exact hb)
            refine hk' _ _ ⟨a, b, rfl, by rw [e]; exact hf2, ?_⟩
            rw [e]
            exact ⟨o1, o2, vs, W, hs1, hs2, hll, ⟨Stb.st⟩, m.tail.tail.tail⟩
          · have e := bst_new hf2 hd (by rw [ht]; exact hb)
            refine app_snoc (a := (⟨(stO x (gt S.ps k).a n).to, (stO y (gt S.ps k).b n).to⟩ : Pr)) (k2 := 0) (j := 0) m hs1 (by infer_instance) ⟨rfl⟩ rfl ⟨by omega, by omega⟩ fun i3 h9 p9 m => ?_
            simp only [List.set_cons_succ, List.set_cons_zero] at m
            ((with_reducible (refine mv_i ?_; refine mv_i ?_)); (refine bs_g (bs51_1 _ _ _ _) (by assumption) fun i h p m => ?_))
            refine app_o m hs2 (by infer_instance) (by rw [Nat.mul_one, ← lw2]; exact hll.1) (src_own m (q := (⟨rfl⟩ : Ent _ _ 0 _ _)) (n := 1) rfl (by decide) (by decide) rfl) ⟨by omega, by omega⟩ fun i4 h10 p10 m => ?_
            simp only [List.set_cons_succ, List.set_cons_zero] at m
            ((with_reducible (refine mv_i ?_; refine mv_i ?_)))
            refine hk' _ _ ⟨_, _, rfl, by rw [e], ?_⟩
            rw [e, ht]
            refine ⟨i3, i4, _, W ++ [some i2], by rw [List.length_append]; exact IsSl.some0, by rw [List.length_append]; exact IsSl.some0, hll.add (by rw [hwd]; exact IsSl.some0), ⟨Stb.st⟩, ?_⟩
            rw [rowsW_add hll]
            exact m.tail.tail.tail.tail.perm (List.perm_append_singleton _ (_ :: _ :: _ :: _ :: _ :: rowsW W Q.ws)).symm
        · have e := hfnd2 hkl hk (by omega) hf2 (by rw [hgp]; exact hc)
          have hwd : (wrd Q k n).length = (Q.ws.getD k []).length + 1 := by simp [wrd]
          refine ⟨m.pre, some ⟨i2, 0, none⟩, (Q.ws.getD k []).length + 1, 0, ?_, ?_⟩
          · rw [difE, e, if_neg (by simp)]
          · rw [difW, e]
            exact IsSl.ro (o := some i2) (xs := wrd Q k n) (by rw [hwd]; exact IsSl.some0) m (k := 1) rfl (by omega)
    · have e : bfs x y ⟨x.start, y.start⟩ (k + 1) = Q := by
        rw [hnext hkl, ← hQ]
        congr 1; omega
      refine next3 (by omega) ⟨?_, ?_⟩
      · show (bfs x y ⟨x.start, y.start⟩ (k + 1)).fnd = none
        rw [e]; exact hf2
      · show ∃ o1 o2 vs W, IsSl a (some o1) (bfs x y ⟨x.start, y.start⟩ (k + 1)).ps.length ∧ IsSl b (some o2) (bfs x y ⟨x.start, y.start⟩ (k + 1)).ps.length ∧ LL vs W (bfs x y ⟨x.start, y.start⟩ (k + 1)).ws ∧ Prec hx _ ∧ Mem g _ (⟨some o1, flat (bfs x y ⟨x.start, y.start⟩ (k + 1)).ps, 2⟩ :: ⟨some o2, vs, 1⟩ :: ⟨some iy, [.int .i64 y.states, .int .i64 y.inputs, .int .i64 y.outputs, .int .i64 y.start, .slice b1 y.steps.length q1], zy⟩ :: ⟨some ix, [.int .i64 x.states, .int .i64 x.inputs, .int .i64 x.outputs, .int .i64 x.start, .slice b0 x.steps.length q0], zx⟩ :: rowsW W (bfs x y ⟨x.start, y.start⟩ (k + 1)).ws)
        rw [e]
        exact ⟨o1, o2, vs, W, hs1, hs2, hll, ⟨Stb.st⟩, m.sub (.cons_cons _ (.cons_cons _ (.cons _ (List.Sublist.refl _))))⟩
  · have e := hend (by omega)
    refine ⟨m.pre, none, 0, 0, ?_, ?_⟩
    · rw [difE, e, if_pos hf]
    · rw [difW, e, hf]; exact L.nil _
end Go.Proofs.YtomiejfeclefaaaGreat

set_option linter.unusedSimpArgs false
set_option linter.unusedVariables false
set_option linter.unnecessarySimpa false
set_option maxRecDepth 100000
set_option maxHeartbeats 4000000
namespace Go.Proofs.YtomiejfeclefaaaGreat
open Go.AM
variable {h g : Heap}
/-! ### the reference's search -/
theorem at_code {x : Mach} (h0 : (chkM x).2 = 0) (hl : (x.steps.length : Int) = x.states * x.inputs) {s i : Int} (hs : 0 ≤ s ∧ s ≤ x.states - 1) (hi : 0 ≤ i ∧ i ≤ x.inputs - 1) : idxOf (atS s i) x.steps = s * x.inputs + i := by
  obtain ⟨e1, e2, e3, e4⟩ := full_at h0 hl hs hi
  have := idxOf_at (p := atS s i) (l := x.steps) (k := (s * x.inputs + i).toNat) (fun j hj => ?_) e2 (by simp [atS, e3, e4])
  · rw [this]; omega
  · have hc := full_code h0 hl (show j < x.steps.length by omega)
    unfold code at hc
    refine decide_eq_false ?_
    rintro ⟨q1, q2⟩
    rw [q1, q2] at hc
    omega
theorem ll_ones {α : Type} {vs : List Value} {W : List (Option Nat)} {ls : List (List α)} (s : LL vs W ls) : ∀ v ∈ vs, v.oneCell' = true := by
  intro v hv
  obtain ⟨j, hj, rfl⟩ := List.mem_iff_getElem.mp hv
  have := s.2.2 j (by rw [← s.1]; exact hj)
  simp only [List.getD, List.getElem?_eq_getElem hj, Option.getD_some] at this
  exact this.one
theorem pw3_len : ∀ {ps : List Pr} {vs : List Value}, vs.length = ps.length → (pw3 ps vs).length = ps.length * 3
  | [], [], _ => rfl
  | _ :: _, [], h => by simp at h
  | [], _ :: _, h => by simp at h
  | p :: ps, v :: vs, h => by
    have := pw3_len (ps := ps) (vs := vs) (by simpa using h)
    simp [pw3, this]; omega
theorem c67 {v w : Value} {x y : Mach} (s : MacV g v x) (t : MacV g w y) (P : Par x y) (p0 : Pr) (h0 : inP x p0) :
    DetP Tryz.prog 76 [v, w, .agg #[.int .i64 p0.a, .int .i64 p0.b, .slice none 0 0]] g fun v' h' => g <+: h' ∧ ∃ b1 n1 q1 b2 n2 q2, v' = .tuple #[.slice b1 n1 q1, .bool (srch x y p0).fnd.isSome, .slice b2 n2 q2] ∧ L h' (.slice b1 n1 q1) (difW x y p0) ∧ L h' (.slice b2 n2 q2) ((srch x y p0).ps.map PrX.mk) := by
  refine DetP.freeze ?_
  obtain ⟨tv, rfl, s⟩ := s
  obtain ⟨uv, rfl, t⟩ := t
  obtain ⟨b0, q0, rfl, _⟩ := s.shape
  obtain ⟨b1, q1, rfl, _⟩ := t.shape
  obtain ⟨⟨a1, a2⟩, ⟨a3, a4⟩, _⟩ := (chk_ok P.cx).1
  have hip : y.inputs = x.inputs := P.ip
  have hst : y.states = x.states := P.st
  have m := Mem.start g
  refine w67 ?_
  unfold n67
  refine box_a m fun ix h1 zx p1 m => ?_
  refine box_a m fun iy h2 zy p2 m => ?_
  refine box_a (cs := [.int .i64 p0.a, .int .i64 p0.b, .slice none 0 0]) m fun iz h3 zz p3 m => ?_
  ((with_reducible (refine mv_i ?_; refine mv_i ?_; refine mv_i ?_)); (refine ldwA ?_); (refine bs_g (bs63_1 _ _ _ _ _ _) (by assumption) fun i h p m => ?_); (with_reducible (refine mv_i ?_; refine mv_i ?_)))
  obtain ⟨hx, rfl⟩ : ∃ q, q = h := ⟨h, rfl⟩
  refine loop2 1600 (fun k a h => (bfs x y p0 k).fnd = none ∧ ∃ o1 vs W, IsSl a (some o1) (bfs x y p0 k).ps.length ∧ LL vs W (bfs x y p0 k).ws ∧ Prec hx h ∧ Mem g h (⟨some o1, pw3 (bfs x y p0 k).ps vs, 3⟩ :: ⟨some iy, [.int .i64 y.states, .int .i64 y.inputs, .int .i64 y.outputs, .int .i64 y.start, .slice b1 y.steps.length q1], zy⟩ :: ⟨some ix, [.int .i64 x.states, .int .i64 x.inputs, .int .i64 x.outputs, .int .i64 x.start, .slice b0 x.steps.length q0], zx⟩ :: rowsW W (bfs x y p0 k).ws)) ⟨rfl, ?_⟩ ?_
  · refine ⟨_, [.slice none 0 0], [none], IsSl.some1, ⟨rfl, rfl, fun j hj => ?_⟩, ⟨Stab.refl _⟩, ?_⟩
    · have : j = 0 := by simp [bfs] at hj; exact hj
      subst this; exact IsSl.nil
    · have m := m.sub (.cons_cons _ (.cons _ (List.Sublist.refl _)))
      exact (m.nil 1).perm (List.perm_append_singleton (⟨none, [], 1⟩ : E) [_, _, _]).symm
  rintro k a h5 _ hk ⟨hf, o1, vs, W, hs1, hll, p5, m⟩
  have B0 := BI.all P h0 k
  have W0 := bfs_wl P h0 k
  have hend := @srch_end x y p0 k hk
  have hfnd := fun (n : Nat) => @srch_fnd x y p0 k n
  have hnext := @bfs_next x y p0 k
  generalize hS : bfs x y p0 k = S at *
  have lw := B0.len
  have few := B0.few a2
  have hvl : vs.length = S.ps.length := by rw [← lw]; exact hll.1
  ((with_reducible (refine mv_i ?_; refine mv_i ?_; refine len_o (by assumption) ?_; refine lss_i (fun hc => ?_) (fun hc => ?_); refine cnd_t ?_; refine mv_i ?_)); (rotate_left); (with_reducible (refine cnd_f ?_; refine mv_i ?_; refine mv_i ?_; refine mv_i ?_; refine mv_i ?_; refine ret3 ?_)); (rotate_left))
  · have hkl : k < S.ps.length := by omega
    obtain ⟨⟨r1, r2⟩, r3, r4⟩ := B0.inp _ (gd_mem Df.d hkl)
    change 0 ≤ (gt S.ps k).a at r1
    change (gt S.ps k).a ≤ x.states - 1 at r2
    change 0 ≤ (gt S.ps k).b at r3
    change (gt S.ps k).b ≤ x.states - 1 at r4
    refine loop2 x.inputs.toNat (fun n a h => (brow x y k S n).fnd = none ∧ ∃ o1 vs W, IsSl a (some o1) (brow x y k S n).ps.length ∧ LL vs W (brow x y k S n).ws ∧ Prec hx h ∧ Mem g h (⟨some o1, pw3 (brow x y k S n).ps vs, 3⟩ :: ⟨some iy, [.int .i64 y.states, .int .i64 y.inputs, .int .i64 y.outputs, .int .i64 y.start, .slice b1 y.steps.length q1], zy⟩ :: ⟨some ix, [.int .i64 x.states, .int .i64 x.inputs, .int .i64 x.outputs, .int .i64 x.start, .slice b0 x.steps.length q0], zx⟩ :: rowsW W (brow x y k S n).ws)) ⟨hf, o1, vs, W, hs1, hll, ⟨Stb.st⟩, m⟩ ?_
    rintro n a h6 _ hn ⟨hf2, o1, vs, W, hs1, hll, p6, m⟩
    have B1 := B0.row P hkl n hn
    have W1 := brow_wl (x := x) (y := y) (i := k) W0 (by omega) n
    have hgp := gt_pre (brow_grow (x := x) (y := y) (i := k) (s := S) n).1 hkl
    have hlen2 := (brow_grow (x := x) (y := y) (i := k) (s := S) n).1.length_le
    have hfnd2 := hfnd n
    generalize hQ : brow x y k S n = Q at *
    have lw2 := B1.len
    have few2 := B1.few a2
    have hwl := W1 _ (gd_mem [] (show k < Q.ws.length by omega))
    have hvl : vs.length = Q.ps.length := by rw [← lw2]; exact hll.1
    obtain ⟨g1, g2, g3⟩ := pw3_get hvl (show k < Q.ps.length by omega)
    rw [hgp] at g1 g2
    ((with_reducible (refine mv_i ?_; refine fao ?_)); (refine ldoA ?_); (with_reducible (refine lss_i (fun hc => ?_) (fun hc => ?_); refine cnd_t ?_)); (rotate_left); (with_reducible (refine cnd_f ?_; refine mv_i ?_; refine inc_i (by omega) ?_; refine mv_i ?_)); (rotate_left))
    · refine seq_J (fun xs h => ∃ a, xs = [a] ∧ (bst x y k n Q).fnd = none ∧ ∃ o1 vs W, IsSl a (some o1) (bst x y k n Q).ps.length ∧ LL vs W (bst x y k n Q).ws ∧ Prec hx h ∧ Mem g h (⟨some o1, pw3 (bst x y k n Q).ps vs, 3⟩ :: ⟨some iy, [.int .i64 y.states, .int .i64 y.inputs, .int .i64 y.outputs, .int .i64 y.start, .slice b1 y.steps.length q1], zy⟩ :: ⟨some ix, [.int .i64 x.states, .int .i64 x.inputs, .int .i64 x.outputs, .int .i64 x.start, .slice b0 x.steps.length q0], zx⟩ :: rowsW W (bst x y k n Q).ws)) ?_ ?_
      · rintro _ h7 ⟨a3, rfl, hf3, rest⟩
        (((with_reducible refine fun (_ : Tmps) => ?_); (try dsimp only [nth])); (with_reducible (refine mv_i ?_; refine inc_i (by omega) ?_; refine mv_i ?_)))
        refine next2 (by omega) ⟨?_, ?_⟩
        · show (bst x y k n (brow x y k S n)).fnd = none
          rw [hQ]; exact hf3
        · show ∃ o1 vs W, IsSl a3 (some o1) (bst x y k n (brow x y k S n)).ps.length ∧ LL vs W (bst x y k n (brow x y k S n)).ws ∧ Prec hx h7 ∧ Mem g h7 (⟨some o1, pw3 (bst x y k n (brow x y k S n)).ps vs, 3⟩ :: ⟨some iy, [.int .i64 y.states, .int .i64 y.inputs, .int .i64 y.outputs, .int .i64 y.start, .slice b1 y.steps.length q1], zy⟩ :: ⟨some ix, [.int .i64 x.states, .int .i64 x.inputs, .int .i64 x.outputs, .int .i64 x.start, .slice b0 x.steps.length q0], zx⟩ :: rowsW W (bst x y k n (brow x y k S n)).ws)
          rw [hQ]; exact rest
      · intro k' hk'
        obtain ⟨vk, hvk, hvs⟩ := hll.at (j := k) (by omega)
        rw [hvk] at g3
        obtain ⟨j1, j2, _⟩ := full_at P.cx P.lx (s := (gt S.ps k).a) (i := (n : Int)) ⟨r1, r2⟩ ⟨by omega, by omega⟩
        obtain ⟨j3, j4, _⟩ := full_at P.cy P.ly (s := (gt S.ps k).b) (i := (n : Int)) ⟨r3, by omega⟩ ⟨by omega, by omega⟩
        have iA := at_code P.cx P.lx (s := (gt S.ps k).a) (i := (n : Int)) ⟨r1, r2⟩ ⟨by omega, by omega⟩
        have iB := at_code P.cy P.ly (s := (gt S.ps k).b) (i := (n : Int)) ⟨r3, by omega⟩ ⟨by omega, by omega⟩
        have hneA : ¬ idxOf (atS (gt S.ps k).a (n : Int)) x.steps = -1 := by rw [iA]; omega
        have hneB : ¬ idxOf (atS (gt S.ps k).b (n : Int)) y.steps = -1 := by rw [iB]; omega
        have jA1 : 0 ≤ idxOf (atS (gt S.ps k).a (n : Int)) x.steps := by rw [iA]; omega
        have jA2 : (idxOf (atS (gt S.ps k).a (n : Int)) x.steps).toNat < x.steps.length := by rw [iA]; omega
        have jB1 : 0 ≤ idxOf (atS (gt S.ps k).b (n : Int)) y.steps := by rw [iB]; omega
        have jB2 : (idxOf (atS (gt S.ps k).b (n : Int)) y.steps).toNat < y.steps.length := by rw [iB]; omega
        ((with_reducible (refine mv_i ?_; refine mv_i ?_)); (refine idx_o (by assumption) (by omega) ?_); (with_reducible (refine fao_e ?_)))
        refine ldo m (k := 0) (q := ⟨rfl⟩) g3 ?_
        skip
        refine call_d (c70 m (o := W.getD k none) (k := k + 3) ⟨by show (rowsW W Q.ws)[k]? = _; exact rowsW_get hll (by omega)⟩ hvs (by omega)) m fun v7 h7 p7 p7' _ ⟨o', hv, hnn⟩ => ?_
        have m := hnn _ _ m
        ((with_reducible (refine mv_i ?_)); (refine bs_g (bs53_1 _ _) (by assumption) fun i h p m => ?_))
        refine app_snoc (a := (n : Int)) (k2 := 0) (j := 0) m hv (by infer_instance) ⟨rfl⟩ rfl ⟨by omega, by omega⟩ fun i2 h8 p8 m => ?_
        simp only [List.set_cons_succ, List.set_cons_zero] at m
        ((with_reducible (refine mv_i ?_)); (refine ldwA ?_); (refine vb_mac (by assumption) ?_); (with_reducible (refine mv_i ?_; refine mv_i ?_)); (refine idx_o (by assumption) (by omega) ?_); (with_reducible (refine fao_e ?_)))
        refine ldo m (k := 2) (q := ⟨rfl⟩) g1 ?_
        ((refine vbA ?_); (with_reducible (refine mv_i ?_)); (refine calld_r (c74 ⟨_, by with_unfolding_all rfl, L.up (by assumption)⟩ _ _) ?_); (with_reducible (refine new_n ?_)); (refine ldwA ?_); (refine vb_mac (by assumption) ?_); (with_reducible (refine mv_i ?_; refine mv_i ?_)); (refine idx_o (by assumption) (by omega) ?_); (with_reducible (refine fao_e ?_)))
        refine ldo m (k := 2) (q := ⟨rfl⟩) g2 ?_
        have hsame : same x y (gt Q.ps k) n ↔ (gt x.steps (idxOf (atS (gt S.ps k).a (n : Int)) x.steps).toNat).out = (gt y.steps (idxOf (atS (gt S.ps k).b (n : Int)) y.steps).toNat).out := by
          rw [hgp, iA, iB]; exact Iff.rfl
        have hwd : (wrd Q k n).length = (Q.ws.getD k []).length + 1 := by simp [wrd]
        ((refine vbA ?_); (with_reducible (refine mv_i ?_)); (refine calld_r (c74 ⟨_, by with_unfolding_all rfl, L.up (by assumption)⟩ _ _) ?_); (with_reducible (refine new_n ?_; refine mv_i ?_; refine mv_i ?_; refine mv_i ?_; refine eql_n (by first | assumption | decide) ?_; refine mv_i ?_; refine gd_ft ?_; refine gd_ft ?_; refine pick_f ?_; refine cnd_f ?_; refine mv_i ?_; refine eql_n (by first | assumption | decide) ?_; refine mv_i ?_; refine gd_ff ?_; refine mv_i ?_; refine gd_ff ?_; refine eql_n (by first | assumption | decide) ?_; refine pick_f ?_; refine mv_i ?_; refine gd_ff ?_; refine fao ?_; refine gd_ff ?_)); (refine ldoA ?_); (with_reducible (refine vb_l (by assumption) ?_; refine gd_ff ?_; refine mv_i ?_; refine gd_ff ?_)); (refine idx_dz (by assumption) (by with_unfolding_all rfl) (by omega) (by omega) fun p hp => ?_); (with_reducible (refine gd_ff ?_; refine fa_g (by assumption) fun p hp => ?_; refine gd_ff ?_)); (refine ldgA ?_); (refine vbA ?_); (with_reducible (refine gd_ff ?_; refine fao ?_; refine gd_ff ?_)); (refine ldoA ?_); (with_reducible (refine vb_l (by assumption) ?_; refine gd_ff ?_; refine mv_i ?_; refine gd_ff ?_)); (refine idx_dz (by assumption) (by with_unfolding_all rfl) (by omega) (by omega) fun p hp => ?_); (with_reducible (refine gd_ff ?_; refine fa_g (by assumption) fun p hp => ?_; refine gd_ff ?_)); (refine ldgA ?_); (refine vbA ?_); (with_reducible (refine gd_ff ?_; refine neq_i (fun hc => ?_) (fun hc => ?_); refine pick_f ?_; refine cnd_f ?_; refine fao ?_)); (refine ldoA ?_); (with_reducible (refine vb_l (by assumption) ?_; refine mv_i ?_)); (refine idx_dz (by assumption) (by with_unfolding_all rfl) (by omega) (by omega) fun p hp => ?_); (with_reducible (refine fa_g (by assumption) fun p hp => ?_)); (refine ldgA ?_); (refine vbA ?_); (with_reducible (refine fao ?_)); (refine ldoA ?_); (with_reducible (refine vb_l (by assumption) ?_; refine mv_i ?_)); (refine idx_dz (by assumption) (by with_unfolding_all rfl) (by omega) (by omega) fun p hp => ?_); (with_reducible (refine fa_g (by assumption) fun p hp => ?_)); (refine ldgA ?_); (refine vbA ?_); (with_reducible (refine mv_i ?_)); (refine vk_i (bd104_012 _ _ _ _ _) ?_); (with_reducible (refine alloc_z (by assumption) fun i h z p m => ?_)); (refine st_w (by assumption) (by infer_instance) (by with_unfolding_all rfl) (by with_unfolding_all rfl) (by first | rfl | exact flat_ones (Flat.flat _)) (by infer_instance) fun h p m => ?_); (with_reducible (refine ⟨trivial, ?_⟩; refine mv_i ?_)); (refine ldwA ?_); (rotate_left); (with_reducible (refine pick_f ?_; refine cnd_t ?_; refine mv_i ?_; refine mv_i ?_; refine mv_i ?_; refine mv_i ?_; refine mv_i ?_; refine ret3 ?_)); (rotate_left))
        · have hd := hsame.mpr hc
          have ht : tgt x y (gt Q.ps k) n = ⟨(gt x.steps (idxOf (atS (gt S.ps k).a (n : Int)) x.steps).toNat).to, (gt y.steps (idxOf (atS (gt S.ps k).b (n : Int)) y.steps).toNat).to⟩ := by
            rw [hgp, iA, iB]; rfl
          refine call_r (Runs.lent (c94 (IsSl.lentR (xs := Q.ps.map PrX.mk) (by rw [List.length_map]; exact hs1) m (by infer_instance) rfl (pw3_rd hvl (ll_ones hll)) (by rw [List.length_map]; omega)) _ _ _ rfl)) ?_
          ((with_reducible (refine not_d (fun hb => ?_) (fun hb => ?_); refine cnd_f ?_)); (rotate_left); (with_reducible (refine cnd_t ?_; refine mv_i ?_)); (refine ldwA ?_); (refine bs_g (bs63_1 _ _ _ _ _ _) (by assumption) fun i h p m => ?_); (rotate_left))
          · have e := bst_met hf2 hd (by rw [ht]; exact hb)
            refine hk' _ _ ⟨a, rfl, by rw [e]; exact hf2, ?_⟩
            rw [e]
            exact ⟨o1, vs, W, hs1, hll, ⟨Stb.st⟩, m.tail.tail.tail⟩
          · have e := bst_new hf2 hd (by rw [ht]; exact hb)
            refine app_o m hs1 (by infer_instance) (pw3_len hvl) (src_own m (q := (⟨rfl⟩ : Ent _ _ 0 _ _)) (n := 1) rfl (by decide) (by decide) rfl) ⟨by omega, by omega⟩ fun i4 h10 p10 m => ?_
            simp only [List.set_cons_succ, List.set_cons_zero] at m
            ((with_reducible (refine mv_i ?_)))
            refine hk' _ _ ⟨_, rfl, by rw [e], ?_⟩
            rw [e, ht]
            refine ⟨i4, vs ++ [.slice (some ⟨i2, 0, none⟩) ((Q.ws.getD k []).length + 1) 0], W ++ [some i2], by rw [List.length_append]; exact IsSl.some0, hll.add (by rw [hwd]; exact IsSl.some0), ⟨Stb.st⟩, ?_⟩
            rw [rowsW_add hll, pw3_add hvl]
            exact m.tail.tail.tail.perm (List.perm_append_singleton _ (_ :: _ :: _ :: rowsW W Q.ws)).symm
        · have e := hfnd2 hkl hk (by omega) hf2 (fun q => hc (hsame.mp q))
          obtain ⟨c1, hac⟩ : ∃ c1, a = .slice (some ⟨o1, 0, none⟩) Q.ps.length c1 := by obtain ⟨c1, e, _⟩ := hs1; exact ⟨c1, e⟩
          refine ⟨m.pre, some ⟨i2, 0, none⟩, (Q.ws.getD k []).length + 1, 0, some ⟨o1, 0, none⟩, _, c1, by rw [e, ← hac]; rfl, ?_, ?_⟩
          · rw [difW, e]
            exact IsSl.ro (o := some i2) (xs := wrd Q k n) (by rw [hwd]; exact IsSl.some0) m (k := 1) rfl (by omega)
          · rw [e, ← hac]
            exact IsSl.roR (xs := Q.ps.map PrX.mk) (by rw [List.length_map]; exact hs1) m (k := 2) rfl rfl (pw3_rd hvl (ll_ones hll)) (by rw [List.length_map]; omega)
    · have e : bfs x y p0 (k + 1) = Q := by
        rw [hnext hkl, ← hQ]
        congr 1; omega
      refine next2 (by omega) ⟨?_, ?_⟩
      · show (bfs x y p0 (k + 1)).fnd = none
        rw [e]; exact hf2
      · show ∃ o1 vs W, IsSl a (some o1) (bfs x y p0 (k + 1)).ps.length ∧ LL vs W (bfs x y p0 (k + 1)).ws ∧ Prec hx _ ∧ Mem g _ (⟨some o1, pw3 (bfs x y p0 (k + 1)).ps vs, 3⟩ :: ⟨some iy, [.int .i64 y.states, .int .i64 y.inputs, .int .i64 y.outputs, .int .i64 y.start, .slice b1 y.steps.length q1], zy⟩ :: ⟨some ix, [.int .i64 x.states, .int .i64 x.inputs, .int .i64 x.outputs, .int .i64 x.start, .slice b0 x.steps.length q0], zx⟩ :: rowsW W (bfs x y p0 (k + 1)).ws)
        rw [e]
        exact ⟨o1, vs, W, hs1, hll, ⟨Stb.st⟩, m⟩
  · have e := hend (by omega)
    obtain ⟨c1, rfl, _⟩ := id hs1
    refine ⟨m.pre, none, 0, 0, some ⟨o1, 0, none⟩, _, c1, by rw [e, hf]; rfl, by rw [difW, e, hf]; exact L.nil _, ?_⟩
    rw [e]
    exact IsSl.roR (by rw [List.length_map]; exact hs1) m (k := 0) rfl rfl (pw3_rd hvl (ll_ones hll)) (by rw [List.length_map]; omega)
end Go.Proofs.YtomiejfeclefaaaGreat

set_option linter.unusedVariables false
namespace Go.Proofs.YtomiejfeclefaaaGreat
open Go.AM
theorem par_x {x : Mach} {l : List Mut} (hB : bothE x l = 0) : Par x (mutd x l) ∧ inP x ⟨x.start, (mutd x l).start⟩ := by
  obtain ⟨hE, h1⟩ := bothE_ok hB
  obtain ⟨e3, e4, e5, e6⟩ := errM_ok hE
  have A := mutd_alk e3 h1
  obtain ⟨_, _, _, a4⟩ := e4
  exact ⟨⟨e3, A.chk e3, e5, by rw [A.ln, A.st, A.ip]; exact e5, A.st, A.ip⟩, a4, A.hs⟩
end Go.Proofs.YtomiejfeclefaaaGreat

set_option linter.unusedSimpArgs false
set_option linter.unusedVariables false
set_option linter.unnecessarySimpa false
set_option maxRecDepth 100000
set_option maxHeartbeats 4000000
namespace Go.Proofs.YtomiejfeclefaaaGreat
open Go.AM
variable {h g : Heap}
/-- The reference's search for a mutant. -/
theorem c33 {v y : Value} {x : Mach} {l : List Mut} (s : MacV g v x) (t : L g y l) (hB : bothE x l = 0) : DetP Tryz.prog 35 [v, y] g fun v' h' => g <+: h' ∧ ∃ b1 n1 q1 b2 n2 q2, v' = .tuple #[.slice b1 n1 q1, .bool (srch x (mutd x l) ⟨x.start, (mutd x l).start⟩).fnd.isSome, .slice b2 n2 q2] ∧ L h' (.slice b1 n1 q1) (difW x (mutd x l) ⟨x.start, (mutd x l).start⟩) ∧ L h' (.slice b2 n2 q2) ((srch x (mutd x l) ⟨x.start, (mutd x l).start⟩).ps.map PrX.mk) := by
  refine DetP.freeze ?_
  obtain ⟨tv, rfl, s⟩ := s
  obtain ⟨b0, q0, rfl, _⟩ := s.shape
  obtain ⟨P, h0⟩ := par_x hB
  obtain ⟨e1, e2⟩ := bothE_ok hB
  obtain ⟨m1, m2⟩ := mutE_ok e2
  have hsm := small e1
  have m := Mem.start g
  refine w33 ?_
  unfold n33
  have C := fun {h : Heap} {v y : Value} (s : MacV h v x) (t : L h y l) => c24 (g := h) s t (by omega) m2
  obtain ⟨ym, hy⟩ : ∃ ym, ym = mutd x l := ⟨_, rfl⟩
  rw [← hy] at P h0 C
  rw [← hy]
  have D := fun {h : Heap} {v w : Value} (s : MacV h v x) (t : MacV h w ym) => c67 (g := h) s t P ⟨x.start, ym.start⟩ h0
  generalize (srch x ym ⟨x.start, ym.start⟩).fnd.isSome = bb at D ⊢
  generalize difW x ym ⟨x.start, ym.start⟩ = ww at D ⊢
  generalize (srch x ym ⟨x.start, ym.start⟩).ps.map PrX.mk = pp at D ⊢
  ((with_reducible (refine box_a (by assumption) fun i h z p m => ?_; refine mv_i ?_; refine mv_i ?_; refine mv_i ?_)); (refine ldwA ?_); (with_reducible (refine mv_i ?_)))
  refine call_d (C ⟨_, rfl, s.up⟩ t.up) m fun v2 h2 p1 p2 m ⟨b2, q2, n2, e2, hn2, s2⟩ => ?_
  subst e2
  ((with_reducible (refine alloc_z (by assumption) fun i h z p m => ?_)); (refine st_w (by assumption) (by infer_instance) (by with_unfolding_all rfl) (by with_unfolding_all rfl) (by first | rfl | exact flat_ones (Flat.flat _)) (by infer_instance) fun h p m => ?_); (refine ldwA ?_); (refine ldwA ?_); (with_reducible (refine fao ?_)); (refine ldoA ?_); (with_reducible (refine fao ?_)); (refine ldoA ?_); (refine vk_i (bd104_01 _ _) ?_))
  refine call_d (D ⟨_, rfl, s.up⟩ ⟨_, rfl, s2.up⟩) m fun v3 h3 p3 p4 m ⟨b3, n3, q3, b4, n4, q4, e3, s3, s4⟩ => ?_
  subst e3
  ((with_reducible (refine ex3_0 ?_; refine ex3_1 ?_; refine ex3_2 ?_; refine mv_i ?_; refine mv_i ?_; refine mv_i ?_; refine ret3 ?_)))
  exact ⟨m.pre, b3, n3, q3, b4, n4, q4, rfl, s3.frz, s4.frz⟩
end Go.Proofs.YtomiejfeclefaaaGreat


set_option linter.unusedSimpArgs false
set_option linter.unusedVariables false
set_option linter.unnecessarySimpa false
set_option maxRecDepth 100000
set_option maxHeartbeats 4000000
namespace Go.Proofs.YtomiejfeclefaaaGreat
open Go.AM
variable {h g : Heap}
/-! ### the search: what it finds, and what it means when it finds nothing -/
def rch (x : Mach) : Int → List Int → Int
  | q, [] => q
  | q, n :: w => rch x (stO x q n).to w
def ans (x : Mach) : Int → List Int → List Int
  | _, [] => []
  | q, n :: w => (stO x q n).out :: ans x (stO x q n).to w
theorem rch_snoc (x : Mach) (n : Int) : ∀ (w : List Int) (q : Int), rch x q (w ++ [n]) = (stO x (rch x q w) n).to
  | [], _ => rfl
  | _ :: w, _ => rch_snoc x n w _
theorem ans_snoc (x : Mach) (n : Int) : ∀ (w : List Int) (q : Int), ans x q (w ++ [n]) = ans x q w ++ [(stO x (rch x q w) n).out]
  | [], _ => rfl
  | m :: w, q => by
    have := ans_snoc x n w (stO x q m).to
    simp only [List.cons_append, ans, rch]
    rw [this]
def inW (x : Mach) (w : List Int) : Prop := ∀ n ∈ w, 0 ≤ n ∧ n ≤ x.inputs - 1
structure WI (x y : Mach) (p0 : Pr) (s : BS) : Prop where
  at_ : ∀ j, j < s.ps.length → rch x p0.a (s.ws.getD j []) = (gt s.ps j).a ∧ rch y p0.b (s.ws.getD j []) = (gt s.ps j).b ∧ ans x p0.a (s.ws.getD j []) = ans y p0.b (s.ws.getD j []) ∧ inW x (s.ws.getD j [])
  fd : ∀ w, s.fnd = some w → inW x w ∧ ans x p0.a w ≠ ans y p0.b w ∧ w.length ≤ s.ps.length
theorem gt_app {α : Type} [Df α] {l : List α} {a : α} {j : Nat} (hj : j < l.length) : gt (l ++ [a]) j = gt l j := gt_pre (List.prefix_append _ _) hj
theorem gt_last {α : Type} [Df α] {l : List α} {a : α} : gt (l ++ [a]) l.length = a := by simp [gt]
theorem WI.step {x y : Mach} {p0 : Pr} {s : BS} (W : WI x y p0 s) (hl : s.ws.length = s.ps.length) {i n : Nat} (hi : i < s.ps.length) (hn : n < x.inputs.toNat) (hw : (s.ws.getD i []).length + 1 ≤ s.ps.length) : WI x y p0 (bst x y i n s) := by
  by_cases hf : s.fnd = none
  · obtain ⟨w1, w2, w3, w4⟩ := W.at_ i hi
    have hin : inW x (wrd s i n) := by
      intro m hm
      rcases List.mem_append.mp hm with hm | hm
      · exact w4 m hm
      · rw [List.mem_singleton] at hm; subst hm; omega
    by_cases hs : same x y (gt s.ps i) n
    · by_cases hm : tgt x y (gt s.ps i) n ∈ s.ps
      · rw [bst_met hf hs hm]; exact W
      · rw [bst_new hf hs hm]
        refine ⟨fun j hj => ?_, fun w h => by cases h⟩
        by_cases e : j < s.ps.length
        · have h1 : (s.ws ++ [wrd s i n]).getD j [] = s.ws.getD j [] := by simp [List.getD, List.getElem?_append_left (show j < s.ws.length by omega)]
          show rch x p0.a ((s.ws ++ [wrd s i n]).getD j []) = (gt (s.ps ++ _) j).a ∧ _ = (gt (s.ps ++ _) j).b ∧ ans x p0.a ((s.ws ++ [wrd s i n]).getD j []) = _ ∧ _
          rw [h1, gt_app e]
          exact W.at_ j e
        · have e : j = s.ps.length := by simp at hj; omega
          subst e
          have h1 : (s.ws ++ [wrd s i n]).getD s.ps.length [] = wrd s i n := by rw [← hl]; simp [List.getD]
          show rch x p0.a ((s.ws ++ [wrd s i n]).getD s.ps.length []) = (gt (s.ps ++ _) s.ps.length).a ∧ _ = (gt (s.ps ++ _) s.ps.length).b ∧ ans x p0.a ((s.ws ++ [wrd s i n]).getD s.ps.length []) = _ ∧ _
          rw [h1, gt_last]
          unfold wrd
          rw [rch_snoc, rch_snoc, ans_snoc, ans_snoc, w1, w2, w3]
          refine ⟨rfl, rfl, ?_, hin⟩
          rw [show (stO x (gt s.ps i).a n).out = (stO y (gt s.ps i).b n).out from hs]
    · rw [bst_no hf hs]
      refine ⟨W.at_, fun w h => ?_⟩
      cases h
      refine ⟨hin, fun e => hs ?_, by simpa [wrd] using hw⟩
      unfold wrd at e
      rw [ans_snoc, ans_snoc, w1, w2, w3] at e
      have := List.append_cancel_left e
      have h7 : (stO x (gt s.ps i).a n).out = (stO y (gt s.ps i).b n).out := by simpa using this
      exact h7
  · rw [bst_fnd hf]; exact W
theorem WI.row {x y : Mach} {p0 : Pr} {s : BS} (P : Par x y) (B : BI x s) (W : WI x y p0 s) {i : Nat} (hi : i < s.ps.length) (hw : (s.ws.getD i []).length ≤ i) : ∀ n, n ≤ x.inputs.toNat → WI x y p0 (brow x y i s n)
  | 0, _ => W
  | n + 1, h => by
    have g := brow_grow (x := x) (y := y) (i := i) (s := s) n
    have hgl := g.1.length_le
    refine (WI.row P B W hi hw n (by omega)).step (B.row P hi n (by omega)).len (by omega) (by omega) ?_
    obtain ⟨t, ht⟩ := g.2
    rw [← ht]
    have : (s.ws ++ t).getD i [] = s.ws.getD i [] := by simp [List.getD, List.getElem?_append_left (show i < s.ws.length by rw [B.len]; exact hi)]
    rw [this]; omega
theorem WI.all {x y : Mach} {p0 : Pr} (P : Par x y) (h0 : inP x p0) : ∀ k, WI x y p0 (bfs x y p0 k)
  | 0 => ⟨fun j hj => by
      have : j = 0 := by simp [bfs] at hj; exact hj
      subst this
      exact ⟨rfl, rfl, rfl, fun n hn => by simp [bfs] at hn⟩, fun w h => by simp [bfs] at h⟩
  | k + 1 => by
    unfold bfs
    split
    · rename_i h
      have B := BI.all P h0 k
      refine (WI.all P h0 k).row P B h ?_ _ (Nat.le_refl _)
      exact bfs_wl P h0 k _ (gd_mem [] (by rw [B.len]; exact h))
    · exact WI.all P h0 k
end Go.Proofs.YtomiejfeclefaaaGreat
