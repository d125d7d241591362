import Derived.Test.YtgmgmkhenhaniaaPc
import Derived.Test.YtgmgmkhenhaniaaPa
import Derived.Test.YtgmgmkhenhaniaaAnG
import Derived.Test.YtgmgmkhenhaniaaBulk
import Derived.Test.YtgmgmkhenhaniaaChecked
import Derived.WalkKit
import Derived.ProofKit
set_option linter.unusedSimpArgs false
set_option linter.unusedVariables false
set_option linter.unnecessarySimpa false
set_option maxRecDepth 100000
set_option maxHeartbeats 4000000
namespace Go.Proofs.Ytgmgmkhenhaniaa
open Go.AM
variable {h g : Heap}
theorem cjud {v y : Value} {x : Mach} {l : List Mut} (s : MacV g v x) (t : L g y l) (hE : errM x = 0) (hM : (mutE x l).2 = 0) (h6 : x.states ≤ 6) : Runs Try.prog 9 [v, y] g (.bool true) g := by
  obtain ⟨tv, rfl, s⟩ := s
  obtain ⟨b0, q0, rfl, _⟩ := s.shape
  have hB : bothE x l = 0 := by rw [bothE, if_neg (by simpa using hE)]; exact hM
  have hl4 := (mutE_ok hM).1
  have hsm := small hE
  have hx0 := (errM_ok hE).1
  have A := mutd_alk hx0 hM
  have hln := A.ln
  have hcy := A.chk hx0
  obtain ⟨P, h0⟩ := par_x hB
  have m := Mem.start g
  refine DetP.forget rfl ?_
  refine w1009 ?_
  unfold n1009
  have C22 := fun {h : Heap} {v y : Value} (s : MacV h v x) (t : L h y l) => c22 (g := h) s t
  have hC : mutC x l = mutd x l := by rw [mutC, if_neg (by simpa using hB)]
  rw [hC, hB] at C22
  have C31 := fun {h : Heap} {v y : Value} (s : MacV h v x) (t : L h y l) => c31 (g := h) s t hB
  have C32 := fun {h : Heap} {v y : Value} (s : MacV h v x) (t : L h y l) => c32 (g := h) s t hB
  have C16 := fun {h : Heap} {v y z : Value} {ps : List Pr} (s : MacV h v x) (t : L h y l) (r : L h z ps) => c16 (g := h) s t r
  rw [hB] at C16
  simp only [ne_eq, not_true_eq_false, if_false] at C16
  generalize mutd x l = ym at C22 C31 C32 C16 P h0 A hln hcy
  have C64 := fun {h : Heap} {v w : Value} (s : MacV h v x) (t : MacV h w ym) => c64 (g := h) s t P h0
  have CD := fun {h : Heap} {v u y : Value} {wd : List Int} (s : MacV h v x) (s' : MacV h u ym) (t : L h y wd) (hw : inW x wd) (hb : wd.length ≤ 1048576) => cdif (g := h) s s' t P h0 hw hb
  have hr1 : relP x ym ⟨x.start, ym.start⟩ = if (srch x ym ⟨x.start, ym.start⟩).fnd = none then srt cmpP (srch x ym ⟨x.start, ym.start⟩).ps else [] := rfl
  have hr2 : relC x ym ⟨x.start, ym.start⟩ = if (srch x ym ⟨x.start, ym.start⟩).fnd = none then 0 else 23 := rfl
  have hd1 : difE x ym ⟨x.start, ym.start⟩ = if (srch x ym ⟨x.start, ym.start⟩).fnd = none then 23 else 0 := rfl
  have hd2 : difW x ym ⟨x.start, ym.start⟩ = (srch x ym ⟨x.start, ym.start⟩).fnd.getD [] := rfl
  generalize relP x ym ⟨x.start, ym.start⟩ = rp at C32 hr1
  generalize relC x ym ⟨x.start, ym.start⟩ = rc at C32 hr2
  generalize difE x ym ⟨x.start, ym.start⟩ = de at C31 C64 hd1
  generalize difW x ym ⟨x.start, ym.start⟩ = dw at C31 C64 hd2
  rcases hfn : (srch x ym ⟨x.start, ym.start⟩).fnd with _ | w0
  · have hrel := rel_srt P h0 hfn rfl
    have CB := fun {h : Heap} {v u y : Value} (s : MacV h v x) (s' : MacV h u ym) (t : L h y []) => cdby P h0 (no_word P h0 hfn) 5 (g := h) s s' t (fun n hn => by simp at hn) rfl
    rw [hfn] at hr1 hr2 hd1 hd2
    simp only [if_pos, Option.getD_none] at hr1 hr2 hd1 hd2
    have C16 := fun {h : Heap} {v y z : Value} (s : MacV h v x) (t : L h y l) (r : L h z (srt cmpP (srch x ym ⟨x.start, ym.start⟩).ps)) => C16 (h := h) s t r
    rw [hrel] at C16
    dsimp only at C16
    generalize srt cmpP (srch x ym ⟨x.start, ym.start⟩).ps = sp at C16 hr1
    subst hr1 hr2 hd1 hd2
    clear hfn hrel P h0 hB hM hE hC A CD
    ((with_reducible (refine box_a (by assumption) fun i h z p m => ?_; refine mv_i ?_)); (refine ldwA ?_))
    refine call_d (c14 ⟨_, rfl, s.up⟩ (by omega)) m fun v1 h1 p1 p2 m ⟨b1, q1, n1, e1, hn1, s1⟩ => ?_
    subst e1
    ((with_reducible (refine mv_i ?_)))
    refine call_d (c17 t.up (by omega)) m fun v2 h2 p3 p4 m ⟨b2, q2, n2, e2, hn2, s2⟩ => ?_
    subst e2
    skip
    refine call_d (C22 ⟨_, rfl, s1.up⟩ s2.up) m fun v3 h3 p5 p6 m ⟨b3, q3, n3, e3, hn3, s3⟩ => ?_
    subst e3
    subst hn3
    ((with_reducible (refine mv_i ?_; refine ex2_0 ?_; refine ex2_1 ?_; refine alloc_z (by assumption) fun i h z p m => ?_)); (refine st_w (by assumption) (by infer_instance) (by with_unfolding_all rfl) (by with_unfolding_all rfl) (by first | rfl | exact flat_ones (Flat.flat _)) (by infer_instance) fun h p m => ?_); (with_reducible (refine mv_i ?_)); (refine ldwA ?_))
    refine call_d (c14 ⟨_, rfl, s.up⟩ (by omega)) m fun v1 h1 p1 p2 m ⟨b1, q1, n1, e1, hn1, s1⟩ => ?_
    subst e1
    ((with_reducible (refine mv_i ?_)))
    refine call_d (c17 t.up (by omega)) m fun v2 h2 p3 p4 m ⟨b2, q2, n2, e2, hn2, s2⟩ => ?_
    subst e2
    skip
    refine call_d (C31 ⟨_, rfl, s1.up⟩ s2.up) m fun v4 h4 p7 p8 m ⟨b4, n4, q4, e4, s4⟩ => ?_
    subst e4
    ((with_reducible (refine mv_i ?_; refine ex2_0 ?_; refine ex2_1 ?_; refine mv_i ?_; refine mv_i ?_)); (refine ldwA ?_))
    refine call_d (c14 ⟨_, rfl, s.up⟩ (by omega)) m fun v1 h1 p1 p2 m ⟨b1, q1, n1, e1, hn1, s1⟩ => ?_
    subst e1
    ((with_reducible (refine mv_i ?_)))
    refine call_d (c17 t.up (by omega)) m fun v2 h2 p3 p4 m ⟨b2, q2, n2, e2, hn2, s2⟩ => ?_
    subst e2
    skip
    refine call_d (C32 ⟨_, rfl, s1.up⟩ s2.up) m fun v5 h5 p9 p10 m ⟨b5, n5, q5, e5, s5⟩ => ?_
    subst e5
    ((with_reducible (refine mv_i ?_; refine ex2_0 ?_; refine ex2_1 ?_; refine mv_i ?_; refine mv_i ?_; refine mv_i ?_; refine neq_h (by first | assumption | decide) ?_; refine mv_i ?_; refine gd_ff ?_)); (refine ldwA ?_); (with_reducible (refine gd_ff ?_)); (refine call_r (c41 ⟨_, by with_unfolding_all rfl, L.up (by assumption)⟩) ?_); (with_reducible (refine gd_ff ?_; refine neq_h (by first | assumption | decide) ?_; refine pick_f ?_; refine cnd_f ?_)); (refine ldwA ?_); (refine vb_mac (by assumption) ?_))
    refine calld_d (c14 ⟨_, rfl, s.up⟩ (by omega)) m fun v1 h1 p1 p2 m ⟨b1, q1, n1, e1, hn1, s1⟩ => ?_
    subst e1
    refine new_p p1 ?_
    ((refine ldwA ?_); (refine vb_mac (by assumption) ?_))
    refine calld_d (c14 (x := ym) ⟨_, rfl, s3.up⟩ (by omega)) m fun v2 h2 p3 p4 m ⟨b6, q6, n6, e6, hn6, s6⟩ => ?_
    subst e6
    refine new_p p3 ?_
    skip
    refine calld_d (C64 ⟨_, rfl, s1.up⟩ ⟨_, rfl, s6.up⟩) m fun v7 h7 p11 p12 m ⟨b7, n7, q7, e7, s7⟩ => ?_
    subst e7
    refine new_p p11 ?_
    ((with_reducible (refine mv_i ?_; refine ex2_0 ?_; refine ex2_1 ?_; refine mv_i ?_; refine mv_i ?_; refine mv_i ?_; refine eql_n (by first | assumption | decide) ?_; refine cnd_f ?_)); (refine ldwA ?_))
    refine call_d (c14 ⟨_, rfl, s.up⟩ (by omega)) m fun v1 h1 p1 p2 m ⟨b1, q1, n1, e1, hn1, s1⟩ => ?_
    subst e1
    ((with_reducible (refine mv_i ?_)))
    refine call_d (c17 t.up (by omega)) m fun v2 h2 p3 p4 m ⟨b2, q2, n2, e2, hn2, s2⟩ => ?_
    subst e2
    ((with_reducible (refine mv_i ?_)))
    refine call_r (C16 ⟨_, rfl, s1.up⟩ s2.up s5.up) ?_
    unfold mk2
    ((with_reducible (refine mv_i ?_; refine ex2_0 ?_; refine ex2_1 ?_; refine mv_i ?_; refine mv_i ?_; refine mv_i ?_; refine eql_h (by first | assumption | decide) ?_; refine mv_i ?_; refine gd_tt ?_; refine mv_i ?_; refine gd_tt ?_; refine eql_h (by first | assumption | decide) ?_; refine pick_t ?_; refine mv_i ?_; refine gd_tt ?_; refine mv_i ?_; refine gd_tt ?_; refine eql_h (by first | assumption | decide) ?_; refine pick_t ?_; refine mv_i ?_; refine gd_tt ?_; refine mv_i ?_; refine gd_tt ?_; refine eql_h (by first | assumption | decide) ?_; refine pick_t ?_; refine mv_i ?_; refine gd_tt ?_; refine mv_i ?_; refine gd_tt ?_; refine mv_i ?_; refine gd_tt ?_; refine len_g (by assumption) ?_; refine gd_tt ?_; refine eql_i (fun hc => ?_) (fun hc => ?_); refine pick_t ?_; refine mv_i ?_; refine gd_tt ?_)); (refine ldwA ?_); (with_reducible (refine gd_tt ?_)); (refine ldwA ?_); (with_reducible (refine gd_tt ?_)); (rotate_left); (with_reducible (refine pick_t ?_; refine mv_i ?_; refine gd_ft ?_; refine gd_ft ?_; refine gd_ft ?_; refine gd_ft ?_; refine pick_f ?_; refine mv_i ?_; refine ret1 ?_)); (rotate_left))
    · refine call_r (CB ⟨_, rfl, s.up⟩ ⟨_, rfl, s3.up⟩ (L.nil _)) ?_
      ((with_reducible (refine gd_tt ?_; refine not_f ?_; refine pick_t ?_; refine mv_i ?_; refine ret1 ?_)))
      exact ⟨rfl, m.pre⟩
    · exact (hc rfl).elim
  · obtain ⟨hw3, hw4, hw5⟩ := srch_some P h0 h6 hfn
    rw [hfn] at hr1 hr2 hd1 hd2
    simp only [reduceCtorEq, if_false, Option.getD_some] at hr1 hr2 hd1 hd2
    have CD := fun {h : Heap} {v u y : Value} (s : MacV h v x) (s' : MacV h u ym) (t : L h y w0) => CD (h := h) s s' t hw3 (by omega)
    rw [decide_eq_false hw4] at CD
    simp only [Bool.not_false] at CD
    subst hr1 hr2 hd1 hd2
    clear hfn P h0 hB hM hE hC A hw3 hw4 C16
    ((with_reducible (refine box_a (by assumption) fun i h z p m => ?_; refine mv_i ?_)); (refine ldwA ?_))
    refine call_d (c14 ⟨_, rfl, s.up⟩ (by omega)) m fun v1 h1 p1 p2 m ⟨b1, q1, n1, e1, hn1, s1⟩ => ?_
    subst e1
    ((with_reducible (refine mv_i ?_)))
    refine call_d (c17 t.up (by omega)) m fun v2 h2 p3 p4 m ⟨b2, q2, n2, e2, hn2, s2⟩ => ?_
    subst e2
    skip
    refine call_d (C22 ⟨_, rfl, s1.up⟩ s2.up) m fun v3 h3 p5 p6 m ⟨b3, q3, n3, e3, hn3, s3⟩ => ?_
    subst e3
    subst hn3
    ((with_reducible (refine mv_i ?_; refine ex2_0 ?_; refine ex2_1 ?_; refine alloc_z (by assumption) fun i h z p m => ?_)); (refine st_w (by assumption) (by infer_instance) (by with_unfolding_all rfl) (by with_unfolding_all rfl) (by first | rfl | exact flat_ones (Flat.flat _)) (by infer_instance) fun h p m => ?_); (with_reducible (refine mv_i ?_)); (refine ldwA ?_))
    refine call_d (c14 ⟨_, rfl, s.up⟩ (by omega)) m fun v1 h1 p1 p2 m ⟨b1, q1, n1, e1, hn1, s1⟩ => ?_
    subst e1
    ((with_reducible (refine mv_i ?_)))
    refine call_d (c17 t.up (by omega)) m fun v2 h2 p3 p4 m ⟨b2, q2, n2, e2, hn2, s2⟩ => ?_
    subst e2
    skip
    refine call_d (C31 ⟨_, rfl, s1.up⟩ s2.up) m fun v4 h4 p7 p8 m ⟨b4, n4, q4, e4, s4⟩ => ?_
    subst e4
    ((with_reducible (refine mv_i ?_; refine ex2_0 ?_; refine ex2_1 ?_; refine mv_i ?_; refine mv_i ?_)); (refine ldwA ?_))
    refine call_d (c14 ⟨_, rfl, s.up⟩ (by omega)) m fun v1 h1 p1 p2 m ⟨b1, q1, n1, e1, hn1, s1⟩ => ?_
    subst e1
    ((with_reducible (refine mv_i ?_)))
    refine call_d (c17 t.up (by omega)) m fun v2 h2 p3 p4 m ⟨b2, q2, n2, e2, hn2, s2⟩ => ?_
    subst e2
    skip
    refine call_d (C32 ⟨_, rfl, s1.up⟩ s2.up) m fun v5 h5 p9 p10 m ⟨b5, n5, q5, e5, s5⟩ => ?_
    subst e5
    ((with_reducible (refine mv_i ?_; refine ex2_0 ?_; refine ex2_1 ?_; refine mv_i ?_; refine mv_i ?_; refine mv_i ?_; refine neq_h (by first | assumption | decide) ?_; refine mv_i ?_; refine gd_ff ?_)); (refine ldwA ?_); (with_reducible (refine gd_ff ?_)); (refine call_r (c41 ⟨_, by with_unfolding_all rfl, L.up (by assumption)⟩) ?_); (with_reducible (refine gd_ff ?_; refine neq_h (by first | assumption | decide) ?_; refine pick_f ?_; refine cnd_f ?_)); (refine ldwA ?_); (refine vb_mac (by assumption) ?_))
    refine calld_d (c14 ⟨_, rfl, s.up⟩ (by omega)) m fun v1 h1 p1 p2 m ⟨b1, q1, n1, e1, hn1, s1⟩ => ?_
    subst e1
    refine new_p p1 ?_
    ((refine ldwA ?_); (refine vb_mac (by assumption) ?_))
    refine calld_d (c14 (x := ym) ⟨_, rfl, s3.up⟩ (by omega)) m fun v2 h2 p3 p4 m ⟨b6, q6, n6, e6, hn6, s6⟩ => ?_
    subst e6
    refine new_p p3 ?_
    skip
    refine calld_d (C64 ⟨_, rfl, s1.up⟩ ⟨_, rfl, s6.up⟩) m fun v7 h7 p11 p12 m ⟨b7, n7, q7, e7, s7⟩ => ?_
    subst e7
    refine new_p p11 ?_
    ((with_reducible (refine mv_i ?_; refine ex2_0 ?_; refine ex2_1 ?_; refine mv_i ?_; refine mv_i ?_; refine mv_i ?_; refine eql_h (by first | assumption | decide) ?_; refine cnd_t ?_; refine mv_i ?_; refine eql_h (by first | assumption | decide) ?_; refine mv_i ?_; refine gd_tt ?_; refine mv_i ?_; refine gd_tt ?_; refine eql_h (by first | assumption | decide) ?_; refine pick_t ?_; refine mv_i ?_; refine gd_tt ?_; refine mv_i ?_; refine gd_tt ?_; refine mv_i ?_; refine gd_tt ?_)))
    refine call_r (c29 s4.up s7.up) ?_
    rw [decide_eq_true rfl]
    ((with_reducible (refine pick_t ?_; refine mv_i ?_; refine gd_tt ?_)); (refine ldwA ?_); (with_reducible (refine gd_tt ?_)); (refine ldwA ?_); (with_reducible (refine gd_tt ?_; refine mv_i ?_; refine gd_tt ?_)))
    refine call_r (CD ⟨_, rfl, s.up⟩ ⟨_, rfl, s3.up⟩ s4.up) ?_
    ((with_reducible (refine pick_t ?_; refine mv_i ?_; refine ret1 ?_)))
    exact ⟨rfl, m.pre⟩
theorem srt_mem {ys : List Mut} {m : Mut} : m ∈ srt cmpM ys ↔ m ∈ ys := by
  unfold srt
  exact List.mem_mergeSort
theorem c1003 {v y : Value} {x : Mach} {l : List Mut} (s : MacV g v x) (t : L g y l) (hb0 : x.steps.length ≤ 1048576) : DetP Try.prog 3 [v, y] g fun v' _ => v' = .bool true := by
  obtain ⟨tv, rfl, s⟩ := s
  obtain ⟨b0, q0, rfl, _⟩ := s.shape
  have m := Mem.start g
  refine w1003 ?_
  unfold n1003
  refine box_a m fun i2 h2 z2 p2 m => ?_
  by_cases hE : errM x = 0
  · obtain ⟨hx0, hh, hl0, hN⟩ := errM_ok hE
    have C13 := fun {h : Heap} {v : Value} (s : MacV h v x) => c13 (g := h) s hE
    have C21 := fun {h : Heap} {v y : Value} (s : MacV h v x) (t : L h y l) => c21 (g := h) s t hh
    have CJ := fun {h : Heap} {v y : Value} {l : List Mut} (s : MacV h v x) (t : L h y l) (hM : (mutE x l).2 = 0) (h6 : x.states ≤ 6) => cjud (g := h) s t hE hM h6
    ((with_reducible (refine mv_i ?_)))
    refine call_r c11 ?_
    ((with_reducible (refine not_t ?_; refine cnd_f ?_)); (refine ldwA ?_); (refine call_r (c12 ⟨_, by with_unfolding_all rfl, L.up (by assumption)⟩) ?_); (with_reducible (refine neq_h (by first | assumption | decide) ?_; refine mv_i ?_; refine gd_ff ?_; refine fao ?_; refine gd_ff ?_)); (refine ldoA ?_); (with_reducible (refine gd_ff ?_; refine gtr_i (fun hc => ?_) (fun hc => ?_); refine pick_f ?_; refine mv_i ?_; refine gd_tf ?_; refine gd_tf ?_; refine gd_tf ?_; refine pick_t ?_; refine mv_i ?_; refine gd_tf ?_; refine gd_tf ?_; refine gd_tf ?_; refine pick_t ?_; refine cnd_t ?_; refine mv_i ?_; refine ret1 ?_)); (rotate_left); (with_reducible (refine pick_f ?_; refine mv_i ?_; refine gd_ff ?_; refine fao ?_; refine gd_ff ?_)); (refine ldoA ?_); (with_reducible (refine gd_ff ?_; refine gtr_i (fun hc => ?_) (fun hc => ?_); refine pick_f ?_; refine mv_i ?_; refine gd_tf ?_; refine gd_tf ?_; refine gd_tf ?_; refine pick_t ?_; refine cnd_t ?_; refine mv_i ?_; refine ret1 ?_)); (rotate_left); (with_reducible (refine pick_f ?_; refine mv_i ?_; refine gd_ff ?_; refine fao ?_; refine gd_ff ?_)); (refine ldoA ?_); (with_reducible (refine gd_ff ?_; refine gtr_i (fun hc => ?_) (fun hc => ?_); refine pick_f ?_; refine cnd_t ?_; refine mv_i ?_; refine ret1 ?_)); (rotate_left); (with_reducible (refine pick_f ?_; refine cnd_f ?_)); (refine ldwA ?_); (rotate_left))
    all_goals first | rfl | skip
    refine call_d (c14 ⟨_, rfl, s.up⟩ hb0) m fun v1 h1 p1 p2 m ⟨b1, q1, n1, e1, hn1, s1⟩ => ?_
    subst e1
    skip
    refine call_d (C13 ⟨_, rfl, s1.up⟩) m fun v3 h3 p5 p6 m ⟨b3, n3, q3, ys, e3, hnd, hys, s3⟩ => ?_
    subst e3
    ((with_reducible (refine mv_i ?_; refine ex2_0 ?_; refine ex2_1 ?_; refine mv_i ?_; refine mv_i ?_; refine mv_i ?_; refine neq_h (by first | assumption | decide) ?_; refine cnd_f ?_)); (refine ldwA ?_); (with_reducible (refine mv_i ?_)))
    refine call_r (C21 ⟨_, rfl, s.up⟩ t.up) ?_
    unfold mk2
    have lt3 := s3.lt
    ((with_reducible (refine mv_i ?_; refine ex2_0 ?_; refine ex2_1 ?_; refine mv_i ?_; refine mv_i ?_; refine mv_i ?_; refine eql_i (fun hc => ?_) (fun hc => ?_); refine mv_i ?_; refine gd_tt ?_)); (refine ldwA ?_); (with_reducible (refine gd_tt ?_; refine mv_i ?_; refine gd_tt ?_)); (rotate_left); (with_reducible (refine mv_i ?_; refine gd_ft ?_; refine gd_ft ?_; refine gd_ft ?_; refine gd_ft ?_; refine pick_f ?_; refine cnd_f ?_; refine mv_i ?_)); (rotate_left))
    · refine call_r (CJ ⟨_, rfl, s.up⟩ t.up (by assumption) (by omega)) ?_
      ((with_reducible (refine gd_tt ?_; refine not_t ?_; refine pick_t ?_; refine cnd_f ?_; refine mv_i ?_)))
      refine loop1 (srt cmpM ys).length (fun k h2 => Prec h3 h2 ∧ Mem g h2 [⟨some i2, [.int .i64 x.states, .int .i64 x.inputs, .int .i64 x.outputs, .int .i64 x.start, .slice b0 x.steps.length q0], z2⟩]) ⟨⟨Stab.refl _⟩, m⟩ ?_
      rintro k h4 _ hk ⟨p9, m⟩
      ((with_reducible (refine mv_i ?_; refine mv_i ?_; refine len_g (by assumption) ?_; refine lss_i (fun hc => ?_) (fun hc => ?_); refine cnd_t ?_)); (refine ldwA ?_); (refine vb_mac (by assumption) ?_); (with_reducible (refine mv_i ?_; refine mv_i ?_)); (refine idxA fun p hp => ?_); (refine ldr_w (by assumption) (by with_unfolding_all rfl) ?_); (with_reducible (refine vb_f ?_)); (refine bs_g (bs27_1 _ _) (by assumption) fun i h p m => ?_); (rotate_left); (with_reducible (refine cnd_f ?_; refine mv_i ?_; refine ret1 ?_)); (rotate_left))
      · have hkl : k < (srt cmpM ys).length := by omega
        have hmm := ((real_iff x (gt (srt cmpM ys) k)).mpr ((hys _).mp (srt_mem.mp (mem_gt.mpr ⟨k, hkl, rfl⟩)))).1
        refine calld_r (Runs.lent (CJ (l := [gt (srt cmpM ys) k]) ⟨_, rfl, s.lent⟩ (IsSl.lent (o := some i) IsSl.some1 m (by infer_instance) (by simp)) hmm (by omega))) ?_
        ((with_reducible (refine new_n ?_; refine not_t ?_; refine cnd_f ?_; refine mv_i ?_; refine inc_i (by omega) ?_; refine mv_i ?_)))
        exact next1 hkl ⟨⟨Stb.st⟩, m.tail⟩
      · rfl
    ·
      refine loop1 (srt cmpM ys).length (fun k h2 => Prec h3 h2 ∧ Mem g h2 [⟨some i2, [.int .i64 x.states, .int .i64 x.inputs, .int .i64 x.outputs, .int .i64 x.start, .slice b0 x.steps.length q0], z2⟩]) ⟨⟨Stab.refl _⟩, m⟩ ?_
      rintro k h4 _ hk ⟨p9, m⟩
      ((with_reducible (refine mv_i ?_; refine mv_i ?_; refine len_g (by assumption) ?_; refine lss_i (fun hc => ?_) (fun hc => ?_); refine cnd_t ?_)); (refine ldwA ?_); (refine vb_mac (by assumption) ?_); (with_reducible (refine mv_i ?_; refine mv_i ?_)); (refine idxA fun p hp => ?_); (refine ldr_w (by assumption) (by with_unfolding_all rfl) ?_); (with_reducible (refine vb_f ?_)); (refine bs_g (bs27_1 _ _) (by assumption) fun i h p m => ?_); (rotate_left); (with_reducible (refine cnd_f ?_; refine mv_i ?_; refine ret1 ?_)); (rotate_left))
      · have hkl : k < (srt cmpM ys).length := by omega
        have hmm := ((real_iff x (gt (srt cmpM ys) k)).mpr ((hys _).mp (srt_mem.mp (mem_gt.mpr ⟨k, hkl, rfl⟩)))).1
        refine calld_r (Runs.lent (CJ (l := [gt (srt cmpM ys) k]) ⟨_, rfl, s.lent⟩ (IsSl.lent (o := some i) IsSl.some1 m (by infer_instance) (by simp)) hmm (by omega))) ?_
        ((with_reducible (refine new_n ?_; refine not_t ?_; refine cnd_f ?_; refine mv_i ?_; refine inc_i (by omega) ?_; refine mv_i ?_)))
        exact next1 hkl ⟨⟨Stb.st⟩, m.tail⟩
      · rfl
  · ((with_reducible (refine mv_i ?_)))
    refine call_r c11 ?_
    ((with_reducible (refine not_t ?_; refine cnd_f ?_)); (refine ldwA ?_); (refine call_r (c12 ⟨_, by with_unfolding_all rfl, L.up (by assumption)⟩) ?_); (with_reducible (refine neq_n (by first | assumption | decide) ?_; refine mv_i ?_; refine gd_tf ?_; refine gd_tf ?_; refine gd_tf ?_; refine pick_t ?_; refine mv_i ?_; refine gd_tf ?_; refine gd_tf ?_; refine gd_tf ?_; refine pick_t ?_; refine mv_i ?_; refine gd_tf ?_; refine gd_tf ?_; refine gd_tf ?_; refine pick_t ?_; refine cnd_t ?_; refine mv_i ?_; refine ret1 ?_)))
    rfl
end Go.Proofs.Ytgmgmkhenhaniaa

set_option linter.unusedSimpArgs false
set_option linter.unusedVariables false
set_option linter.unnecessarySimpa false
set_option maxRecDepth 100000
namespace Go.Proofs.Ytgmgmkhenhaniaa
open Go.AM
open Go.ChangeShapes Go.WideShapes Go.ChangeAt Go.RowKit
theorem laid : laidOutB Try.prog = true := by kernel_rfl
theorem own : ownKnob Try.prog.godebug = none := by kernel_rfl
def dStp {H : Type} : DataW H → Stp | .agg [a, b, c, d] => ⟨dint a, dint b, dint c, dint d⟩ | _ => Df.d
def dMut {H : Type} : DataW H → Mut | .agg [a, b, c] => ⟨dint a, dint b, dint c⟩ | _ => Df.d
def dMac {H : Type} : DataW H → Mach | .agg [a, b, c, d, e] => ⟨dint a, dint b, dint c, dint d, dlist dStp e⟩ | _ => ⟨0, 0, 0, 0, []⟩
theorem ARd_stp {H : Type} {h : Heap} {cs : List Value} {d : DataW H} (q : ARd Try.prog h 46 cs d) : cs = Flat.cells (dStp d) := by
  obtain ⟨parts, rfl, hl, hp, hf⟩ := q.fields Try.underlying46
  have hl : cs.length = 4 := hl
  obtain ⟨a, b, c, d, rfl⟩ : ∃ a b c d, parts = [a, b, c, d] := by
    match parts, hp with
    | [a, b, c, d], _ => exact ⟨a, b, c, d, rfl⟩
  have g0 : cs[0]? = some (.int .i64 (dint a)) := ARd.f_int (hf 0 _ a rfl rfl) Try.underlying3
  have g1 : cs[1]? = some (.int .i64 (dint b)) := ARd.f_int (hf 1 _ b rfl rfl) Try.underlying3
  have g2 : cs[2]? = some (.int .i64 (dint c)) := ARd.f_int (hf 2 _ c rfl rfl) Try.underlying3
  have g3 : cs[3]? = some (.int .i64 (dint d)) := ARd.f_int (hf 3 _ d rfl rfl) Try.underlying3
  refine List.ext_getElem? fun j => ?_
  by_cases hj : j < 4
  · match j, hj with
    | 0, _ => rw [g0]; rfl
    | 1, _ => rw [g1]; rfl
    | 2, _ => rw [g2]; rfl
    | 3, _ => rw [g3]; rfl
  · rw [List.getElem?_eq_none (by omega), List.getElem?_eq_none (by rw [Flat.len]; show 4 ≤ j; omega)]
theorem ARd_mut {H : Type} {h : Heap} {cs : List Value} {d : DataW H} (q : ARd Try.prog h 36 cs d) : cs = Flat.cells (dMut d) := by
  obtain ⟨parts, rfl, hl, hp, hf⟩ := q.fields Try.underlying36
  have hl : cs.length = 3 := hl
  obtain ⟨a, b, c, rfl⟩ : ∃ a b c, parts = [a, b, c] := by
    match parts, hp with
    | [a, b, c], _ => exact ⟨a, b, c, rfl⟩
  have g0 : cs[0]? = some (.int .i64 (dint a)) := ARd.f_int (hf 0 _ a rfl rfl) Try.underlying3
  have g1 : cs[1]? = some (.int .i64 (dint b)) := ARd.f_int (hf 1 _ b rfl rfl) Try.underlying3
  have g2 : cs[2]? = some (.int .i64 (dint c)) := ARd.f_int (hf 2 _ c rfl rfl) Try.underlying3
  refine List.ext_getElem? fun j => ?_
  by_cases hj : j < 3
  · match j, hj with
    | 0, _ => rw [g0]; rfl
    | 1, _ => rw [g1]; rfl
    | 2, _ => rw [g2]; rfl
  · rw [List.getElem?_eq_none (by omega), List.getElem?_eq_none (by rw [Flat.len]; show 3 ≤ j; omega)]
theorem dl_le {H α : Type} (de : DataW H → α) (d : DataW H) : (dlist de d).length ≤ Rows.uptoBulk d := by
  cases d with
  | slice elems spare =>
    have := bulks.length_le elems
    have := bulks.slice_elems elems spare
    simp only [dlist, List.length_map]; omega
  | lit l => simp [dlist]
  | nil => simp [dlist]
  | ptr d => simp [dlist]
  | agg parts => simp [dlist]
  | iface t d => simp [dlist]
  | map entries => simp [dlist]
  | held h => simp [dlist]
theorem mac_le {H : Type} (d : DataW H) : (dMac d).steps.length ≤ Rows.uptoBulk d := by
  unfold dMac
  split
  · rename_i a b c d e
    have := dl_le dStp e
    simp only [Rows.uptoBulk, Rows.uptoBulkAll]
    omega
  · simp
theorem ARd_mac {H : Type} {h : Heap} {cs : List Value} {d : DataW H} (q : ARd Try.prog h 24 cs d) (hb : (dMac d).steps.length ≤ 2 ^ 50) : MacV h (absV Try.prog 24 cs) (dMac d) := by
  obtain ⟨parts, rfl, hl, hp, hf⟩ := q.fields Try.underlying24
  have hl : cs.length = 5 := hl
  obtain ⟨a, b, c, d, e, rfl⟩ : ∃ a b c d e, parts = [a, b, c, d, e] := by
    match parts, hp with
    | [a, b, c, d, e], _ => exact ⟨a, b, c, d, e, rfl⟩
  have g0 : cs[0]? = some (.int .i64 (dint a)) := ARd.f_int (hf 0 _ a rfl rfl) Try.underlying3
  have g1 : cs[1]? = some (.int .i64 (dint b)) := ARd.f_int (hf 1 _ b rfl rfl) Try.underlying3
  have g2 : cs[2]? = some (.int .i64 (dint c)) := ARd.f_int (hf 2 _ c rfl rfl) Try.underlying3
  have g3 : cs[3]? = some (.int .i64 (dint d)) := ARd.f_int (hf 3 _ d rfl rfl) Try.underlying3
  obtain ⟨o, l, c', e', s⟩ := ARd.list dStp (hf 4 _ e rfl rfl) Try.underlying22 (by kernel_rfl) (fun cs d r => ARd_stp r) hb
  have g4 : cs[4]? = some (.slice o l c') := drop_one e'
  refine ⟨_, ?_, s⟩
  simp only [absV, Try.underlying24]
  congr 1
  have : cs = [.int .i64 (dint a), .int .i64 (dint b), .int .i64 (dint c), .int .i64 (dint d), .slice o l c'] := by
    refine List.ext_getElem? fun j => ?_
    by_cases hj : j < 5
    · match j, hj with
      | 0, _ => rw [g0]; rfl
      | 1, _ => rw [g1]; rfl
      | 2, _ => rw [g2]; rfl
      | 3, _ => rw [g3]; rfl
      | 4, _ => rw [g4]; rfl
    · rw [List.getElem?_eq_none (by omega), List.getElem?_eq_none (by simp; omega)]
  rw [this]; rfl
end Go.Proofs.Ytgmgmkhenhaniaa
