import Derived.Test.YtomiejfeclefaaaPc
set_option linter.unusedSimpArgs false
set_option linter.unusedVariables false
set_option linter.unnecessarySimpa false
set_option maxRecDepth 100000
set_option maxHeartbeats 4000000
namespace Go.Proofs.Ytomiejfeclefaaa
open Go.AM
variable {h g : Heap}
/-! ### the relation that is found is accepted -/
theorem srt_perm (ps : List Pr) : (srt cmpP ps).Perm ps := List.mergeSort_perm _ _
theorem srt_pw {ps : List Pr} (hn : ps.Nodup) : ∀ j k, j < k → k < (srt cmpP ps).length → cmpP (gt (srt cmpP ps) j) (gt (srt cmpP ps) k) < 0 := by
  intro j k hj hk
  have h1 : (srt cmpP ps).Pairwise fun x y => (!(Go.Proofs.ltOf cmpP) y x) = true := List.pairwise_mergeSort (fun a b c h1 h2 => by
    simp only [Bool.not_eq_true'] at *
    exact swoP.ntrans _ _ _ h2 h1) (fun a b => by
    cases e1 : Go.Proofs.ltOf cmpP b a with
    | false => rfl
    | true =>
      have : Go.Proofs.ltOf cmpP a b = false := by rw [ltP] at e1; rw [ltPn]; omega
      simp [this]) ps
  have h2 := List.pairwise_iff_getElem.mp h1 j k (by omega) hk hj
  have h3 := List.pairwise_iff_getElem.mp ((srt_perm ps).nodup_iff.mpr hn) j k (by omega) hk hj
  rw [gt_at, gt_at] at h2 h3
  simp only [Bool.not_eq_true', ltPn] at h2
  rw [cmpP_lt]
  generalize gt (srt cmpP ps) j = a at *
  generalize gt (srt cmpP ps) k = b at *
  have h3 : ¬ a = b := h3
  cases a; cases b
  simp only [Pr.mk.injEq] at *
  omega
theorem rel_srt {x y : Mach} {p0 : Pr} (P : Par x y) (h0 : inP x p0) (hf : (srch x y p0).fnd = none) (hp : p0 = ⟨x.start, y.start⟩) : relE x y (srt cmpP (srch x y p0).ps) = ((srt cmpP (srch x y p0).ps).length, 0) := by
  obtain ⟨h1, h2⟩ := srch_cl P h0 hf
  obtain ⟨hnd, _⟩ := ps_nd P h0
  generalize (srch x y p0).ps = ps at *
  have hm : ∀ p, p ∈ srt cmpP ps ↔ p ∈ ps := fun p => (srt_perm ps).mem_iff
  have hpw := srt_pw hnd
  refine rel_n (fun j hj => ?_) ((hm _).mpr (hp ▸ h1)) fun j hj => ?_
  · have hin := (h2 _ ((hm _).mp (gd_mem Df.d hj))).1
    refine pr_n hin ?_
    rintro ⟨q1, q2⟩
    have := hpw (j - 1) j (by omega) hj
    omega
  · refine prf_no (n := x.inputs.toNat) (Nat.le_refl _) fun w hw => ?_
    obtain ⟨q1, q2⟩ := (h2 _ ((hm _).mp (gd_mem Df.d hj))).2 w hw
    exact And.intro q1 ((hm _).mpr q2)
open Classical in
theorem c8 {v y z : Value} {x : Mach} {l : List Mut} {w : List Int} (s : MacV g v x) (t : L g y l) (r : L g z w) (hb0 : x.steps.length ≤ 1048576) (hl : l.length ≤ 1048576) : DetP Try.prog 8 [v, y, z] g fun v' _ => v' = .bool true := by
  obtain ⟨tv, rfl, s⟩ := s
  obtain ⟨b0, q0, rfl, _⟩ := s.shape
  have m := Mem.start g
  refine w8 ?_
  unfold n8
  by_cases hB : bothE x l = 0
  · obtain ⟨P, h0⟩ := par_x hB
    obtain ⟨hE, _⟩ := bothE_ok hB
    obtain ⟨⟨a1, a2⟩, ⟨a3, a4⟩, _⟩ := (chk_ok P.cx).1
    have C18 := fun {h : Heap} {v y : Value} (s : MacV h v x) (t : L h y l) => c18 (g := h) s t
    rw [hB] at C18
    have C26 := fun {h : Heap} {v : Value} (s : MacV h v x) => c26 (g := h) s
    have C36 := fun {h : Heap} {z : Value} (r : L h z w) => c36 (g := h) r x.inputs 60 ⟨by omega, a4⟩
    by_cases hF : errM x ≠ 0 ∨ x.states ≤ 6 ∧ x.inputs ≤ 3
    · rw [decide_eq_true hF] at C26
      by_cases hW : wordE w x.inputs 60 = 0
      · rw [hW] at C36
        obtain ⟨hw1, hw2⟩ := wordE_ok hW
        have h6 : x.states ≤ 6 := by rcases hF with h | h; exact absurd hE h; exact h.1
        have C31 := fun {h : Heap} {v y : Value} (s : MacV h v x) (t : L h y l) => c31 (g := h) s t hB
        have C32 := fun {h : Heap} {v y : Value} (s : MacV h v x) (t : L h y l) => c32 (g := h) s t hB
        have C37 := fun {h : Heap} {v y z : Value} {w : List Int} (s : MacV h v x) (t : L h y l) (r : L h z w) (hw : inW x w) (hb : w.length ≤ 60) => c37 (g := h) s t r hB hw (by omega)
        have C16 := fun {h : Heap} {v y z : Value} {ps : List Pr} (s : MacV h v x) (t : L h y l) (r : L h z ps) => c16 (g := h) s t r
        rw [hB] at C16
        simp only [ne_eq, not_true_eq_false, if_false] at C16
        generalize mutd x l = ym at C31 C32 C37 C16 P h0
        have hr1 : relP x ym ⟨x.start, ym.start⟩ = if (srch x ym ⟨x.start, ym.start⟩).fnd = none then srt cmpP (srch x ym ⟨x.start, ym.start⟩).ps else [] := rfl
        have hr2 : relC x ym ⟨x.start, ym.start⟩ = if (srch x ym ⟨x.start, ym.start⟩).fnd = none then 0 else 23 := rfl
        have hd1 : difE x ym ⟨x.start, ym.start⟩ = if (srch x ym ⟨x.start, ym.start⟩).fnd = none then 23 else 0 := rfl
        have hd2 : difW x ym ⟨x.start, ym.start⟩ = (srch x ym ⟨x.start, ym.start⟩).fnd.getD [] := rfl
        generalize relP x ym ⟨x.start, ym.start⟩ = rp at C32 hr1
        generalize relC x ym ⟨x.start, ym.start⟩ = rc at C32 hr2
        generalize difE x ym ⟨x.start, ym.start⟩ = de at C31 hd1
        generalize difW x ym ⟨x.start, ym.start⟩ = dw at C31 hd2
        rcases hfn : (srch x ym ⟨x.start, ym.start⟩).fnd with _ | w0
        ·
          have hrel := rel_srt P h0 hfn rfl
          have hno := no_word P h0 hfn w hw1
          rw [hfn] at hr1 hr2 hd1 hd2
          simp only [if_pos, Option.getD_none] at hr1 hr2 hd1 hd2
          have C37 := fun {h : Heap} {v y z : Value} (s : MacV h v x) (t : L h y l) (r : L h z w) => C37 (h := h) s t r hw1 (by omega)
          have C16 := fun {h : Heap} {v y z : Value} (s : MacV h v x) (t : L h y l) (r : L h z (srt cmpP (srch x ym ⟨x.start, ym.start⟩).ps)) => C16 (h := h) s t r
          rw [hrel] at C16
          rw [hno] at C37
          simp only [decide_true, Bool.not_true] at C37
          generalize srt cmpP (srch x ym ⟨x.start, ym.start⟩).ps = sp at C16 hr1
          subst hr1 hr2 hd1 hd2
          clear hfn hrel hno P h0 hF hW hw1
          ((with_reducible (refine box_a (by assumption) fun i h z p m => ?_; refine mv_i ?_));
              (refine call_r c11 ?_);
              (with_reducible (refine not_t ?_; refine cnd_f ?_));
              (refine ldo_w (by assumption) (by infer_instance) (by with_unfolding_all rfl) ?_);
              (with_reducible (refine mv_i ?_)))
          refine call_r (C18 ⟨_, rfl, s.up⟩ t.up) ?_
          ((with_reducible (refine neq_h (by first | assumption | decide) ?_; refine mv_i ?_; refine gd_ff ?_));
              (refine ldo_w (by assumption) (by infer_instance) (by with_unfolding_all rfl) ?_);
              (with_reducible (refine gd_ff ?_)))
          refine call_r (C26 ⟨_, rfl, s.up⟩) ?_
          ((with_reducible (refine gd_ff ?_; refine not_t ?_; refine pick_f ?_; refine mv_i ?_; refine gd_ff ?_; refine mv_i ?_; refine gd_ff ?_; refine fao ?_; refine gd_ff ?_));
              (refine ldo (by assumption) (q := by infer_instance) (by with_unfolding_all rfl) ?_);
              (with_reducible (refine gd_ff ?_)))
          refine call_r (C36 r.up) ?_
          ((with_reducible (refine gd_ff ?_; refine neq_h (by first | assumption | decide) ?_; refine pick_f ?_; refine cnd_f ?_));
              (refine ldo_w (by assumption) (by infer_instance) (by with_unfolding_all rfl) ?_))
          refine call_d (c14 ⟨_, rfl, s.up⟩ hb0) m fun v1 h1 p1 p2 m ⟨b1, q1, n1, e1, hn1, s1⟩ => ?_
          subst e1
          ((with_reducible (refine mv_i ?_)))
          refine call_d (c17 t.up hl) m fun v2 h2 p3 p4 m ⟨b2, q2, n2, e2, hn2, s2⟩ => ?_
          subst e2
          skip
          refine call_d (C31 ⟨_, rfl, s1.up⟩ s2.up) m fun v3 h3 p5 p6 m ⟨b3, n3, q3, e3, s3⟩ => ?_
          subst e3
          ((with_reducible (refine mv_i ?_; refine ex2_0 ?_; refine ex2_1 ?_; refine mv_i ?_; refine mv_i ?_));
              (refine ldo_w (by assumption) (by infer_instance) (by with_unfolding_all rfl) ?_))
          refine call_d (c14 ⟨_, rfl, s.up⟩ hb0) m fun v1 h1 p1 p2 m ⟨b1, q1, n1, e1, hn1, s1⟩ => ?_
          subst e1
          ((with_reducible (refine mv_i ?_)))
          refine call_d (c17 t.up hl) m fun v2 h2 p3 p4 m ⟨b2, q2, n2, e2, hn2, s2⟩ => ?_
          subst e2
          skip
          refine call_d (C32 ⟨_, rfl, s1.up⟩ s2.up) m fun v4 h4 p7 p8 m ⟨b4, n4, q4, e4, s4⟩ => ?_
          subst e4
          ((with_reducible (refine mv_i ?_; refine ex2_0 ?_; refine ex2_1 ?_; refine mv_i ?_; refine mv_i ?_; refine mv_i ?_; refine eql_n (by first | assumption | decide) ?_; refine cnd_f ?_));
              (refine ldo_w (by assumption) (by infer_instance) (by with_unfolding_all rfl) ?_))
          refine call_d (c14 ⟨_, rfl, s.up⟩ hb0) m fun v1 h1 p1 p2 m ⟨b1, q1, n1, e1, hn1, s1⟩ => ?_
          subst e1
          ((with_reducible (refine mv_i ?_)))
          refine call_d (c17 t.up hl) m fun v2 h2 p3 p4 m ⟨b2, q2, n2, e2, hn2, s2⟩ => ?_
          subst e2
          ((with_reducible (refine mv_i ?_)))
          refine call_r (C16 ⟨_, rfl, s1.up⟩ s2.up s4.up) ?_
          unfold mk2
          ((with_reducible (refine mv_i ?_; refine ex2_0 ?_; refine ex2_1 ?_; refine mv_i ?_; refine mv_i ?_; refine mv_i ?_; refine eql_h (by first | assumption | decide) ?_; refine mv_i ?_; refine gd_tt ?_; refine mv_i ?_; refine gd_tt ?_; refine eql_h (by first | assumption | decide) ?_; refine pick_t ?_; refine mv_i ?_; refine gd_tt ?_; refine mv_i ?_; refine gd_tt ?_; refine eql_i (fun hc => ?_) (fun hc => ?_); refine pick_t ?_; refine mv_i ?_; refine gd_tt ?_));
              (refine ldo_w (by assumption) (by infer_instance) (by with_unfolding_all rfl) ?_);
              (with_reducible (refine gd_tt ?_; refine mv_i ?_; refine gd_tt ?_; refine mv_i ?_; refine gd_tt ?_));
              (rotate_left);
              (with_reducible (refine pick_t ?_; refine mv_i ?_; refine gd_ft ?_; refine gd_ft ?_; refine gd_ft ?_; refine gd_ft ?_; refine gd_ft ?_; refine pick_f ?_; refine mv_i ?_; refine ret1 ?_));
              (rotate_left))
          refine call_r (C37 ⟨_, rfl, s.up⟩ t.up r.up) ?_
          ((with_reducible (refine gd_tt ?_; refine not_f ?_; refine pick_t ?_; refine mv_i ?_; refine ret1 ?_));
              (rotate_left);
              (rotate_left))
          all_goals first | rfl | (exact (hc rfl).elim)
        ·
          obtain ⟨hw3, hw4, hw5⟩ := srch_some P h0 h6 hfn
          have hw6 := wordE_in (M := 60) hw3 (by omega)
          rw [hfn] at hr1 hr2 hd1 hd2
          simp only [reduceCtorEq, if_false, Option.getD_some] at hr1 hr2 hd1 hd2
          have C37 := fun {h : Heap} {v y z : Value} (s : MacV h v x) (t : L h y l) (r : L h z w0) => C37 (h := h) s t r hw3 (by omega)
          have C36b := fun {h : Heap} {z : Value} (r : L h z w0) => c36 (g := h) r x.inputs 60 ⟨by omega, a4⟩
          rw [hw6] at C36b
          rw [decide_eq_false hw4] at C37
          simp only [Bool.not_false] at C37
          subst hr1 hr2 hd1 hd2
          clear hfn P h0 hF hW hw1 hw3 hw4 hw6 C16
          ((with_reducible (refine box_a (by assumption) fun i h z p m => ?_; refine mv_i ?_));
              (refine call_r c11 ?_);
              (with_reducible (refine not_t ?_; refine cnd_f ?_));
              (refine ldo_w (by assumption) (by infer_instance) (by with_unfolding_all rfl) ?_);
              (with_reducible (refine mv_i ?_)))
          refine call_r (C18 ⟨_, rfl, s.up⟩ t.up) ?_
          ((with_reducible (refine neq_h (by first | assumption | decide) ?_; refine mv_i ?_; refine gd_ff ?_));
              (refine ldo_w (by assumption) (by infer_instance) (by with_unfolding_all rfl) ?_);
              (with_reducible (refine gd_ff ?_)))
          refine call_r (C26 ⟨_, rfl, s.up⟩) ?_
          ((with_reducible (refine gd_ff ?_; refine not_t ?_; refine pick_f ?_; refine mv_i ?_; refine gd_ff ?_; refine mv_i ?_; refine gd_ff ?_; refine fao ?_; refine gd_ff ?_));
              (refine ldo (by assumption) (q := by infer_instance) (by with_unfolding_all rfl) ?_);
              (with_reducible (refine gd_ff ?_)))
          refine call_r (C36 r.up) ?_
          ((with_reducible (refine gd_ff ?_; refine neq_h (by first | assumption | decide) ?_; refine pick_f ?_; refine cnd_f ?_));
              (refine ldo_w (by assumption) (by infer_instance) (by with_unfolding_all rfl) ?_))
          refine call_d (c14 ⟨_, rfl, s.up⟩ hb0) m fun v1 h1 p1 p2 m ⟨b1, q1, n1, e1, hn1, s1⟩ => ?_
          subst e1
          ((with_reducible (refine mv_i ?_)))
          refine call_d (c17 t.up hl) m fun v2 h2 p3 p4 m ⟨b2, q2, n2, e2, hn2, s2⟩ => ?_
          subst e2
          skip
          refine call_d (C31 ⟨_, rfl, s1.up⟩ s2.up) m fun v3 h3 p5 p6 m ⟨b3, n3, q3, e3, s3⟩ => ?_
          subst e3
          ((with_reducible (refine mv_i ?_; refine ex2_0 ?_; refine ex2_1 ?_; refine mv_i ?_; refine mv_i ?_));
              (refine ldo_w (by assumption) (by infer_instance) (by with_unfolding_all rfl) ?_))
          refine call_d (c14 ⟨_, rfl, s.up⟩ hb0) m fun v1 h1 p1 p2 m ⟨b1, q1, n1, e1, hn1, s1⟩ => ?_
          subst e1
          ((with_reducible (refine mv_i ?_)))
          refine call_d (c17 t.up hl) m fun v2 h2 p3 p4 m ⟨b2, q2, n2, e2, hn2, s2⟩ => ?_
          subst e2
          skip
          refine call_d (C32 ⟨_, rfl, s1.up⟩ s2.up) m fun v4 h4 p7 p8 m ⟨b4, n4, q4, e4, s4⟩ => ?_
          subst e4
          ((with_reducible (refine mv_i ?_; refine ex2_0 ?_; refine ex2_1 ?_; refine mv_i ?_; refine mv_i ?_; refine mv_i ?_; refine eql_h (by first | assumption | decide) ?_; refine cnd_t ?_; refine mv_i ?_; refine eql_h (by first | assumption | decide) ?_; refine mv_i ?_; refine gd_tt ?_; refine mv_i ?_; refine gd_tt ?_; refine fao ?_; refine gd_tt ?_));
              (refine ldo (by assumption) (q := by infer_instance) (by with_unfolding_all rfl) ?_);
              (with_reducible (refine gd_tt ?_)))
          refine call_r (C36b s3.up) ?_
          ((with_reducible (refine gd_tt ?_; refine eql_h (by first | assumption | decide) ?_; refine pick_t ?_; refine mv_i ?_; refine gd_tt ?_));
              (refine ldo_w (by assumption) (by infer_instance) (by with_unfolding_all rfl) ?_);
              (with_reducible (refine gd_tt ?_; refine mv_i ?_; refine gd_tt ?_; refine mv_i ?_; refine gd_tt ?_)))
          refine call_r (C37 ⟨_, rfl, s.up⟩ t.up s3.up) ?_
          ((with_reducible (refine pick_t ?_; refine mv_i ?_; refine ret1 ?_)))
          all_goals first | rfl | (exact (hc rfl).elim)
      · generalize wordE w x.inputs 60 = we at C36 hW
        clear hF P h0
        ((with_reducible (refine box_a (by assumption) fun i h z p m => ?_; refine mv_i ?_));
            (refine call_r c11 ?_);
            (with_reducible (refine not_t ?_; refine cnd_f ?_));
            (refine ldo_w (by assumption) (by infer_instance) (by with_unfolding_all rfl) ?_);
            (with_reducible (refine mv_i ?_)))
        refine call_r (C18 ⟨_, rfl, s.up⟩ t.up) ?_
        ((with_reducible (refine neq_h (by first | assumption | decide) ?_; refine mv_i ?_; refine gd_ff ?_));
            (refine ldo_w (by assumption) (by infer_instance) (by with_unfolding_all rfl) ?_);
            (with_reducible (refine gd_ff ?_)))
        refine call_r (C26 ⟨_, rfl, s.up⟩) ?_
        ((with_reducible (refine gd_ff ?_; refine not_t ?_; refine pick_f ?_; refine mv_i ?_; refine gd_ff ?_; refine mv_i ?_; refine gd_ff ?_; refine fao ?_; refine gd_ff ?_));
            (refine ldo (by assumption) (q := by infer_instance) (by with_unfolding_all rfl) ?_);
            (with_reducible (refine gd_ff ?_)))
        refine call_r (C36 r.up) ?_
        ((with_reducible (refine gd_ff ?_; refine neq_n (by first | assumption | decide) ?_; refine pick_f ?_; refine cnd_t ?_; refine mv_i ?_; refine ret1 ?_)))
        all_goals first | rfl | (exfalso; contradiction)
    · rw [decide_eq_false hF] at C26
      clear hF P h0
      ((with_reducible (refine box_a (by assumption) fun i h z p m => ?_; refine mv_i ?_));
          (refine call_r c11 ?_);
          (with_reducible (refine not_t ?_; refine cnd_f ?_));
          (refine ldo_w (by assumption) (by infer_instance) (by with_unfolding_all rfl) ?_);
          (with_reducible (refine mv_i ?_)))
      refine call_r (C18 ⟨_, rfl, s.up⟩ t.up) ?_
      ((with_reducible (refine neq_h (by first | assumption | decide) ?_; refine mv_i ?_; refine gd_ff ?_));
          (refine ldo_w (by assumption) (by infer_instance) (by with_unfolding_all rfl) ?_);
          (with_reducible (refine gd_ff ?_)))
      refine call_r (C26 ⟨_, rfl, s.up⟩) ?_
      ((with_reducible (refine gd_ff ?_; refine not_f ?_; refine pick_f ?_; refine mv_i ?_; refine gd_tf ?_; refine gd_tf ?_; refine gd_tf ?_; refine gd_tf ?_; refine gd_tf ?_; refine pick_t ?_; refine cnd_t ?_; refine mv_i ?_; refine ret1 ?_)))
      all_goals first | rfl | (exfalso; contradiction)
  · have C18 := fun {h : Heap} {v y : Value} (s : MacV h v x) (t : L h y l) => c18 (g := h) s t
    generalize bothE x l = be at C18 hB
    ((with_reducible (refine box_a (by assumption) fun i h z p m => ?_; refine mv_i ?_));
        (refine call_r c11 ?_);
        (with_reducible (refine not_t ?_; refine cnd_f ?_));
        (refine ldo_w (by assumption) (by infer_instance) (by with_unfolding_all rfl) ?_);
        (with_reducible (refine mv_i ?_)))
    refine call_r (C18 ⟨_, rfl, s.up⟩ t.up) ?_
    ((with_reducible (refine neq_n (by first | assumption | decide) ?_; refine mv_i ?_; refine gd_tf ?_; refine gd_tf ?_; refine gd_tf ?_; refine pick_t ?_; refine mv_i ?_; refine gd_tf ?_; refine gd_tf ?_; refine gd_tf ?_; refine gd_tf ?_; refine gd_tf ?_; refine pick_t ?_; refine cnd_t ?_; refine mv_i ?_; refine ret1 ?_)))
    all_goals first | rfl | (exfalso; contradiction)
end Go.Proofs.Ytomiejfeclefaaa
