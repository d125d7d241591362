import Derived.Test.YtgmgmkhenhaniaaPa
set_option linter.unusedSimpArgs false
set_option linter.unusedVariables false
set_option linter.unnecessarySimpa false
set_option maxRecDepth 100000
set_option maxHeartbeats 4000000
namespace Go.Proofs.Ytgmgmkhenhaniaa
open Go.AM
variable {h g : Heap}
theorem prod_bd {x : Mach} (hh : headOK x) : 1 ≤ x.states * x.inputs ∧ x.states * x.inputs ≤ 320 := by
  obtain ⟨⟨a1, a2⟩, ⟨b1, b2⟩, _⟩ := hh
  have h1 := Int.mul_le_mul a2 b2 (by omega) (by omega : (0 : Int) ≤ 40)
  have h2 := Int.mul_le_mul a1 b1 (by omega) (by omega : (0 : Int) ≤ x.states)
  omega
theorem orOf_lex (a b : Stp) : 0 ≤ orOf [cmpI a.frm b.frm, cmpI a.inp b.inp] ↔ ¬ lexLt a b := by
  rw [orOf_cons, orOf_cons, orOf_nil]
  unfold lexLt cmpI
  repeat' split
  all_goals omega
theorem cmpL_lex (a b : Stp) : 0 ≤ cmpL [a.frm, a.inp] [b.frm, b.inp] ↔ ¬ lexLt a b := by
  unfold lexLt
  simp only [cmpL]
  repeat' split
  all_goals omega
def mk2 (i : Nat) (e : Int) : Value := .tuple #[.int .i64 (i : Int), .int .i64 e]
theorem chk_at {x : Mach} (hh : headOK x) (hl : ¬ x.states * x.inputs < x.steps.length) {k : Nat} {e : Int} (hE : stE x k = e) (hJ : ∀ j, j < k → stE x j = 0) (hk : k < x.steps.length) (he : e ≠ 0) : chkM x = (k, e) := by
  subst hE
  rw [chkM, if_neg (by simpa using hh), if_neg hl, firstErr_at hJ hk he]
theorem chk_no {x : Mach} (hh : headOK x) (hl : ¬ x.states * x.inputs < x.steps.length) (hJ : ∀ j, j < x.steps.length → stE x j = 0) : chkM x = (0, 0) := by
  rw [chkM, if_neg (by simpa using hh), if_neg hl, firstErr_no hJ]
theorem st_r {x : Mach} {k : Nat} (hr : ¬ inR x (gt x.steps k)) : stE x k = 3 := by rw [stE, if_pos hr]
theorem st_o {x : Mach} {k : Nat} (hr : inR x (gt x.steps k)) (h1 : 0 < k) (h2 : ¬ lexLt (gt x.steps (k - 1)) (gt x.steps k)) : stE x k = 14 := by rw [stE, if_neg (by simpa using hr), if_pos ⟨h1, h2⟩]
theorem st_n {x : Mach} {k : Nat} (hr : inR x (gt x.steps k)) (h1 : ¬ (0 < k ∧ ¬ lexLt (gt x.steps (k - 1)) (gt x.steps k))) : stE x k = 0 := by rw [stE, if_neg (by simpa using hr), if_neg h1]
theorem c73 {v : Value} {x : Mach} (s : MacV g v x) : Runs Try.prog 33 [v] g (mk2 (chkM x).1 (chkM x).2) g := by
  obtain ⟨tv, rfl, s⟩ := s
  have lt := s.lt
  have m := Mem.start g
  refine DetP.forget rfl ?_
  refine w73 ?_
  unfold n73
  by_cases hh : headOK x
  · obtain ⟨d1, d2⟩ := prod_bd hh
    have hh' := hh
    obtain ⟨a1, a2, a3, a4⟩ := hh
    ((with_reducible (refine box_a (by assumption) fun i h z p m => ?_; refine mv_i ?_; refine mv_i ?_; refine fao ?_)); (refine ldoA ?_); (refine call_r (c53 _ _ _) ?_); (with_reducible (refine not_dh (by assumption) ?_; refine mv_i ?_; refine gd_ff ?_; refine fao ?_; refine gd_ff ?_)); (refine ldoA ?_); (with_reducible (refine gd_ff ?_)); (refine call_r (c53 _ _ _) ?_); (with_reducible (refine gd_ff ?_; refine not_dh (by assumption) ?_; refine pick_f ?_; refine mv_i ?_; refine gd_ff ?_; refine fao ?_; refine gd_ff ?_)); (refine ldoA ?_); (with_reducible (refine gd_ff ?_)); (refine call_r (c53 _ _ _) ?_); (with_reducible (refine gd_ff ?_; refine not_dh (by assumption) ?_; refine pick_f ?_; refine mv_i ?_; refine gd_ff ?_; refine fao ?_; refine gd_ff ?_)); (refine ldoA ?_); (with_reducible (refine gd_ff ?_; refine fao ?_; refine gd_ff ?_)); (refine ldoA ?_); (with_reducible (refine gd_ff ?_; refine sub_a (by assumption) (by decide) (by decide) ?_; refine gd_ff ?_)); (refine call_r (c53 _ _ _) ?_); (with_reducible (refine gd_ff ?_; refine not_dh (by assumption) ?_; refine pick_f ?_; refine cnd_f ?_; refine fao ?_)); (refine ldoA ?_); (with_reducible (refine len_g (by assumption) ?_; refine fao ?_)); (refine ldoA ?_); (with_reducible (refine fao ?_)); (refine ldoA ?_); (refine mul_j (by omega) (by omega) ?_); (with_reducible (refine gtr_i (fun hc => ?_) (fun hc => ?_); refine cnd_t ?_; refine mv_i ?_; refine mv_i ?_; refine ret2 ?_)); (rotate_left); (with_reducible (refine cnd_f ?_; refine mv_i ?_)); (rotate_left))
    · have hl : chkM x = (0, 2) := by rw [chkM, if_neg (by simpa using hh'), if_pos (by omega)]
      rw [hl]
      exact ⟨rfl, Mem.pre (by assumption)⟩
    · have hlen := hc
      refine loop1 x.steps.length (fun k h2 => Prec h h2 ∧ Mem g h2 [⟨some i, [.int .i64 x.states, .int .i64 x.inputs, .int .i64 x.outputs, .int .i64 x.start, tv], z⟩] ∧ ∀ j, j < k → stE x j = 0) ⟨⟨Stab.refl _⟩, m, fun j hj => by omega⟩ ?_
      rintro k h2 _ hk ⟨p2, m, hJ⟩
      clear d1 d2
      by_cases hkl : k < x.steps.length
      · by_cases hr : inR x (gt x.steps k)
        · have hr' := hr
          obtain ⟨r1, r2, r3, r4⟩ := hr
          ((with_reducible (refine mv_i ?_; refine fao ?_)); (refine ldoA ?_); (with_reducible (refine len_g (by assumption) ?_; refine lss_i (fun hc => ?_) (fun hc => ?_); refine cnd_t ?_; refine fao ?_)); (refine ldoA ?_); (with_reducible (refine mv_i ?_)); (refine idxA fun p hp => ?_); (refine ldr_w (by assumption) (by with_unfolding_all rfl) ?_); (with_reducible (refine alloc_z (by assumption) fun i h z p m => ?_)); (refine st_w (by assumption) (by infer_instance) (by with_unfolding_all rfl) (by with_unfolding_all rfl) (by first | rfl | exact flat_ones (Flat.flat _)) (by infer_instance) fun h p m => ?_); (with_reducible (refine fao ?_)); (refine ldoA ?_); (with_reducible (refine fao ?_)); (refine ldoA ?_); (with_reducible (refine sub_a (by assumption) (by decide) (by decide) ?_)); (refine call_r (c53 _ _ _) ?_); (with_reducible (refine not_dh (by assumption) ?_; refine mv_i ?_; refine gd_ff ?_; refine fao ?_; refine gd_ff ?_)); (refine ldoA ?_); (with_reducible (refine gd_ff ?_; refine fao ?_; refine gd_ff ?_)); (refine ldoA ?_); (with_reducible (refine gd_ff ?_; refine sub_a (by assumption) (by decide) (by decide) ?_; refine gd_ff ?_)); (refine call_r (c53 _ _ _) ?_); (with_reducible (refine gd_ff ?_; refine not_dh (by assumption) ?_; refine pick_f ?_; refine mv_i ?_; refine gd_ff ?_; refine fao ?_; refine gd_ff ?_)); (refine ldoA ?_); (with_reducible (refine gd_ff ?_; refine fao ?_; refine gd_ff ?_)); (refine ldoA ?_); (with_reducible (refine gd_ff ?_; refine sub_a (by assumption) (by decide) (by decide) ?_; refine gd_ff ?_)); (refine call_r (c53 _ _ _) ?_); (with_reducible (refine gd_ff ?_; refine not_dh (by assumption) ?_; refine pick_f ?_; refine mv_i ?_; refine gd_ff ?_; refine fao ?_; refine gd_ff ?_)); (refine ldoA ?_); (with_reducible (refine gd_ff ?_; refine fao ?_; refine gd_ff ?_)); (refine ldoA ?_); (with_reducible (refine gd_ff ?_; refine sub_a (by assumption) (by decide) (by decide) ?_; refine gd_ff ?_)); (refine call_r (c53 _ _ _) ?_); (with_reducible (refine gd_ff ?_; refine not_dh (by assumption) ?_; refine pick_f ?_; refine cnd_f ?_; refine mv_i ?_; refine gtr_i (fun hc => ?_) (fun hc => ?_); refine mv_i ?_; refine gd_tt ?_; refine fao ?_; refine gd_tt ?_)); (refine ldoA ?_); (with_reducible (refine vb_l (by assumption) ?_; refine gd_tt ?_; refine mv_i ?_; refine gd_tt ?_; refine sub_j (by omega) (by omega) ?_; refine gd_tt ?_)); (refine idx_dp (by assumption) (by with_unfolding_all rfl) (by omega) (by omega) fun p hp => ?_); (with_reducible (refine gd_tt ?_; refine fa_g (by assumption) fun p hp => ?_; refine gd_tt ?_)); (refine ldgA ?_); (refine vbA ?_); (with_reducible (refine gd_tt ?_; refine fao ?_; refine gd_tt ?_)); (refine ldoA ?_); (with_reducible (refine vb_l (by assumption) ?_; refine gd_tt ?_; refine mv_i ?_; refine gd_tt ?_; refine sub_j (by omega) (by omega) ?_; refine gd_tt ?_)); (refine idx_dp (by assumption) (by with_unfolding_all rfl) (by omega) (by omega) fun p hp => ?_); (with_reducible (refine gd_tt ?_; refine fa_g (by assumption) fun p hp => ?_; refine gd_tt ?_)); (refine ldgA ?_); (refine vbA ?_); (with_reducible (refine gd_tt ?_)); (refine bs_g (bs53_2 _ _ _) (by assumption) fun i h p m => ?_); (with_reducible (refine gd_tt ?_; refine fao ?_; refine gd_tt ?_)); (refine ldoA ?_); (refine vbA ?_); (with_reducible (refine gd_tt ?_; refine fao ?_; refine gd_tt ?_)); (refine ldoA ?_); (refine vbA ?_); (with_reducible (refine gd_tt ?_)); (refine bs_g (bs53_2 _ _ _) (by assumption) fun i h p m => ?_); (with_reducible (refine gd_tt ?_)); (refine calld_r (c54 (own_ints (xs := [_, _]) (by assumption) (q := by infer_instance) rfl rfl (by decide)) (own_ints (xs := [_, _]) (by assumption) (q := by infer_instance) rfl rfl (by decide))) ?_); (with_reducible (refine new_n ?_; refine gd_tt ?_; refine geq_i (fun hc => ?_) (fun hc => ?_); refine pick_t ?_; refine cnd_t ?_; refine mv_i ?_; refine mv_i ?_; refine mv_i ?_; refine ret2 ?_)); (rotate_left); (with_reducible (refine pick_t ?_; refine cnd_f ?_; refine mv_i ?_; refine inc_i (by omega) ?_; refine mv_i ?_)); (rotate_left); (with_reducible (refine mv_i ?_; refine gd_ft ?_; refine gd_ft ?_; refine gd_ft ?_; refine gd_ft ?_; refine gd_ft ?_; refine gd_ft ?_; refine gd_ft ?_; refine gd_ft ?_; refine gd_ft ?_; refine gd_ft ?_; refine gd_ft ?_; refine gd_ft ?_; refine gd_ft ?_; refine gd_ft ?_; refine gd_ft ?_; refine gd_ft ?_; refine gd_ft ?_; refine gd_ft ?_; refine gd_ft ?_; refine gd_ft ?_; refine gd_ft ?_; refine gd_ft ?_; refine pick_f ?_; refine cnd_f ?_; refine mv_i ?_; refine inc_i (by omega) ?_; refine mv_i ?_)); (rotate_left); (with_reducible (refine cnd_f ?_; refine mv_i ?_; refine mv_i ?_; refine ret2 ?_)); (rotate_left))
          all_goals (try (exfalso; omega))
          all_goals first
            | exact ⟨by rw [chk_at hh' hlen (st_o hr' (by omega) (by first | exact (cmpL_lex _ _).mp (by assumption) | exact (orOf_lex _ _).mp (by assumption))) hJ hkl (by decide)]; rfl, Mem.pre (by assumption)⟩
            | exact next1 hkl ⟨⟨Stb.st⟩, m.sub (by simp), up_no (st_n hr' (by rintro ⟨q1, q2⟩; first | omega | exact absurd ((cmpL_lex _ _).mpr q2) (by assumption) | exact absurd ((orOf_lex _ _).mpr q2) (by assumption))) hJ⟩
        · ((with_reducible (refine mv_i ?_; refine fao ?_)); (refine ldoA ?_); (with_reducible (refine len_g (by assumption) ?_; refine lss_i (fun hc => ?_) (fun hc => ?_); refine cnd_t ?_; refine fao ?_)); (refine ldoA ?_); (with_reducible (refine mv_i ?_)); (refine idxA fun p hp => ?_); (refine ldr_w (by assumption) (by with_unfolding_all rfl) ?_); (with_reducible (refine alloc_z (by assumption) fun i h z p m => ?_)); (refine st_w (by assumption) (by infer_instance) (by with_unfolding_all rfl) (by with_unfolding_all rfl) (by first | rfl | exact flat_ones (Flat.flat _)) (by infer_instance) fun h p m => ?_); (with_reducible (refine fao ?_)); (refine ldoA ?_); (with_reducible (refine fao ?_)); (refine ldoA ?_); (with_reducible (refine sub_a (by assumption) (by decide) (by decide) ?_)); (refine call_r (c53 _ _ _) ?_); (with_reducible (refine not_d (fun hb => ?_) (fun hb => ?_); refine mv_i ?_; refine gd_ff ?_; refine fao ?_; refine gd_ff ?_)); (refine ldoA ?_); (with_reducible (refine gd_ff ?_; refine fao ?_; refine gd_ff ?_)); (refine ldoA ?_); (with_reducible (refine gd_ff ?_; refine sub_a (by assumption) (by decide) (by decide) ?_; refine gd_ff ?_)); (refine call_r (c53 _ _ _) ?_); (with_reducible (refine gd_ff ?_; refine not_d (fun hb => ?_) (fun hb => ?_); refine pick_f ?_; refine mv_i ?_; refine gd_ff ?_; refine fao ?_; refine gd_ff ?_)); (refine ldoA ?_); (with_reducible (refine gd_ff ?_; refine fao ?_; refine gd_ff ?_)); (refine ldoA ?_); (with_reducible (refine gd_ff ?_; refine sub_a (by assumption) (by decide) (by decide) ?_; refine gd_ff ?_)); (refine call_r (c53 _ _ _) ?_); (with_reducible (refine gd_ff ?_; refine not_d (fun hb => ?_) (fun hb => ?_); refine pick_f ?_; refine mv_i ?_; refine gd_ff ?_; refine fao ?_; refine gd_ff ?_)); (refine ldoA ?_); (with_reducible (refine gd_ff ?_; refine fao ?_; refine gd_ff ?_)); (refine ldoA ?_); (with_reducible (refine gd_ff ?_; refine sub_a (by assumption) (by decide) (by decide) ?_; refine gd_ff ?_)); (refine call_r (c53 _ _ _) ?_); (with_reducible (refine gd_ff ?_; refine not_d (fun hb => ?_) (fun hb => ?_); refine pick_f ?_; refine cnd_f ?_; refine mv_i ?_; refine gtr_i (fun hc => ?_) (fun hc => ?_); refine mv_i ?_; refine gd_tt ?_; refine fao ?_; refine gd_tt ?_)); (refine ldoA ?_); (with_reducible (refine vb_l (by assumption) ?_; refine gd_tt ?_; refine mv_i ?_; refine gd_tt ?_; refine sub_j (by omega) (by omega) ?_; refine gd_tt ?_)); (refine idx_dp (by assumption) (by with_unfolding_all rfl) (by omega) (by omega) fun p hp => ?_); (with_reducible (refine gd_tt ?_; refine fa_g (by assumption) fun p hp => ?_; refine gd_tt ?_)); (refine ldgA ?_); (refine vbA ?_); (with_reducible (refine gd_tt ?_; refine fao ?_; refine gd_tt ?_)); (refine ldoA ?_); (with_reducible (refine vb_l (by assumption) ?_; refine gd_tt ?_; refine mv_i ?_; refine gd_tt ?_; refine sub_j (by omega) (by omega) ?_; refine gd_tt ?_)); (refine idx_dp (by assumption) (by with_unfolding_all rfl) (by omega) (by omega) fun p hp => ?_); (with_reducible (refine gd_tt ?_; refine fa_g (by assumption) fun p hp => ?_; refine gd_tt ?_)); (refine ldgA ?_); (refine vbA ?_); (with_reducible (refine gd_tt ?_)); (refine bs_g (bs53_2 _ _ _) (by assumption) fun i h p m => ?_); (with_reducible (refine gd_tt ?_; refine fao ?_; refine gd_tt ?_)); (refine ldoA ?_); (refine vbA ?_); (with_reducible (refine gd_tt ?_; refine fao ?_; refine gd_tt ?_)); (refine ldoA ?_); (refine vbA ?_); (with_reducible (refine gd_tt ?_)); (refine bs_g (bs53_2 _ _ _) (by assumption) fun i h p m => ?_); (with_reducible (refine gd_tt ?_)); (refine calld_r (c54 (own_ints (xs := [_, _]) (by assumption) (q := by infer_instance) rfl rfl (by decide)) (own_ints (xs := [_, _]) (by assumption) (q := by infer_instance) rfl rfl (by decide))) ?_); (with_reducible (refine new_n ?_; refine gd_tt ?_; refine geq_i (fun hc => ?_) (fun hc => ?_); refine pick_t ?_; refine cnd_t ?_; refine mv_i ?_; refine mv_i ?_; refine mv_i ?_; refine ret2 ?_)); (rotate_left); (with_reducible (refine pick_t ?_; refine cnd_f ?_; refine mv_i ?_; refine inc_i (by omega) ?_; refine mv_i ?_)); (rotate_left); (with_reducible (refine mv_i ?_; refine gd_ft ?_; refine gd_ft ?_; refine gd_ft ?_; refine gd_ft ?_; refine gd_ft ?_; refine gd_ft ?_; refine gd_ft ?_; refine gd_ft ?_; refine gd_ft ?_; refine gd_ft ?_; refine gd_ft ?_; refine gd_ft ?_; refine gd_ft ?_; refine gd_ft ?_; refine gd_ft ?_; refine gd_ft ?_; refine gd_ft ?_; refine gd_ft ?_; refine gd_ft ?_; refine gd_ft ?_; refine gd_ft ?_; refine gd_ft ?_; refine pick_f ?_; refine cnd_f ?_; refine mv_i ?_; refine inc_i (by omega) ?_; refine mv_i ?_)); (rotate_left); (with_reducible (refine pick_f ?_; refine cnd_t ?_; refine mv_i ?_; refine mv_i ?_; refine mv_i ?_; refine ret2 ?_)); (rotate_left); (with_reducible (refine pick_f ?_; refine mv_i ?_; refine gd_tf ?_; refine gd_tf ?_; refine gd_tf ?_; refine gd_tf ?_; refine gd_tf ?_; refine gd_tf ?_; refine gd_tf ?_; refine pick_t ?_; refine cnd_t ?_; refine mv_i ?_; refine mv_i ?_; refine mv_i ?_; refine ret2 ?_)); (rotate_left); (with_reducible (refine pick_f ?_; refine mv_i ?_; refine gd_tf ?_; refine gd_tf ?_; refine gd_tf ?_; refine gd_tf ?_; refine gd_tf ?_; refine gd_tf ?_; refine gd_tf ?_; refine pick_t ?_; refine mv_i ?_; refine gd_tf ?_; refine gd_tf ?_; refine gd_tf ?_; refine gd_tf ?_; refine gd_tf ?_; refine gd_tf ?_; refine gd_tf ?_; refine pick_t ?_; refine cnd_t ?_; refine mv_i ?_; refine mv_i ?_; refine mv_i ?_; refine ret2 ?_)); (rotate_left); (with_reducible (refine mv_i ?_; refine gd_tf ?_; refine gd_tf ?_; refine gd_tf ?_; refine gd_tf ?_; refine gd_tf ?_; refine gd_tf ?_; refine gd_tf ?_; refine pick_t ?_; refine mv_i ?_; refine gd_tf ?_; refine gd_tf ?_; refine gd_tf ?_; refine gd_tf ?_; refine gd_tf ?_; refine gd_tf ?_; refine gd_tf ?_; refine pick_t ?_; refine mv_i ?_; refine gd_tf ?_; refine gd_tf ?_; refine gd_tf ?_; refine gd_tf ?_; refine gd_tf ?_; refine gd_tf ?_; refine gd_tf ?_; refine pick_t ?_; refine cnd_t ?_; refine mv_i ?_; refine mv_i ?_; refine mv_i ?_; refine ret2 ?_)); (rotate_left); (with_reducible (refine cnd_f ?_; refine mv_i ?_; refine mv_i ?_; refine ret2 ?_)); (rotate_left))
          all_goals first
            | (exfalso; omega)
            | exact (hr ⟨by assumption, by assumption, by assumption, by assumption⟩).elim
            | exact ⟨by rw [chk_at hh' hlen (st_r hr) hJ hkl (by decide)]; rfl, Mem.pre (by assumption)⟩
      · ((with_reducible (refine mv_i ?_; refine fao ?_)); (refine ldoA ?_); (with_reducible (refine len_g (by assumption) ?_; refine lss_i (fun hc => ?_) (fun hc => ?_); refine cnd_t ?_; refine fao ?_)); (refine ldoA ?_); (with_reducible (refine mv_i ?_)); (refine idxA fun p hp => ?_); (refine ldr_w (by assumption) (by with_unfolding_all rfl) ?_); (with_reducible (refine alloc_z (by assumption) fun i h z p m => ?_)); (refine st_w (by assumption) (by infer_instance) (by with_unfolding_all rfl) (by with_unfolding_all rfl) (by first | rfl | exact flat_ones (Flat.flat _)) (by infer_instance) fun h p m => ?_); (with_reducible (refine fao ?_)); (refine ldoA ?_); (with_reducible (refine fao ?_)); (refine ldoA ?_); (with_reducible (refine sub_a (by assumption) (by decide) (by decide) ?_)); (refine call_r (c53 _ _ _) ?_); (with_reducible (refine not_d (fun hb => ?_) (fun hb => ?_); refine mv_i ?_; refine gd_ff ?_; refine fao ?_; refine gd_ff ?_)); (refine ldoA ?_); (with_reducible (refine gd_ff ?_; refine fao ?_; refine gd_ff ?_)); (refine ldoA ?_); (with_reducible (refine gd_ff ?_; refine sub_a (by assumption) (by decide) (by decide) ?_; refine gd_ff ?_)); (refine call_r (c53 _ _ _) ?_); (with_reducible (refine gd_ff ?_; refine not_d (fun hb => ?_) (fun hb => ?_); refine pick_f ?_; refine mv_i ?_; refine gd_ff ?_; refine fao ?_; refine gd_ff ?_)); (refine ldoA ?_); (with_reducible (refine gd_ff ?_; refine fao ?_; refine gd_ff ?_)); (refine ldoA ?_); (with_reducible (refine gd_ff ?_; refine sub_a (by assumption) (by decide) (by decide) ?_; refine gd_ff ?_)); (refine call_r (c53 _ _ _) ?_); (with_reducible (refine gd_ff ?_; refine not_d (fun hb => ?_) (fun hb => ?_); refine pick_f ?_; refine mv_i ?_; refine gd_ff ?_; refine fao ?_; refine gd_ff ?_)); (refine ldoA ?_); (with_reducible (refine gd_ff ?_; refine fao ?_; refine gd_ff ?_)); (refine ldoA ?_); (with_reducible (refine gd_ff ?_; refine sub_a (by assumption) (by decide) (by decide) ?_; refine gd_ff ?_)); (refine call_r (c53 _ _ _) ?_); (with_reducible (refine gd_ff ?_; refine not_d (fun hb => ?_) (fun hb => ?_); refine pick_f ?_; refine cnd_f ?_; refine mv_i ?_; refine gtr_i (fun hc => ?_) (fun hc => ?_); refine mv_i ?_; refine gd_tt ?_; refine fao ?_; refine gd_tt ?_)); (refine ldoA ?_); (with_reducible (refine vb_l (by assumption) ?_; refine gd_tt ?_; refine mv_i ?_; refine gd_tt ?_; refine sub_j (by omega) (by omega) ?_; refine gd_tt ?_)); (refine idx_dp (by assumption) (by with_unfolding_all rfl) (by omega) (by omega) fun p hp => ?_); (with_reducible (refine gd_tt ?_; refine fa_g (by assumption) fun p hp => ?_; refine gd_tt ?_)); (refine ldgA ?_); (refine vbA ?_); (with_reducible (refine gd_tt ?_; refine fao ?_; refine gd_tt ?_)); (refine ldoA ?_); (with_reducible (refine vb_l (by assumption) ?_; refine gd_tt ?_; refine mv_i ?_; refine gd_tt ?_; refine sub_j (by omega) (by omega) ?_; refine gd_tt ?_)); (refine idx_dp (by assumption) (by with_unfolding_all rfl) (by omega) (by omega) fun p hp => ?_); (with_reducible (refine gd_tt ?_; refine fa_g (by assumption) fun p hp => ?_; refine gd_tt ?_)); (refine ldgA ?_); (refine vbA ?_); (with_reducible (refine gd_tt ?_)); (refine bs_g (bs53_2 _ _ _) (by assumption) fun i h p m => ?_); (with_reducible (refine gd_tt ?_; refine fao ?_; refine gd_tt ?_)); (refine ldoA ?_); (refine vbA ?_); (with_reducible (refine gd_tt ?_; refine fao ?_; refine gd_tt ?_)); (refine ldoA ?_); (refine vbA ?_); (with_reducible (refine gd_tt ?_)); (refine bs_g (bs53_2 _ _ _) (by assumption) fun i h p m => ?_); (with_reducible (refine gd_tt ?_)); (refine calld_r (c54 (own_ints (xs := [_, _]) (by assumption) (q := by infer_instance) rfl rfl (by decide)) (own_ints (xs := [_, _]) (by assumption) (q := by infer_instance) rfl rfl (by decide))) ?_); (with_reducible (refine new_n ?_; refine gd_tt ?_; refine geq_i (fun hc => ?_) (fun hc => ?_); refine pick_t ?_; refine cnd_t ?_; refine mv_i ?_; refine mv_i ?_; refine mv_i ?_; refine ret2 ?_)); (rotate_left); (with_reducible (refine pick_t ?_; refine cnd_f ?_; refine mv_i ?_; refine inc_i (by omega) ?_; refine mv_i ?_)); (rotate_left); (with_reducible (refine mv_i ?_; refine gd_ft ?_; refine gd_ft ?_; refine gd_ft ?_; refine gd_ft ?_; refine gd_ft ?_; refine gd_ft ?_; refine gd_ft ?_; refine gd_ft ?_; refine gd_ft ?_; refine gd_ft ?_; refine gd_ft ?_; refine gd_ft ?_; refine gd_ft ?_; refine gd_ft ?_; refine gd_ft ?_; refine gd_ft ?_; refine gd_ft ?_; refine gd_ft ?_; refine gd_ft ?_; refine gd_ft ?_; refine gd_ft ?_; refine gd_ft ?_; refine pick_f ?_; refine cnd_f ?_; refine mv_i ?_; refine inc_i (by omega) ?_; refine mv_i ?_)); (rotate_left); (with_reducible (refine pick_f ?_; refine cnd_t ?_; refine mv_i ?_; refine mv_i ?_; refine mv_i ?_; refine ret2 ?_)); (rotate_left); (with_reducible (refine pick_f ?_; refine mv_i ?_; refine gd_tf ?_; refine gd_tf ?_; refine gd_tf ?_; refine gd_tf ?_; refine gd_tf ?_; refine gd_tf ?_; refine gd_tf ?_; refine pick_t ?_; refine cnd_t ?_; refine mv_i ?_; refine mv_i ?_; refine mv_i ?_; refine ret2 ?_)); (rotate_left); (with_reducible (refine pick_f ?_; refine mv_i ?_; refine gd_tf ?_; refine gd_tf ?_; refine gd_tf ?_; refine gd_tf ?_; refine gd_tf ?_; refine gd_tf ?_; refine gd_tf ?_; refine pick_t ?_; refine mv_i ?_; refine gd_tf ?_; refine gd_tf ?_; refine gd_tf ?_; refine gd_tf ?_; refine gd_tf ?_; refine gd_tf ?_; refine gd_tf ?_; refine pick_t ?_; refine cnd_t ?_; refine mv_i ?_; refine mv_i ?_; refine mv_i ?_; refine ret2 ?_)); (rotate_left); (with_reducible (refine mv_i ?_; refine gd_tf ?_; refine gd_tf ?_; refine gd_tf ?_; refine gd_tf ?_; refine gd_tf ?_; refine gd_tf ?_; refine gd_tf ?_; refine pick_t ?_; refine mv_i ?_; refine gd_tf ?_; refine gd_tf ?_; refine gd_tf ?_; refine gd_tf ?_; refine gd_tf ?_; refine gd_tf ?_; refine gd_tf ?_; refine pick_t ?_; refine mv_i ?_; refine gd_tf ?_; refine gd_tf ?_; refine gd_tf ?_; refine gd_tf ?_; refine gd_tf ?_; refine gd_tf ?_; refine gd_tf ?_; refine pick_t ?_; refine cnd_t ?_; refine mv_i ?_; refine mv_i ?_; refine mv_i ?_; refine ret2 ?_)); (rotate_left); (with_reducible (refine cnd_f ?_; refine mv_i ?_; refine mv_i ?_; refine ret2 ?_)); (rotate_left))
        all_goals (try (exfalso; omega))
        exact ⟨by rw [chk_no hh' hlen fun j hj => hJ j (by omega)]; rfl, Mem.pre (by assumption)⟩
  · have hl : chkM x = (0, 3) := by rw [chkM, if_pos hh]
    rw [hl]
    ((with_reducible (refine box_a (by assumption) fun i h z p m => ?_; refine mv_i ?_; refine mv_i ?_; refine fao ?_)); (refine ldoA ?_); (refine call_r (c53 _ _ _) ?_); (with_reducible (refine not_d (fun hb => ?_) (fun hb => ?_); refine mv_i ?_; refine gd_ff ?_; refine fao ?_; refine gd_ff ?_)); (refine ldoA ?_); (with_reducible (refine gd_ff ?_)); (refine call_r (c53 _ _ _) ?_); (with_reducible (refine gd_ff ?_; refine not_d (fun hb => ?_) (fun hb => ?_); refine pick_f ?_; refine mv_i ?_; refine gd_ff ?_; refine fao ?_; refine gd_ff ?_)); (refine ldoA ?_); (with_reducible (refine gd_ff ?_)); (refine call_r (c53 _ _ _) ?_); (with_reducible (refine gd_ff ?_; refine not_d (fun hb => ?_) (fun hb => ?_); refine pick_f ?_; refine mv_i ?_; refine gd_ff ?_; refine fao ?_; refine gd_ff ?_)); (refine ldoA ?_); (with_reducible (refine gd_ff ?_; refine fao ?_; refine gd_ff ?_)); (refine ldoA ?_); (with_reducible (refine gd_ff ?_; refine sub_a (by assumption) (by decide) (by decide) ?_; refine gd_ff ?_)); (refine call_r (c53 _ _ _) ?_); (with_reducible (refine gd_ff ?_; refine not_d (fun hb => ?_) (fun hb => ?_); refine pick_f ?_; refine cnd_f ?_; refine fao ?_)); (refine ldoA ?_); (with_reducible (refine len_g (by assumption) ?_; refine fao ?_)); (refine ldoA ?_); (with_reducible (refine fao ?_)); (refine ldoA ?_); (rotate_left); (with_reducible (refine pick_f ?_; refine cnd_t ?_; refine mv_i ?_; refine mv_i ?_; refine ret2 ?_)); (rotate_left); (with_reducible (refine pick_f ?_; refine mv_i ?_; refine gd_tf ?_; refine gd_tf ?_; refine gd_tf ?_; refine gd_tf ?_; refine gd_tf ?_; refine gd_tf ?_; refine gd_tf ?_; refine pick_t ?_; refine cnd_t ?_; refine mv_i ?_; refine mv_i ?_; refine ret2 ?_)); (rotate_left); (with_reducible (refine pick_f ?_; refine mv_i ?_; refine gd_tf ?_; refine gd_tf ?_; refine gd_tf ?_; refine gd_tf ?_; refine pick_t ?_; refine mv_i ?_; refine gd_tf ?_; refine gd_tf ?_; refine gd_tf ?_; refine gd_tf ?_; refine gd_tf ?_; refine gd_tf ?_; refine gd_tf ?_; refine pick_t ?_; refine cnd_t ?_; refine mv_i ?_; refine mv_i ?_; refine ret2 ?_)); (rotate_left); (with_reducible (refine mv_i ?_; refine gd_tf ?_; refine gd_tf ?_; refine gd_tf ?_; refine gd_tf ?_; refine pick_t ?_; refine mv_i ?_; refine gd_tf ?_; refine gd_tf ?_; refine gd_tf ?_; refine gd_tf ?_; refine pick_t ?_; refine mv_i ?_; refine gd_tf ?_; refine gd_tf ?_; refine gd_tf ?_; refine gd_tf ?_; refine gd_tf ?_; refine gd_tf ?_; refine gd_tf ?_; refine pick_t ?_; refine cnd_t ?_; refine mv_i ?_; refine mv_i ?_; refine ret2 ?_)); (rotate_left))
    all_goals first
      | exact ⟨rfl, Mem.pre (by assumption)⟩
      | exact (hh ⟨by assumption, by assumption, by assumption, by assumption⟩).elim
theorem c75 {v : Value} {x : Mach} (s : MacV g v x) : Runs Try.prog 35 [v] g (mk2 (chkM x).1 (chkM x).2) g := by
  obtain ⟨tv, rfl, s⟩ := s
  have lt := s.lt
  have m := Mem.start g
  refine DetP.forget rfl ?_
  refine w75 ?_
  unfold n75
  by_cases hh : headOK x
  · obtain ⟨d1, d2⟩ := prod_bd hh
    have hh' := hh
    obtain ⟨a1, a2, a3, a4⟩ := hh
    ((with_reducible (refine box_a (by assumption) fun i h z p m => ?_; refine mv_i ?_; refine mv_i ?_; refine fao ?_)); (refine ldoA ?_); (refine call_r (c96 _ _ _) ?_); (with_reducible (refine not_dh (by assumption) ?_; refine mv_i ?_; refine gd_ff ?_; refine fao ?_; refine gd_ff ?_)); (refine ldoA ?_); (with_reducible (refine gd_ff ?_)); (refine call_r (c96 _ _ _) ?_); (with_reducible (refine gd_ff ?_; refine not_dh (by assumption) ?_; refine pick_f ?_; refine mv_i ?_; refine gd_ff ?_; refine fao ?_; refine gd_ff ?_)); (refine ldoA ?_); (with_reducible (refine gd_ff ?_)); (refine call_r (c96 _ _ _) ?_); (with_reducible (refine gd_ff ?_; refine not_dh (by assumption) ?_; refine pick_f ?_; refine mv_i ?_; refine gd_ff ?_; refine fao ?_; refine gd_ff ?_)); (refine ldoA ?_); (with_reducible (refine gd_ff ?_; refine fao ?_; refine gd_ff ?_)); (refine ldoA ?_); (with_reducible (refine gd_ff ?_; refine sub_a (by assumption) (by decide) (by decide) ?_; refine gd_ff ?_)); (refine call_r (c96 _ _ _) ?_); (with_reducible (refine gd_ff ?_; refine not_dh (by assumption) ?_; refine pick_f ?_; refine cnd_f ?_; refine fao ?_)); (refine ldoA ?_); (with_reducible (refine len_g (by assumption) ?_; refine fao ?_)); (refine ldoA ?_); (with_reducible (refine fao ?_)); (refine ldoA ?_); (refine mul_j (by omega) (by omega) ?_); (with_reducible (refine gtr_i (fun hc => ?_) (fun hc => ?_); refine cnd_t ?_; refine mv_i ?_; refine mv_i ?_; refine ret2 ?_)); (rotate_left); (with_reducible (refine cnd_f ?_; refine fao ?_)); (refine ldoA ?_); (with_reducible (refine len_g (by assumption) ?_; refine mv_i ?_)); (rotate_left))
    · have hl : chkM x = (0, 2) := by rw [chkM, if_neg (by simpa using hh'), if_pos (by omega)]
      rw [hl]
      exact ⟨rfl, Mem.pre (by assumption)⟩
    · have hlen := hc
      refine loop1 x.steps.length (fun k h2 => Prec h h2 ∧ Mem g h2 [⟨some i, [.int .i64 x.states, .int .i64 x.inputs, .int .i64 x.outputs, .int .i64 x.start, tv], z⟩] ∧ ∀ j, j < k → stE x j = 0) ⟨⟨Stab.refl _⟩, m, fun j hj => by omega⟩ ?_
      rintro k h2 _ hk ⟨p2, m, hJ⟩
      clear d1 d2
      by_cases hkl : k < x.steps.length
      · by_cases hr : inR x (gt x.steps k)
        · have hr' := hr
          obtain ⟨r1, r2, r3, r4⟩ := hr
          ((with_reducible (refine lss_i (fun hc => ?_) (fun hc => ?_); refine cnd_t ?_; refine mv_i ?_)); (refine idxA fun p hp => ?_); (refine ldr_w (by assumption) (by with_unfolding_all rfl) ?_); (with_reducible (refine alloc_z (by assumption) fun i h z p m => ?_; refine mv_i ?_)); (refine st_w (by assumption) (by infer_instance) (by with_unfolding_all rfl) (by with_unfolding_all rfl) (by first | rfl | exact flat_ones (Flat.flat _)) (by infer_instance) fun h p m => ?_); (with_reducible (refine fao ?_)); (refine ldoA ?_); (with_reducible (refine fao ?_)); (refine ldoA ?_); (with_reducible (refine sub_a (by assumption) (by decide) (by decide) ?_)); (refine call_r (c96 _ _ _) ?_); (with_reducible (refine not_dh (by assumption) ?_; refine mv_i ?_; refine gd_ff ?_; refine fao ?_; refine gd_ff ?_)); (refine ldoA ?_); (with_reducible (refine gd_ff ?_; refine fao ?_; refine gd_ff ?_)); (refine ldoA ?_); (with_reducible (refine gd_ff ?_; refine sub_a (by assumption) (by decide) (by decide) ?_; refine gd_ff ?_)); (refine call_r (c96 _ _ _) ?_); (with_reducible (refine gd_ff ?_; refine not_dh (by assumption) ?_; refine pick_f ?_; refine mv_i ?_; refine gd_ff ?_; refine fao ?_; refine gd_ff ?_)); (refine ldoA ?_); (with_reducible (refine gd_ff ?_; refine fao ?_; refine gd_ff ?_)); (refine ldoA ?_); (with_reducible (refine gd_ff ?_; refine sub_a (by assumption) (by decide) (by decide) ?_; refine gd_ff ?_)); (refine call_r (c96 _ _ _) ?_); (with_reducible (refine gd_ff ?_; refine not_dh (by assumption) ?_; refine pick_f ?_; refine mv_i ?_; refine gd_ff ?_; refine fao ?_; refine gd_ff ?_)); (refine ldoA ?_); (with_reducible (refine gd_ff ?_; refine fao ?_; refine gd_ff ?_)); (refine ldoA ?_); (with_reducible (refine gd_ff ?_; refine sub_a (by assumption) (by decide) (by decide) ?_; refine gd_ff ?_)); (refine call_r (c96 _ _ _) ?_); (with_reducible (refine gd_ff ?_; refine not_dh (by assumption) ?_; refine pick_f ?_; refine cnd_f ?_; refine mv_i ?_; refine gtr_i (fun hc => ?_) (fun hc => ?_); refine mv_i ?_; refine gd_tt ?_; refine fao ?_; refine gd_tt ?_)); (refine ldoA ?_); (with_reducible (refine vb_l (by assumption) ?_; refine gd_tt ?_; refine mv_i ?_; refine gd_tt ?_; refine sub_j (by omega) (by omega) ?_; refine gd_tt ?_)); (refine idx_dp (by assumption) (by with_unfolding_all rfl) (by omega) (by omega) fun p hp => ?_); (with_reducible (refine gd_tt ?_; refine fa_g (by assumption) fun p hp => ?_; refine gd_tt ?_)); (refine ldgA ?_); (refine vbA ?_); (with_reducible (refine gd_tt ?_; refine fao ?_; refine gd_tt ?_)); (refine ldoA ?_); (refine vbA ?_); (with_reducible (refine gd_tt ?_)); (refine calld_r (c81 _ _) ?_); (with_reducible (refine new_n ?_; refine gd_tt ?_; refine fao ?_; refine gd_tt ?_)); (refine ldoA ?_); (with_reducible (refine vb_l (by assumption) ?_; refine gd_tt ?_; refine mv_i ?_; refine gd_tt ?_; refine sub_j (by omega) (by omega) ?_; refine gd_tt ?_)); (refine idx_dp (by assumption) (by with_unfolding_all rfl) (by omega) (by omega) fun p hp => ?_); (with_reducible (refine gd_tt ?_; refine fa_g (by assumption) fun p hp => ?_; refine gd_tt ?_)); (refine ldgA ?_); (refine vbA ?_); (with_reducible (refine gd_tt ?_; refine fao ?_; refine gd_tt ?_)); (refine ldoA ?_); (refine vbA ?_); (with_reducible (refine gd_tt ?_)); (refine calld_r (c81 _ _) ?_); (with_reducible (refine new_n ?_; refine gd_tt ?_)); (refine bs_g (bs53_2 _ _ _) (by assumption) fun i h p m => ?_); (with_reducible (refine gd_tt ?_)); (refine calld_r (c80 (own_ints (xs := [_, _]) (by assumption) (q := by infer_instance) rfl rfl (by decide))) ?_); (with_reducible (refine new_n ?_; refine gd_tt ?_; refine geq_i (fun hc => ?_) (fun hc => ?_); refine pick_t ?_; refine cnd_t ?_; refine mv_i ?_; refine mv_i ?_; refine mv_i ?_; refine ret2 ?_)); (rotate_left); (with_reducible (refine pick_t ?_; refine cnd_f ?_; refine inc_i (by omega) ?_; refine mv_i ?_)); (rotate_left); (with_reducible (refine mv_i ?_; refine gd_ft ?_; refine gd_ft ?_; refine gd_ft ?_; refine gd_ft ?_; refine gd_ft ?_; refine gd_ft ?_; refine gd_ft ?_; refine gd_ft ?_; refine gd_ft ?_; refine gd_ft ?_; refine gd_ft ?_; refine gd_ft ?_; refine gd_ft ?_; refine gd_ft ?_; refine gd_ft ?_; refine gd_ft ?_; refine gd_ft ?_; refine gd_ft ?_; refine gd_ft ?_; refine gd_ft ?_; refine gd_ft ?_; refine gd_ft ?_; refine gd_ft ?_; refine pick_f ?_; refine cnd_f ?_; refine inc_i (by omega) ?_; refine mv_i ?_)); (rotate_left); (with_reducible (refine cnd_f ?_; refine mv_i ?_; refine mv_i ?_; refine ret2 ?_)); (rotate_left))
          all_goals (try (exfalso; omega))
          all_goals first
            | exact ⟨by rw [chk_at hh' hlen (st_o hr' (by omega) (by first | exact (cmpL_lex _ _).mp (by assumption) | exact (orOf_lex _ _).mp (by assumption))) hJ hkl (by decide)]; rfl, Mem.pre (by assumption)⟩
            | exact next1 hkl ⟨⟨Stb.st⟩, m.sub (by simp), up_no (st_n hr' (by rintro ⟨q1, q2⟩; first | omega | exact absurd ((cmpL_lex _ _).mpr q2) (by assumption) | exact absurd ((orOf_lex _ _).mpr q2) (by assumption))) hJ⟩
        · ((with_reducible (refine lss_i (fun hc => ?_) (fun hc => ?_); refine cnd_t ?_; refine mv_i ?_)); (refine idxA fun p hp => ?_); (refine ldr_w (by assumption) (by with_unfolding_all rfl) ?_); (with_reducible (refine alloc_z (by assumption) fun i h z p m => ?_; refine mv_i ?_)); (refine st_w (by assumption) (by infer_instance) (by with_unfolding_all rfl) (by with_unfolding_all rfl) (by first | rfl | exact flat_ones (Flat.flat _)) (by infer_instance) fun h p m => ?_); (with_reducible (refine fao ?_)); (refine ldoA ?_); (with_reducible (refine fao ?_)); (refine ldoA ?_); (with_reducible (refine sub_a (by assumption) (by decide) (by decide) ?_)); (refine call_r (c96 _ _ _) ?_); (with_reducible (refine not_d (fun hb => ?_) (fun hb => ?_); refine mv_i ?_; refine gd_ff ?_; refine fao ?_; refine gd_ff ?_)); (refine ldoA ?_); (with_reducible (refine gd_ff ?_; refine fao ?_; refine gd_ff ?_)); (refine ldoA ?_); (with_reducible (refine gd_ff ?_; refine sub_a (by assumption) (by decide) (by decide) ?_; refine gd_ff ?_)); (refine call_r (c96 _ _ _) ?_); (with_reducible (refine gd_ff ?_; refine not_d (fun hb => ?_) (fun hb => ?_); refine pick_f ?_; refine mv_i ?_; refine gd_ff ?_; refine fao ?_; refine gd_ff ?_)); (refine ldoA ?_); (with_reducible (refine gd_ff ?_; refine fao ?_; refine gd_ff ?_)); (refine ldoA ?_); (with_reducible (refine gd_ff ?_; refine sub_a (by assumption) (by decide) (by decide) ?_; refine gd_ff ?_)); (refine call_r (c96 _ _ _) ?_); (with_reducible (refine gd_ff ?_; refine not_d (fun hb => ?_) (fun hb => ?_); refine pick_f ?_; refine mv_i ?_; refine gd_ff ?_; refine fao ?_; refine gd_ff ?_)); (refine ldoA ?_); (with_reducible (refine gd_ff ?_; refine fao ?_; refine gd_ff ?_)); (refine ldoA ?_); (with_reducible (refine gd_ff ?_; refine sub_a (by assumption) (by decide) (by decide) ?_; refine gd_ff ?_)); (refine call_r (c96 _ _ _) ?_); (with_reducible (refine gd_ff ?_; refine not_d (fun hb => ?_) (fun hb => ?_); refine pick_f ?_; refine cnd_f ?_; refine mv_i ?_; refine gtr_i (fun hc => ?_) (fun hc => ?_); refine mv_i ?_; refine gd_tt ?_; refine fao ?_; refine gd_tt ?_)); (refine ldoA ?_); (with_reducible (refine vb_l (by assumption) ?_; refine gd_tt ?_; refine mv_i ?_; refine gd_tt ?_; refine sub_j (by omega) (by omega) ?_; refine gd_tt ?_)); (refine idx_dp (by assumption) (by with_unfolding_all rfl) (by omega) (by omega) fun p hp => ?_); (with_reducible (refine gd_tt ?_; refine fa_g (by assumption) fun p hp => ?_; refine gd_tt ?_)); (refine ldgA ?_); (refine vbA ?_); (with_reducible (refine gd_tt ?_; refine fao ?_; refine gd_tt ?_)); (refine ldoA ?_); (refine vbA ?_); (with_reducible (refine gd_tt ?_)); (refine calld_r (c81 _ _) ?_); (with_reducible (refine new_n ?_; refine gd_tt ?_; refine fao ?_; refine gd_tt ?_)); (refine ldoA ?_); (with_reducible (refine vb_l (by assumption) ?_; refine gd_tt ?_; refine mv_i ?_; refine gd_tt ?_; refine sub_j (by omega) (by omega) ?_; refine gd_tt ?_)); (refine idx_dp (by assumption) (by with_unfolding_all rfl) (by omega) (by omega) fun p hp => ?_); (with_reducible (refine gd_tt ?_; refine fa_g (by assumption) fun p hp => ?_; refine gd_tt ?_)); (refine ldgA ?_); (refine vbA ?_); (with_reducible (refine gd_tt ?_; refine fao ?_; refine gd_tt ?_)); (refine ldoA ?_); (refine vbA ?_); (with_reducible (refine gd_tt ?_)); (refine calld_r (c81 _ _) ?_); (with_reducible (refine new_n ?_; refine gd_tt ?_)); (refine bs_g (bs53_2 _ _ _) (by assumption) fun i h p m => ?_); (with_reducible (refine gd_tt ?_)); (refine calld_r (c80 (own_ints (xs := [_, _]) (by assumption) (q := by infer_instance) rfl rfl (by decide))) ?_); (with_reducible (refine new_n ?_; refine gd_tt ?_; refine geq_i (fun hc => ?_) (fun hc => ?_); refine pick_t ?_; refine cnd_t ?_; refine mv_i ?_; refine mv_i ?_; refine mv_i ?_; refine ret2 ?_)); (rotate_left); (with_reducible (refine pick_t ?_; refine cnd_f ?_; refine inc_i (by omega) ?_; refine mv_i ?_)); (rotate_left); (with_reducible (refine mv_i ?_; refine gd_ft ?_; refine gd_ft ?_; refine gd_ft ?_; refine gd_ft ?_; refine gd_ft ?_; refine gd_ft ?_; refine gd_ft ?_; refine gd_ft ?_; refine gd_ft ?_; refine gd_ft ?_; refine gd_ft ?_; refine gd_ft ?_; refine gd_ft ?_; refine gd_ft ?_; refine gd_ft ?_; refine gd_ft ?_; refine gd_ft ?_; refine gd_ft ?_; refine gd_ft ?_; refine gd_ft ?_; refine gd_ft ?_; refine gd_ft ?_; refine gd_ft ?_; refine pick_f ?_; refine cnd_f ?_; refine inc_i (by omega) ?_; refine mv_i ?_)); (rotate_left); (with_reducible (refine pick_f ?_; refine cnd_t ?_; refine mv_i ?_; refine mv_i ?_; refine mv_i ?_; refine ret2 ?_)); (rotate_left); (with_reducible (refine pick_f ?_; refine mv_i ?_; refine gd_tf ?_; refine gd_tf ?_; refine gd_tf ?_; refine gd_tf ?_; refine gd_tf ?_; refine gd_tf ?_; refine gd_tf ?_; refine pick_t ?_; refine cnd_t ?_; refine mv_i ?_; refine mv_i ?_; refine mv_i ?_; refine ret2 ?_)); (rotate_left); (with_reducible (refine pick_f ?_; refine mv_i ?_; refine gd_tf ?_; refine gd_tf ?_; refine gd_tf ?_; refine gd_tf ?_; refine gd_tf ?_; refine gd_tf ?_; refine gd_tf ?_; refine pick_t ?_; refine mv_i ?_; refine gd_tf ?_; refine gd_tf ?_; refine gd_tf ?_; refine gd_tf ?_; refine gd_tf ?_; refine gd_tf ?_; refine gd_tf ?_; refine pick_t ?_; refine cnd_t ?_; refine mv_i ?_; refine mv_i ?_; refine mv_i ?_; refine ret2 ?_)); (rotate_left); (with_reducible (refine mv_i ?_; refine gd_tf ?_; refine gd_tf ?_; refine gd_tf ?_; refine gd_tf ?_; refine gd_tf ?_; refine gd_tf ?_; refine gd_tf ?_; refine pick_t ?_; refine mv_i ?_; refine gd_tf ?_; refine gd_tf ?_; refine gd_tf ?_; refine gd_tf ?_; refine gd_tf ?_; refine gd_tf ?_; refine gd_tf ?_; refine pick_t ?_; refine mv_i ?_; refine gd_tf ?_; refine gd_tf ?_; refine gd_tf ?_; refine gd_tf ?_; refine gd_tf ?_; refine gd_tf ?_; refine gd_tf ?_; refine pick_t ?_; refine cnd_t ?_; refine mv_i ?_; refine mv_i ?_; refine mv_i ?_; refine ret2 ?_)); (rotate_left); (with_reducible (refine cnd_f ?_; refine mv_i ?_; refine mv_i ?_; refine ret2 ?_)); (rotate_left))
          all_goals first
            | (exfalso; omega)
            | exact (hr ⟨by assumption, by assumption, by assumption, by assumption⟩).elim
            | exact ⟨by rw [chk_at hh' hlen (st_r hr) hJ hkl (by decide)]; rfl, Mem.pre (by assumption)⟩
      · ((with_reducible (refine lss_i (fun hc => ?_) (fun hc => ?_); refine cnd_t ?_; refine mv_i ?_)); (refine idxA fun p hp => ?_); (refine ldr_w (by assumption) (by with_unfolding_all rfl) ?_); (with_reducible (refine alloc_z (by assumption) fun i h z p m => ?_; refine mv_i ?_)); (refine st_w (by assumption) (by infer_instance) (by with_unfolding_all rfl) (by with_unfolding_all rfl) (by first | rfl | exact flat_ones (Flat.flat _)) (by infer_instance) fun h p m => ?_); (with_reducible (refine fao ?_)); (refine ldoA ?_); (with_reducible (refine fao ?_)); (refine ldoA ?_); (with_reducible (refine sub_a (by assumption) (by decide) (by decide) ?_)); (refine call_r (c96 _ _ _) ?_); (with_reducible (refine not_d (fun hb => ?_) (fun hb => ?_); refine mv_i ?_; refine gd_ff ?_; refine fao ?_; refine gd_ff ?_)); (refine ldoA ?_); (with_reducible (refine gd_ff ?_; refine fao ?_; refine gd_ff ?_)); (refine ldoA ?_); (with_reducible (refine gd_ff ?_; refine sub_a (by assumption) (by decide) (by decide) ?_; refine gd_ff ?_)); (refine call_r (c96 _ _ _) ?_); (with_reducible (refine gd_ff ?_; refine not_d (fun hb => ?_) (fun hb => ?_); refine pick_f ?_; refine mv_i ?_; refine gd_ff ?_; refine fao ?_; refine gd_ff ?_)); (refine ldoA ?_); (with_reducible (refine gd_ff ?_; refine fao ?_; refine gd_ff ?_)); (refine ldoA ?_); (with_reducible (refine gd_ff ?_; refine sub_a (by assumption) (by decide) (by decide) ?_; refine gd_ff ?_)); (refine call_r (c96 _ _ _) ?_); (with_reducible (refine gd_ff ?_; refine not_d (fun hb => ?_) (fun hb => ?_); refine pick_f ?_; refine mv_i ?_; refine gd_ff ?_; refine fao ?_; refine gd_ff ?_)); (refine ldoA ?_); (with_reducible (refine gd_ff ?_; refine fao ?_; refine gd_ff ?_)); (refine ldoA ?_); (with_reducible (refine gd_ff ?_; refine sub_a (by assumption) (by decide) (by decide) ?_; refine gd_ff ?_)); (refine call_r (c96 _ _ _) ?_); (with_reducible (refine gd_ff ?_; refine not_d (fun hb => ?_) (fun hb => ?_); refine pick_f ?_; refine cnd_f ?_; refine mv_i ?_; refine gtr_i (fun hc => ?_) (fun hc => ?_); refine mv_i ?_; refine gd_tt ?_; refine fao ?_; refine gd_tt ?_)); (refine ldoA ?_); (with_reducible (refine vb_l (by assumption) ?_; refine gd_tt ?_; refine mv_i ?_; refine gd_tt ?_; refine sub_j (by omega) (by omega) ?_; refine gd_tt ?_)); (refine idx_dp (by assumption) (by with_unfolding_all rfl) (by omega) (by omega) fun p hp => ?_); (with_reducible (refine gd_tt ?_; refine fa_g (by assumption) fun p hp => ?_; refine gd_tt ?_)); (refine ldgA ?_); (refine vbA ?_); (with_reducible (refine gd_tt ?_; refine fao ?_; refine gd_tt ?_)); (refine ldoA ?_); (refine vbA ?_); (with_reducible (refine gd_tt ?_)); (refine calld_r (c81 _ _) ?_); (with_reducible (refine new_n ?_; refine gd_tt ?_; refine fao ?_; refine gd_tt ?_)); (refine ldoA ?_); (with_reducible (refine vb_l (by assumption) ?_; refine gd_tt ?_; refine mv_i ?_; refine gd_tt ?_; refine sub_j (by omega) (by omega) ?_; refine gd_tt ?_)); (refine idx_dp (by assumption) (by with_unfolding_all rfl) (by omega) (by omega) fun p hp => ?_); (with_reducible (refine gd_tt ?_; refine fa_g (by assumption) fun p hp => ?_; refine gd_tt ?_)); (refine ldgA ?_); (refine vbA ?_); (with_reducible (refine gd_tt ?_; refine fao ?_; refine gd_tt ?_)); (refine ldoA ?_); (refine vbA ?_); (with_reducible (refine gd_tt ?_)); (refine calld_r (c81 _ _) ?_); (with_reducible (refine new_n ?_; refine gd_tt ?_)); (refine bs_g (bs53_2 _ _ _) (by assumption) fun i h p m => ?_); (with_reducible (refine gd_tt ?_)); (refine calld_r (c80 (own_ints (xs := [_, _]) (by assumption) (q := by infer_instance) rfl rfl (by decide))) ?_); (with_reducible (refine new_n ?_; refine gd_tt ?_; refine geq_i (fun hc => ?_) (fun hc => ?_); refine pick_t ?_; refine cnd_t ?_; refine mv_i ?_; refine mv_i ?_; refine mv_i ?_; refine ret2 ?_)); (rotate_left); (with_reducible (refine pick_t ?_; refine cnd_f ?_; refine inc_i (by omega) ?_; refine mv_i ?_)); (rotate_left); (with_reducible (refine mv_i ?_; refine gd_ft ?_; refine gd_ft ?_; refine gd_ft ?_; refine gd_ft ?_; refine gd_ft ?_; refine gd_ft ?_; refine gd_ft ?_; refine gd_ft ?_; refine gd_ft ?_; refine gd_ft ?_; refine gd_ft ?_; refine gd_ft ?_; refine gd_ft ?_; refine gd_ft ?_; refine gd_ft ?_; refine gd_ft ?_; refine gd_ft ?_; refine gd_ft ?_; refine gd_ft ?_; refine gd_ft ?_; refine gd_ft ?_; refine gd_ft ?_; refine gd_ft ?_; refine pick_f ?_; refine cnd_f ?_; refine inc_i (by omega) ?_; refine mv_i ?_)); (rotate_left); (with_reducible (refine pick_f ?_; refine cnd_t ?_; refine mv_i ?_; refine mv_i ?_; refine mv_i ?_; refine ret2 ?_)); (rotate_left); (with_reducible (refine pick_f ?_; refine mv_i ?_; refine gd_tf ?_; refine gd_tf ?_; refine gd_tf ?_; refine gd_tf ?_; refine gd_tf ?_; refine gd_tf ?_; refine gd_tf ?_; refine pick_t ?_; refine cnd_t ?_; refine mv_i ?_; refine mv_i ?_; refine mv_i ?_; refine ret2 ?_)); (rotate_left); (with_reducible (refine pick_f ?_; refine mv_i ?_; refine gd_tf ?_; refine gd_tf ?_; refine gd_tf ?_; refine gd_tf ?_; refine gd_tf ?_; refine gd_tf ?_; refine gd_tf ?_; refine pick_t ?_; refine mv_i ?_; refine gd_tf ?_; refine gd_tf ?_; refine gd_tf ?_; refine gd_tf ?_; refine gd_tf ?_; refine gd_tf ?_; refine gd_tf ?_; refine pick_t ?_; refine cnd_t ?_; refine mv_i ?_; refine mv_i ?_; refine mv_i ?_; refine ret2 ?_)); (rotate_left); (with_reducible (refine mv_i ?_; refine gd_tf ?_; refine gd_tf ?_; refine gd_tf ?_; refine gd_tf ?_; refine gd_tf ?_; refine gd_tf ?_; refine gd_tf ?_; refine pick_t ?_; refine mv_i ?_; refine gd_tf ?_; refine gd_tf ?_; refine gd_tf ?_; refine gd_tf ?_; refine gd_tf ?_; refine gd_tf ?_; refine gd_tf ?_; refine pick_t ?_; refine mv_i ?_; refine gd_tf ?_; refine gd_tf ?_; refine gd_tf ?_; refine gd_tf ?_; refine gd_tf ?_; refine gd_tf ?_; refine gd_tf ?_; refine pick_t ?_; refine cnd_t ?_; refine mv_i ?_; refine mv_i ?_; refine mv_i ?_; refine ret2 ?_)); (rotate_left); (with_reducible (refine cnd_f ?_; refine mv_i ?_; refine mv_i ?_; refine ret2 ?_)); (rotate_left))
        all_goals (try (exfalso; omega))
        exact ⟨by rw [chk_no hh' hlen fun j hj => hJ j (by omega)]; rfl, Mem.pre (by assumption)⟩
  · have hl : chkM x = (0, 3) := by rw [chkM, if_pos hh]
    rw [hl]
    ((with_reducible (refine box_a (by assumption) fun i h z p m => ?_; refine mv_i ?_; refine mv_i ?_; refine fao ?_)); (refine ldoA ?_); (refine call_r (c96 _ _ _) ?_); (with_reducible (refine not_d (fun hb => ?_) (fun hb => ?_); refine mv_i ?_; refine gd_ff ?_; refine fao ?_; refine gd_ff ?_)); (refine ldoA ?_); (with_reducible (refine gd_ff ?_)); (refine call_r (c96 _ _ _) ?_); (with_reducible (refine gd_ff ?_; refine not_d (fun hb => ?_) (fun hb => ?_); refine pick_f ?_; refine mv_i ?_; refine gd_ff ?_; refine fao ?_; refine gd_ff ?_)); (refine ldoA ?_); (with_reducible (refine gd_ff ?_)); (refine call_r (c96 _ _ _) ?_); (with_reducible (refine gd_ff ?_; refine not_d (fun hb => ?_) (fun hb => ?_); refine pick_f ?_; refine mv_i ?_; refine gd_ff ?_; refine fao ?_; refine gd_ff ?_)); (refine ldoA ?_); (with_reducible (refine gd_ff ?_; refine fao ?_; refine gd_ff ?_)); (refine ldoA ?_); (with_reducible (refine gd_ff ?_; refine sub_a (by assumption) (by decide) (by decide) ?_; refine gd_ff ?_)); (refine call_r (c96 _ _ _) ?_); (with_reducible (refine gd_ff ?_; refine not_d (fun hb => ?_) (fun hb => ?_); refine pick_f ?_; refine cnd_f ?_; refine fao ?_)); (refine ldoA ?_); (with_reducible (refine len_g (by assumption) ?_; refine fao ?_)); (refine ldoA ?_); (with_reducible (refine fao ?_)); (refine ldoA ?_); (rotate_left); (with_reducible (refine pick_f ?_; refine cnd_t ?_; refine mv_i ?_; refine mv_i ?_; refine ret2 ?_)); (rotate_left); (with_reducible (refine pick_f ?_; refine mv_i ?_; refine gd_tf ?_; refine gd_tf ?_; refine gd_tf ?_; refine gd_tf ?_; refine gd_tf ?_; refine gd_tf ?_; refine gd_tf ?_; refine pick_t ?_; refine cnd_t ?_; refine mv_i ?_; refine mv_i ?_; refine ret2 ?_)); (rotate_left); (with_reducible (refine pick_f ?_; refine mv_i ?_; refine gd_tf ?_; refine gd_tf ?_; refine gd_tf ?_; refine gd_tf ?_; refine pick_t ?_; refine mv_i ?_; refine gd_tf ?_; refine gd_tf ?_; refine gd_tf ?_; refine gd_tf ?_; refine gd_tf ?_; refine gd_tf ?_; refine gd_tf ?_; refine pick_t ?_; refine cnd_t ?_; refine mv_i ?_; refine mv_i ?_; refine ret2 ?_)); (rotate_left); (with_reducible (refine mv_i ?_; refine gd_tf ?_; refine gd_tf ?_; refine gd_tf ?_; refine gd_tf ?_; refine pick_t ?_; refine mv_i ?_; refine gd_tf ?_; refine gd_tf ?_; refine gd_tf ?_; refine gd_tf ?_; refine pick_t ?_; refine mv_i ?_; refine gd_tf ?_; refine gd_tf ?_; refine gd_tf ?_; refine gd_tf ?_; refine gd_tf ?_; refine gd_tf ?_; refine gd_tf ?_; refine pick_t ?_; refine cnd_t ?_; refine mv_i ?_; refine mv_i ?_; refine ret2 ?_)); (rotate_left))
    all_goals first
      | exact ⟨rfl, Mem.pre (by assumption)⟩
      | exact (hh ⟨by assumption, by assumption, by assumption, by assumption⟩).elim
end Go.Proofs.Ytgmgmkhenhaniaa

set_option linter.unusedSimpArgs false
set_option linter.unusedVariables false
set_option linter.unnecessarySimpa false
set_option maxRecDepth 100000
set_option maxHeartbeats 4000000
namespace Go.Proofs.Ytgmgmkhenhaniaa
open Go.AM
variable {h g : Heap}
def atS (s i : Int) (t : Stp) : Bool := decide (t.frm = s ∧ t.inp = i)
theorem c74 {v : Value} {x : Mach} (s : MacV g v x) (q w : Int) : Runs Try.prog 34 [v, .int .i64 q, .int .i64 w] g (.int .i64 (idxOf (atS q w) x.steps)) g := by
  obtain ⟨tv, rfl, s⟩ := s
  have lt := s.lt
  have m := Mem.start g
  refine DetP.forget rfl ?_
  refine w74 ?_
  unfold n74
  ((with_reducible (refine box_a (by assumption) fun i h z p m => ?_; refine mv_i ?_; refine mv_i ?_)))
  refine loop1 x.steps.length (fun k h2 => h = h2 ∧ ∀ j, j < k → atS q w (gt x.steps j) = false) ⟨rfl, fun j hj => by omega⟩ ?_
  rintro k _ _ hk ⟨rfl, hJ⟩
  ((with_reducible (refine mv_i ?_; refine fao ?_)); (refine ldoA ?_); (with_reducible (refine len_g (by assumption) ?_; refine lss_i (fun hc => ?_) (fun hc => ?_); refine cnd_t ?_; refine fao ?_)); (refine ldoA ?_); (with_reducible (refine mv_i ?_)); (refine idxA fun p hp => ?_); (with_reducible (refine fa_g (by assumption) fun p hp => ?_)); (refine ldgA ?_); (with_reducible (refine mv_i ?_; refine eql_i (fun hc => ?_) (fun hc => ?_); refine mv_i ?_; refine gd_tt ?_; refine fao ?_; refine gd_tt ?_)); (refine ldoA ?_); (with_reducible (refine gd_tt ?_; refine mv_i ?_; refine gd_tt ?_)); (refine idxA fun p hp => ?_); (with_reducible (refine gd_tt ?_; refine fa_g (by assumption) fun p hp => ?_; refine gd_tt ?_)); (refine ldgA ?_); (with_reducible (refine gd_tt ?_; refine mv_i ?_; refine gd_tt ?_; refine eql_i (fun hc => ?_) (fun hc => ?_); refine pick_t ?_; refine cnd_t ?_; refine mv_i ?_; refine mv_i ?_; refine ret1 ?_)); (rotate_left); (with_reducible (refine pick_t ?_; refine cnd_f ?_; refine mv_i ?_; refine inc_i (by omega) ?_; refine mv_i ?_)); (rotate_left); (with_reducible (refine mv_i ?_; refine gd_ft ?_; refine gd_ft ?_; refine gd_ft ?_; refine gd_ft ?_; refine gd_ft ?_; refine gd_ft ?_; refine gd_ft ?_; refine gd_ft ?_; refine pick_f ?_; refine cnd_f ?_; refine mv_i ?_; refine inc_i (by omega) ?_; refine mv_i ?_)); (rotate_left); (with_reducible (refine cnd_f ?_; refine mv_i ?_; refine ret1 ?_)); (rotate_left))
  all_goals first
    | (refine next1 (by omega) ⟨rfl, fun j hj => ?_⟩
       by_cases e : j = k
       · subst e; simp [atS, *]
       · exact hJ j (by omega))
    | (refine ⟨?_, Mem.pre (by assumption)⟩
       rw [idxOf_at hJ (by omega) (by simp [atS, *])])
    | (refine ⟨?_, Mem.pre (by assumption)⟩
       rw [idxOf_no fun j hj => hJ j (by omega)])
/-! ### complete machines -/
def opn (x : Mach) : Prop := ∀ s : Nat, s < x.states.toNat → ∀ i : Nat, i < x.inputs.toNat → 0 ≤ idxOf (atS s i) x.steps
theorem chk_ok {x : Mach} (h0 : (chkM x).2 = 0) : headOK x ∧ (x.steps.length : Int) ≤ x.states * x.inputs ∧ ∀ j, j < x.steps.length → stE x j = 0 := by
  unfold chkM at h0
  split at h0
  · cases h0
  · rename_i h1
    split at h0
    · cases h0
    · exact ⟨by simpa using h1, by omega, firstErr_zero h0⟩
theorem st_ok {x : Mach} {k : Nat} (h0 : stE x k = 0) : inR x (gt x.steps k) ∧ (0 < k → lexLt (gt x.steps (k - 1)) (gt x.steps k)) := by
  unfold stE at h0
  split at h0
  · cases h0
  · rename_i h1
    split at h0
    · cases h0
    · rename_i h2
      refine ⟨by simpa using h1, fun hk => ?_⟩
      by_cases q : lexLt (gt x.steps (k - 1)) (gt x.steps k)
      · exact q
      · exact (h2 ⟨hk, q⟩).elim
/-- Where a step should stand. -/
def code (x : Mach) (k : Nat) : Int := (gt x.steps k).frm * x.inputs + (gt x.steps k).inp
theorem lex_code {x : Mach} {a b : Stp} (ha : inR x a) (hb : inR x b) (h : lexLt a b) : a.frm * x.inputs + a.inp < b.frm * x.inputs + b.inp := by
  obtain ⟨_, _, a3, _⟩ := ha
  obtain ⟨_, _, b3, _⟩ := hb
  rcases h with h | ⟨h1, h2⟩
  · have h3 : (a.frm + 1) * x.inputs ≤ b.frm * x.inputs := Int.mul_le_mul_of_nonneg_right (by omega) (by omega)
    rw [Int.add_mul, Int.one_mul] at h3
    omega
  · rw [h1]; omega
theorem code_up {x : Mach} (h0 : (chkM x).2 = 0) : ∀ j k, j < k → k < x.steps.length → code x j < code x k := by
  obtain ⟨_, _, hs⟩ := chk_ok h0
  intro j k
  induction k with
  | zero => intro hj; omega
  | succ k ih =>
    intro hj hl
    have h1 := lex_code (st_ok (hs k (by omega))).1 (st_ok (hs (k + 1) hl)).1 (by simpa using (st_ok (hs (k + 1) hl)).2 (by omega))
    by_cases q : j = k
    · subst q; exact h1
    · have := ih (by omega) (by omega)
      unfold code at *
      omega
theorem code_bd {x : Mach} (h0 : (chkM x).2 = 0) {k : Nat} (hk : k < x.steps.length) : 0 ≤ code x k ∧ code x k < x.states * x.inputs := by
  obtain ⟨hh, _, hs⟩ := chk_ok h0
  obtain ⟨⟨a1, _⟩, _, ⟨a3, a4⟩, _⟩ := (st_ok (hs k hk)).1
  obtain ⟨_, ⟨i1, _⟩, _⟩ := hh
  unfold code
  have h1 : 0 ≤ (gt x.steps k).frm * x.inputs := Int.mul_nonneg a1 (by omega)
  have h2 : ((gt x.steps k).frm + 1) * x.inputs ≤ x.states * x.inputs := Int.mul_le_mul_of_nonneg_right (by omega) (by omega)
  rw [Int.add_mul, Int.one_mul] at h2
  omega
theorem code_ge {x : Mach} (h0 : (chkM x).2 = 0) : ∀ k, k < x.steps.length → (k : Int) ≤ code x k := by
  intro k
  induction k with
  | zero => intro hk; exact (code_bd h0 hk).1
  | succ k ih =>
    intro hk
    have := ih (by omega)
    have := code_up h0 k (k + 1) (by omega) hk
    omega
theorem full_code {x : Mach} (h0 : (chkM x).2 = 0) (hl : (x.steps.length : Int) = x.states * x.inputs) {k : Nat} (hk : k < x.steps.length) : code x k = k := by
  have h1 := code_ge h0 k hk
  have h2 : ∀ d, k + d < x.steps.length → code x k + d ≤ code x (k + d) := by
    intro d
    induction d with
    | zero => intro _; simp
    | succ d ih =>
      intro hd
      have := ih (by omega)
      have := code_up h0 (k + d) (k + (d + 1)) (by omega) hd
      omega
  have h3 := h2 (x.steps.length - 1 - k) (by omega)
  have h4 := (code_bd h0 (k := k + (x.steps.length - 1 - k)) (by omega)).2
  omega
/-- One product, one sum. -/
theorem code_uniq {a b i j n : Int} (hi : 0 ≤ i ∧ i ≤ n - 1) (hj : 0 ≤ j ∧ j ≤ n - 1) (h : a * n + i = b * n + j) : a = b ∧ i = j := by
  have key : a = b := by
    rcases Int.lt_trichotomy a b with q | q | q
    · have h3 : (a + 1) * n ≤ b * n := Int.mul_le_mul_of_nonneg_right (by omega) (by omega)
      rw [Int.add_mul, Int.one_mul] at h3
      omega
    · exact q
    · have h3 : (b + 1) * n ≤ a * n := Int.mul_le_mul_of_nonneg_right (by omega) (by omega)
      rw [Int.add_mul, Int.one_mul] at h3
      omega
  subst key
  exact ⟨rfl, by omega⟩
/-- Step k of a complete machine. -/
theorem full_at {x : Mach} (h0 : (chkM x).2 = 0) (hl : (x.steps.length : Int) = x.states * x.inputs) {s i : Int} (hs : 0 ≤ s ∧ s ≤ x.states - 1) (hi : 0 ≤ i ∧ i ≤ x.inputs - 1) :
    0 ≤ s * x.inputs + i ∧ (s * x.inputs + i).toNat < x.steps.length ∧ (gt x.steps (s * x.inputs + i).toNat).frm = s ∧ (gt x.steps (s * x.inputs + i).toNat).inp = i := by
  obtain ⟨hh, _, hst⟩ := chk_ok h0
  have h1 : 0 ≤ s * x.inputs := Int.mul_nonneg hs.1 (by omega)
  have h2 : (s + 1) * x.inputs ≤ x.states * x.inputs := Int.mul_le_mul_of_nonneg_right (by omega) (by omega)
  rw [Int.add_mul, Int.one_mul] at h2
  have hk : (s * x.inputs + i).toNat < x.steps.length := by omega
  have hc := full_code h0 hl hk
  obtain ⟨_, _, a3, _⟩ := (st_ok (hst _ hk)).1
  have := code_uniq (n := x.inputs) a3 hi (a := (gt x.steps (s * x.inputs + i).toNat).frm) (b := s) (by unfold code at hc; omega)
  exact ⟨by omega, hk, this.1, this.2⟩
theorem opn_iff {x : Mach} (h0 : (chkM x).2 = 0) : opn x ↔ (x.steps.length : Int) = x.states * x.inputs := by
  obtain ⟨hh, hle, hst⟩ := chk_ok h0
  obtain ⟨⟨s1, s2⟩, ⟨i1, i2⟩, _⟩ := hh
  constructor
  · intro ho
    have hall : ∀ n : Nat, (n : Int) < x.states * x.inputs → n < x.steps.length ∧ code x n = n := by
      intro n
      induction n using Nat.strongRecOn with
      | _ n ih =>
        intro hn
        obtain ⟨q, hq⟩ : ∃ q : Nat, x.inputs = (q : Int) := ⟨x.inputs.toNat, by omega⟩
        have hq0 : 0 < q := by omega
        have hd := Nat.div_add_mod n q
        have hm := Nat.mod_lt n hq0
        have hs : n / q < x.states.toNat := by
          obtain ⟨p, hp⟩ : ∃ p : Nat, x.states = (p : Int) := ⟨x.states.toNat, by omega⟩
          rw [hp, hq] at hn
          have : n < p * q := by exact_mod_cast hn
          have := Nat.div_lt_of_lt_mul (by rw [Nat.mul_comm]; exact this : n < q * p)
          omega
        have hf := ho (n / q) hs (n % q) (by omega)
        rcases idxOf_spec (atS ((n / q : Nat) : Int) ((n % q : Nat) : Int)) x.steps with ⟨e, _⟩ | ⟨k, k1, _, k3, _⟩
        · omega
        · have hk : (gt x.steps k).frm = ((n / q : Nat) : Int) ∧ (gt x.steps k).inp = ((n % q : Nat) : Int) := by simpa [atS] using k3
          have hc : code x k = n := by
            unfold code
            rw [hk.1, hk.2, hq]
            have : ((n / q : Nat) : Int) * (q : Int) + ((n % q : Nat) : Int) = ((q * (n / q) + n % q : Nat) : Int) := by push_cast; rw [Int.mul_comm]
            rw [this, hd]
          have hkn : n ≤ k := by
            rcases Nat.lt_or_ge k n with q1 | q1
            · have := (ih k q1 (by omega)).2; omega
            · exact q1
          refine ⟨by omega, ?_⟩
          have g1 := code_ge h0 n (by omega)
          by_cases e : n = k
          · subst e; exact hc
          · have := code_up h0 n k (by omega) k1; omega
    rcases Int.lt_or_le (x.steps.length : Int) (x.states * x.inputs) with q | q
    · have := (hall x.steps.length q).1; omega
    · omega
  · intro hl s hs i hi
    have := full_at h0 hl (s := s) (i := i) (by omega) (by omega)
    rcases idxOf_spec (atS (s : Int) (i : Int)) x.steps with ⟨_, e⟩ | ⟨k, _, e, _⟩
    · have := e _ (gd_mem Df.d this.2.1)
      rw [show x.steps.getD ((s : Int) * x.inputs + i).toNat Df.d = gt x.steps ((s : Int) * x.inputs + i).toNat from rfl] at this
      simp_all [atS]
    · omega
end Go.Proofs.Ytgmgmkhenhaniaa

set_option linter.unusedSimpArgs false
set_option linter.unusedVariables false
set_option linter.unnecessarySimpa false
set_option maxRecDepth 100000
set_option maxHeartbeats 4000000
namespace Go.Proofs.Ytgmgmkhenhaniaa
open Go.AM
variable {h g : Heap}
theorem forgetE {P : Program} {f : FuncId} {args : List Value} {Q : Value → Prop} (hf : ∀ v, Q v → cloB v = true) (d : DetP P f args h fun v h' => Q v ∧ h <+: h') : ∃ v, Q v ∧ Runs P f args h v h := by
  obtain ⟨v, h', hr, hq, hp⟩ := d
  exact ⟨v, hq, DetP.forget (hf v hq) ⟨v, h', hr, rfl, hp⟩⟩
open Classical in
theorem c42 {v : Value} {x : Mach} (s : MacV g v x) (hh : headOK x) : ∃ k : Int, Runs Try.prog 14 [v] g (.tuple #[.int .i64 k, .int .i64 (if opn x then 0 else 39)]) g := by
  obtain ⟨tv, rfl, s⟩ := s
  have m := Mem.start g
  suffices hs : DetP Try.prog 14 [.agg #[.int .i64 x.states, .int .i64 x.inputs, .int .i64 x.outputs, .int .i64 x.start, tv]] g fun v' h' => (∃ k : Int, v' = .tuple #[.int .i64 k, .int .i64 (if opn x then 0 else 39)]) ∧ g <+: h' by
    obtain ⟨v', ⟨k, rfl⟩, hr⟩ := forgetE (fun v ⟨k, e⟩ => by rw [e]; rfl) hs
    exact ⟨k, hr⟩
  obtain ⟨⟨s1, s2⟩, ⟨i1, i2⟩, _⟩ := hh
  obtain ⟨S, hS⟩ : ∃ S : Nat, x.states = (S : Int) := ⟨x.states.toNat, by omega⟩
  obtain ⟨I, hI⟩ : ∃ I : Nat, x.inputs = (I : Int) := ⟨x.inputs.toNat, by omega⟩
  refine w42 ?_
  unfold n42
  ((with_reducible (refine box_a (by assumption) fun i h z p m => ?_; refine mv_i ?_; refine mv_i ?_; refine mv_i ?_)))
  refine loop1 S (fun k h2 => h = h2 ∧ ∀ s, s < k → ∀ i : Nat, i < I → 0 ≤ idxOf (atS (s : Int) (i : Int)) x.steps) ⟨rfl, fun j hj => by omega⟩ ?_
  rintro k _ _ hk ⟨rfl, hJ⟩
  ((with_reducible (refine mv_i ?_; refine fao ?_)); (refine ldoA ?_); (with_reducible (refine lss_i (fun hc => ?_) (fun hc => ?_); refine cnd_t ?_; refine mv_i ?_)); (rotate_left); (with_reducible (refine cnd_f ?_; refine mv_i ?_; refine mv_i ?_; refine ret2 ?_)); (rotate_left))
  · refine loop1 I (fun q h2 => h = h2 ∧ ∀ i : Nat, i < q → 0 ≤ idxOf (atS (k : Int) (i : Int)) x.steps) ⟨rfl, fun j hj => by omega⟩ ?_
    rintro q _ _ hq ⟨rfl, hJ2⟩
    ((with_reducible (refine mv_i ?_; refine fao ?_)); (refine ldoA ?_); (with_reducible (refine lss_i (fun hc => ?_) (fun hc => ?_); refine cnd_t ?_)); (refine ldwA ?_); (with_reducible (refine mv_i ?_; refine mv_i ?_)); (refine call_r (c74 ⟨_, by with_unfolding_all rfl, L.up (by assumption)⟩ _ _) ?_); (with_reducible (refine eql_i (fun hc => ?_) (fun hc => ?_); refine cnd_t ?_; refine mv_i ?_; refine mv_i ?_; refine mv_i ?_; refine ret2 ?_)); (rotate_left); (with_reducible (refine cnd_f ?_; refine mv_i ?_; refine inc_i (by omega) ?_; refine mv_i ?_)); (rotate_left); (with_reducible (refine cnd_f ?_; refine mv_i ?_; refine inc_i (by omega) ?_; refine mv_i ?_)); (rotate_left))
    · refine ⟨⟨(k : Int), ?_⟩, Mem.pre (by assumption)⟩
      rw [if_neg]
      intro ho
      have := ho k (by omega) q (by omega)
      omega
    · refine next1 (by omega) ⟨rfl, fun i hi => ?_⟩
      by_cases e : i = q
      · subst e
        rcases idxOf_spec (atS (k : Int) (i : Int)) x.steps with ⟨e1, _⟩ | ⟨_, _, e1, _⟩ <;> omega
      · exact hJ2 i (by omega)
    · refine next1 (by omega) ⟨rfl, fun s hs i hi => ?_⟩
      by_cases e : s = k
      · subst e; exact hJ2 i (by omega)
      · exact hJ s (by omega) i hi
  · refine ⟨⟨(0 : Int), ?_⟩, Mem.pre (by assumption)⟩
    rw [if_pos]
    intro s hs i hi
    exact hJ s (by omega) i (by omega)
/-! ### a machine's error in this chapter -/
open Classical in
noncomputable def errM (x : Mach) : Int := if (chkM x).2 ≠ 0 then (chkM x).2 else if 12 < x.states then 2 else if opn x then 0 else 39
theorem c41 {v : Value} {x : Mach} (s : MacV g v x) : Runs Try.prog 13 [v] g (.int .i64 (chkM x).2) g := by
  obtain ⟨tv, rfl, s⟩ := s
  have m := Mem.start g
  refine DetP.forget rfl ?_
  refine w41 ?_
  unfold n41
  ((with_reducible (refine box_a (by assumption) fun i h z p m => ?_; refine mv_i ?_)); (refine ldwA ?_); (refine call_r (c73 ⟨_, by with_unfolding_all rfl, L.up (by assumption)⟩) ?_); (with_reducible (refine mv_i ?_)))
  unfold mk2
  ((with_reducible (refine ex2_0 ?_; refine ex2_1 ?_; refine mv_i ?_; refine mv_i ?_; refine mv_i ?_; refine mv_i ?_; refine ret1 ?_)))
  exact ⟨rfl, Mem.pre (by assumption)⟩
open Classical in
theorem c12 {v : Value} {x : Mach} (s : MacV g v x) : Runs Try.prog 5 [v] g (.int .i64 (errM x)) g := by
  obtain ⟨tv, rfl, s⟩ := s
  have m := Mem.start g
  refine DetP.forget rfl ?_
  refine w12 ?_
  unfold n12
  by_cases h1 : (chkM x).2 = 0
  · by_cases h2 : 12 < x.states
    · have e : errM x = 2 := by rw [errM, if_neg (by simpa using h1), if_pos h2]
      ((with_reducible (refine box_a (by assumption) fun i h z p m => ?_; refine mv_i ?_)); (refine ldwA ?_); (refine call_r (c41 ⟨_, by with_unfolding_all rfl, L.up (by assumption)⟩) ?_); (with_reducible (refine mv_i ?_; refine mv_i ?_; refine neq_h (by first | assumption | decide) ?_; refine cnd_f ?_; refine fao ?_)); (refine ldoA ?_); (with_reducible (refine gtr_i (fun hc => ?_) (fun hc => ?_); refine cnd_t ?_; refine mv_i ?_; refine ret1 ?_)); (rotate_left); (with_reducible (refine cnd_f ?_)); (refine ldwA ?_); (rotate_left))
      · exact ⟨by rw [e], Mem.pre (by assumption)⟩
      · contradiction
    · have e : errM x = if opn x then 0 else 39 := by rw [errM, if_neg (by simpa using h1), if_neg h2]
      ((with_reducible (refine box_a (by assumption) fun i h z p m => ?_; refine mv_i ?_)); (refine ldwA ?_); (refine call_r (c41 ⟨_, by with_unfolding_all rfl, L.up (by assumption)⟩) ?_); (with_reducible (refine mv_i ?_; refine mv_i ?_; refine neq_h (by first | assumption | decide) ?_; refine cnd_f ?_; refine fao ?_)); (refine ldoA ?_); (with_reducible (refine gtr_i (fun hc => ?_) (fun hc => ?_); refine cnd_t ?_; refine mv_i ?_; refine ret1 ?_)); (rotate_left); (with_reducible (refine cnd_f ?_)); (refine ldwA ?_); (rotate_left))
      · contradiction
      · obtain ⟨k, hr⟩ := c42 (g := h) ⟨_, rfl, s.up⟩ (chk_ok h1).1
        refine call_r hr ?_
        ((with_reducible (refine mv_i ?_; refine ex2_0 ?_; refine ex2_1 ?_; refine mv_i ?_; refine mv_i ?_; refine mv_i ?_; refine mv_i ?_; refine ret1 ?_)))
        exact ⟨by rw [e], Mem.pre (by assumption)⟩
  · ((with_reducible (refine box_a (by assumption) fun i h z p m => ?_; refine mv_i ?_)); (refine ldwA ?_); (refine call_r (c41 ⟨_, by with_unfolding_all rfl, L.up (by assumption)⟩) ?_); (with_reducible (refine mv_i ?_; refine mv_i ?_; refine neq_n (by first | assumption | decide) ?_; refine cnd_t ?_; refine mv_i ?_; refine mv_i ?_; refine ret1 ?_)))
    exact ⟨by rw [errM, if_pos h1], Mem.pre (by assumption)⟩
open Classical in
theorem errM_or (x : Mach) (b1 b2 : Bool) (h1 : b1 = decide (x.states ≤ 12)) (h2 : b2 = decide ((x.steps.length : Int) = IntKind.i64.wrap (x.states * x.inputs))) : orOf [(chkM x).2, unl b1 2, unl b2 39] = errM x := by
  subst h1 h2
  rw [orOf_cons, orOf_cons, orOf_cons, orOf_nil]
  unfold errM
  by_cases h0 : (chkM x).2 = 0
  · have hp := prod_bd (chk_ok h0).1
    rw [wrap_i (by omega) (by omega)]
    simp only [h0, ne_eq, not_true, if_false, if_true]
    have ho := opn_iff h0
    unfold unl
    by_cases h3 : x.states ≤ 12
    · have : ¬ 12 < x.states := by omega
      by_cases h4 : opn x
      · have := ho.mp h4
        simp [h3, h4, this, *]
      · have h5 : ¬ (x.steps.length : Int) = x.states * x.inputs := fun q => h4 (ho.mpr q)
        simp [h3, h4, h5, *]
    · have : 12 < x.states := by omega
      simp [h3, this]
  · rw [if_neg h0, if_pos h0]
theorem c43 {v : Value} {x : Mach} (s : MacV g v x) : Runs Try.prog 15 [v] g (.int .i64 (errM x)) g := by
  obtain ⟨tv, rfl, s⟩ := s
  have lt := s.lt
  have m := Mem.start g
  refine DetP.forget rfl ?_
  refine w43 ?_
  unfold n43
  ((with_reducible (refine box_a (by assumption) fun i h z p m => ?_; refine mv_i ?_)); (refine ldwA ?_); (refine call_r (c75 ⟨_, by with_unfolding_all rfl, L.up (by assumption)⟩) ?_); (with_reducible (refine mv_i ?_)))
  unfold mk2
  ((with_reducible (refine ex2_0 ?_; refine ex2_1 ?_; refine mv_i ?_; refine mv_i ?_; refine mv_i ?_; refine fao ?_)); (refine ldoA ?_); (refine vbA ?_); (with_reducible (refine leq_i (fun hc => ?_) (fun hc => ?_))); (refine calld_r (c77 _ _) ?_); (with_reducible (refine new_n ?_; refine fao ?_)); (refine ldoA ?_); (with_reducible (refine vb_l (by assumption) ?_; refine len_g (by assumption) ?_; refine fao ?_)); (refine ldoA ?_); (refine vbA ?_); (with_reducible (refine fao ?_)); (refine ldoA ?_); (refine vbA ?_); (rotate_left); (refine calld_r (c77 _ _) ?_); (with_reducible (refine new_n ?_; refine fao ?_)); (refine ldoA ?_); (with_reducible (refine vb_l (by assumption) ?_; refine len_g (by assumption) ?_; refine fao ?_)); (refine ldoA ?_); (refine vbA ?_); (with_reducible (refine fao ?_)); (refine ldoA ?_); (refine vbA ?_); (rotate_left))
  all_goals
    refine mul_w ?_
    (repeat' (first|((with_reducible refine is_callf 54 ?_); refine call_r (c48 _ _ _) ?_)|((with_reducible refine is_calldf 54 ?_); refine calld_r (c48 _ _ _) ?_)|((with_reducible refine is_callf 42 ?_); refine call_r (c53 _ _ _) ?_)|((with_reducible refine is_calldf 42 ?_); refine calld_r (c53 _ _ _) ?_)|((with_reducible refine is_callf 58 ?_); refine call_r (c96 _ _ _) ?_)|((with_reducible refine is_calldf 58 ?_); refine calld_r (c96 _ _ _) ?_)|((with_reducible refine is_callf 32 ?_); refine call_r c72t ?_)|((with_reducible refine is_calldf 32 ?_); refine calld_r c72t ?_)|((with_reducible refine is_callf 32 ?_); refine call_r c72f ?_)|((with_reducible refine is_calldf 32 ?_); refine calld_r c72f ?_)|((with_reducible refine is_callf 32 ?_); refine call_r (c72 _) ?_)|((with_reducible refine is_calldf 32 ?_); refine calld_r (c72 _) ?_)|((with_reducible refine is_callf 37 ?_); refine call_r (c77 _ _) ?_)|((with_reducible refine is_calldf 37 ?_); refine calld_r (c77 _ _) ?_)|((with_reducible refine is_callf 50 ?_); refine call_r (c91 _ _) ?_)|((with_reducible refine is_calldf 50 ?_); refine calld_r (c91 _ _) ?_)|((with_reducible refine is_callf 69 ?_); refine call_r (c107 _) ?_)|((with_reducible refine is_calldf 69 ?_); refine calld_r (c107 _) ?_)|((with_reducible refine is_callf 41 ?_); refine call_r (c81 _ _) ?_)|((with_reducible refine is_calldf 41 ?_); refine calld_r (c81 _ _) ?_)|((with_reducible refine is_callf 36 ?_); refine call_r (c76 (own_ints (xs := [_, _, _]) (by assumption) (q := by infer_instance) rfl rfl (by decide))) ?_)|((with_reducible refine is_calldf 36 ?_); refine calld_r (c76 (own_ints (xs := [_, _, _]) (by assumption) (q := by infer_instance) rfl rfl (by decide))) ?_)|((with_reducible refine is_callf 40 ?_); refine call_r (c80 (own_ints (xs := [_, _, _]) (by assumption) (q := by infer_instance) rfl rfl (by decide))) ?_)|((with_reducible refine is_calldf 40 ?_); refine calld_r (c80 (own_ints (xs := [_, _, _]) (by assumption) (q := by infer_instance) rfl rfl (by decide))) ?_)|((with_reducible refine is_callf 40 ?_); refine call_r (c80 (own_ints (xs := [_, _]) (by assumption) (q := by infer_instance) rfl rfl (by decide))) ?_)|((with_reducible refine is_calldf 40 ?_); refine calld_r (c80 (own_ints (xs := [_, _]) (by assumption) (q := by infer_instance) rfl rfl (by decide))) ?_)|((with_reducible refine is_callf 18 ?_); refine call_r (c46 _ _) ?_)|((with_reducible refine is_calldf 18 ?_); refine calld_r (c46 _ _) ?_)|((with_reducible refine is_callf 48 ?_); refine call_r (c49 _ _) ?_)|((with_reducible refine is_calldf 48 ?_); refine calld_r (c49 _ _) ?_)|((with_reducible refine is_callf 20 ?_); refine call_r (c54 (own_ints (xs := [_, _]) (by assumption) (q := by infer_instance) rfl rfl (by decide)) (own_ints (xs := [_, _]) (by assumption) (q := by infer_instance) rfl rfl (by decide))) ?_)|((with_reducible refine is_calldf 20 ?_); refine calld_r (c54 (own_ints (xs := [_, _]) (by assumption) (q := by infer_instance) rfl rfl (by decide)) (own_ints (xs := [_, _]) (by assumption) (q := by infer_instance) rfl rfl (by decide))) ?_)|((with_reducible refine is_callf 34 ?_); refine call_r (c74 ⟨_, by with_unfolding_all rfl, L.up (by assumption)⟩ _ _) ?_)|((with_reducible refine is_calldf 34 ?_); refine calld_r (c74 ⟨_, by with_unfolding_all rfl, L.up (by assumption)⟩ _ _) ?_)|((with_reducible refine is_callf 33 ?_); refine call_r (c73 ⟨_, by with_unfolding_all rfl, L.up (by assumption)⟩) ?_)|((with_reducible refine is_callf 35 ?_); refine call_r (c75 ⟨_, by with_unfolding_all rfl, L.up (by assumption)⟩) ?_)|((with_reducible refine is_callf 13 ?_); refine call_r (c41 ⟨_, by with_unfolding_all rfl, L.up (by assumption)⟩) ?_)|((with_reducible refine is_rl1 ?_); first|(refine rt_w1 (by assumption) (by infer_instance) (by with_unfolding_all rfl) ?_)|(refine rt_11 (by assumption) (by infer_instance) (by with_unfolding_all rfl) ?_))|((with_reducible refine is_rl2 ?_); first|(refine rt_w2 (by assumption) (by infer_instance) (by with_unfolding_all rfl) ?_)|(refine rt_12 (by assumption) (by infer_instance) (by with_unfolding_all rfl) ?_))|((with_reducible refine is_vk ?_); first|(with_reducible refine not_dh (by assumption) ?_)|(with_reducible refine not_dn (by assumption) ?_)|(with_reducible refine not_d (fun hb => ?_) (fun hb => ?_))|(with_reducible refine pick_dh (by assumption) ?_)|(with_reducible refine pick_dn (by assumption) ?_)|(with_reducible refine pick_d (fun hb => ?_) (fun hb => ?_))|(with_reducible refine len_o (by assumption) ?_)|(with_reducible refine nil_i ?_)|(with_reducible refine ex2_0 ?_)|(with_reducible refine ex2_1 ?_)|(with_reducible refine ex3_0 ?_)|(with_reducible refine ex3_1 ?_)|(with_reducible refine ex3_2 ?_)|(with_reducible refine pick_t ?_)|(with_reducible refine pick_f ?_)|(with_reducible refine not_t ?_)|(with_reducible refine not_f ?_)|(with_reducible refine pick_h (by assumption) ?_)|(with_reducible refine pick_n (by assumption) ?_)|(with_reducible refine not_h (by assumption) ?_)|(with_reducible refine not_n (by assumption) ?_)|(with_reducible refine not_s (fun hb => ?_) (fun hb => ?_))|(with_reducible refine pick_s (fun hb => ?_) (fun hb => ?_))|(with_reducible refine len_g (by assumption) ?_)|(with_reducible refine slen_i ?_)|(with_reducible refine len_s ?_)|(refine fld_g (by with_unfolding_all rfl) ?_)|(with_reducible refine leni_t (by assumption) ?_))|((with_reducible refine is_gd ?_); first|(with_reducible refine gd_dht (by assumption) ?_)|(with_reducible refine gd_dnt (by assumption) ?_)|(with_reducible refine gd_dhf (by assumption) ?_)|(with_reducible refine gd_dnf (by assumption) ?_)|(with_reducible refine gd_dt (fun hb => ?_) (fun hb => ?_))|(with_reducible refine gd_df (fun hb => ?_) (fun hb => ?_))|(with_reducible refine gd_tt ?_)|(with_reducible refine gd_ff ?_)|(with_reducible refine gd_tf ?_)|(with_reducible refine gd_ft ?_)|(with_reducible refine gd_u ?_)|(with_reducible refine gd_ht (by assumption) ?_)|(with_reducible refine gd_hf (by assumption) ?_)|(with_reducible refine gd_nt (by assumption) ?_)|(with_reducible refine gd_nf (by assumption) ?_)|(with_reducible refine gd_st (fun hb => ?_) (fun hb => ?_))|(with_reducible refine gd_sf (fun hb => ?_) (fun hb => ?_)))|((with_reducible refine is_cnd ?_); first|(with_reducible refine cnd_dh (by assumption) ?_)|(with_reducible refine cnd_dn (by assumption) ?_)|(with_reducible refine cnd_d (fun hb => ?_) (fun hb => ?_))|(with_reducible refine cnd_t ?_)|(with_reducible refine cnd_f ?_)|(with_reducible refine cnd_h (by assumption) ?_)|(with_reducible refine cnd_n (by assumption) ?_)|(with_reducible refine cnd_b (fun hb => ?_) (fun hb => ?_)))|((with_reducible refine is_bin ?_); first|(with_reducible refine sub_a (by assumption) (by decide) (by decide) ?_)|(with_reducible refine snil_i (fun hn => ?_) (fun hn => ?_))|(with_reducible refine prq_i (fun hc => ?_) (fun hc => ?_))|(refine mul_j (by omega) (by omega) ?_)|(with_reducible refine eql_h (by first | assumption | decide) ?_)|(with_reducible refine eql_n (by first | assumption | decide) ?_)|(with_reducible refine neq_h (by first | assumption | decide) ?_)|(with_reducible refine neq_n (by first | assumption | decide) ?_)|(with_reducible refine lss_i (fun hc => ?_) (fun hc => ?_))|(with_reducible refine leq_i (fun hc => ?_) (fun hc => ?_))|(with_reducible refine gtr_i (fun hc => ?_) (fun hc => ?_))|(with_reducible refine geq_i (fun hc => ?_) (fun hc => ?_))|(with_reducible refine eql_i (fun hc => ?_) (fun hc => ?_))|(with_reducible refine neq_i (fun hc => ?_) (fun hc => ?_))|(with_reducible refine seq_s (fun hc => ?_) (fun hc => ?_))|(with_reducible refine sne_s (fun hc => ?_) (fun hc => ?_))|(with_reducible refine sls_i ?_)|(with_reducible refine inc_i (by omega) ?_)|(with_reducible refine sub_j (by omega) (by omega) ?_)|(with_reducible refine add_j (by omega) (by omega) ?_))|((with_reducible refine is_six ?_); first|(with_reducible refine sidx_0 (by omega) ?_))|((with_reducible refine is_idx ?_); first|(refine ia_g (by assumption) (by omega) (by omega) fun p hp => ?_)|(refine ia_o (by omega) (by omega) ?_)|(refine idxA fun p hp => ?_)|(refine idx_dp (by assumption) (by with_unfolding_all rfl) (by omega) (by omega) fun p hp => ?_)|(refine idx_dz (by assumption) (by with_unfolding_all rfl) (by omega) (by omega) fun p hp => ?_)|(refine idx_f (by assumption) (by with_unfolding_all rfl) (by omega) fun p hp => ?_)|(refine idx_fz (by assumption) (by with_unfolding_all rfl) (by omega) (by omega) fun p hp => ?_)|(refine idxi_t (by assumption) (by omega) ?_)|(refine idx_o (by assumption) (by omega) ?_)|(refine idx_oz (by assumption) (by omega) (by omega) ?_))|((with_reducible refine is_fa ?_); first|(with_reducible refine fa_g (by assumption) fun p hp => ?_)|(with_reducible refine fao_e ?_)|(with_reducible refine fao ?_))|((with_reducible refine is_ldo ?_); first|(refine ldoA ?_)|(refine ldwA ?_)|(refine ldor (by assumption) (q := by infer_instance) (by with_unfolding_all rfl) (by with_unfolding_all exact Nat.le_refl _) ?_)|(refine ldf_d (by assumption) (by infer_instance) (by with_unfolding_all rfl) (by omega) (by with_unfolding_all exact Nat.le_of_ble_eq_true rfl) (by with_unfolding_all rfl) ?_)|(refine ldw_d (by assumption) (by infer_instance) (by with_unfolding_all rfl) (by omega) ?_))|((with_reducible refine is_ld ?_); first|(refine ldgA ?_)|(refine ldr_w (by assumption) (by with_unfolding_all rfl) ?_)|(refine ldr_g (by assumption) (by with_unfolding_all rfl) (by with_unfolding_all exact Nat.le_refl _) ?_)|(refine ldi_t (by assumption) (by omega) ?_))|((with_reducible refine is_box ?_); first|(with_reducible refine box_a (by assumption) fun i h z p m => ?_)|(refine box_1 (by assumption) (by with_unfolding_all rfl) fun i h z p m => ?_))|((with_reducible refine is_ok ?_); first|(with_reducible refine alloc_z (by assumption) fun i h z p m => ?_))|((with_reducible refine is_st ?_); first|(refine sto (by assumption) (q := by infer_instance) (by with_unfolding_all exact Nat.le_of_ble_eq_true rfl) rfl rfl (u := by infer_instance) fun h p m => ?_)|(refine st_w (by assumption) (by infer_instance) (by with_unfolding_all rfl) (by with_unfolding_all rfl) (by first | rfl | exact flat_ones (Flat.flat _)) (by infer_instance) fun h p m => ?_)|(refine stw_o (by assumption) (by infer_instance) (by with_unfolding_all rfl) (by omega) (by infer_instance) fun h p m => ?_))|((with_reducible refine is_new ?_); first|(with_reducible refine new_n ?_)|(with_reducible refine new_p (by assumption) ?_))|((with_reducible refine is_pd ?_); first|(refine pd_p (by assumption) (by with_unfolding_all rfl) ?_)|(refine pd_c (by assumption) (by infer_instance) (by with_unfolding_all rfl) ?_)|(refine pd_o (by assumption) (by infer_instance) (by with_unfolding_all rfl) ?_))|((with_reducible refine is_vb ?_); first|(refine vb_mac (by assumption) ?_)|(with_reducible refine vb_f ?_)|(refine vbA ?_)|(with_reducible refine vb_l (by assumption) ?_)|(refine vb_as rfl (by assumption) ?_)|(refine vb_ao rfl (by assumption) (by assumption) (by infer_instance) ?_)|(refine IsSl.vb (by assumption) (by assumption) (by infer_instance) ?_))|((with_reducible refine is_tru ?_); first|(with_reducible refine ⟨trivial, ?_⟩))|((with_reducible refine is_ret ?_); first|(with_reducible refine ret1 ?_)|(with_reducible refine ret2 ?_)|(with_reducible refine ret3 ?_)|(with_reducible refine ret0 ?_))|((with_reducible refine is_bld ?_); first|(refine vk_i (bd24_z) ?_)|(refine vk_i (bd77_01 _ _) ?_))|((with_reducible refine is_bsl ?_); first|(refine bs_g (bs36_0 _) (by assumption) fun i h p m => ?_)|(refine bs_g (bs22_0 _) (by assumption) fun i h p m => ?_)|(refine bs_g (bs51_1 _ _ _ _) (by assumption) fun i h p m => ?_)|(refine bs_g (bs27_0 _) (by assumption) fun i h p m => ?_)|(refine bs_g (bs53_2 _ _ _) (by assumption) fun i h p m => ?_)|(refine bs_g (bs141_3 _ _ _ _) (by assumption) fun i h p m => ?_)|(refine bs_g (bs53_3 _ _ _ _) (by assumption) fun i h p m => ?_)|(refine bs_g (bs53_1 _ _) (by assumption) fun i h p m => ?_))|(with_reducible refine mv_i ?_)|(with_reducible refine seq_i ?_)|((with_reducible refine fun (_ : Tmps) => ?_); (try dsimp only [nth]))))
  all_goals
    refine ⟨?_, Mem.pre (by assumption)⟩
    rw [errM_or x _ _ (by first | exact (decide_eq_true (by assumption)).symm | exact (decide_eq_false (by assumption)).symm) (by first | exact (decide_eq_true (by assumption)).symm | exact (decide_eq_false (by assumption)).symm)]
end Go.Proofs.Ytgmgmkhenhaniaa

set_option linter.unusedSimpArgs false
set_option linter.unusedVariables false
set_option linter.unnecessarySimpa false
set_option maxRecDepth 100000
set_option maxHeartbeats 4000000
namespace Go.Proofs.Ytgmgmkhenhaniaa
open Go.AM
variable {h g : Heap}
/-! ### searches -/
theorem c113 {x : Value} {l : List Mut} {f : FuncId} {cap : Array Value} (s : L g x l) {p : Mut → Bool} (hpp : ∀ t, Runs Try.prog f ([fv t] ++ cap.toList) g (.bool (p t)) g) :
    Runs Try.prog 95 [x, .func (.func f) #[] cap] g (.int .i64 (idxOf p l)) g := by
  have lt := s.lt
  refine DetP.runs (w113 ?_)
  unfold n113
  ((with_reducible (refine mv_i ?_; refine mv_i ?_; refine len_g (by assumption) ?_; refine mv_i ?_)))
  refine loop1 l.length (fun k h2 => g = h2 ∧ ∀ j, j < k → p (gt l j) = false) ⟨rfl, fun j hj => by omega⟩ ?_
  rintro k _ _ hk ⟨rfl, hJ⟩
  ((with_reducible (refine lss_i (fun hc => ?_) (fun hc => ?_); refine cnd_t ?_; refine mv_i ?_; refine mv_i ?_; refine mv_i ?_; refine mv_i ?_; refine mv_i ?_)); (refine idxA fun p hp => ?_); (refine ldr_w (by assumption) (by with_unfolding_all rfl) ?_); (rotate_left); (with_reducible (refine cnd_f ?_; refine mv_i ?_; refine ret1 ?_)); (rotate_left))
  · refine call_r (hpp _) ?_
    ((with_reducible (refine cnd_b (fun hb => ?_) (fun hb => ?_); refine mv_i ?_; refine mv_i ?_; refine ret1 ?_)); (rotate_left); (with_reducible (refine inc_i (by omega) ?_; refine mv_i ?_)); (rotate_left))
    · exact ⟨by rw [idxOf_at hJ (by omega) hb], rfl⟩
    · refine next1 (by omega) ⟨rfl, fun j hj => ?_⟩
      by_cases q : j = k
      · subst q; exact hb
      · exact hJ j (by omega)
  · exact ⟨by rw [idxOf_no fun j hj => hJ j (by omega)], rfl⟩
theorem c128 {x : Value} {l : List Int} {f : FuncId} {cap : Array Value} (s : L g x l) {p : Int → Bool} (hpp : ∀ t, Runs Try.prog f ([.int .i64 t] ++ cap.toList) g (.bool (p t)) g) :
    Runs Try.prog 100 [x, .func (.func f) #[] cap] g (.int .i64 (idxOf p l)) g := by
  have lt := s.lt
  refine DetP.runs (w128 ?_)
  unfold n128
  ((with_reducible (refine mv_i ?_; refine mv_i ?_; refine len_g (by assumption) ?_; refine mv_i ?_)))
  refine loop1 l.length (fun k h2 => g = h2 ∧ ∀ j, j < k → p (gt l j) = false) ⟨rfl, fun j hj => by omega⟩ ?_
  rintro k _ _ hk ⟨rfl, hJ⟩
  ((with_reducible (refine lss_i (fun hc => ?_) (fun hc => ?_); refine cnd_t ?_; refine mv_i ?_; refine mv_i ?_; refine mv_i ?_; refine mv_i ?_; refine mv_i ?_)); (refine idxA fun p hp => ?_); (refine ldgA ?_); (rotate_left); (with_reducible (refine cnd_f ?_; refine mv_i ?_; refine ret1 ?_)); (rotate_left))
  · refine call_r (hpp _) ?_
    ((with_reducible (refine cnd_b (fun hb => ?_) (fun hb => ?_); refine mv_i ?_; refine mv_i ?_; refine ret1 ?_)); (rotate_left); (with_reducible (refine inc_i (by omega) ?_; refine mv_i ?_)); (rotate_left))
    · exact ⟨by rw [idxOf_at hJ (by omega) hb], rfl⟩
    · refine next1 (by omega) ⟨rfl, fun j hj => ?_⟩
      by_cases q : j = k
      · subst q; exact hb
      · exact hJ j (by omega)
  · exact ⟨by rw [idxOf_no fun j hj => hJ j (by omega)], rfl⟩
theorem c129 {x : Value} {l : List Int} (s : L g x l) (n : Int) : Runs Try.prog 101 [x, .int .i64 n] g (.int .i64 (idxOf (fun t => decide (n = t)) l)) g := by
  have lt := s.lt
  refine DetP.runs (w129 ?_)
  unfold n129
  ((with_reducible (refine mv_i ?_; refine mv_i ?_; refine len_g (by assumption) ?_; refine mv_i ?_)))
  refine loop1 l.length (fun k h2 => g = h2 ∧ ∀ j, j < k → (fun t => decide (n = t)) (gt l j) = false) ⟨rfl, fun j hj => by omega⟩ ?_
  rintro k _ _ hk ⟨rfl, hJ⟩
  ((with_reducible (refine lss_i (fun hc => ?_) (fun hc => ?_); refine cnd_t ?_; refine mv_i ?_; refine mv_i ?_; refine mv_i ?_; refine mv_i ?_; refine mv_i ?_)); (refine idxA fun p hp => ?_); (refine ldgA ?_); (with_reducible (refine eql_i (fun hc => ?_) (fun hc => ?_); refine cnd_t ?_; refine mv_i ?_; refine mv_i ?_; refine ret1 ?_)); (rotate_left); (with_reducible (refine cnd_f ?_; refine inc_i (by omega) ?_; refine mv_i ?_)); (rotate_left); (with_reducible (refine cnd_f ?_; refine mv_i ?_; refine ret1 ?_)); (rotate_left))
  · exact ⟨by rw [idxOf_at (p := fun t => decide (n = t)) hJ (by omega) (decide_eq_true hc)], rfl⟩
  · refine next1 (by omega) ⟨rfl, fun j hj => ?_⟩
    by_cases q : j = k
    · subst q; exact decide_eq_false hc
    · exact hJ j (by omega)
  · exact ⟨by rw [idxOf_no fun j hj => hJ j (by omega)], rfl⟩
theorem c112 {x : Value} {l : List Int} (s : L g x l) (n : Int) : Runs Try.prog 94 [x, .int .i64 n] g (.bool (decide (0 ≤ idxOf (fun t => decide (n = t)) l))) g := by
  have m := Mem.start g
  refine DetP.forget rfl ?_
  refine w112 ?_
  unfold n112
  ((with_reducible (refine mv_i ?_; refine mv_i ?_; refine mv_i ?_)))
  refine call_r (c129 s n) ?_
  ((with_reducible (refine geq_i (fun hc => ?_) (fun hc => ?_); refine mv_i ?_; refine ret1 ?_)); (rotate_left); (with_reducible (refine mv_i ?_; refine ret1 ?_)); (rotate_left))
  all_goals exact ⟨by simp [*], Mem.pre (by assumption)⟩
theorem c111 {i k z : Nat} {y : Value} {ys : List Int} {g0 : Heap} {Lm : List E} (m : Mem g0 g Lm) (q1 : Ent Lm i k [y] z) (t : L g y ys) (n : Int) : Runs Try.prog 93 [.int .i64 n, .pointer (some ⟨i, 0, none⟩)] g (.bool (decide (0 ≤ idxOf (fun t => decide (n = t)) ys))) g := by
  refine DetP.runs ?_
  refine w111 ?_
  unfold n111
  ((with_reducible (refine mv_i ?_)); (refine ldoA ?_); (with_reducible (refine mv_i ?_)))
  refine call_r (c112 t n) ?_
  ((with_reducible (refine mv_i ?_; refine ret1 ?_)))
  exact ⟨rfl, rfl⟩
theorem c110 {x : Value} {l : List Int} {f : FuncId} {cap : Array Value} (s : L g x l) {p : Int → Bool} (hpp : ∀ t, Runs Try.prog f ([.int .i64 t] ++ cap.toList) g (.bool (p t)) g) :
    Runs Try.prog 92 [x, .func (.func f) #[] cap] g (.bool (decide (0 ≤ idxOf p l))) g := by
  refine DetP.runs (w110 ?_)
  unfold n110
  ((with_reducible (refine mv_i ?_; refine mv_i ?_; refine mv_i ?_)))
  refine call_r (c128 s hpp) ?_
  ((with_reducible (refine geq_i (fun hc => ?_) (fun hc => ?_); refine mv_i ?_; refine ret1 ?_)); (rotate_left); (with_reducible (refine mv_i ?_; refine ret1 ?_)); (rotate_left))
  all_goals exact ⟨by simp [*], rfl⟩
theorem c87 {x : Value} {l : List Mut} {f : FuncId} {cap : Array Value} (s : L g x l) {p : Mut → Bool} (hpp : ∀ t, Runs Try.prog f ([fv t] ++ cap.toList) g (.bool (p t)) g) :
    Runs Try.prog 76 [x, .func (.func f) #[] cap] g (.bool (decide (0 ≤ idxOf p l))) g := by
  refine DetP.runs (w87 ?_)
  unfold n87
  ((with_reducible (refine mv_i ?_; refine mv_i ?_; refine mv_i ?_)))
  refine call_r (c113 s hpp) ?_
  ((with_reducible (refine geq_i (fun hc => ?_) (fun hc => ?_); refine mv_i ?_; refine ret1 ?_)); (rotate_left); (with_reducible (refine mv_i ?_; refine ret1 ?_)); (rotate_left))
  all_goals exact ⟨by simp [*], rfl⟩
def com (xs ys : List Int) : Bool := decide (0 ≤ idxOf (fun n => decide (0 ≤ idxOf (fun t => decide (n = t)) ys)) xs)
theorem c109 {x y : Value} {xs ys : List Int} (s : L g x xs) (t : L g y ys) : Runs Try.prog 91 [x, y] g (.bool (com xs ys)) g := by
  obtain ⟨b, c, rfl, _⟩ := t.shape
  have m := Mem.start g
  refine DetP.forget rfl ?_
  refine w109 ?_
  unfold n109
  ((refine box_1 (by assumption) (by with_unfolding_all rfl) fun i h z p m => ?_); (with_reducible (refine mv_i ?_; refine mv_i ?_; refine mv_i ?_)))
  refine call_r (c110 (p := fun n => decide (0 ≤ idxOf (fun t => decide (n = t)) ys)) s.up fun n => c111 m (by infer_instance) t.up n) ?_
  ((with_reducible (refine mv_i ?_; refine ret1 ?_)))
  exact ⟨rfl, Mem.pre (by assumption)⟩
/-! ### what mutations change -/
def tgs (m : Mut) : List Int := if m.kind = 0 then [] else if m.kind = 1 then [m.step] else if m.kind = 2 then [] else [m.step, m.to]
def ous (m : Mut) : List Int := if m.kind = 0 then [m.step] else []
def sms (m : Mut) : Bool := if m.kind = 0 then false else if m.kind = 1 then false else decide (m.kind = 2)
theorem c108 (t : Mut) : DetP Try.prog 90 [fv t] g fun v' h' => g <+: h' ∧ ∃ x y, v' = .tuple #[x, y, .bool (sms t)] ∧ L h' x (tgs t) ∧ L h' y (ous t) := by
  refine DetP.freeze ?_
  have m := Mem.start g
  refine w108 ?_
  unfold n108
  ((with_reducible (refine box_a (by assumption) fun i h z p m => ?_; refine mv_i ?_; refine mv_i ?_; refine mv_i ?_; refine fao ?_)); (refine ldoA ?_); (with_reducible (refine eql_i (fun hc => ?_) (fun hc => ?_); refine mv_i ?_; refine cnd_t ?_; refine fao ?_)); (refine ldoA ?_); (refine vbA ?_); (refine bs_g (bs53_1 _ _) (by assumption) fun i h p m => ?_); (with_reducible (refine mv_i ?_; refine mv_i ?_; refine mv_i ?_; refine ret3 ?_)); (rotate_left); (with_reducible (refine mv_i ?_; refine cnd_f ?_; refine eql_i (fun hc => ?_) (fun hc => ?_); refine mv_i ?_; refine cnd_t ?_; refine fao ?_)); (refine ldoA ?_); (refine bs_g (bs53_1 _ _) (by assumption) fun i h p m => ?_); (with_reducible (refine mv_i ?_; refine mv_i ?_; refine mv_i ?_; refine ret3 ?_)); (rotate_left); (with_reducible (refine mv_i ?_; refine cnd_f ?_; refine eql_i (fun hc => ?_) (fun hc => ?_); refine mv_i ?_; refine cnd_t ?_; refine mv_i ?_; refine mv_i ?_; refine mv_i ?_; refine ret3 ?_)); (rotate_left); (with_reducible (refine mv_i ?_; refine cnd_f ?_; refine fao ?_)); (refine ldoA ?_); (with_reducible (refine fao ?_)); (refine ldoA ?_); (refine bs_g (bs53_2 _ _ _) (by assumption) fun i h p m => ?_); (with_reducible (refine mv_i ?_; refine mv_i ?_; refine mv_i ?_; refine ret3 ?_)); (rotate_left))
  · rw [show sms t = false by simp [sms, *], show tgs t = [] by simp [tgs, *], show ous t = [t.step] by simp [ous, *]]
    exact ⟨m.pre, _, _, rfl, L.nil _, ret_flat (xs := [t.step]) (k := 0) m rfl (by simp) (.inr (by simp))⟩
  · rw [show sms t = false by simp [sms, *], show tgs t = [t.step] by simp [tgs, *], show ous t = [] by simp [ous, *]]
    exact ⟨m.pre, _, _, rfl, ret_flat (xs := [t.step]) (k := 0) m rfl (by simp) (.inr (by simp)), L.nil _⟩
  · rw [show sms t = true by simp [sms, *], show tgs t = [] by simp [tgs, *], show ous t = [] by simp [ous, *]]
    exact ⟨m.pre, _, _, rfl, L.nil _, L.nil _⟩
  · rw [show sms t = false by simp [sms, *], show tgs t = [t.step, t.to] by simp [tgs, *], show ous t = [] by simp [ous, *]]
    exact ⟨m.pre, _, _, rfl, ret_flat (xs := [t.step, t.to]) (k := 0) m rfl (by simp) (.inr (by simp)), L.nil _⟩
def meetS (a b : Mut) : Bool := com (tgs a) (tgs b) || (com (ous a) (ous b) || (sms a && sms b))
theorem c85 (a b : Mut) : Runs Try.prog 74 [fv a, fv b] g (.bool (meetS a b)) g := by
  have m := Mem.start g
  refine DetP.forget rfl ?_
  refine w85 ?_
  unfold n85
  ((with_reducible (refine box_a (by assumption) fun i h z p m => ?_; refine box_a (by assumption) fun i h z p m => ?_; refine mv_i ?_)); (refine ldwA ?_))
  refine call_d (c108 a) m fun v1 h1 p1 p2 m ⟨x1, y1, e1, s1, t1⟩ => ?_
  subst e1
  obtain ⟨b1, q1, rfl, _⟩ := s1.shape
  obtain ⟨b2, q2, rfl, _⟩ := t1.shape
  ((with_reducible (refine mv_i ?_; refine ex3_0 ?_; refine ex3_1 ?_; refine ex3_2 ?_; refine mv_i ?_; refine mv_i ?_; refine mv_i ?_)); (refine ldwA ?_))
  refine call_d (c108 b) m fun v2 h2 p3 p4 m ⟨x2, y2, e2, s2, t2⟩ => ?_
  subst e2
  obtain ⟨b3, q3, rfl, _⟩ := s2.shape
  obtain ⟨b4, q4, rfl, _⟩ := t2.shape
  ((with_reducible (refine mv_i ?_; refine ex3_0 ?_; refine ex3_1 ?_; refine ex3_2 ?_; refine mv_i ?_; refine mv_i ?_; refine mv_i ?_; refine mv_i ?_; refine mv_i ?_; refine mv_i ?_; refine mv_i ?_)))
  refine call_r (c109 s1.up s2.up) ?_
  ((with_reducible (refine mv_i ?_; refine gd_sf (fun hb => ?_) (fun hb => ?_); refine gd_nf (by assumption) ?_; refine gd_nf (by assumption) ?_; refine gd_nf (by assumption) ?_; refine pick_h (by assumption) ?_; refine mv_i ?_; refine gd_tf ?_; refine gd_tf ?_; refine gd_u ?_; refine gd_tf ?_; refine pick_t ?_; refine mv_i ?_; refine ret1 ?_)); (rotate_left); (with_reducible (refine mv_i ?_; refine gd_hf (by assumption) ?_; refine mv_i ?_; refine gd_hf (by assumption) ?_; refine mv_i ?_; refine gd_hf (by assumption) ?_)); (rotate_left))
  · exact ⟨by simp [meetS, *], Mem.pre (by assumption)⟩
  · refine call_r (c109 t1.up t2.up) ?_
    ((with_reducible (refine pick_n (by assumption) ?_; refine mv_i ?_; refine gd_sf (fun hb => ?_) (fun hb => ?_); refine gd_nf (by assumption) ?_; refine gd_u ?_; refine gd_nf (by assumption) ?_; refine pick_h (by assumption) ?_; refine mv_i ?_; refine ret1 ?_)); (rotate_left); (with_reducible (refine mv_i ?_; refine gd_hf (by assumption) ?_; refine mv_i ?_; refine gd_st (fun hb => ?_) (fun hb => ?_); refine mv_i ?_; refine gd_hf (by assumption) ?_; refine pick_h (by assumption) ?_; refine pick_n (by assumption) ?_; refine mv_i ?_; refine ret1 ?_)); (rotate_left); (with_reducible (refine gd_hf (by assumption) ?_; refine pick_n (by assumption) ?_; refine pick_n (by assumption) ?_; refine mv_i ?_; refine ret1 ?_)); (rotate_left))
    all_goals exact ⟨by simp [meetS, *], Mem.pre (by assumption)⟩
theorem c84 {i k z : Nat} {y : Mut} {g0 : Heap} {Lm : List E} (t : Mut) (m : Mem g0 g Lm) (q1 : Ent Lm i k (Flat.cells y) z) : Runs Try.prog 73 [fv t, .pointer (some ⟨i, 0, none⟩)] g (.bool (meetS t y)) g := by
  refine DetP.forget rfl ?_
  refine w84 ?_
  unfold n84
  refine box_ap m fun i2 h z pp p m => ?_
  ((with_reducible (refine mv_i ?_)); (refine ldwA ?_); (refine ldwA ?_))
  refine call_r (c85 t y) ?_
  ((with_reducible (refine mv_i ?_; refine ret1 ?_)))
  exact ⟨rfl, pp⟩
/-! ### the parts of a mutation -/
def within (lo n hi : Int) : Prop := lo ≤ n ∧ n ≤ hi
def rightS (x : Mach) (m : Mut) : Prop :=
  if m.kind = 0 then (0 ≤ m.step ∧ m.step ≤ x.steps.length - 1) ∧ (0 ≤ m.to ∧ m.to ≤ x.outputs - 1)
  else if m.kind = 1 then (0 ≤ m.step ∧ m.step ≤ x.steps.length - 1) ∧ (0 ≤ m.to ∧ m.to ≤ x.states - 1)
  else if m.kind = 2 then m.step = 0 ∧ (0 ≤ m.to ∧ m.to ≤ x.states - 1)
  else (0 ≤ m.step ∧ m.step ≤ x.steps.length - 1) ∧ (0 ≤ m.to ∧ m.to ≤ x.steps.length - 1)
instance (x : Mach) (m : Mut) : Decidable (rightS x m) := by unfold rightS; infer_instance
theorem c86 {v : Value} {x : Mach} (s : MacV g v x) (hh : headOK x) (t : Mut) : Runs Try.prog 75 [v, fv t] g (.bool (decide (rightS x t))) g := by
  obtain ⟨tv, rfl, s⟩ := s
  have lt := s.lt
  obtain ⟨a1, a2, a3, a4⟩ := hh
  have m := Mem.start g
  refine DetP.forget rfl ?_
  refine w86 ?_
  unfold n86
  ((with_reducible (refine box_a (by assumption) fun i h z p m => ?_; refine box_a (by assumption) fun i h z p m => ?_; refine mv_i ?_; refine fao ?_)); (refine ldoA ?_); (with_reducible (refine len_g (by assumption) ?_; refine mv_i ?_; refine fao ?_)); (refine ldoA ?_); (with_reducible (refine eql_i (fun hc => ?_) (fun hc => ?_); refine mv_i ?_; refine cnd_t ?_; refine fao ?_)); (refine ldoA ?_); (with_reducible (refine mv_i ?_; refine sub_j (by omega) (by omega) ?_)); (refine call_r (c48 _ _ _) ?_); (with_reducible (refine mv_i ?_; refine gd_dt (fun hb => ?_) (fun hb => ?_); refine fao ?_; refine gd_dht (by assumption) ?_)); (refine ldoA ?_); (with_reducible (refine gd_dht (by assumption) ?_; refine fao ?_; refine gd_dht (by assumption) ?_)); (refine ldoA ?_); (with_reducible (refine gd_dht (by assumption) ?_; refine sub_a (by assumption) (by decide) (by decide) ?_; refine gd_dht (by assumption) ?_)); (refine call_r (c48 _ _ _) ?_); (with_reducible (refine pick_dh (by assumption) ?_; refine mv_i ?_; refine ret1 ?_)); (rotate_left); (with_reducible (refine gd_dnt (by assumption) ?_; refine gd_dnt (by assumption) ?_; refine gd_dnt (by assumption) ?_; refine gd_dnt (by assumption) ?_; refine gd_dnt (by assumption) ?_; refine pick_dn (by assumption) ?_; refine mv_i ?_; refine ret1 ?_)); (rotate_left); (with_reducible (refine mv_i ?_; refine cnd_f ?_; refine eql_i (fun hc => ?_) (fun hc => ?_); refine mv_i ?_; refine cnd_t ?_; refine fao ?_)); (refine ldoA ?_); (with_reducible (refine mv_i ?_; refine sub_j (by omega) (by omega) ?_)); (refine call_r (c48 _ _ _) ?_); (with_reducible (refine mv_i ?_; refine gd_dt (fun hb => ?_) (fun hb => ?_); refine fao ?_; refine gd_dht (by assumption) ?_)); (refine ldoA ?_); (with_reducible (refine gd_dht (by assumption) ?_; refine fao ?_; refine gd_dht (by assumption) ?_)); (refine ldoA ?_); (with_reducible (refine gd_dht (by assumption) ?_; refine sub_a (by assumption) (by decide) (by decide) ?_; refine gd_dht (by assumption) ?_)); (refine call_r (c48 _ _ _) ?_); (with_reducible (refine pick_dh (by assumption) ?_; refine mv_i ?_; refine ret1 ?_)); (rotate_left); (with_reducible (refine gd_dnt (by assumption) ?_; refine gd_dnt (by assumption) ?_; refine gd_dnt (by assumption) ?_; refine gd_dnt (by assumption) ?_; refine gd_dnt (by assumption) ?_; refine pick_dn (by assumption) ?_; refine mv_i ?_; refine ret1 ?_)); (rotate_left); (with_reducible (refine mv_i ?_; refine cnd_f ?_; refine eql_i (fun hc => ?_) (fun hc => ?_); refine mv_i ?_; refine cnd_t ?_; refine fao ?_)); (refine ldoA ?_); (with_reducible (refine eql_i (fun hc => ?_) (fun hc => ?_); refine mv_i ?_; refine gd_tt ?_; refine fao ?_; refine gd_tt ?_)); (refine ldoA ?_); (with_reducible (refine gd_tt ?_; refine fao ?_; refine gd_tt ?_)); (refine ldoA ?_); (with_reducible (refine gd_tt ?_; refine sub_a (by assumption) (by decide) (by decide) ?_; refine gd_tt ?_)); (refine call_r (c48 _ _ _) ?_); (with_reducible (refine pick_t ?_; refine mv_i ?_; refine ret1 ?_)); (rotate_left); (with_reducible (refine mv_i ?_; refine gd_ft ?_; refine gd_ft ?_; refine gd_ft ?_; refine gd_ft ?_; refine gd_ft ?_; refine gd_ft ?_; refine pick_f ?_; refine mv_i ?_; refine ret1 ?_)); (rotate_left); (with_reducible (refine mv_i ?_; refine cnd_f ?_; refine fao ?_)); (refine ldoA ?_); (with_reducible (refine mv_i ?_; refine sub_j (by omega) (by omega) ?_)); (refine call_r (c48 _ _ _) ?_); (with_reducible (refine mv_i ?_; refine gd_dt (fun hb => ?_) (fun hb => ?_); refine fao ?_; refine gd_dht (by assumption) ?_)); (refine ldoA ?_); (with_reducible (refine gd_dht (by assumption) ?_; refine mv_i ?_; refine gd_dht (by assumption) ?_; refine sub_j (by omega) (by omega) ?_; refine gd_dht (by assumption) ?_)); (refine call_r (c48 _ _ _) ?_); (with_reducible (refine pick_dh (by assumption) ?_; refine mv_i ?_; refine ret1 ?_)); (rotate_left); (with_reducible (refine gd_dnt (by assumption) ?_; refine gd_dnt (by assumption) ?_; refine gd_dnt (by assumption) ?_; refine gd_dnt (by assumption) ?_; refine pick_dn (by assumption) ?_; refine mv_i ?_; refine ret1 ?_)); (rotate_left))
  all_goals exact ⟨by first | (simp [rightS, *]; done) | (simp_all [rightS]; done) | (simp_all [rightS]; omega), Mem.pre (by assumption)⟩
end Go.Proofs.Ytgmgmkhenhaniaa

set_option linter.unusedSimpArgs false
set_option linter.unusedVariables false
set_option linter.unnecessarySimpa false
set_option maxRecDepth 100000
set_option maxHeartbeats 4000000
namespace Go.Proofs.Ytgmgmkhenhaniaa
open Go.AM
variable {h g : Heap}
/-! ### a mutant's error -/
def ordS (l : List Mut) (k : Nat) : Prop := (k = 0 ∨ cmpM (gt l (k - 1)) (gt l k) < 0) ∧ ((gt l k).kind ≠ 3 ∨ (gt l k).step < (gt l k).to)
instance (l : List Mut) (k : Nat) : Decidable (ordS l k) := by unfold ordS; infer_instance
def agn (l : List Mut) (k : Nat) : Prop := 0 ≤ idxOf (fun o => meetS o (gt l k)) (l.take k)
instance (l : List Mut) (k : Nat) : Decidable (agn l k) := by unfold agn; infer_instance
def muE (x : Mach) (l : List Mut) (k : Nat) : Int :=
  if ¬ (0 ≤ (gt l k).kind ∧ (gt l k).kind ≤ 3) then 4 else if ¬ rightS x (gt l k) then 3 else if ¬ ordS l k then 14 else if agn l k then 13 else 0
def mutE (x : Mach) (l : List Mut) : Nat × Int := if 4 < l.length then (0, 2) else firstErr (muE x l) l.length
theorem muE_or (x : Mach) (l : List Mut) (k : Nat) (b1 b2 b3 : Bool) (h0 : 0 ≤ (gt l k).kind ∧ (gt l k).kind ≤ 3) (h1 : b1 = decide (rightS x (gt l k))) (h2 : b2 = decide (ordS l k)) (h3 : b3 = decide (¬ agn l k)) : orOf [unl b1 3, unl b2 14, unl b3 13] = muE x l k := by
  subst h1 h2 h3
  have e : muE x l k = if ¬ rightS x (gt l k) then 3 else if ¬ ordS l k then 14 else if agn l k then 13 else 0 := by rw [muE, if_neg (by simpa using h0)]
  rw [e, orOf_cons, orOf_cons, orOf_cons, orOf_nil]
  unfold unl
  by_cases q1 : rightS x (gt l k) <;> by_cases q2 : ordS l k <;> by_cases q3 : agn l k <;> simp [q1, q2, q3]
theorem c57 {v y : Value} {x : Mach} {l : List Mut} (s : MacV g v x) (t : L g y l) (hh : headOK x) : Runs Try.prog 56 [v, y] g (mk2 (mutE x l).1 (mutE x l).2) g := by
  obtain ⟨tv, rfl, s⟩ := s
  have lt := t.lt
  have m := Mem.start g
  refine DetP.forget rfl ?_
  refine w57 ?_
  unfold n57
  refine box_a m fun i0 h0 z0 p0 m => ?_
  ((with_reducible (refine mv_i ?_; refine mv_i ?_; refine mv_i ?_; refine len_g (by assumption) ?_; refine gtr_i (fun hc => ?_) (fun hc => ?_); refine cnd_t ?_; refine mv_i ?_; refine mv_i ?_; refine ret2 ?_)); (rotate_left); (with_reducible (refine cnd_f ?_; refine mv_i ?_; refine len_g (by assumption) ?_; refine mv_i ?_)); (rotate_left))
  · exact ⟨by rw [mutE, if_pos (by omega)]; rfl, Mem.pre (by assumption)⟩
  · have hlen := hc
    refine loop1 l.length (fun k h2 => Prec h0 h2 ∧ Mem g h2 [⟨some i0, [.int .i64 x.states, .int .i64 x.inputs, .int .i64 x.outputs, .int .i64 x.start, tv], z0⟩] ∧ ∀ j, j < k → muE x l j = 0) ⟨⟨Stab.refl _⟩, m, fun j hj => by omega⟩ ?_
    rintro k h2 _ hk ⟨p2, m, hJ⟩
    by_cases hkl : k < l.length
    · have hord : ∀ b, b = decide (ordS l k) → b = decide (ordS l k) := fun _ q => q
      ((with_reducible (refine lss_i (fun hc => ?_) (fun hc => ?_); refine cnd_t ?_; refine mv_i ?_)); (refine idxA fun p hp => ?_); (refine ldr_w (by assumption) (by with_unfolding_all rfl) ?_); (with_reducible (refine alloc_z (by assumption) fun i h z p m => ?_; refine mv_i ?_)); (refine st_w (by assumption) (by infer_instance) (by with_unfolding_all rfl) (by with_unfolding_all rfl) (by first | rfl | exact flat_ones (Flat.flat _)) (by infer_instance) fun h p m => ?_); (with_reducible (refine mv_i ?_; refine eql_i (fun hc => ?_) (fun hc => ?_); refine mv_i ?_; refine gd_tf ?_; refine gd_tf ?_; refine gd_tf ?_; refine gd_tf ?_; refine gd_tf ?_; refine gd_tf ?_; refine gd_tf ?_; refine gd_tf ?_; refine pick_t ?_; refine mv_i ?_; refine gd_tt ?_; refine fao ?_; refine gd_tt ?_)); (refine ldoA ?_); (refine vbA ?_); (with_reducible (refine gd_tt ?_; refine neq_i (fun hc => ?_) (fun hc => ?_); refine gd_tt ?_; refine mv_i ?_; refine gd_ff ?_; refine fao ?_; refine gd_ff ?_)); (refine ldoA ?_); (refine vbA ?_); (with_reducible (refine gd_ff ?_; refine fao ?_; refine gd_ff ?_)); (refine ldoA ?_); (refine vbA ?_); (with_reducible (refine gd_ff ?_; refine lss_i (fun hc => ?_) (fun hc => ?_); refine gd_tt ?_; refine pick_f ?_; refine pick_t ?_; refine mv_i ?_; refine mv_i ?_; refine mv_i ?_; refine fao ?_)); (refine ldoA ?_); (refine call_r (c48 _ _ _) ?_); (with_reducible (refine not_d (fun hb => ?_) (fun hb => ?_); refine cnd_f ?_)); (refine ldwA ?_); (refine vb_mac (by assumption) ?_); (refine ldwA ?_); (with_reducible (refine vb_f ?_)); (rotate_left); (with_reducible (refine cnd_t ?_; refine mv_i ?_; refine mv_i ?_; refine mv_i ?_; refine ret2 ?_)); (rotate_left); (with_reducible (refine gd_tt ?_; refine pick_f ?_; refine pick_t ?_; refine mv_i ?_; refine mv_i ?_; refine mv_i ?_; refine fao ?_)); (refine ldoA ?_); (refine call_r (c48 _ _ _) ?_); (with_reducible (refine not_d (fun hb => ?_) (fun hb => ?_); refine cnd_f ?_)); (refine ldwA ?_); (refine vb_mac (by assumption) ?_); (refine ldwA ?_); (with_reducible (refine vb_f ?_)); (rotate_left); (with_reducible (refine cnd_t ?_; refine mv_i ?_; refine mv_i ?_; refine mv_i ?_; refine ret2 ?_)); (rotate_left); (with_reducible (refine gd_tt ?_; refine mv_i ?_; refine gd_tf ?_; refine gd_tf ?_; refine gd_tf ?_; refine gd_tf ?_; refine gd_tf ?_; refine gd_tt ?_; refine pick_t ?_; refine pick_t ?_; refine mv_i ?_; refine mv_i ?_; refine mv_i ?_; refine fao ?_)); (refine ldoA ?_); (refine call_r (c48 _ _ _) ?_); (with_reducible (refine not_d (fun hb => ?_) (fun hb => ?_); refine cnd_f ?_)); (refine ldwA ?_); (refine vb_mac (by assumption) ?_); (refine ldwA ?_); (with_reducible (refine vb_f ?_)); (rotate_left); (with_reducible (refine cnd_t ?_; refine mv_i ?_; refine mv_i ?_; refine mv_i ?_; refine ret2 ?_)); (rotate_left); (with_reducible (refine mv_i ?_; refine gd_ff ?_; refine mv_i ?_; refine gd_ff ?_; refine mv_i ?_; refine gd_ff ?_; refine sub_j (by omega) (by omega) ?_; refine gd_ff ?_)); (refine idx_dp (by assumption) (by with_unfolding_all rfl) (by omega) (by omega) fun p hp => ?_); (with_reducible (refine gd_ff ?_)); (refine ldr_w (by assumption) (by with_unfolding_all rfl) ?_); (with_reducible (refine vb_f ?_; refine gd_ff ?_)); (refine ldwA ?_); (with_reducible (refine vb_f ?_; refine gd_ff ?_)); (refine calld_r (c46 _ _) ?_); (with_reducible (refine new_n ?_; refine gd_ff ?_; refine lss_i (fun hc => ?_) (fun hc => ?_); refine pick_f ?_; refine mv_i ?_; refine gd_tt ?_; refine fao ?_; refine gd_tt ?_)); (refine ldoA ?_); (refine vbA ?_); (with_reducible (refine gd_tt ?_; refine neq_i (fun hc => ?_) (fun hc => ?_); refine gd_tt ?_; refine mv_i ?_; refine gd_ff ?_; refine fao ?_; refine gd_ff ?_)); (refine ldoA ?_); (refine vbA ?_); (with_reducible (refine gd_ff ?_; refine fao ?_; refine gd_ff ?_)); (refine ldoA ?_); (refine vbA ?_); (with_reducible (refine gd_ff ?_; refine lss_i (fun hc => ?_) (fun hc => ?_); refine gd_tt ?_; refine pick_f ?_; refine pick_t ?_; refine mv_i ?_; refine mv_i ?_; refine mv_i ?_; refine fao ?_)); (refine ldoA ?_); (refine call_r (c48 _ _ _) ?_); (with_reducible (refine not_d (fun hb => ?_) (fun hb => ?_); refine cnd_f ?_)); (refine ldwA ?_); (refine vb_mac (by assumption) ?_); (refine ldwA ?_); (with_reducible (refine vb_f ?_)); (rotate_left); (with_reducible (refine cnd_t ?_; refine mv_i ?_; refine mv_i ?_; refine mv_i ?_; refine ret2 ?_)); (rotate_left); (with_reducible (refine gd_tt ?_; refine pick_f ?_; refine pick_t ?_; refine mv_i ?_; refine mv_i ?_; refine mv_i ?_; refine fao ?_)); (refine ldoA ?_); (refine call_r (c48 _ _ _) ?_); (with_reducible (refine not_d (fun hb => ?_) (fun hb => ?_); refine cnd_f ?_)); (refine ldwA ?_); (refine vb_mac (by assumption) ?_); (refine ldwA ?_); (with_reducible (refine vb_f ?_)); (rotate_left); (with_reducible (refine cnd_t ?_; refine mv_i ?_; refine mv_i ?_; refine mv_i ?_; refine ret2 ?_)); (rotate_left); (with_reducible (refine gd_tt ?_; refine mv_i ?_; refine gd_tf ?_; refine gd_tf ?_; refine gd_tf ?_; refine gd_tf ?_; refine gd_tf ?_; refine gd_tt ?_; refine pick_t ?_; refine pick_t ?_; refine mv_i ?_; refine mv_i ?_; refine mv_i ?_; refine fao ?_)); (refine ldoA ?_); (refine call_r (c48 _ _ _) ?_); (with_reducible (refine not_d (fun hb => ?_) (fun hb => ?_); refine cnd_f ?_)); (refine ldwA ?_); (refine vb_mac (by assumption) ?_); (refine ldwA ?_); (with_reducible (refine vb_f ?_)); (rotate_left); (with_reducible (refine cnd_t ?_; refine mv_i ?_; refine mv_i ?_; refine mv_i ?_; refine ret2 ?_)); (rotate_left); (with_reducible (refine pick_f ?_; refine mv_i ?_; refine gd_ft ?_; refine gd_ft ?_; refine gd_ft ?_; refine gd_ft ?_; refine gd_u ?_; refine gd_u ?_; refine gd_u ?_; refine gd_u ?_; refine gd_u ?_; refine gd_ft ?_; refine pick_f ?_; refine mv_i ?_; refine mv_i ?_; refine mv_i ?_; refine fao ?_)); (refine ldoA ?_); (refine call_r (c48 _ _ _) ?_); (with_reducible (refine not_d (fun hb => ?_) (fun hb => ?_); refine cnd_f ?_)); (refine ldwA ?_); (refine vb_mac (by assumption) ?_); (refine ldwA ?_); (with_reducible (refine vb_f ?_)); (rotate_left); (with_reducible (refine cnd_t ?_; refine mv_i ?_; refine mv_i ?_; refine mv_i ?_; refine ret2 ?_)); (rotate_left); (with_reducible (refine cnd_f ?_; refine mv_i ?_; refine mv_i ?_; refine ret2 ?_)); (rotate_left))
      all_goals first
        | (refine ⟨?_, Mem.pre (by assumption)⟩
           rw [mutE, if_neg (by omega), firstErr_at hJ hkl (by rw [muE, if_pos (by assumption)]; decide), muE, if_pos (by assumption)]
           rfl)
        | skip
      all_goals (try (exfalso; omega))
      all_goals
        have hm := m
        (repeat' (first|((with_reducible refine is_callf 54 ?_); refine call_r (c48 _ _ _) ?_)|((with_reducible refine is_calldf 54 ?_); refine calld_r (c48 _ _ _) ?_)|((with_reducible refine is_callf 42 ?_); refine call_r (c53 _ _ _) ?_)|((with_reducible refine is_calldf 42 ?_); refine calld_r (c53 _ _ _) ?_)|((with_reducible refine is_callf 58 ?_); refine call_r (c96 _ _ _) ?_)|((with_reducible refine is_calldf 58 ?_); refine calld_r (c96 _ _ _) ?_)|((with_reducible refine is_callf 32 ?_); refine call_r c72t ?_)|((with_reducible refine is_calldf 32 ?_); refine calld_r c72t ?_)|((with_reducible refine is_callf 32 ?_); refine call_r c72f ?_)|((with_reducible refine is_calldf 32 ?_); refine calld_r c72f ?_)|((with_reducible refine is_callf 32 ?_); refine call_r (c72 _) ?_)|((with_reducible refine is_calldf 32 ?_); refine calld_r (c72 _) ?_)|((with_reducible refine is_callf 37 ?_); refine call_r (c77 _ _) ?_)|((with_reducible refine is_calldf 37 ?_); refine calld_r (c77 _ _) ?_)|((with_reducible refine is_callf 50 ?_); refine call_r (c91 _ _) ?_)|((with_reducible refine is_calldf 50 ?_); refine calld_r (c91 _ _) ?_)|((with_reducible refine is_callf 69 ?_); refine call_r (c107 _) ?_)|((with_reducible refine is_calldf 69 ?_); refine calld_r (c107 _) ?_)|((with_reducible refine is_callf 41 ?_); refine call_r (c81 _ _) ?_)|((with_reducible refine is_calldf 41 ?_); refine calld_r (c81 _ _) ?_)|((with_reducible refine is_callf 36 ?_); refine call_r (c76 (own_ints (xs := [_, _, _]) (by assumption) (q := by infer_instance) rfl rfl (by decide))) ?_)|((with_reducible refine is_calldf 36 ?_); refine calld_r (c76 (own_ints (xs := [_, _, _]) (by assumption) (q := by infer_instance) rfl rfl (by decide))) ?_)|((with_reducible refine is_callf 40 ?_); refine call_r (c80 (own_ints (xs := [_, _, _]) (by assumption) (q := by infer_instance) rfl rfl (by decide))) ?_)|((with_reducible refine is_calldf 40 ?_); refine calld_r (c80 (own_ints (xs := [_, _, _]) (by assumption) (q := by infer_instance) rfl rfl (by decide))) ?_)|((with_reducible refine is_callf 40 ?_); refine call_r (c80 (own_ints (xs := [_, _]) (by assumption) (q := by infer_instance) rfl rfl (by decide))) ?_)|((with_reducible refine is_calldf 40 ?_); refine calld_r (c80 (own_ints (xs := [_, _]) (by assumption) (q := by infer_instance) rfl rfl (by decide))) ?_)|((with_reducible refine is_callf 18 ?_); refine call_r (c46 _ _) ?_)|((with_reducible refine is_calldf 18 ?_); refine calld_r (c46 _ _) ?_)|((with_reducible refine is_callf 48 ?_); refine call_r (c49 _ _) ?_)|((with_reducible refine is_calldf 48 ?_); refine calld_r (c49 _ _) ?_)|((with_reducible refine is_callf 20 ?_); refine call_r (c54 (own_ints (xs := [_, _]) (by assumption) (q := by infer_instance) rfl rfl (by decide)) (own_ints (xs := [_, _]) (by assumption) (q := by infer_instance) rfl rfl (by decide))) ?_)|((with_reducible refine is_calldf 20 ?_); refine calld_r (c54 (own_ints (xs := [_, _]) (by assumption) (q := by infer_instance) rfl rfl (by decide)) (own_ints (xs := [_, _]) (by assumption) (q := by infer_instance) rfl rfl (by decide))) ?_)|((with_reducible refine is_callf 34 ?_); refine call_r (c74 ⟨_, by with_unfolding_all rfl, L.up (by assumption)⟩ _ _) ?_)|((with_reducible refine is_calldf 34 ?_); refine calld_r (c74 ⟨_, by with_unfolding_all rfl, L.up (by assumption)⟩ _ _) ?_)|((with_reducible refine is_callf 33 ?_); refine call_r (c73 ⟨_, by with_unfolding_all rfl, L.up (by assumption)⟩) ?_)|((with_reducible refine is_callf 35 ?_); refine call_r (c75 ⟨_, by with_unfolding_all rfl, L.up (by assumption)⟩) ?_)|((with_reducible refine is_rl1 ?_); first|(refine rt_w1 (by assumption) (by infer_instance) (by with_unfolding_all rfl) ?_)|(refine rt_11 (by assumption) (by infer_instance) (by with_unfolding_all rfl) ?_))|((with_reducible refine is_rl2 ?_); first|(refine rt_w2 (by assumption) (by infer_instance) (by with_unfolding_all rfl) ?_)|(refine rt_12 (by assumption) (by infer_instance) (by with_unfolding_all rfl) ?_))|((with_reducible refine is_vk ?_); first|(with_reducible refine not_dh (by assumption) ?_)|(with_reducible refine not_dn (by assumption) ?_)|(with_reducible refine not_d (fun hb => ?_) (fun hb => ?_))|(with_reducible refine pick_dh (by assumption) ?_)|(with_reducible refine pick_dn (by assumption) ?_)|(with_reducible refine pick_d (fun hb => ?_) (fun hb => ?_))|(with_reducible refine len_o (by assumption) ?_)|(with_reducible refine nil_i ?_)|(with_reducible refine ex2_0 ?_)|(with_reducible refine ex2_1 ?_)|(with_reducible refine ex3_0 ?_)|(with_reducible refine ex3_1 ?_)|(with_reducible refine ex3_2 ?_)|(with_reducible refine pick_t ?_)|(with_reducible refine pick_f ?_)|(with_reducible refine not_t ?_)|(with_reducible refine not_f ?_)|(with_reducible refine pick_h (by assumption) ?_)|(with_reducible refine pick_n (by assumption) ?_)|(with_reducible refine not_h (by assumption) ?_)|(with_reducible refine not_n (by assumption) ?_)|(with_reducible refine not_s (fun hb => ?_) (fun hb => ?_))|(with_reducible refine pick_s (fun hb => ?_) (fun hb => ?_))|(with_reducible refine len_g (by assumption) ?_)|(with_reducible refine slen_i ?_)|(with_reducible refine len_s ?_)|(refine fld_g (by with_unfolding_all rfl) ?_)|(with_reducible refine leni_t (by assumption) ?_))|((with_reducible refine is_gd ?_); first|(with_reducible refine gd_dht (by assumption) ?_)|(with_reducible refine gd_dnt (by assumption) ?_)|(with_reducible refine gd_dhf (by assumption) ?_)|(with_reducible refine gd_dnf (by assumption) ?_)|(with_reducible refine gd_dt (fun hb => ?_) (fun hb => ?_))|(with_reducible refine gd_df (fun hb => ?_) (fun hb => ?_))|(with_reducible refine gd_tt ?_)|(with_reducible refine gd_ff ?_)|(with_reducible refine gd_tf ?_)|(with_reducible refine gd_ft ?_)|(with_reducible refine gd_u ?_)|(with_reducible refine gd_ht (by assumption) ?_)|(with_reducible refine gd_hf (by assumption) ?_)|(with_reducible refine gd_nt (by assumption) ?_)|(with_reducible refine gd_nf (by assumption) ?_)|(with_reducible refine gd_st (fun hb => ?_) (fun hb => ?_))|(with_reducible refine gd_sf (fun hb => ?_) (fun hb => ?_)))|((with_reducible refine is_cnd ?_); first|(with_reducible refine cnd_dh (by assumption) ?_)|(with_reducible refine cnd_dn (by assumption) ?_)|(with_reducible refine cnd_d (fun hb => ?_) (fun hb => ?_))|(with_reducible refine cnd_t ?_)|(with_reducible refine cnd_f ?_)|(with_reducible refine cnd_h (by assumption) ?_)|(with_reducible refine cnd_n (by assumption) ?_)|(with_reducible refine cnd_b (fun hb => ?_) (fun hb => ?_)))|((with_reducible refine is_bin ?_); first|(with_reducible refine sub_a (by assumption) (by decide) (by decide) ?_)|(with_reducible refine snil_i (fun hn => ?_) (fun hn => ?_))|(with_reducible refine prq_i (fun hc => ?_) (fun hc => ?_))|(refine mul_j (by omega) (by omega) ?_)|(with_reducible refine eql_h (by first | assumption | decide) ?_)|(with_reducible refine eql_n (by first | assumption | decide) ?_)|(with_reducible refine neq_h (by first | assumption | decide) ?_)|(with_reducible refine neq_n (by first | assumption | decide) ?_)|(with_reducible refine lss_i (fun hc => ?_) (fun hc => ?_))|(with_reducible refine leq_i (fun hc => ?_) (fun hc => ?_))|(with_reducible refine gtr_i (fun hc => ?_) (fun hc => ?_))|(with_reducible refine geq_i (fun hc => ?_) (fun hc => ?_))|(with_reducible refine eql_i (fun hc => ?_) (fun hc => ?_))|(with_reducible refine neq_i (fun hc => ?_) (fun hc => ?_))|(with_reducible refine seq_s (fun hc => ?_) (fun hc => ?_))|(with_reducible refine sne_s (fun hc => ?_) (fun hc => ?_))|(with_reducible refine sls_i ?_)|(with_reducible refine inc_i (by omega) ?_)|(with_reducible refine sub_j (by omega) (by omega) ?_)|(with_reducible refine add_j (by omega) (by omega) ?_))|((with_reducible refine is_six ?_); first|(with_reducible refine sidx_0 (by omega) ?_))|((with_reducible refine is_idx ?_); first|(refine ia_g (by assumption) (by omega) (by omega) fun p hp => ?_)|(refine ia_o (by omega) (by omega) ?_)|(refine idxA fun p hp => ?_)|(refine idx_dp (by assumption) (by with_unfolding_all rfl) (by omega) (by omega) fun p hp => ?_)|(refine idx_dz (by assumption) (by with_unfolding_all rfl) (by omega) (by omega) fun p hp => ?_)|(refine idx_f (by assumption) (by with_unfolding_all rfl) (by omega) fun p hp => ?_)|(refine idx_fz (by assumption) (by with_unfolding_all rfl) (by omega) (by omega) fun p hp => ?_)|(refine idxi_t (by assumption) (by omega) ?_)|(refine idx_o (by assumption) (by omega) ?_)|(refine idx_oz (by assumption) (by omega) (by omega) ?_))|((with_reducible refine is_fa ?_); first|(with_reducible refine fa_g (by assumption) fun p hp => ?_)|(with_reducible refine fao_e ?_)|(with_reducible refine fao ?_))|((with_reducible refine is_ldo ?_); first|(refine ldoA ?_)|(refine ldwA ?_)|(refine ldor (by assumption) (q := by infer_instance) (by with_unfolding_all rfl) (by with_unfolding_all exact Nat.le_refl _) ?_)|(refine ldf_d (by assumption) (by infer_instance) (by with_unfolding_all rfl) (by omega) (by with_unfolding_all exact Nat.le_of_ble_eq_true rfl) (by with_unfolding_all rfl) ?_)|(refine ldw_d (by assumption) (by infer_instance) (by with_unfolding_all rfl) (by omega) ?_))|((with_reducible refine is_ld ?_); first|(refine ldgA ?_)|(refine ldr_w (by assumption) (by with_unfolding_all rfl) ?_)|(refine ldr_g (by assumption) (by with_unfolding_all rfl) (by with_unfolding_all exact Nat.le_refl _) ?_)|(refine ldi_t (by assumption) (by omega) ?_))|((with_reducible refine is_box ?_); first|(with_reducible refine box_a (by assumption) fun i h z p m => ?_)|(refine box_1 (by assumption) (by with_unfolding_all rfl) fun i h z p m => ?_))|((with_reducible refine is_ok ?_); first|(with_reducible refine alloc_z (by assumption) fun i h z p m => ?_))|((with_reducible refine is_st ?_); first|(refine sto (by assumption) (q := by infer_instance) (by with_unfolding_all exact Nat.le_of_ble_eq_true rfl) rfl rfl (u := by infer_instance) fun h p m => ?_)|(refine st_w (by assumption) (by infer_instance) (by with_unfolding_all rfl) (by with_unfolding_all rfl) (by first | rfl | exact flat_ones (Flat.flat _)) (by infer_instance) fun h p m => ?_)|(refine stw_o (by assumption) (by infer_instance) (by with_unfolding_all rfl) (by omega) (by infer_instance) fun h p m => ?_))|((with_reducible refine is_new ?_); first|(with_reducible refine new_n ?_)|(with_reducible refine new_p (by assumption) ?_))|((with_reducible refine is_pd ?_); first|(refine pd_p (by assumption) (by with_unfolding_all rfl) ?_)|(refine pd_c (by assumption) (by infer_instance) (by with_unfolding_all rfl) ?_)|(refine pd_o (by assumption) (by infer_instance) (by with_unfolding_all rfl) ?_))|((with_reducible refine is_vb ?_); first|(refine vb_mac (by assumption) ?_)|(with_reducible refine vb_f ?_)|(refine vbA ?_)|(with_reducible refine vb_l (by assumption) ?_)|(refine vb_as rfl (by assumption) ?_)|(refine vb_ao rfl (by assumption) (by assumption) (by infer_instance) ?_)|(refine IsSl.vb (by assumption) (by assumption) (by infer_instance) ?_))|((with_reducible refine is_tru ?_); first|(with_reducible refine ⟨trivial, ?_⟩))|((with_reducible refine is_ret ?_); first|(with_reducible refine ret1 ?_)|(with_reducible refine ret2 ?_)|(with_reducible refine ret3 ?_)|(with_reducible refine ret0 ?_))|((with_reducible refine is_bld ?_); first|(refine vk_i (bd24_z) ?_)|(refine vk_i (bd77_01 _ _) ?_))|((with_reducible refine is_bsl ?_); first|(refine bs_g (bs36_0 _) (by assumption) fun i h p m => ?_)|(refine bs_g (bs22_0 _) (by assumption) fun i h p m => ?_)|(refine bs_g (bs51_1 _ _ _ _) (by assumption) fun i h p m => ?_)|(refine bs_g (bs27_0 _) (by assumption) fun i h p m => ?_)|(refine bs_g (bs53_2 _ _ _) (by assumption) fun i h p m => ?_)|(refine bs_g (bs141_3 _ _ _ _) (by assumption) fun i h p m => ?_)|(refine bs_g (bs53_3 _ _ _ _) (by assumption) fun i h p m => ?_)|(refine bs_g (bs53_1 _ _) (by assumption) fun i h p m => ?_))|(with_reducible refine mv_i ?_)|(with_reducible refine seq_i ?_)|((with_reducible refine fun (_ : Tmps) => ?_); (try dsimp only [nth]))))
        refine calld_r (c86 ⟨_, rfl, s.up⟩ hh (gt l k)) ?_
        (repeat' (first|((with_reducible refine is_callf 54 ?_); refine call_r (c48 _ _ _) ?_)|((with_reducible refine is_calldf 54 ?_); refine calld_r (c48 _ _ _) ?_)|((with_reducible refine is_callf 42 ?_); refine call_r (c53 _ _ _) ?_)|((with_reducible refine is_calldf 42 ?_); refine calld_r (c53 _ _ _) ?_)|((with_reducible refine is_callf 58 ?_); refine call_r (c96 _ _ _) ?_)|((with_reducible refine is_calldf 58 ?_); refine calld_r (c96 _ _ _) ?_)|((with_reducible refine is_callf 32 ?_); refine call_r c72t ?_)|((with_reducible refine is_calldf 32 ?_); refine calld_r c72t ?_)|((with_reducible refine is_callf 32 ?_); refine call_r c72f ?_)|((with_reducible refine is_calldf 32 ?_); refine calld_r c72f ?_)|((with_reducible refine is_callf 32 ?_); refine call_r (c72 _) ?_)|((with_reducible refine is_calldf 32 ?_); refine calld_r (c72 _) ?_)|((with_reducible refine is_callf 37 ?_); refine call_r (c77 _ _) ?_)|((with_reducible refine is_calldf 37 ?_); refine calld_r (c77 _ _) ?_)|((with_reducible refine is_callf 50 ?_); refine call_r (c91 _ _) ?_)|((with_reducible refine is_calldf 50 ?_); refine calld_r (c91 _ _) ?_)|((with_reducible refine is_callf 69 ?_); refine call_r (c107 _) ?_)|((with_reducible refine is_calldf 69 ?_); refine calld_r (c107 _) ?_)|((with_reducible refine is_callf 41 ?_); refine call_r (c81 _ _) ?_)|((with_reducible refine is_calldf 41 ?_); refine calld_r (c81 _ _) ?_)|((with_reducible refine is_callf 36 ?_); refine call_r (c76 (own_ints (xs := [_, _, _]) (by assumption) (q := by infer_instance) rfl rfl (by decide))) ?_)|((with_reducible refine is_calldf 36 ?_); refine calld_r (c76 (own_ints (xs := [_, _, _]) (by assumption) (q := by infer_instance) rfl rfl (by decide))) ?_)|((with_reducible refine is_callf 40 ?_); refine call_r (c80 (own_ints (xs := [_, _, _]) (by assumption) (q := by infer_instance) rfl rfl (by decide))) ?_)|((with_reducible refine is_calldf 40 ?_); refine calld_r (c80 (own_ints (xs := [_, _, _]) (by assumption) (q := by infer_instance) rfl rfl (by decide))) ?_)|((with_reducible refine is_callf 40 ?_); refine call_r (c80 (own_ints (xs := [_, _]) (by assumption) (q := by infer_instance) rfl rfl (by decide))) ?_)|((with_reducible refine is_calldf 40 ?_); refine calld_r (c80 (own_ints (xs := [_, _]) (by assumption) (q := by infer_instance) rfl rfl (by decide))) ?_)|((with_reducible refine is_callf 18 ?_); refine call_r (c46 _ _) ?_)|((with_reducible refine is_calldf 18 ?_); refine calld_r (c46 _ _) ?_)|((with_reducible refine is_callf 48 ?_); refine call_r (c49 _ _) ?_)|((with_reducible refine is_calldf 48 ?_); refine calld_r (c49 _ _) ?_)|((with_reducible refine is_callf 20 ?_); refine call_r (c54 (own_ints (xs := [_, _]) (by assumption) (q := by infer_instance) rfl rfl (by decide)) (own_ints (xs := [_, _]) (by assumption) (q := by infer_instance) rfl rfl (by decide))) ?_)|((with_reducible refine is_calldf 20 ?_); refine calld_r (c54 (own_ints (xs := [_, _]) (by assumption) (q := by infer_instance) rfl rfl (by decide)) (own_ints (xs := [_, _]) (by assumption) (q := by infer_instance) rfl rfl (by decide))) ?_)|((with_reducible refine is_callf 34 ?_); refine call_r (c74 ⟨_, by with_unfolding_all rfl, L.up (by assumption)⟩ _ _) ?_)|((with_reducible refine is_calldf 34 ?_); refine calld_r (c74 ⟨_, by with_unfolding_all rfl, L.up (by assumption)⟩ _ _) ?_)|((with_reducible refine is_callf 33 ?_); refine call_r (c73 ⟨_, by with_unfolding_all rfl, L.up (by assumption)⟩) ?_)|((with_reducible refine is_callf 35 ?_); refine call_r (c75 ⟨_, by with_unfolding_all rfl, L.up (by assumption)⟩) ?_)|((with_reducible refine is_rl1 ?_); first|(refine rt_w1 (by assumption) (by infer_instance) (by with_unfolding_all rfl) ?_)|(refine rt_11 (by assumption) (by infer_instance) (by with_unfolding_all rfl) ?_))|((with_reducible refine is_rl2 ?_); first|(refine rt_w2 (by assumption) (by infer_instance) (by with_unfolding_all rfl) ?_)|(refine rt_12 (by assumption) (by infer_instance) (by with_unfolding_all rfl) ?_))|((with_reducible refine is_vk ?_); first|(with_reducible refine not_dh (by assumption) ?_)|(with_reducible refine not_dn (by assumption) ?_)|(with_reducible refine not_d (fun hb => ?_) (fun hb => ?_))|(with_reducible refine pick_dh (by assumption) ?_)|(with_reducible refine pick_dn (by assumption) ?_)|(with_reducible refine pick_d (fun hb => ?_) (fun hb => ?_))|(with_reducible refine len_o (by assumption) ?_)|(with_reducible refine nil_i ?_)|(with_reducible refine ex2_0 ?_)|(with_reducible refine ex2_1 ?_)|(with_reducible refine ex3_0 ?_)|(with_reducible refine ex3_1 ?_)|(with_reducible refine ex3_2 ?_)|(with_reducible refine pick_t ?_)|(with_reducible refine pick_f ?_)|(with_reducible refine not_t ?_)|(with_reducible refine not_f ?_)|(with_reducible refine pick_h (by assumption) ?_)|(with_reducible refine pick_n (by assumption) ?_)|(with_reducible refine not_h (by assumption) ?_)|(with_reducible refine not_n (by assumption) ?_)|(with_reducible refine not_s (fun hb => ?_) (fun hb => ?_))|(with_reducible refine pick_s (fun hb => ?_) (fun hb => ?_))|(with_reducible refine len_g (by assumption) ?_)|(with_reducible refine slen_i ?_)|(with_reducible refine len_s ?_)|(refine fld_g (by with_unfolding_all rfl) ?_)|(with_reducible refine leni_t (by assumption) ?_))|((with_reducible refine is_gd ?_); first|(with_reducible refine gd_dht (by assumption) ?_)|(with_reducible refine gd_dnt (by assumption) ?_)|(with_reducible refine gd_dhf (by assumption) ?_)|(with_reducible refine gd_dnf (by assumption) ?_)|(with_reducible refine gd_dt (fun hb => ?_) (fun hb => ?_))|(with_reducible refine gd_df (fun hb => ?_) (fun hb => ?_))|(with_reducible refine gd_tt ?_)|(with_reducible refine gd_ff ?_)|(with_reducible refine gd_tf ?_)|(with_reducible refine gd_ft ?_)|(with_reducible refine gd_u ?_)|(with_reducible refine gd_ht (by assumption) ?_)|(with_reducible refine gd_hf (by assumption) ?_)|(with_reducible refine gd_nt (by assumption) ?_)|(with_reducible refine gd_nf (by assumption) ?_)|(with_reducible refine gd_st (fun hb => ?_) (fun hb => ?_))|(with_reducible refine gd_sf (fun hb => ?_) (fun hb => ?_)))|((with_reducible refine is_cnd ?_); first|(with_reducible refine cnd_dh (by assumption) ?_)|(with_reducible refine cnd_dn (by assumption) ?_)|(with_reducible refine cnd_d (fun hb => ?_) (fun hb => ?_))|(with_reducible refine cnd_t ?_)|(with_reducible refine cnd_f ?_)|(with_reducible refine cnd_h (by assumption) ?_)|(with_reducible refine cnd_n (by assumption) ?_)|(with_reducible refine cnd_b (fun hb => ?_) (fun hb => ?_)))|((with_reducible refine is_bin ?_); first|(with_reducible refine sub_a (by assumption) (by decide) (by decide) ?_)|(with_reducible refine snil_i (fun hn => ?_) (fun hn => ?_))|(with_reducible refine prq_i (fun hc => ?_) (fun hc => ?_))|(refine mul_j (by omega) (by omega) ?_)|(with_reducible refine eql_h (by first | assumption | decide) ?_)|(with_reducible refine eql_n (by first | assumption | decide) ?_)|(with_reducible refine neq_h (by first | assumption | decide) ?_)|(with_reducible refine neq_n (by first | assumption | decide) ?_)|(with_reducible refine lss_i (fun hc => ?_) (fun hc => ?_))|(with_reducible refine leq_i (fun hc => ?_) (fun hc => ?_))|(with_reducible refine gtr_i (fun hc => ?_) (fun hc => ?_))|(with_reducible refine geq_i (fun hc => ?_) (fun hc => ?_))|(with_reducible refine eql_i (fun hc => ?_) (fun hc => ?_))|(with_reducible refine neq_i (fun hc => ?_) (fun hc => ?_))|(with_reducible refine seq_s (fun hc => ?_) (fun hc => ?_))|(with_reducible refine sne_s (fun hc => ?_) (fun hc => ?_))|(with_reducible refine sls_i ?_)|(with_reducible refine inc_i (by omega) ?_)|(with_reducible refine sub_j (by omega) (by omega) ?_)|(with_reducible refine add_j (by omega) (by omega) ?_))|((with_reducible refine is_six ?_); first|(with_reducible refine sidx_0 (by omega) ?_))|((with_reducible refine is_idx ?_); first|(refine ia_g (by assumption) (by omega) (by omega) fun p hp => ?_)|(refine ia_o (by omega) (by omega) ?_)|(refine idxA fun p hp => ?_)|(refine idx_dp (by assumption) (by with_unfolding_all rfl) (by omega) (by omega) fun p hp => ?_)|(refine idx_dz (by assumption) (by with_unfolding_all rfl) (by omega) (by omega) fun p hp => ?_)|(refine idx_f (by assumption) (by with_unfolding_all rfl) (by omega) fun p hp => ?_)|(refine idx_fz (by assumption) (by with_unfolding_all rfl) (by omega) (by omega) fun p hp => ?_)|(refine idxi_t (by assumption) (by omega) ?_)|(refine idx_o (by assumption) (by omega) ?_)|(refine idx_oz (by assumption) (by omega) (by omega) ?_))|((with_reducible refine is_fa ?_); first|(with_reducible refine fa_g (by assumption) fun p hp => ?_)|(with_reducible refine fao_e ?_)|(with_reducible refine fao ?_))|((with_reducible refine is_ldo ?_); first|(refine ldoA ?_)|(refine ldwA ?_)|(refine ldor (by assumption) (q := by infer_instance) (by with_unfolding_all rfl) (by with_unfolding_all exact Nat.le_refl _) ?_)|(refine ldf_d (by assumption) (by infer_instance) (by with_unfolding_all rfl) (by omega) (by with_unfolding_all exact Nat.le_of_ble_eq_true rfl) (by with_unfolding_all rfl) ?_)|(refine ldw_d (by assumption) (by infer_instance) (by with_unfolding_all rfl) (by omega) ?_))|((with_reducible refine is_ld ?_); first|(refine ldgA ?_)|(refine ldr_w (by assumption) (by with_unfolding_all rfl) ?_)|(refine ldr_g (by assumption) (by with_unfolding_all rfl) (by with_unfolding_all exact Nat.le_refl _) ?_)|(refine ldi_t (by assumption) (by omega) ?_))|((with_reducible refine is_box ?_); first|(with_reducible refine box_a (by assumption) fun i h z p m => ?_)|(refine box_1 (by assumption) (by with_unfolding_all rfl) fun i h z p m => ?_))|((with_reducible refine is_ok ?_); first|(with_reducible refine alloc_z (by assumption) fun i h z p m => ?_))|((with_reducible refine is_st ?_); first|(refine sto (by assumption) (q := by infer_instance) (by with_unfolding_all exact Nat.le_of_ble_eq_true rfl) rfl rfl (u := by infer_instance) fun h p m => ?_)|(refine st_w (by assumption) (by infer_instance) (by with_unfolding_all rfl) (by with_unfolding_all rfl) (by first | rfl | exact flat_ones (Flat.flat _)) (by infer_instance) fun h p m => ?_)|(refine stw_o (by assumption) (by infer_instance) (by with_unfolding_all rfl) (by omega) (by infer_instance) fun h p m => ?_))|((with_reducible refine is_new ?_); first|(with_reducible refine new_n ?_)|(with_reducible refine new_p (by assumption) ?_))|((with_reducible refine is_pd ?_); first|(refine pd_p (by assumption) (by with_unfolding_all rfl) ?_)|(refine pd_c (by assumption) (by infer_instance) (by with_unfolding_all rfl) ?_)|(refine pd_o (by assumption) (by infer_instance) (by with_unfolding_all rfl) ?_))|((with_reducible refine is_vb ?_); first|(refine vb_mac (by assumption) ?_)|(with_reducible refine vb_f ?_)|(refine vbA ?_)|(with_reducible refine vb_l (by assumption) ?_)|(refine vb_as rfl (by assumption) ?_)|(refine vb_ao rfl (by assumption) (by assumption) (by infer_instance) ?_)|(refine IsSl.vb (by assumption) (by assumption) (by infer_instance) ?_))|((with_reducible refine is_tru ?_); first|(with_reducible refine ⟨trivial, ?_⟩))|((with_reducible refine is_ret ?_); first|(with_reducible refine ret1 ?_)|(with_reducible refine ret2 ?_)|(with_reducible refine ret3 ?_)|(with_reducible refine ret0 ?_))|((with_reducible refine is_bld ?_); first|(refine vk_i (bd24_z) ?_)|(refine vk_i (bd77_01 _ _) ?_))|((with_reducible refine is_bsl ?_); first|(refine bs_g (bs36_0 _) (by assumption) fun i h p m => ?_)|(refine bs_g (bs22_0 _) (by assumption) fun i h p m => ?_)|(refine bs_g (bs51_1 _ _ _ _) (by assumption) fun i h p m => ?_)|(refine bs_g (bs27_0 _) (by assumption) fun i h p m => ?_)|(refine bs_g (bs53_2 _ _ _) (by assumption) fun i h p m => ?_)|(refine bs_g (bs141_3 _ _ _ _) (by assumption) fun i h p m => ?_)|(refine bs_g (bs53_3 _ _ _ _) (by assumption) fun i h p m => ?_)|(refine bs_g (bs53_1 _ _) (by assumption) fun i h p m => ?_))|(with_reducible refine mv_i ?_)|(with_reducible refine seq_i ?_)|((with_reducible refine fun (_ : Tmps) => ?_); (try dsimp only [nth]))))
        refine pre_g (α := Mut) (h1 := g) t rfl (by omega) (by omega) fun y1 s1 => ?_
        obtain ⟨b1, q1, rfl, _⟩ := s1.shape
        (repeat' (first|((with_reducible refine is_callf 54 ?_); refine call_r (c48 _ _ _) ?_)|((with_reducible refine is_calldf 54 ?_); refine calld_r (c48 _ _ _) ?_)|((with_reducible refine is_callf 42 ?_); refine call_r (c53 _ _ _) ?_)|((with_reducible refine is_calldf 42 ?_); refine calld_r (c53 _ _ _) ?_)|((with_reducible refine is_callf 58 ?_); refine call_r (c96 _ _ _) ?_)|((with_reducible refine is_calldf 58 ?_); refine calld_r (c96 _ _ _) ?_)|((with_reducible refine is_callf 32 ?_); refine call_r c72t ?_)|((with_reducible refine is_calldf 32 ?_); refine calld_r c72t ?_)|((with_reducible refine is_callf 32 ?_); refine call_r c72f ?_)|((with_reducible refine is_calldf 32 ?_); refine calld_r c72f ?_)|((with_reducible refine is_callf 32 ?_); refine call_r (c72 _) ?_)|((with_reducible refine is_calldf 32 ?_); refine calld_r (c72 _) ?_)|((with_reducible refine is_callf 37 ?_); refine call_r (c77 _ _) ?_)|((with_reducible refine is_calldf 37 ?_); refine calld_r (c77 _ _) ?_)|((with_reducible refine is_callf 50 ?_); refine call_r (c91 _ _) ?_)|((with_reducible refine is_calldf 50 ?_); refine calld_r (c91 _ _) ?_)|((with_reducible refine is_callf 69 ?_); refine call_r (c107 _) ?_)|((with_reducible refine is_calldf 69 ?_); refine calld_r (c107 _) ?_)|((with_reducible refine is_callf 41 ?_); refine call_r (c81 _ _) ?_)|((with_reducible refine is_calldf 41 ?_); refine calld_r (c81 _ _) ?_)|((with_reducible refine is_callf 36 ?_); refine call_r (c76 (own_ints (xs := [_, _, _]) (by assumption) (q := by infer_instance) rfl rfl (by decide))) ?_)|((with_reducible refine is_calldf 36 ?_); refine calld_r (c76 (own_ints (xs := [_, _, _]) (by assumption) (q := by infer_instance) rfl rfl (by decide))) ?_)|((with_reducible refine is_callf 40 ?_); refine call_r (c80 (own_ints (xs := [_, _, _]) (by assumption) (q := by infer_instance) rfl rfl (by decide))) ?_)|((with_reducible refine is_calldf 40 ?_); refine calld_r (c80 (own_ints (xs := [_, _, _]) (by assumption) (q := by infer_instance) rfl rfl (by decide))) ?_)|((with_reducible refine is_callf 40 ?_); refine call_r (c80 (own_ints (xs := [_, _]) (by assumption) (q := by infer_instance) rfl rfl (by decide))) ?_)|((with_reducible refine is_calldf 40 ?_); refine calld_r (c80 (own_ints (xs := [_, _]) (by assumption) (q := by infer_instance) rfl rfl (by decide))) ?_)|((with_reducible refine is_callf 18 ?_); refine call_r (c46 _ _) ?_)|((with_reducible refine is_calldf 18 ?_); refine calld_r (c46 _ _) ?_)|((with_reducible refine is_callf 48 ?_); refine call_r (c49 _ _) ?_)|((with_reducible refine is_calldf 48 ?_); refine calld_r (c49 _ _) ?_)|((with_reducible refine is_callf 20 ?_); refine call_r (c54 (own_ints (xs := [_, _]) (by assumption) (q := by infer_instance) rfl rfl (by decide)) (own_ints (xs := [_, _]) (by assumption) (q := by infer_instance) rfl rfl (by decide))) ?_)|((with_reducible refine is_calldf 20 ?_); refine calld_r (c54 (own_ints (xs := [_, _]) (by assumption) (q := by infer_instance) rfl rfl (by decide)) (own_ints (xs := [_, _]) (by assumption) (q := by infer_instance) rfl rfl (by decide))) ?_)|((with_reducible refine is_callf 34 ?_); refine call_r (c74 ⟨_, by with_unfolding_all rfl, L.up (by assumption)⟩ _ _) ?_)|((with_reducible refine is_calldf 34 ?_); refine calld_r (c74 ⟨_, by with_unfolding_all rfl, L.up (by assumption)⟩ _ _) ?_)|((with_reducible refine is_callf 33 ?_); refine call_r (c73 ⟨_, by with_unfolding_all rfl, L.up (by assumption)⟩) ?_)|((with_reducible refine is_callf 35 ?_); refine call_r (c75 ⟨_, by with_unfolding_all rfl, L.up (by assumption)⟩) ?_)|((with_reducible refine is_rl1 ?_); first|(refine rt_w1 (by assumption) (by infer_instance) (by with_unfolding_all rfl) ?_)|(refine rt_11 (by assumption) (by infer_instance) (by with_unfolding_all rfl) ?_))|((with_reducible refine is_rl2 ?_); first|(refine rt_w2 (by assumption) (by infer_instance) (by with_unfolding_all rfl) ?_)|(refine rt_12 (by assumption) (by infer_instance) (by with_unfolding_all rfl) ?_))|((with_reducible refine is_vk ?_); first|(with_reducible refine not_dh (by assumption) ?_)|(with_reducible refine not_dn (by assumption) ?_)|(with_reducible refine not_d (fun hb => ?_) (fun hb => ?_))|(with_reducible refine pick_dh (by assumption) ?_)|(with_reducible refine pick_dn (by assumption) ?_)|(with_reducible refine pick_d (fun hb => ?_) (fun hb => ?_))|(with_reducible refine len_o (by assumption) ?_)|(with_reducible refine nil_i ?_)|(with_reducible refine ex2_0 ?_)|(with_reducible refine ex2_1 ?_)|(with_reducible refine ex3_0 ?_)|(with_reducible refine ex3_1 ?_)|(with_reducible refine ex3_2 ?_)|(with_reducible refine pick_t ?_)|(with_reducible refine pick_f ?_)|(with_reducible refine not_t ?_)|(with_reducible refine not_f ?_)|(with_reducible refine pick_h (by assumption) ?_)|(with_reducible refine pick_n (by assumption) ?_)|(with_reducible refine not_h (by assumption) ?_)|(with_reducible refine not_n (by assumption) ?_)|(with_reducible refine not_s (fun hb => ?_) (fun hb => ?_))|(with_reducible refine pick_s (fun hb => ?_) (fun hb => ?_))|(with_reducible refine len_g (by assumption) ?_)|(with_reducible refine slen_i ?_)|(with_reducible refine len_s ?_)|(refine fld_g (by with_unfolding_all rfl) ?_)|(with_reducible refine leni_t (by assumption) ?_))|((with_reducible refine is_gd ?_); first|(with_reducible refine gd_dht (by assumption) ?_)|(with_reducible refine gd_dnt (by assumption) ?_)|(with_reducible refine gd_dhf (by assumption) ?_)|(with_reducible refine gd_dnf (by assumption) ?_)|(with_reducible refine gd_dt (fun hb => ?_) (fun hb => ?_))|(with_reducible refine gd_df (fun hb => ?_) (fun hb => ?_))|(with_reducible refine gd_tt ?_)|(with_reducible refine gd_ff ?_)|(with_reducible refine gd_tf ?_)|(with_reducible refine gd_ft ?_)|(with_reducible refine gd_u ?_)|(with_reducible refine gd_ht (by assumption) ?_)|(with_reducible refine gd_hf (by assumption) ?_)|(with_reducible refine gd_nt (by assumption) ?_)|(with_reducible refine gd_nf (by assumption) ?_)|(with_reducible refine gd_st (fun hb => ?_) (fun hb => ?_))|(with_reducible refine gd_sf (fun hb => ?_) (fun hb => ?_)))|((with_reducible refine is_cnd ?_); first|(with_reducible refine cnd_dh (by assumption) ?_)|(with_reducible refine cnd_dn (by assumption) ?_)|(with_reducible refine cnd_d (fun hb => ?_) (fun hb => ?_))|(with_reducible refine cnd_t ?_)|(with_reducible refine cnd_f ?_)|(with_reducible refine cnd_h (by assumption) ?_)|(with_reducible refine cnd_n (by assumption) ?_)|(with_reducible refine cnd_b (fun hb => ?_) (fun hb => ?_)))|((with_reducible refine is_bin ?_); first|(with_reducible refine sub_a (by assumption) (by decide) (by decide) ?_)|(with_reducible refine snil_i (fun hn => ?_) (fun hn => ?_))|(with_reducible refine prq_i (fun hc => ?_) (fun hc => ?_))|(refine mul_j (by omega) (by omega) ?_)|(with_reducible refine eql_h (by first | assumption | decide) ?_)|(with_reducible refine eql_n (by first | assumption | decide) ?_)|(with_reducible refine neq_h (by first | assumption | decide) ?_)|(with_reducible refine neq_n (by first | assumption | decide) ?_)|(with_reducible refine lss_i (fun hc => ?_) (fun hc => ?_))|(with_reducible refine leq_i (fun hc => ?_) (fun hc => ?_))|(with_reducible refine gtr_i (fun hc => ?_) (fun hc => ?_))|(with_reducible refine geq_i (fun hc => ?_) (fun hc => ?_))|(with_reducible refine eql_i (fun hc => ?_) (fun hc => ?_))|(with_reducible refine neq_i (fun hc => ?_) (fun hc => ?_))|(with_reducible refine seq_s (fun hc => ?_) (fun hc => ?_))|(with_reducible refine sne_s (fun hc => ?_) (fun hc => ?_))|(with_reducible refine sls_i ?_)|(with_reducible refine inc_i (by omega) ?_)|(with_reducible refine sub_j (by omega) (by omega) ?_)|(with_reducible refine add_j (by omega) (by omega) ?_))|((with_reducible refine is_six ?_); first|(with_reducible refine sidx_0 (by omega) ?_))|((with_reducible refine is_idx ?_); first|(refine ia_g (by assumption) (by omega) (by omega) fun p hp => ?_)|(refine ia_o (by omega) (by omega) ?_)|(refine idxA fun p hp => ?_)|(refine idx_dp (by assumption) (by with_unfolding_all rfl) (by omega) (by omega) fun p hp => ?_)|(refine idx_dz (by assumption) (by with_unfolding_all rfl) (by omega) (by omega) fun p hp => ?_)|(refine idx_f (by assumption) (by with_unfolding_all rfl) (by omega) fun p hp => ?_)|(refine idx_fz (by assumption) (by with_unfolding_all rfl) (by omega) (by omega) fun p hp => ?_)|(refine idxi_t (by assumption) (by omega) ?_)|(refine idx_o (by assumption) (by omega) ?_)|(refine idx_oz (by assumption) (by omega) (by omega) ?_))|((with_reducible refine is_fa ?_); first|(with_reducible refine fa_g (by assumption) fun p hp => ?_)|(with_reducible refine fao_e ?_)|(with_reducible refine fao ?_))|((with_reducible refine is_ldo ?_); first|(refine ldoA ?_)|(refine ldwA ?_)|(refine ldor (by assumption) (q := by infer_instance) (by with_unfolding_all rfl) (by with_unfolding_all exact Nat.le_refl _) ?_)|(refine ldf_d (by assumption) (by infer_instance) (by with_unfolding_all rfl) (by omega) (by with_unfolding_all exact Nat.le_of_ble_eq_true rfl) (by with_unfolding_all rfl) ?_)|(refine ldw_d (by assumption) (by infer_instance) (by with_unfolding_all rfl) (by omega) ?_))|((with_reducible refine is_ld ?_); first|(refine ldgA ?_)|(refine ldr_w (by assumption) (by with_unfolding_all rfl) ?_)|(refine ldr_g (by assumption) (by with_unfolding_all rfl) (by with_unfolding_all exact Nat.le_refl _) ?_)|(refine ldi_t (by assumption) (by omega) ?_))|((with_reducible refine is_box ?_); first|(with_reducible refine box_a (by assumption) fun i h z p m => ?_)|(refine box_1 (by assumption) (by with_unfolding_all rfl) fun i h z p m => ?_))|((with_reducible refine is_ok ?_); first|(with_reducible refine alloc_z (by assumption) fun i h z p m => ?_))|((with_reducible refine is_st ?_); first|(refine sto (by assumption) (q := by infer_instance) (by with_unfolding_all exact Nat.le_of_ble_eq_true rfl) rfl rfl (u := by infer_instance) fun h p m => ?_)|(refine st_w (by assumption) (by infer_instance) (by with_unfolding_all rfl) (by with_unfolding_all rfl) (by first | rfl | exact flat_ones (Flat.flat _)) (by infer_instance) fun h p m => ?_)|(refine stw_o (by assumption) (by infer_instance) (by with_unfolding_all rfl) (by omega) (by infer_instance) fun h p m => ?_))|((with_reducible refine is_new ?_); first|(with_reducible refine new_n ?_)|(with_reducible refine new_p (by assumption) ?_))|((with_reducible refine is_pd ?_); first|(refine pd_p (by assumption) (by with_unfolding_all rfl) ?_)|(refine pd_c (by assumption) (by infer_instance) (by with_unfolding_all rfl) ?_)|(refine pd_o (by assumption) (by infer_instance) (by with_unfolding_all rfl) ?_))|((with_reducible refine is_vb ?_); first|(refine vb_mac (by assumption) ?_)|(with_reducible refine vb_f ?_)|(refine vbA ?_)|(with_reducible refine vb_l (by assumption) ?_)|(refine vb_as rfl (by assumption) ?_)|(refine vb_ao rfl (by assumption) (by assumption) (by infer_instance) ?_)|(refine IsSl.vb (by assumption) (by assumption) (by infer_instance) ?_))|((with_reducible refine is_tru ?_); first|(with_reducible refine ⟨trivial, ?_⟩))|((with_reducible refine is_ret ?_); first|(with_reducible refine ret1 ?_)|(with_reducible refine ret2 ?_)|(with_reducible refine ret3 ?_)|(with_reducible refine ret0 ?_))|((with_reducible refine is_bld ?_); first|(refine vk_i (bd24_z) ?_)|(refine vk_i (bd77_01 _ _) ?_))|((with_reducible refine is_bsl ?_); first|(refine bs_g (bs36_0 _) (by assumption) fun i h p m => ?_)|(refine bs_g (bs22_0 _) (by assumption) fun i h p m => ?_)|(refine bs_g (bs51_1 _ _ _ _) (by assumption) fun i h p m => ?_)|(refine bs_g (bs27_0 _) (by assumption) fun i h p m => ?_)|(refine bs_g (bs53_2 _ _ _) (by assumption) fun i h p m => ?_)|(refine bs_g (bs141_3 _ _ _ _) (by assumption) fun i h p m => ?_)|(refine bs_g (bs53_3 _ _ _ _) (by assumption) fun i h p m => ?_)|(refine bs_g (bs53_1 _ _) (by assumption) fun i h p m => ?_))|(with_reducible refine mv_i ?_)|(with_reducible refine seq_i ?_)|((with_reducible refine fun (_ : Tmps) => ?_); (try dsimp only [nth]))))
        refine calld_r (c87 (p := fun o => meetS o (gt l k)) s1.up fun o => c84 o m (by infer_instance)) ?_
        refine new_n ?_
        refine not_i ?_
        (repeat' (first|((with_reducible refine is_callf 54 ?_); refine call_r (c48 _ _ _) ?_)|((with_reducible refine is_calldf 54 ?_); refine calld_r (c48 _ _ _) ?_)|((with_reducible refine is_callf 42 ?_); refine call_r (c53 _ _ _) ?_)|((with_reducible refine is_calldf 42 ?_); refine calld_r (c53 _ _ _) ?_)|((with_reducible refine is_callf 58 ?_); refine call_r (c96 _ _ _) ?_)|((with_reducible refine is_calldf 58 ?_); refine calld_r (c96 _ _ _) ?_)|((with_reducible refine is_callf 32 ?_); refine call_r c72t ?_)|((with_reducible refine is_calldf 32 ?_); refine calld_r c72t ?_)|((with_reducible refine is_callf 32 ?_); refine call_r c72f ?_)|((with_reducible refine is_calldf 32 ?_); refine calld_r c72f ?_)|((with_reducible refine is_callf 32 ?_); refine call_r (c72 _) ?_)|((with_reducible refine is_calldf 32 ?_); refine calld_r (c72 _) ?_)|((with_reducible refine is_callf 37 ?_); refine call_r (c77 _ _) ?_)|((with_reducible refine is_calldf 37 ?_); refine calld_r (c77 _ _) ?_)|((with_reducible refine is_callf 50 ?_); refine call_r (c91 _ _) ?_)|((with_reducible refine is_calldf 50 ?_); refine calld_r (c91 _ _) ?_)|((with_reducible refine is_callf 69 ?_); refine call_r (c107 _) ?_)|((with_reducible refine is_calldf 69 ?_); refine calld_r (c107 _) ?_)|((with_reducible refine is_callf 41 ?_); refine call_r (c81 _ _) ?_)|((with_reducible refine is_calldf 41 ?_); refine calld_r (c81 _ _) ?_)|((with_reducible refine is_callf 36 ?_); refine call_r (c76 (own_ints (xs := [_, _, _]) (by assumption) (q := by infer_instance) rfl rfl (by decide))) ?_)|((with_reducible refine is_calldf 36 ?_); refine calld_r (c76 (own_ints (xs := [_, _, _]) (by assumption) (q := by infer_instance) rfl rfl (by decide))) ?_)|((with_reducible refine is_callf 40 ?_); refine call_r (c80 (own_ints (xs := [_, _, _]) (by assumption) (q := by infer_instance) rfl rfl (by decide))) ?_)|((with_reducible refine is_calldf 40 ?_); refine calld_r (c80 (own_ints (xs := [_, _, _]) (by assumption) (q := by infer_instance) rfl rfl (by decide))) ?_)|((with_reducible refine is_callf 40 ?_); refine call_r (c80 (own_ints (xs := [_, _]) (by assumption) (q := by infer_instance) rfl rfl (by decide))) ?_)|((with_reducible refine is_calldf 40 ?_); refine calld_r (c80 (own_ints (xs := [_, _]) (by assumption) (q := by infer_instance) rfl rfl (by decide))) ?_)|((with_reducible refine is_callf 18 ?_); refine call_r (c46 _ _) ?_)|((with_reducible refine is_calldf 18 ?_); refine calld_r (c46 _ _) ?_)|((with_reducible refine is_callf 48 ?_); refine call_r (c49 _ _) ?_)|((with_reducible refine is_calldf 48 ?_); refine calld_r (c49 _ _) ?_)|((with_reducible refine is_callf 20 ?_); refine call_r (c54 (own_ints (xs := [_, _]) (by assumption) (q := by infer_instance) rfl rfl (by decide)) (own_ints (xs := [_, _]) (by assumption) (q := by infer_instance) rfl rfl (by decide))) ?_)|((with_reducible refine is_calldf 20 ?_); refine calld_r (c54 (own_ints (xs := [_, _]) (by assumption) (q := by infer_instance) rfl rfl (by decide)) (own_ints (xs := [_, _]) (by assumption) (q := by infer_instance) rfl rfl (by decide))) ?_)|((with_reducible refine is_callf 34 ?_); refine call_r (c74 ⟨_, by with_unfolding_all rfl, L.up (by assumption)⟩ _ _) ?_)|((with_reducible refine is_calldf 34 ?_); refine calld_r (c74 ⟨_, by with_unfolding_all rfl, L.up (by assumption)⟩ _ _) ?_)|((with_reducible refine is_callf 33 ?_); refine call_r (c73 ⟨_, by with_unfolding_all rfl, L.up (by assumption)⟩) ?_)|((with_reducible refine is_callf 35 ?_); refine call_r (c75 ⟨_, by with_unfolding_all rfl, L.up (by assumption)⟩) ?_)|((with_reducible refine is_rl1 ?_); first|(refine rt_w1 (by assumption) (by infer_instance) (by with_unfolding_all rfl) ?_)|(refine rt_11 (by assumption) (by infer_instance) (by with_unfolding_all rfl) ?_))|((with_reducible refine is_rl2 ?_); first|(refine rt_w2 (by assumption) (by infer_instance) (by with_unfolding_all rfl) ?_)|(refine rt_12 (by assumption) (by infer_instance) (by with_unfolding_all rfl) ?_))|((with_reducible refine is_vk ?_); first|(with_reducible refine not_dh (by assumption) ?_)|(with_reducible refine not_dn (by assumption) ?_)|(with_reducible refine not_d (fun hb => ?_) (fun hb => ?_))|(with_reducible refine pick_dh (by assumption) ?_)|(with_reducible refine pick_dn (by assumption) ?_)|(with_reducible refine pick_d (fun hb => ?_) (fun hb => ?_))|(with_reducible refine len_o (by assumption) ?_)|(with_reducible refine nil_i ?_)|(with_reducible refine ex2_0 ?_)|(with_reducible refine ex2_1 ?_)|(with_reducible refine ex3_0 ?_)|(with_reducible refine ex3_1 ?_)|(with_reducible refine ex3_2 ?_)|(with_reducible refine pick_t ?_)|(with_reducible refine pick_f ?_)|(with_reducible refine not_t ?_)|(with_reducible refine not_f ?_)|(with_reducible refine pick_h (by assumption) ?_)|(with_reducible refine pick_n (by assumption) ?_)|(with_reducible refine not_h (by assumption) ?_)|(with_reducible refine not_n (by assumption) ?_)|(with_reducible refine not_s (fun hb => ?_) (fun hb => ?_))|(with_reducible refine pick_s (fun hb => ?_) (fun hb => ?_))|(with_reducible refine len_g (by assumption) ?_)|(with_reducible refine slen_i ?_)|(with_reducible refine len_s ?_)|(refine fld_g (by with_unfolding_all rfl) ?_)|(with_reducible refine leni_t (by assumption) ?_))|((with_reducible refine is_gd ?_); first|(with_reducible refine gd_dht (by assumption) ?_)|(with_reducible refine gd_dnt (by assumption) ?_)|(with_reducible refine gd_dhf (by assumption) ?_)|(with_reducible refine gd_dnf (by assumption) ?_)|(with_reducible refine gd_dt (fun hb => ?_) (fun hb => ?_))|(with_reducible refine gd_df (fun hb => ?_) (fun hb => ?_))|(with_reducible refine gd_tt ?_)|(with_reducible refine gd_ff ?_)|(with_reducible refine gd_tf ?_)|(with_reducible refine gd_ft ?_)|(with_reducible refine gd_u ?_)|(with_reducible refine gd_ht (by assumption) ?_)|(with_reducible refine gd_hf (by assumption) ?_)|(with_reducible refine gd_nt (by assumption) ?_)|(with_reducible refine gd_nf (by assumption) ?_)|(with_reducible refine gd_st (fun hb => ?_) (fun hb => ?_))|(with_reducible refine gd_sf (fun hb => ?_) (fun hb => ?_)))|((with_reducible refine is_cnd ?_); first|(with_reducible refine cnd_dh (by assumption) ?_)|(with_reducible refine cnd_dn (by assumption) ?_)|(with_reducible refine cnd_d (fun hb => ?_) (fun hb => ?_))|(with_reducible refine cnd_t ?_)|(with_reducible refine cnd_f ?_)|(with_reducible refine cnd_h (by assumption) ?_)|(with_reducible refine cnd_n (by assumption) ?_)|(with_reducible refine cnd_b (fun hb => ?_) (fun hb => ?_)))|((with_reducible refine is_bin ?_); first|(with_reducible refine sub_a (by assumption) (by decide) (by decide) ?_)|(with_reducible refine snil_i (fun hn => ?_) (fun hn => ?_))|(with_reducible refine prq_i (fun hc => ?_) (fun hc => ?_))|(refine mul_j (by omega) (by omega) ?_)|(with_reducible refine eql_h (by first | assumption | decide) ?_)|(with_reducible refine eql_n (by first | assumption | decide) ?_)|(with_reducible refine neq_h (by first | assumption | decide) ?_)|(with_reducible refine neq_n (by first | assumption | decide) ?_)|(with_reducible refine lss_i (fun hc => ?_) (fun hc => ?_))|(with_reducible refine leq_i (fun hc => ?_) (fun hc => ?_))|(with_reducible refine gtr_i (fun hc => ?_) (fun hc => ?_))|(with_reducible refine geq_i (fun hc => ?_) (fun hc => ?_))|(with_reducible refine eql_i (fun hc => ?_) (fun hc => ?_))|(with_reducible refine neq_i (fun hc => ?_) (fun hc => ?_))|(with_reducible refine seq_s (fun hc => ?_) (fun hc => ?_))|(with_reducible refine sne_s (fun hc => ?_) (fun hc => ?_))|(with_reducible refine sls_i ?_)|(with_reducible refine inc_i (by omega) ?_)|(with_reducible refine sub_j (by omega) (by omega) ?_)|(with_reducible refine add_j (by omega) (by omega) ?_))|((with_reducible refine is_six ?_); first|(with_reducible refine sidx_0 (by omega) ?_))|((with_reducible refine is_idx ?_); first|(refine ia_g (by assumption) (by omega) (by omega) fun p hp => ?_)|(refine ia_o (by omega) (by omega) ?_)|(refine idxA fun p hp => ?_)|(refine idx_dp (by assumption) (by with_unfolding_all rfl) (by omega) (by omega) fun p hp => ?_)|(refine idx_dz (by assumption) (by with_unfolding_all rfl) (by omega) (by omega) fun p hp => ?_)|(refine idx_f (by assumption) (by with_unfolding_all rfl) (by omega) fun p hp => ?_)|(refine idx_fz (by assumption) (by with_unfolding_all rfl) (by omega) (by omega) fun p hp => ?_)|(refine idxi_t (by assumption) (by omega) ?_)|(refine idx_o (by assumption) (by omega) ?_)|(refine idx_oz (by assumption) (by omega) (by omega) ?_))|((with_reducible refine is_fa ?_); first|(with_reducible refine fa_g (by assumption) fun p hp => ?_)|(with_reducible refine fao_e ?_)|(with_reducible refine fao ?_))|((with_reducible refine is_ldo ?_); first|(refine ldoA ?_)|(refine ldwA ?_)|(refine ldor (by assumption) (q := by infer_instance) (by with_unfolding_all rfl) (by with_unfolding_all exact Nat.le_refl _) ?_)|(refine ldf_d (by assumption) (by infer_instance) (by with_unfolding_all rfl) (by omega) (by with_unfolding_all exact Nat.le_of_ble_eq_true rfl) (by with_unfolding_all rfl) ?_)|(refine ldw_d (by assumption) (by infer_instance) (by with_unfolding_all rfl) (by omega) ?_))|((with_reducible refine is_ld ?_); first|(refine ldgA ?_)|(refine ldr_w (by assumption) (by with_unfolding_all rfl) ?_)|(refine ldr_g (by assumption) (by with_unfolding_all rfl) (by with_unfolding_all exact Nat.le_refl _) ?_)|(refine ldi_t (by assumption) (by omega) ?_))|((with_reducible refine is_box ?_); first|(with_reducible refine box_a (by assumption) fun i h z p m => ?_)|(refine box_1 (by assumption) (by with_unfolding_all rfl) fun i h z p m => ?_))|((with_reducible refine is_ok ?_); first|(with_reducible refine alloc_z (by assumption) fun i h z p m => ?_))|((with_reducible refine is_st ?_); first|(refine sto (by assumption) (q := by infer_instance) (by with_unfolding_all exact Nat.le_of_ble_eq_true rfl) rfl rfl (u := by infer_instance) fun h p m => ?_)|(refine st_w (by assumption) (by infer_instance) (by with_unfolding_all rfl) (by with_unfolding_all rfl) (by first | rfl | exact flat_ones (Flat.flat _)) (by infer_instance) fun h p m => ?_)|(refine stw_o (by assumption) (by infer_instance) (by with_unfolding_all rfl) (by omega) (by infer_instance) fun h p m => ?_))|((with_reducible refine is_new ?_); first|(with_reducible refine new_n ?_)|(with_reducible refine new_p (by assumption) ?_))|((with_reducible refine is_pd ?_); first|(refine pd_p (by assumption) (by with_unfolding_all rfl) ?_)|(refine pd_c (by assumption) (by infer_instance) (by with_unfolding_all rfl) ?_)|(refine pd_o (by assumption) (by infer_instance) (by with_unfolding_all rfl) ?_))|((with_reducible refine is_vb ?_); first|(refine vb_mac (by assumption) ?_)|(with_reducible refine vb_f ?_)|(refine vbA ?_)|(with_reducible refine vb_l (by assumption) ?_)|(refine vb_as rfl (by assumption) ?_)|(refine vb_ao rfl (by assumption) (by assumption) (by infer_instance) ?_)|(refine IsSl.vb (by assumption) (by assumption) (by infer_instance) ?_))|((with_reducible refine is_tru ?_); first|(with_reducible refine ⟨trivial, ?_⟩))|((with_reducible refine is_ret ?_); first|(with_reducible refine ret1 ?_)|(with_reducible refine ret2 ?_)|(with_reducible refine ret3 ?_)|(with_reducible refine ret0 ?_))|((with_reducible refine is_bld ?_); first|(refine vk_i (bd24_z) ?_)|(refine vk_i (bd77_01 _ _) ?_))|((with_reducible refine is_bsl ?_); first|(refine bs_g (bs36_0 _) (by assumption) fun i h p m => ?_)|(refine bs_g (bs22_0 _) (by assumption) fun i h p m => ?_)|(refine bs_g (bs51_1 _ _ _ _) (by assumption) fun i h p m => ?_)|(refine bs_g (bs27_0 _) (by assumption) fun i h p m => ?_)|(refine bs_g (bs53_2 _ _ _) (by assumption) fun i h p m => ?_)|(refine bs_g (bs141_3 _ _ _ _) (by assumption) fun i h p m => ?_)|(refine bs_g (bs53_3 _ _ _ _) (by assumption) fun i h p m => ?_)|(refine bs_g (bs53_1 _ _) (by assumption) fun i h p m => ?_))|(with_reducible refine mv_i ?_)|(with_reducible refine seq_i ?_)|((with_reducible refine fun (_ : Tmps) => ?_); (try dsimp only [nth]))))
      all_goals
        have hb3 : (!decide (0 ≤ idxOf (fun o => meetS o (gt l k)) (l.take k))) = decide (¬ agn l k) := by
          unfold agn
          by_cases q : 0 ≤ idxOf (fun o => meetS o (gt l k)) (l.take k) <;> simp [q]
      all_goals first
        | (have ho : true = decide (ordS l k) := (decide_eq_true ⟨by first | (left; omega) | (right; assumption), by first | (left; assumption) | (right; assumption)⟩).symm
           have hq := muE_or x l k _ true _ hb rfl ho hb3
           rw [hq] at hc
           first
             | exact next1 hkl ⟨⟨Stb.st⟩, m.sub (by simp), up_no hc hJ⟩
             | (refine ⟨?_, Mem.pre (by assumption)⟩
                rw [hq, mutE, if_neg (by omega), firstErr_at hJ hkl hc]
                rfl))
        | (have ho : false = decide (ordS l k) := (decide_eq_false (by
             rintro ⟨q1, q2⟩
             first
               | (rcases q2 with q2 | q2 <;> contradiction)
               | (rcases q1 with q1 | q1 <;> first | contradiction | omega))).symm
           have hq := muE_or x l k _ false _ hb rfl ho hb3
           rw [hq] at hc
           first
             | exact next1 hkl ⟨⟨Stb.st⟩, m.sub (by simp), up_no hc hJ⟩
             | (refine ⟨?_, Mem.pre (by assumption)⟩
                rw [hq, mutE, if_neg (by omega), firstErr_at hJ hkl hc]
                rfl))
    · ((with_reducible (refine lss_i (fun hc => ?_) (fun hc => ?_); refine cnd_t ?_; refine mv_i ?_)); (refine idxA fun p hp => ?_); (refine ldr_w (by assumption) (by with_unfolding_all rfl) ?_); (with_reducible (refine alloc_z (by assumption) fun i h z p m => ?_; refine mv_i ?_)); (refine st_w (by assumption) (by infer_instance) (by with_unfolding_all rfl) (by with_unfolding_all rfl) (by first | rfl | exact flat_ones (Flat.flat _)) (by infer_instance) fun h p m => ?_); (with_reducible (refine mv_i ?_; refine eql_i (fun hc => ?_) (fun hc => ?_); refine mv_i ?_; refine gd_tf ?_; refine gd_tf ?_; refine gd_tf ?_; refine gd_tf ?_; refine gd_tf ?_; refine gd_tf ?_; refine gd_tf ?_; refine gd_tf ?_; refine pick_t ?_; refine mv_i ?_; refine gd_tt ?_; refine fao ?_; refine gd_tt ?_)); (refine ldoA ?_); (refine vbA ?_); (with_reducible (refine gd_tt ?_; refine neq_i (fun hc => ?_) (fun hc => ?_); refine gd_tt ?_; refine mv_i ?_; refine gd_ff ?_; refine fao ?_; refine gd_ff ?_)); (refine ldoA ?_); (refine vbA ?_); (with_reducible (refine gd_ff ?_; refine fao ?_; refine gd_ff ?_)); (refine ldoA ?_); (refine vbA ?_); (with_reducible (refine gd_ff ?_; refine lss_i (fun hc => ?_) (fun hc => ?_); refine gd_tt ?_; refine pick_f ?_; refine pick_t ?_; refine mv_i ?_; refine mv_i ?_; refine mv_i ?_; refine fao ?_)); (refine ldoA ?_); (refine call_r (c48 _ _ _) ?_); (with_reducible (refine not_d (fun hb => ?_) (fun hb => ?_); refine cnd_f ?_)); (refine ldwA ?_); (refine vb_mac (by assumption) ?_); (refine ldwA ?_); (with_reducible (refine vb_f ?_)); (rotate_left); (with_reducible (refine cnd_t ?_; refine mv_i ?_; refine mv_i ?_; refine mv_i ?_; refine ret2 ?_)); (rotate_left); (with_reducible (refine gd_tt ?_; refine pick_f ?_; refine pick_t ?_; refine mv_i ?_; refine mv_i ?_; refine mv_i ?_; refine fao ?_)); (refine ldoA ?_); (refine call_r (c48 _ _ _) ?_); (with_reducible (refine not_d (fun hb => ?_) (fun hb => ?_); refine cnd_f ?_)); (refine ldwA ?_); (refine vb_mac (by assumption) ?_); (refine ldwA ?_); (with_reducible (refine vb_f ?_)); (rotate_left); (with_reducible (refine cnd_t ?_; refine mv_i ?_; refine mv_i ?_; refine mv_i ?_; refine ret2 ?_)); (rotate_left); (with_reducible (refine gd_tt ?_; refine mv_i ?_; refine gd_tf ?_; refine gd_tf ?_; refine gd_tf ?_; refine gd_tf ?_; refine gd_tf ?_; refine gd_tt ?_; refine pick_t ?_; refine pick_t ?_; refine mv_i ?_; refine mv_i ?_; refine mv_i ?_; refine fao ?_)); (refine ldoA ?_); (refine call_r (c48 _ _ _) ?_); (with_reducible (refine not_d (fun hb => ?_) (fun hb => ?_); refine cnd_f ?_)); (refine ldwA ?_); (refine vb_mac (by assumption) ?_); (refine ldwA ?_); (with_reducible (refine vb_f ?_)); (rotate_left); (with_reducible (refine cnd_t ?_; refine mv_i ?_; refine mv_i ?_; refine mv_i ?_; refine ret2 ?_)); (rotate_left); (with_reducible (refine mv_i ?_; refine gd_ff ?_; refine mv_i ?_; refine gd_ff ?_; refine mv_i ?_; refine gd_ff ?_; refine sub_j (by omega) (by omega) ?_; refine gd_ff ?_)); (refine idx_dp (by assumption) (by with_unfolding_all rfl) (by omega) (by omega) fun p hp => ?_); (with_reducible (refine gd_ff ?_)); (refine ldr_w (by assumption) (by with_unfolding_all rfl) ?_); (with_reducible (refine vb_f ?_; refine gd_ff ?_)); (refine ldwA ?_); (with_reducible (refine vb_f ?_; refine gd_ff ?_)); (refine calld_r (c46 _ _) ?_); (with_reducible (refine new_n ?_; refine gd_ff ?_; refine lss_i (fun hc => ?_) (fun hc => ?_); refine pick_f ?_; refine mv_i ?_; refine gd_tt ?_; refine fao ?_; refine gd_tt ?_)); (refine ldoA ?_); (refine vbA ?_); (with_reducible (refine gd_tt ?_; refine neq_i (fun hc => ?_) (fun hc => ?_); refine gd_tt ?_; refine mv_i ?_; refine gd_ff ?_; refine fao ?_; refine gd_ff ?_)); (refine ldoA ?_); (refine vbA ?_); (with_reducible (refine gd_ff ?_; refine fao ?_; refine gd_ff ?_)); (refine ldoA ?_); (refine vbA ?_); (with_reducible (refine gd_ff ?_; refine lss_i (fun hc => ?_) (fun hc => ?_); refine gd_tt ?_; refine pick_f ?_; refine pick_t ?_; refine mv_i ?_; refine mv_i ?_; refine mv_i ?_; refine fao ?_)); (refine ldoA ?_); (refine call_r (c48 _ _ _) ?_); (with_reducible (refine not_d (fun hb => ?_) (fun hb => ?_); refine cnd_f ?_)); (refine ldwA ?_); (refine vb_mac (by assumption) ?_); (refine ldwA ?_); (with_reducible (refine vb_f ?_)); (rotate_left); (with_reducible (refine cnd_t ?_; refine mv_i ?_; refine mv_i ?_; refine mv_i ?_; refine ret2 ?_)); (rotate_left); (with_reducible (refine gd_tt ?_; refine pick_f ?_; refine pick_t ?_; refine mv_i ?_; refine mv_i ?_; refine mv_i ?_; refine fao ?_)); (refine ldoA ?_); (refine call_r (c48 _ _ _) ?_); (with_reducible (refine not_d (fun hb => ?_) (fun hb => ?_); refine cnd_f ?_)); (refine ldwA ?_); (refine vb_mac (by assumption) ?_); (refine ldwA ?_); (with_reducible (refine vb_f ?_)); (rotate_left); (with_reducible (refine cnd_t ?_; refine mv_i ?_; refine mv_i ?_; refine mv_i ?_; refine ret2 ?_)); (rotate_left); (with_reducible (refine gd_tt ?_; refine mv_i ?_; refine gd_tf ?_; refine gd_tf ?_; refine gd_tf ?_; refine gd_tf ?_; refine gd_tf ?_; refine gd_tt ?_; refine pick_t ?_; refine pick_t ?_; refine mv_i ?_; refine mv_i ?_; refine mv_i ?_; refine fao ?_)); (refine ldoA ?_); (refine call_r (c48 _ _ _) ?_); (with_reducible (refine not_d (fun hb => ?_) (fun hb => ?_); refine cnd_f ?_)); (refine ldwA ?_); (refine vb_mac (by assumption) ?_); (refine ldwA ?_); (with_reducible (refine vb_f ?_)); (rotate_left); (with_reducible (refine cnd_t ?_; refine mv_i ?_; refine mv_i ?_; refine mv_i ?_; refine ret2 ?_)); (rotate_left); (with_reducible (refine pick_f ?_; refine mv_i ?_; refine gd_ft ?_; refine gd_ft ?_; refine gd_ft ?_; refine gd_ft ?_; refine gd_u ?_; refine gd_u ?_; refine gd_u ?_; refine gd_u ?_; refine gd_u ?_; refine gd_ft ?_; refine pick_f ?_; refine mv_i ?_; refine mv_i ?_; refine mv_i ?_; refine fao ?_)); (refine ldoA ?_); (refine call_r (c48 _ _ _) ?_); (with_reducible (refine not_d (fun hb => ?_) (fun hb => ?_); refine cnd_f ?_)); (refine ldwA ?_); (refine vb_mac (by assumption) ?_); (refine ldwA ?_); (with_reducible (refine vb_f ?_)); (rotate_left); (with_reducible (refine cnd_t ?_; refine mv_i ?_; refine mv_i ?_; refine mv_i ?_; refine ret2 ?_)); (rotate_left); (with_reducible (refine cnd_f ?_; refine mv_i ?_; refine mv_i ?_; refine ret2 ?_)); (rotate_left))
      all_goals (try (exfalso; omega))
      exact ⟨by rw [mutE, if_neg (by omega), firstErr_no fun j hj => hJ j (by omega)]; rfl, Mem.pre (by assumption)⟩
end Go.Proofs.Ytgmgmkhenhaniaa

set_option linter.unusedSimpArgs false
set_option linter.unusedVariables false
set_option linter.unnecessarySimpa false
set_option maxRecDepth 100000
set_option maxHeartbeats 4000000
namespace Go.Proofs.Ytgmgmkhenhaniaa
open Go.AM
variable {h g : Heap}
/-! ### the reference's error of a mutant -/
theorem c89 {x : Value} {xs : List Int} (s : L g x xs) (z : Int) : Runs Try.prog 44 [x, .int .i64 z] g (.bool (decide (z ∈ xs))) g := by
  have lt := s.lt
  refine DetP.runs (w89 ?_)
  unfold n89
  ((with_reducible (refine mv_i ?_; refine mv_i ?_)))
  refine loop1 xs.length (fun k h2 => g = h2 ∧ ∀ j, j < k → gt xs j ≠ z) ⟨rfl, fun j hj => by omega⟩ ?_
  rintro k _ _ hk ⟨rfl, hJ⟩
  ((with_reducible (refine mv_i ?_; refine mv_i ?_; refine len_g (by assumption) ?_; refine lss_i (fun hc => ?_) (fun hc => ?_); refine cnd_t ?_; refine mv_i ?_; refine mv_i ?_)); (refine idxA fun p hp => ?_); (refine ldgA ?_); (with_reducible (refine mv_i ?_; refine eql_i (fun hc => ?_) (fun hc => ?_); refine cnd_t ?_; refine mv_i ?_; refine ret1 ?_)); (rotate_left); (with_reducible (refine cnd_f ?_; refine mv_i ?_; refine inc_i (by omega) ?_; refine mv_i ?_)); (rotate_left); (with_reducible (refine cnd_f ?_; refine mv_i ?_; refine ret1 ?_)); (rotate_left))
  · refine ⟨?_, rfl⟩
    rw [decide_eq_true]
    rw [← hc]
    exact gd_mem _ (by omega)
  · refine next1 (by omega) ⟨rfl, fun j hj => ?_⟩
    by_cases q : j = k
    · subst q; assumption
    · exact hJ j (by omega)
  · refine ⟨?_, rfl⟩
    rw [decide_eq_false]
    intro hm
    obtain ⟨j, hj, e⟩ := mem_gd Df.d hm
    exact hJ j (by omega) e
theorem c59 (t : Mut) : DetP Try.prog 21 [fv t] g fun v' h' => g <+: h' ∧ L h' v' [t.kind, t.step, t.to] := by
  refine DetP.freeze ?_
  have m := Mem.start g
  refine w59 ?_
  unfold n59
  ((with_reducible (refine box_a (by assumption) fun i h z p m => ?_; refine mv_i ?_; refine fao ?_)); (refine ldoA ?_); (with_reducible (refine fao ?_)); (refine ldoA ?_); (with_reducible (refine fao ?_)); (refine ldoA ?_); (refine bs_g (bs141_3 _ _ _ _) (by assumption) fun i h p m => ?_); (with_reducible (refine mv_i ?_; refine ret1 ?_)))
  exact ⟨m.pre, ret_flat (xs := [t.kind, t.step, t.to]) (k := 0) m rfl (by simp) (.inr (by simp))⟩
def tgR (m : Mut) : List Int := if m.kind = 3 then [m.step, m.to] else [m.step]
theorem c88 (t : Mut) : DetP Try.prog 43 [fv t] g fun v' h' => g <+: h' ∧ L h' v' (tgR t) := by
  refine DetP.freeze ?_
  have m := Mem.start g
  refine w88 ?_
  unfold n88
  ((with_reducible (refine box_a (by assumption) fun i h z p m => ?_; refine mv_i ?_; refine fao ?_)); (refine ldoA ?_); (with_reducible (refine eql_i (fun hc => ?_) (fun hc => ?_); refine cnd_t ?_; refine fao ?_)); (refine ldoA ?_); (with_reducible (refine fao ?_)); (refine ldoA ?_); (refine bs_g (bs53_2 _ _ _) (by assumption) fun i h p m => ?_); (with_reducible (refine mv_i ?_; refine ret1 ?_)); (rotate_left); (with_reducible (refine cnd_f ?_; refine fao ?_)); (refine ldoA ?_); (refine bs_g (bs53_1 _ _) (by assumption) fun i h p m => ?_); (with_reducible (refine mv_i ?_; refine ret1 ?_)); (rotate_left))
  · rw [show tgR t = [t.step, t.to] by simp [tgR, *]]
    exact ⟨m.pre, ret_flat (xs := [t.step, t.to]) (k := 0) m rfl (by simp) (.inr (by simp))⟩
  · rw [show tgR t = [t.step] by simp [tgR, *]]
    exact ⟨m.pre, ret_flat (xs := [t.step]) (k := 0) m rfl (by simp) (.inr (by simp))⟩
def clS (a b : Mut) : Prop :=
  if a.kind = 0 ∨ b.kind = 0 then a.kind = b.kind ∧ a.step = b.step else if a.kind = 2 ∨ b.kind = 2 then a.kind = b.kind else ∃ z ∈ tgR a, z ∈ tgR b
theorem cl0 {a b : Mut} (h : a.kind = 0 ∨ b.kind = 0) : clS a b ↔ (a.kind = b.kind ∧ a.step = b.step) := by rw [clS, if_pos h]
theorem cl2 {a b : Mut} (h1 : ¬ a.kind = 0) (h2 : ¬ b.kind = 0) (h : a.kind = 2 ∨ b.kind = 2) : clS a b ↔ a.kind = b.kind := by rw [clS, if_neg (by rintro (q | q) <;> contradiction), if_pos h]
theorem cl3 {a b : Mut} (h1 : ¬ a.kind = 0) (h2 : ¬ b.kind = 0) (h3 : ¬ a.kind = 2) (h4 : ¬ b.kind = 2) : clS a b ↔ ∃ z ∈ tgR a, z ∈ tgR b := by rw [clS, if_neg (by rintro (q | q) <;> contradiction), if_neg (by rintro (q | q) <;> contradiction)]
open Classical in
theorem c60 (a b : Mut) : Runs Try.prog 22 [fv a, fv b] g (.bool (decide (clS a b))) g := by
  have m := Mem.start g
  refine DetP.forget rfl ?_
  refine w60 ?_
  unfold n60
  ((with_reducible (refine box_a (by assumption) fun i h z p m => ?_; refine box_a (by assumption) fun i h z p m => ?_; refine mv_i ?_; refine fao ?_)); (refine ldoA ?_); (with_reducible (refine eql_i (fun hc => ?_) (fun hc => ?_); refine mv_i ?_; refine gd_tf ?_; refine gd_tf ?_; refine gd_tf ?_; refine pick_t ?_; refine cnd_t ?_; refine fao ?_)); (refine ldoA ?_); (with_reducible (refine fao ?_)); (refine ldoA ?_); (with_reducible (refine eql_i (fun hc => ?_) (fun hc => ?_); refine mv_i ?_; refine gd_tt ?_; refine fao ?_; refine gd_tt ?_)); (refine ldoA ?_); (with_reducible (refine gd_tt ?_; refine fao ?_; refine gd_tt ?_)); (refine ldoA ?_); (with_reducible (refine gd_tt ?_; refine eql_i (fun hc => ?_) (fun hc => ?_); refine pick_t ?_; refine mv_i ?_; refine ret1 ?_)); (rotate_left); (with_reducible (refine pick_t ?_; refine mv_i ?_; refine ret1 ?_)); (rotate_left); (with_reducible (refine mv_i ?_; refine gd_ft ?_; refine gd_ft ?_; refine gd_ft ?_; refine gd_ft ?_; refine gd_ft ?_; refine pick_f ?_; refine mv_i ?_; refine ret1 ?_)); (rotate_left); (with_reducible (refine mv_i ?_; refine gd_ff ?_; refine fao ?_; refine gd_ff ?_)); (refine ldoA ?_); (with_reducible (refine gd_ff ?_; refine eql_i (fun hc => ?_) (fun hc => ?_); refine pick_f ?_; refine cnd_t ?_; refine fao ?_)); (refine ldoA ?_); (with_reducible (refine fao ?_)); (refine ldoA ?_); (with_reducible (refine eql_i (fun hc => ?_) (fun hc => ?_); refine mv_i ?_; refine gd_tt ?_; refine fao ?_; refine gd_tt ?_)); (refine ldoA ?_); (with_reducible (refine gd_tt ?_; refine fao ?_; refine gd_tt ?_)); (refine ldoA ?_); (with_reducible (refine gd_tt ?_; refine eql_i (fun hc => ?_) (fun hc => ?_); refine pick_t ?_; refine mv_i ?_; refine ret1 ?_)); (rotate_left); (with_reducible (refine pick_t ?_; refine mv_i ?_; refine ret1 ?_)); (rotate_left); (with_reducible (refine mv_i ?_; refine gd_ft ?_; refine gd_ft ?_; refine gd_ft ?_; refine gd_ft ?_; refine gd_ft ?_; refine pick_f ?_; refine mv_i ?_; refine ret1 ?_)); (rotate_left); (with_reducible (refine pick_f ?_; refine cnd_f ?_; refine fao ?_)); (refine ldoA ?_); (with_reducible (refine eql_i (fun hc => ?_) (fun hc => ?_); refine mv_i ?_; refine gd_tf ?_; refine gd_tf ?_; refine gd_tf ?_; refine pick_t ?_; refine cnd_t ?_; refine fao ?_)); (refine ldoA ?_); (with_reducible (refine fao ?_)); (refine ldoA ?_); (with_reducible (refine eql_i (fun hc => ?_) (fun hc => ?_); refine mv_i ?_; refine ret1 ?_)); (rotate_left); (with_reducible (refine mv_i ?_; refine ret1 ?_)); (rotate_left); (with_reducible (refine mv_i ?_; refine gd_ff ?_; refine fao ?_; refine gd_ff ?_)); (refine ldoA ?_); (with_reducible (refine gd_ff ?_; refine eql_i (fun hc => ?_) (fun hc => ?_); refine pick_f ?_; refine cnd_t ?_; refine fao ?_)); (refine ldoA ?_); (with_reducible (refine fao ?_)); (refine ldoA ?_); (with_reducible (refine eql_i (fun hc => ?_) (fun hc => ?_); refine mv_i ?_; refine ret1 ?_)); (rotate_left); (with_reducible (refine mv_i ?_; refine ret1 ?_)); (rotate_left); (with_reducible (refine pick_f ?_; refine cnd_f ?_)); (refine ldwA ?_); (with_reducible (refine vb_f ?_)); (rotate_left))
  all_goals first
    | (have e := cl0 (a := a) (b := b) (by first | (left; assumption) | (right; assumption))
       refine ⟨?_, Mem.pre (by assumption)⟩
       first
         | (rw [decide_eq_true (e.mpr ⟨by assumption, by assumption⟩)]; done)
         | (rw [decide_eq_false (fun q => by have := e.mp q; obtain ⟨q1, q2⟩ := this; contradiction)]; done))
    | (have e := cl2 (a := a) (b := b) (by assumption) (by assumption) (by first | (left; assumption) | (right; assumption))
       refine ⟨?_, Mem.pre (by assumption)⟩
       first
         | (rw [decide_eq_true (e.mpr (by assumption))]; done)
         | (rw [decide_eq_false (fun q => absurd (e.mp q) (by assumption))]; done))
    | skip
  have e := cl3 (a := a) (b := b) (by assumption) (by assumption) (by assumption) (by assumption)
  refine calld_d (c88 a) m fun v1 h1 p1 p2 m s1 => ?_
  obtain ⟨b1, q1, rfl, _⟩ := s1.shape
  refine new_p p1 ?_
  ((refine ldwA ?_); (with_reducible (refine vb_f ?_)))
  refine calld_d (c88 b) m fun v2 h2 p3 p4 m s2 => ?_
  obtain ⟨b2, q2, rfl, _⟩ := s2.shape
  refine new_p p3 ?_
  have hl1 : (tgR a).length ≤ 2 := by unfold tgR; split <;> simp
  ((with_reducible (refine mv_i ?_; refine mv_i ?_; refine mv_i ?_)))
  refine loop1 (tgR a).length (fun k h3 => h2 = h3 ∧ ∀ j, j < k → gt (tgR a) j ∉ tgR b) ⟨rfl, fun j hj => by omega⟩ ?_
  rintro k _ _ hk ⟨rfl, hJ⟩
  ((with_reducible (refine mv_i ?_; refine mv_i ?_; refine len_g (by assumption) ?_; refine lss_i (fun hc => ?_) (fun hc => ?_); refine cnd_t ?_; refine mv_i ?_; refine mv_i ?_; refine mv_i ?_)); (refine idxA fun p hp => ?_); (refine ldgA ?_); (rotate_left); (with_reducible (refine cnd_f ?_; refine mv_i ?_; refine ret1 ?_)); (rotate_left))
  · refine call_r (c89 s2.up _) ?_
    ((with_reducible (refine cnd_d (fun hb => ?_) (fun hb => ?_); refine mv_i ?_; refine ret1 ?_)); (rotate_left); (with_reducible (refine mv_i ?_; refine inc_i (by omega) ?_; refine mv_i ?_)); (rotate_left))
    · refine ⟨?_, Mem.pre (by assumption)⟩
      rw [decide_eq_true (e.mpr ⟨_, gd_mem Df.d (show k < (tgR a).length by omega), hb⟩)]
    · refine next1 (by omega) ⟨rfl, fun j hj => ?_⟩
      by_cases q : j = k
      · subst q; exact hb
      · exact hJ j (by omega)
  · refine ⟨?_, Mem.pre (by assumption)⟩
    rw [decide_eq_false]
    rw [e]
    rintro ⟨z, h1, h2⟩
    obtain ⟨j, hj, rfl⟩ := mem_gd Df.d h1
    exact hJ j (by omega) h2
theorem c58 {v : Value} {x : Mach} (s : MacV g v x) (hh : headOK x) (t : Mut) : Runs Try.prog 19 [v, fv t] g (.int .i64 (if ¬ (0 ≤ t.kind ∧ t.kind ≤ 3) then 4 else if ¬ rightS x t then 3 else 0)) g := by
  obtain ⟨tv, rfl, s⟩ := s
  have lt := s.lt
  obtain ⟨a1, a2, a3, a4⟩ := hh
  have m := Mem.start g
  refine DetP.forget rfl ?_
  refine w58 ?_
  unfold n58
  by_cases hk : 0 ≤ t.kind ∧ t.kind ≤ 3
  · have hk2 : t.kind = 0 ∨ t.kind = 1 ∨ t.kind = 2 ∨ t.kind = 3 := by omega
    rcases hk2 with e | e | e | e
    · have n2 : ¬ t.kind = 2 := by omega
      have n3 : ¬ t.kind = 3 := by omega
      ((with_reducible (refine box_a (by assumption) fun i h z p m => ?_; refine box_a (by assumption) fun i h z p m => ?_; refine mv_i ?_; refine fao ?_)); (refine ldoA ?_); (refine call_r (c53 _ _ _) ?_); (with_reducible (refine not_dh (by assumption) ?_; refine cnd_f ?_; refine fao ?_)); (refine ldoA ?_); (with_reducible (refine vb_l (by assumption) ?_; refine len_g (by assumption) ?_; refine sub_j (by omega) (by omega) ?_; refine fao ?_)); (refine ldoA ?_); (refine vbA ?_); (with_reducible (refine sub_a (by assumption) (by decide) (by decide) ?_; refine mv_i ?_; refine mv_i ?_; refine seq_i ?_; refine fao ?_)); (refine ldoA ?_); (with_reducible (refine eql_h (by first | assumption | decide) ?_; refine cnd_t ?_; refine fao ?_)); (refine ldoA ?_); (with_reducible (refine sub_a (by assumption) (by decide) (by decide) ?_; refine mv_i ?_)); ((with_reducible refine fun (_ : Tmps) => ?_); (try dsimp only [nth])); (with_reducible (refine seq_i ?_; refine fao ?_)); (refine ldoA ?_); (with_reducible (refine eql_n (by first | assumption | decide) ?_; refine cnd_f ?_)); ((with_reducible refine fun (_ : Tmps) => ?_); (try dsimp only [nth])); (with_reducible (refine seq_i ?_; refine fao ?_)); (refine ldoA ?_); (with_reducible (refine eql_n (by first | assumption | decide) ?_; refine cnd_f ?_)); ((with_reducible refine fun (_ : Tmps) => ?_); (try dsimp only [nth])); (with_reducible (refine fao ?_)); (refine ldoA ?_); (with_reducible (refine mv_i ?_)); (refine call_r (c53 _ _ _) ?_); (with_reducible (refine not_d (fun hb => ?_) (fun hb => ?_); refine mv_i ?_; refine gd_ff ?_; refine fao ?_; refine gd_ff ?_)); (refine ldoA ?_); (with_reducible (refine gd_ff ?_; refine mv_i ?_; refine gd_ff ?_)); (refine call_r (c53 _ _ _) ?_); (with_reducible (refine gd_ff ?_; refine not_d (fun hb => ?_) (fun hb => ?_); refine pick_f ?_; refine cnd_f ?_; refine mv_i ?_; refine ret1 ?_)); (rotate_left); (with_reducible (refine pick_f ?_; refine cnd_t ?_; refine mv_i ?_; refine ret1 ?_)); (rotate_left); (with_reducible (refine mv_i ?_; refine gd_tf ?_; refine gd_tf ?_; refine gd_tf ?_; refine gd_tf ?_; refine gd_tf ?_; refine pick_t ?_; refine cnd_t ?_; refine mv_i ?_; refine ret1 ?_)); (rotate_left))
      all_goals
        refine ⟨?_, Mem.pre (by assumption)⟩
        rw [if_neg (by simpa using hk)]
        first
          | (rw [if_neg (by simp [rightS, e]; omega)]; done)
          | (rw [if_pos (by simp [rightS, e]; omega)]; done)
          | (simp [rightS, e]; done)
          | (simp [rightS, e]; omega)
    · have n0 : ¬ t.kind = 0 := by omega
      have n2 : ¬ t.kind = 2 := by omega
      have n3 : ¬ t.kind = 3 := by omega
      ((with_reducible (refine box_a (by assumption) fun i h z p m => ?_; refine box_a (by assumption) fun i h z p m => ?_; refine mv_i ?_; refine fao ?_)); (refine ldoA ?_); (refine call_r (c53 _ _ _) ?_); (with_reducible (refine not_dh (by assumption) ?_; refine cnd_f ?_; refine fao ?_)); (refine ldoA ?_); (with_reducible (refine vb_l (by assumption) ?_; refine len_g (by assumption) ?_; refine sub_j (by omega) (by omega) ?_; refine fao ?_)); (refine ldoA ?_); (refine vbA ?_); (with_reducible (refine sub_a (by assumption) (by decide) (by decide) ?_; refine mv_i ?_; refine mv_i ?_; refine seq_i ?_; refine fao ?_)); (refine ldoA ?_); (with_reducible (refine eql_n (by first | assumption | decide) ?_; refine cnd_f ?_)); ((with_reducible refine fun (_ : Tmps) => ?_); (try dsimp only [nth])); (with_reducible (refine seq_i ?_; refine fao ?_)); (refine ldoA ?_); (with_reducible (refine eql_n (by first | assumption | decide) ?_; refine cnd_f ?_)); ((with_reducible refine fun (_ : Tmps) => ?_); (try dsimp only [nth])); (with_reducible (refine seq_i ?_; refine fao ?_)); (refine ldoA ?_); (with_reducible (refine eql_n (by first | assumption | decide) ?_; refine cnd_f ?_)); ((with_reducible refine fun (_ : Tmps) => ?_); (try dsimp only [nth])); (with_reducible (refine fao ?_)); (refine ldoA ?_); (with_reducible (refine mv_i ?_)); (refine call_r (c53 _ _ _) ?_); (with_reducible (refine not_d (fun hb => ?_) (fun hb => ?_); refine mv_i ?_; refine gd_ff ?_; refine fao ?_; refine gd_ff ?_)); (refine ldoA ?_); (with_reducible (refine gd_ff ?_; refine mv_i ?_; refine gd_ff ?_)); (refine call_r (c53 _ _ _) ?_); (with_reducible (refine gd_ff ?_; refine not_d (fun hb => ?_) (fun hb => ?_); refine pick_f ?_; refine cnd_f ?_; refine mv_i ?_; refine ret1 ?_)); (rotate_left); (with_reducible (refine pick_f ?_; refine cnd_t ?_; refine mv_i ?_; refine ret1 ?_)); (rotate_left); (with_reducible (refine mv_i ?_; refine gd_tf ?_; refine gd_tf ?_; refine gd_tf ?_; refine gd_tf ?_; refine gd_tf ?_; refine pick_t ?_; refine cnd_t ?_; refine mv_i ?_; refine ret1 ?_)); (rotate_left))
      all_goals
        refine ⟨?_, Mem.pre (by assumption)⟩
        rw [if_neg (by simpa using hk)]
        first
          | (rw [if_neg (by simp [rightS, e]; omega)]; done)
          | (rw [if_pos (by simp [rightS, e]; omega)]; done)
          | (simp [rightS, e]; done)
          | (simp [rightS, e]; omega)
    · have n0 : ¬ t.kind = 0 := by omega
      have n3 : ¬ t.kind = 3 := by omega
      ((with_reducible (refine box_a (by assumption) fun i h z p m => ?_; refine box_a (by assumption) fun i h z p m => ?_; refine mv_i ?_; refine fao ?_)); (refine ldoA ?_); (refine call_r (c53 _ _ _) ?_); (with_reducible (refine not_dh (by assumption) ?_; refine cnd_f ?_; refine fao ?_)); (refine ldoA ?_); (with_reducible (refine vb_l (by assumption) ?_; refine len_g (by assumption) ?_; refine sub_j (by omega) (by omega) ?_; refine fao ?_)); (refine ldoA ?_); (refine vbA ?_); (with_reducible (refine sub_a (by assumption) (by decide) (by decide) ?_; refine mv_i ?_; refine mv_i ?_; refine seq_i ?_; refine fao ?_)); (refine ldoA ?_); (with_reducible (refine eql_n (by first | assumption | decide) ?_; refine cnd_f ?_)); ((with_reducible refine fun (_ : Tmps) => ?_); (try dsimp only [nth])); (with_reducible (refine seq_i ?_; refine fao ?_)); (refine ldoA ?_); (with_reducible (refine eql_h (by first | assumption | decide) ?_; refine cnd_t ?_; refine mv_i ?_)); ((with_reducible refine fun (_ : Tmps) => ?_); (try dsimp only [nth])); (with_reducible (refine seq_i ?_; refine fao ?_)); (refine ldoA ?_); (with_reducible (refine eql_n (by first | assumption | decide) ?_; refine cnd_f ?_)); ((with_reducible refine fun (_ : Tmps) => ?_); (try dsimp only [nth])); (with_reducible (refine fao ?_)); (refine ldoA ?_); (with_reducible (refine mv_i ?_)); (refine call_r (c53 _ _ _) ?_); (with_reducible (refine not_d (fun hb => ?_) (fun hb => ?_); refine mv_i ?_; refine gd_ff ?_; refine fao ?_; refine gd_ff ?_)); (refine ldoA ?_); (with_reducible (refine gd_ff ?_; refine mv_i ?_; refine gd_ff ?_)); (refine call_r (c53 _ _ _) ?_); (with_reducible (refine gd_ff ?_; refine not_d (fun hb => ?_) (fun hb => ?_); refine pick_f ?_; refine cnd_f ?_; refine mv_i ?_; refine ret1 ?_)); (rotate_left); (with_reducible (refine pick_f ?_; refine cnd_t ?_; refine mv_i ?_; refine ret1 ?_)); (rotate_left); (with_reducible (refine mv_i ?_; refine gd_tf ?_; refine gd_tf ?_; refine gd_tf ?_; refine gd_tf ?_; refine gd_tf ?_; refine pick_t ?_; refine cnd_t ?_; refine mv_i ?_; refine ret1 ?_)); (rotate_left))
      all_goals
        refine ⟨?_, Mem.pre (by assumption)⟩
        rw [if_neg (by simpa using hk)]
        first
          | (rw [if_neg (by simp [rightS, e]; omega)]; done)
          | (rw [if_pos (by simp [rightS, e]; omega)]; done)
          | (simp [rightS, e]; done)
          | (simp [rightS, e]; omega)
    · have n0 : ¬ t.kind = 0 := by omega
      have n2 : ¬ t.kind = 2 := by omega
      ((with_reducible (refine box_a (by assumption) fun i h z p m => ?_; refine box_a (by assumption) fun i h z p m => ?_; refine mv_i ?_; refine fao ?_)); (refine ldoA ?_); (refine call_r (c53 _ _ _) ?_); (with_reducible (refine not_dh (by assumption) ?_; refine cnd_f ?_; refine fao ?_)); (refine ldoA ?_); (with_reducible (refine vb_l (by assumption) ?_; refine len_g (by assumption) ?_; refine sub_j (by omega) (by omega) ?_; refine fao ?_)); (refine ldoA ?_); (refine vbA ?_); (with_reducible (refine sub_a (by assumption) (by decide) (by decide) ?_; refine mv_i ?_; refine mv_i ?_; refine seq_i ?_; refine fao ?_)); (refine ldoA ?_); (with_reducible (refine eql_n (by first | assumption | decide) ?_; refine cnd_f ?_)); ((with_reducible refine fun (_ : Tmps) => ?_); (try dsimp only [nth])); (with_reducible (refine seq_i ?_; refine fao ?_)); (refine ldoA ?_); (with_reducible (refine eql_n (by first | assumption | decide) ?_; refine cnd_f ?_)); ((with_reducible refine fun (_ : Tmps) => ?_); (try dsimp only [nth])); (with_reducible (refine seq_i ?_; refine fao ?_)); (refine ldoA ?_); (with_reducible (refine eql_h (by first | assumption | decide) ?_; refine cnd_t ?_; refine fao ?_)); (refine ldoA ?_); (with_reducible (refine len_g (by assumption) ?_; refine sub_j (by omega) (by omega) ?_; refine mv_i ?_)); ((with_reducible refine fun (_ : Tmps) => ?_); (try dsimp only [nth])); (with_reducible (refine fao ?_)); (refine ldoA ?_); (with_reducible (refine mv_i ?_)); (refine call_r (c53 _ _ _) ?_); (with_reducible (refine not_d (fun hb => ?_) (fun hb => ?_); refine mv_i ?_; refine gd_ff ?_; refine fao ?_; refine gd_ff ?_)); (refine ldoA ?_); (with_reducible (refine gd_ff ?_; refine mv_i ?_; refine gd_ff ?_)); (refine call_r (c53 _ _ _) ?_); (with_reducible (refine gd_ff ?_; refine not_d (fun hb => ?_) (fun hb => ?_); refine pick_f ?_; refine cnd_f ?_; refine mv_i ?_; refine ret1 ?_)); (rotate_left); (with_reducible (refine pick_f ?_; refine cnd_t ?_; refine mv_i ?_; refine ret1 ?_)); (rotate_left); (with_reducible (refine mv_i ?_; refine gd_tf ?_; refine gd_tf ?_; refine gd_tf ?_; refine gd_tf ?_; refine gd_tf ?_; refine pick_t ?_; refine cnd_t ?_; refine mv_i ?_; refine ret1 ?_)); (rotate_left))
      all_goals
        refine ⟨?_, Mem.pre (by assumption)⟩
        rw [if_neg (by simpa using hk)]
        first
          | (rw [if_neg (by simp [rightS, e]; omega)]; done)
          | (rw [if_pos (by simp [rightS, e]; omega)]; done)
          | (simp [rightS, e]; done)
          | (simp [rightS, e]; omega)
  · ((with_reducible (refine box_a (by assumption) fun i h z p m => ?_; refine box_a (by assumption) fun i h z p m => ?_; refine mv_i ?_; refine fao ?_)); (refine ldoA ?_); (refine call_r (c53 _ _ _) ?_); (with_reducible (refine not_dn (by assumption) ?_; refine cnd_t ?_; refine mv_i ?_; refine ret1 ?_)))
    exact ⟨by rw [if_pos hk], Mem.pre (by assumption)⟩
end Go.Proofs.Ytgmgmkhenhaniaa

set_option linter.unusedSimpArgs false
set_option linter.unusedVariables false
set_option linter.unnecessarySimpa false
set_option maxRecDepth 100000
set_option maxHeartbeats 4000000
namespace Go.Proofs.Ytgmgmkhenhaniaa
open Go.AM
variable {h g : Heap}
theorem com_iff (xs ys : List Int) : com xs ys = true ↔ ∃ z ∈ xs, z ∈ ys := by
  unfold com
  rw [decide_eq_true_iff, idxOf_any, List.any_eq_true]
  constructor
  · rintro ⟨z, hz, q⟩
    rw [decide_eq_true_iff, idxOf_any, List.any_eq_true] at q
    obtain ⟨y, hy, e⟩ := q
    have : z = y := by simpa using e
    exact ⟨z, hz, this ▸ hy⟩
  · rintro ⟨z, hz, hy⟩
    refine ⟨z, hz, ?_⟩
    rw [decide_eq_true_iff, idxOf_any, List.any_eq_true]
    exact ⟨z, hy, by simp⟩
theorem meet_cl {a b : Mut} (ha : 0 ≤ a.kind ∧ a.kind ≤ 3) (hb : 0 ≤ b.kind ∧ b.kind ≤ 3) : meetS a b = true ↔ clS a b := by
  unfold meetS
  rw [Bool.or_eq_true, Bool.or_eq_true, Bool.and_eq_true, com_iff, com_iff]
  have ha2 : a.kind = 0 ∨ a.kind = 1 ∨ a.kind = 2 ∨ a.kind = 3 := by omega
  have hb2 : b.kind = 0 ∨ b.kind = 1 ∨ b.kind = 2 ∨ b.kind = 3 := by omega
  rcases ha2 with e1 | e1 | e1 | e1 <;> rcases hb2 with e2 | e2 | e2 | e2 <;> simp [clS, tgs, ous, sms, tgR, e1, e2]
theorem cmpL3 (a b : Mut) : 0 ≤ cmpL [a.kind, a.step, a.to] [b.kind, b.step, b.to] ↔ ¬ cmpM a b < 0 := by
  unfold cmpM
  rw [orOf_cons, orOf_cons, orOf_cons, orOf_nil]
  simp only [cmpL, cmpI]
  repeat' split
  all_goals omega
theorem agn_iff {l : List Mut} {k : Nat} (hk : k < l.length) : agn l k ↔ ∃ j, j < k ∧ meetS (gt l j) (gt l k) = true := by
  unfold agn
  rw [idxOf_any, List.any_eq_true]
  constructor
  · rintro ⟨t, ht, q⟩
    obtain ⟨j, hj, e⟩ := mem_gd Df.d ht
    have hjk : j < k := by simp at hj; omega
    refine ⟨j, hjk, ?_⟩
    have : gt l j = t := by
      rw [← e]
      unfold gt
      rw [List.getD_eq_getElem?_getD, List.getD_eq_getElem?_getD, List.getElem?_take, if_pos hjk]
    rw [this]; exact q
  · rintro ⟨j, hj, q⟩
    refine ⟨gt l j, ?_, q⟩
    rw [List.mem_take_iff_getElem]
    exact ⟨j, by omega, by rw [gt_at (by omega)]⟩
theorem muE_ok {x : Mach} {l : List Mut} {k : Nat} (h0 : muE x l k = 0) : (0 ≤ (gt l k).kind ∧ (gt l k).kind ≤ 3) ∧ rightS x (gt l k) ∧ ordS l k ∧ ¬ agn l k := by
  unfold muE at h0
  split at h0
  · cases h0
  · rename_i h1
    split at h0
    · cases h0
    · rename_i h2
      split at h0
      · cases h0
      · rename_i h3
        split at h0
        · cases h0
        · rename_i h4
          exact ⟨by simpa using h1, by simpa using h2, by simpa using h3, h4⟩
theorem muE_is {x : Mach} {l : List Mut} {k : Nat} (h1 : 0 ≤ (gt l k).kind ∧ (gt l k).kind ≤ 3) (h2 : rightS x (gt l k)) : muE x l k = if ¬ ordS l k then 14 else if agn l k then 13 else 0 := by
  rw [muE, if_neg (by simpa using h1), if_neg (by simpa using h2)]
open Classical in
theorem c21 {v y : Value} {x : Mach} {l : List Mut} (s : MacV g v x) (t : L g y l) (hh : headOK x) : Runs Try.prog 8 [v, y] g (mk2 (mutE x l).1 (mutE x l).2) g := by
  obtain ⟨tv, rfl, s⟩ := s
  have lt := t.lt
  have m := Mem.start g
  refine DetP.forget rfl ?_
  refine w21 ?_
  unfold n21
  refine box_a m fun i0 h0 z0 p0 m => ?_
  ((with_reducible (refine mv_i ?_; refine mv_i ?_; refine mv_i ?_; refine len_g (by assumption) ?_; refine gtr_i (fun hc => ?_) (fun hc => ?_); refine cnd_t ?_; refine mv_i ?_; refine mv_i ?_; refine ret2 ?_)); (rotate_left); (with_reducible (refine cnd_f ?_; refine mv_i ?_)); (rotate_left))
  · exact ⟨by rw [mutE, if_pos (by omega)]; rfl, Mem.pre (by assumption)⟩
  · have hlen := hc
    refine loop1 l.length (fun k h2 => Prec h0 h2 ∧ Mem g h2 [⟨some i0, [.int .i64 x.states, .int .i64 x.inputs, .int .i64 x.outputs, .int .i64 x.start, tv], z0⟩] ∧ ∀ j, j < k → muE x l j = 0) ⟨⟨Stab.refl _⟩, m, fun j hj => by omega⟩ ?_
    rintro k h2 _ hk ⟨p2, m, hJ⟩
    by_cases hkl : k < l.length
    · have hlk : (k : Int) < l.length := by omega
      by_cases h1 : 0 ≤ (gt l k).kind ∧ (gt l k).kind ≤ 3
      · by_cases h3 : rightS x (gt l k)
        · have e58 : (if ¬ (0 ≤ (gt l k).kind ∧ (gt l k).kind ≤ 3) then (4 : Int) else if ¬ rightS x (gt l k) then 3 else 0) = 0 := by rw [if_neg (by simpa using h1), if_neg (by simpa using h3)]
          have hm := muE_is h1 h3
          ((with_reducible (refine mv_i ?_; refine mv_i ?_; refine len_g (by assumption) ?_; refine lss_i (fun hc => ?_) (fun hc => ?_); refine cnd_t ?_)); (refine ldwA ?_); (refine vb_mac (by assumption) ?_); (with_reducible (refine mv_i ?_; refine mv_i ?_)); (refine idxA fun p hp => ?_); (refine ldr_w (by assumption) (by with_unfolding_all rfl) ?_); (with_reducible (refine vb_f ?_)); (rotate_left); (with_reducible (refine cnd_f ?_; refine mv_i ?_; refine mv_i ?_; refine ret2 ?_)); (rotate_left))
          · refine calld_r (c58 ⟨_, rfl, s.up⟩ hh (gt l k)) ?_
            rw [e58]
            ((with_reducible (refine new_n ?_; refine mv_i ?_; refine mv_i ?_; refine neq_h (by first | assumption | decide) ?_; refine cnd_f ?_; refine mv_i ?_; refine gtr_i (fun hc => ?_) (fun hc => ?_); refine mv_i ?_; refine gd_tt ?_; refine mv_i ?_; refine gd_tt ?_; refine mv_i ?_; refine gd_tt ?_; refine sub_j (by omega) (by omega) ?_; refine gd_tt ?_)); (refine idx_dp (by assumption) (by with_unfolding_all rfl) (by omega) (by omega) fun p hp => ?_); (with_reducible (refine gd_tt ?_)); (refine ldr_w (by assumption) (by with_unfolding_all rfl) ?_); (with_reducible (refine vb_f ?_; refine gd_tt ?_)); (refine calld_d (c59 _) (by assumption) fun v h p1 p m s1 => ?_); (with_reducible (refine new_p (by assumption) ?_; refine gd_tt ?_; refine mv_i ?_; refine gd_tt ?_; refine mv_i ?_; refine gd_tt ?_)); (refine idxA fun p hp => ?_); (with_reducible (refine gd_tt ?_)); (refine ldr_w (by assumption) (by with_unfolding_all rfl) ?_); (with_reducible (refine vb_f ?_; refine gd_tt ?_)); (refine calld_d (c59 _) (by assumption) fun v h p1 p m s1 => ?_); (with_reducible (refine new_p (by assumption) ?_; refine gd_tt ?_)); (refine calld_r (c54 (L.ints (L.up (by assumption))) (L.ints (L.up (by assumption)))) ?_); (with_reducible (refine new_n ?_; refine gd_tt ?_; refine geq_i (fun hc => ?_) (fun hc => ?_); refine pick_t ?_; refine mv_i ?_; refine gd_tf ?_; refine gd_tf ?_; refine gd_tf ?_; refine gd_tf ?_; refine gd_tf ?_; refine gd_tf ?_; refine gd_tf ?_; refine gd_u ?_; refine gd_u ?_; refine gd_u ?_; refine gd_u ?_; refine gd_u ?_; refine gd_u ?_; refine gd_u ?_; refine gd_u ?_; refine gd_u ?_; refine gd_u ?_; refine gd_u ?_; refine gd_tf ?_; refine pick_t ?_; refine cnd_t ?_; refine mv_i ?_; refine mv_i ?_; refine mv_i ?_; refine ret2 ?_)); (rotate_left); (with_reducible (refine pick_t ?_; refine mv_i ?_; refine gd_ff ?_; refine mv_i ?_; refine gd_ff ?_; refine mv_i ?_; refine gd_ff ?_)); (refine idxA fun p hp => ?_); (with_reducible (refine gd_ff ?_; refine fa_g (by assumption) fun p hp => ?_; refine gd_ff ?_)); (refine ldgA ?_); (refine vbA ?_); (with_reducible (refine gd_ff ?_; refine eql_i (fun hc => ?_) (fun hc => ?_); refine gd_ff ?_; refine mv_i ?_; refine gd_tt ?_; refine mv_i ?_; refine gd_tt ?_; refine mv_i ?_; refine gd_tt ?_)); (refine idxA fun p hp => ?_); (with_reducible (refine gd_tt ?_; refine fa_g (by assumption) fun p hp => ?_; refine gd_tt ?_)); (refine ldgA ?_); (refine vbA ?_); (with_reducible (refine gd_tt ?_; refine mv_i ?_; refine gd_tt ?_; refine mv_i ?_; refine gd_tt ?_)); (refine idxA fun p hp => ?_); (with_reducible (refine gd_tt ?_; refine fa_g (by assumption) fun p hp => ?_; refine gd_tt ?_)); (refine ldgA ?_); (refine vbA ?_); (with_reducible (refine gd_tt ?_; refine leq_i (fun hc => ?_) (fun hc => ?_); refine gd_ff ?_; refine pick_t ?_; refine pick_f ?_; refine cnd_t ?_; refine mv_i ?_; refine mv_i ?_; refine mv_i ?_; refine ret2 ?_)); (rotate_left); (with_reducible (refine gd_ff ?_; refine pick_t ?_; refine pick_f ?_; refine cnd_f ?_; refine mv_i ?_)); (rotate_left); (with_reducible (refine gd_ff ?_; refine mv_i ?_; refine gd_ft ?_; refine gd_ft ?_; refine gd_ft ?_; refine gd_ft ?_; refine gd_ft ?_; refine gd_ft ?_; refine gd_ft ?_; refine gd_ft ?_; refine gd_ft ?_; refine gd_ft ?_; refine gd_ft ?_; refine gd_ff ?_; refine pick_f ?_; refine pick_f ?_; refine cnd_f ?_; refine mv_i ?_)); (rotate_left); (with_reducible (refine mv_i ?_; refine gd_ft ?_; refine gd_ft ?_; refine gd_ft ?_; refine gd_ft ?_; refine gd_ft ?_; refine gd_ft ?_; refine gd_ft ?_; refine gd_ft ?_; refine gd_ft ?_; refine gd_ft ?_; refine gd_ft ?_; refine gd_ft ?_; refine gd_ft ?_; refine pick_f ?_; refine mv_i ?_; refine gd_ff ?_; refine mv_i ?_; refine gd_ff ?_; refine mv_i ?_; refine gd_ff ?_)); (refine idxA fun p hp => ?_); (with_reducible (refine gd_ff ?_; refine fa_g (by assumption) fun p hp => ?_; refine gd_ff ?_)); (refine ldgA ?_); (refine vbA ?_); (with_reducible (refine gd_ff ?_; refine eql_i (fun hc => ?_) (fun hc => ?_); refine gd_ff ?_; refine mv_i ?_; refine gd_tt ?_; refine mv_i ?_; refine gd_tt ?_; refine mv_i ?_; refine gd_tt ?_)); (refine idxA fun p hp => ?_); (with_reducible (refine gd_tt ?_; refine fa_g (by assumption) fun p hp => ?_; refine gd_tt ?_)); (refine ldgA ?_); (refine vbA ?_); (with_reducible (refine gd_tt ?_; refine mv_i ?_; refine gd_tt ?_; refine mv_i ?_; refine gd_tt ?_)); (refine idxA fun p hp => ?_); (with_reducible (refine gd_tt ?_; refine fa_g (by assumption) fun p hp => ?_; refine gd_tt ?_)); (refine ldgA ?_); (refine vbA ?_); (with_reducible (refine gd_tt ?_; refine leq_i (fun hc => ?_) (fun hc => ?_); refine gd_ff ?_; refine pick_t ?_; refine pick_f ?_; refine cnd_t ?_; refine mv_i ?_; refine mv_i ?_; refine mv_i ?_; refine ret2 ?_)); (rotate_left); (with_reducible (refine gd_ff ?_; refine pick_t ?_; refine pick_f ?_; refine cnd_f ?_; refine mv_i ?_)); (rotate_left); (with_reducible (refine gd_ff ?_; refine mv_i ?_; refine gd_ft ?_; refine gd_ft ?_; refine gd_ft ?_; refine gd_ft ?_; refine gd_ft ?_; refine gd_ft ?_; refine gd_ft ?_; refine gd_ft ?_; refine gd_ft ?_; refine gd_ft ?_; refine gd_ft ?_; refine gd_ff ?_; refine pick_f ?_; refine pick_f ?_; refine cnd_f ?_; refine mv_i ?_)); (rotate_left))
            all_goals first
              | (have hno : ¬ ordS l k := by
                   rintro ⟨q1, q2⟩
                   first
                     | (rcases q2 with q2 | q2
                        · contradiction
                        · omega)
                     | (rcases q1 with q1 | q1
                        · omega
                        · exact (cmpL3 _ _).mp (by assumption) q1)
                 exact ⟨by rw [mutE, if_neg (by omega), firstErr_at hJ hkl (by rw [hm, if_pos hno]; decide), hm, if_pos hno]; rfl, Mem.pre (by assumption)⟩)
              | skip
            all_goals
              have ho : ordS l k := ⟨by first | (left; omega) | (right; exact Classical.byContradiction fun q => absurd ((cmpL3 _ _).mpr q) (by assumption)), by first | (left; assumption) | (right; omega)⟩
              rw [if_neg (by simpa using ho)] at hm
              refine loop1 k (fun j h3 => Prec h0 h3 ∧ Mem g h3 [⟨some i0, [.int .i64 x.states, .int .i64 x.inputs, .int .i64 x.outputs, .int .i64 x.start, tv], z0⟩] ∧ ∀ q, q < j → ¬ clS (gt l q) (gt l k)) ⟨⟨Stb.st⟩, m, fun q hq => by omega⟩ ?_
              rintro j h3 _ hj ⟨p3, m, hJ2⟩
              (repeat' (first|((with_reducible refine is_callf 54 ?_); refine call_r (c48 _ _ _) ?_)|((with_reducible refine is_calldf 54 ?_); refine calld_r (c48 _ _ _) ?_)|((with_reducible refine is_callf 42 ?_); refine call_r (c53 _ _ _) ?_)|((with_reducible refine is_calldf 42 ?_); refine calld_r (c53 _ _ _) ?_)|((with_reducible refine is_callf 58 ?_); refine call_r (c96 _ _ _) ?_)|((with_reducible refine is_calldf 58 ?_); refine calld_r (c96 _ _ _) ?_)|((with_reducible refine is_callf 32 ?_); refine call_r c72t ?_)|((with_reducible refine is_calldf 32 ?_); refine calld_r c72t ?_)|((with_reducible refine is_callf 32 ?_); refine call_r c72f ?_)|((with_reducible refine is_calldf 32 ?_); refine calld_r c72f ?_)|((with_reducible refine is_callf 32 ?_); refine call_r (c72 _) ?_)|((with_reducible refine is_calldf 32 ?_); refine calld_r (c72 _) ?_)|((with_reducible refine is_callf 37 ?_); refine call_r (c77 _ _) ?_)|((with_reducible refine is_calldf 37 ?_); refine calld_r (c77 _ _) ?_)|((with_reducible refine is_callf 50 ?_); refine call_r (c91 _ _) ?_)|((with_reducible refine is_calldf 50 ?_); refine calld_r (c91 _ _) ?_)|((with_reducible refine is_callf 69 ?_); refine call_r (c107 _) ?_)|((with_reducible refine is_calldf 69 ?_); refine calld_r (c107 _) ?_)|((with_reducible refine is_callf 41 ?_); refine call_r (c81 _ _) ?_)|((with_reducible refine is_calldf 41 ?_); refine calld_r (c81 _ _) ?_)|((with_reducible refine is_callf 36 ?_); refine call_r (c76 (own_ints (xs := [_, _, _]) (by assumption) (q := by infer_instance) rfl rfl (by decide))) ?_)|((with_reducible refine is_calldf 36 ?_); refine calld_r (c76 (own_ints (xs := [_, _, _]) (by assumption) (q := by infer_instance) rfl rfl (by decide))) ?_)|((with_reducible refine is_callf 40 ?_); refine call_r (c80 (own_ints (xs := [_, _, _]) (by assumption) (q := by infer_instance) rfl rfl (by decide))) ?_)|((with_reducible refine is_calldf 40 ?_); refine calld_r (c80 (own_ints (xs := [_, _, _]) (by assumption) (q := by infer_instance) rfl rfl (by decide))) ?_)|((with_reducible refine is_callf 40 ?_); refine call_r (c80 (own_ints (xs := [_, _]) (by assumption) (q := by infer_instance) rfl rfl (by decide))) ?_)|((with_reducible refine is_calldf 40 ?_); refine calld_r (c80 (own_ints (xs := [_, _]) (by assumption) (q := by infer_instance) rfl rfl (by decide))) ?_)|((with_reducible refine is_callf 18 ?_); refine call_r (c46 _ _) ?_)|((with_reducible refine is_calldf 18 ?_); refine calld_r (c46 _ _) ?_)|((with_reducible refine is_callf 48 ?_); refine call_r (c49 _ _) ?_)|((with_reducible refine is_calldf 48 ?_); refine calld_r (c49 _ _) ?_)|((with_reducible refine is_callf 20 ?_); refine call_r (c54 (own_ints (xs := [_, _]) (by assumption) (q := by infer_instance) rfl rfl (by decide)) (own_ints (xs := [_, _]) (by assumption) (q := by infer_instance) rfl rfl (by decide))) ?_)|((with_reducible refine is_calldf 20 ?_); refine calld_r (c54 (own_ints (xs := [_, _]) (by assumption) (q := by infer_instance) rfl rfl (by decide)) (own_ints (xs := [_, _]) (by assumption) (q := by infer_instance) rfl rfl (by decide))) ?_)|((with_reducible refine is_callf 34 ?_); refine call_r (c74 ⟨_, by with_unfolding_all rfl, L.up (by assumption)⟩ _ _) ?_)|((with_reducible refine is_calldf 34 ?_); refine calld_r (c74 ⟨_, by with_unfolding_all rfl, L.up (by assumption)⟩ _ _) ?_)|((with_reducible refine is_callf 33 ?_); refine call_r (c73 ⟨_, by with_unfolding_all rfl, L.up (by assumption)⟩) ?_)|((with_reducible refine is_callf 35 ?_); refine call_r (c75 ⟨_, by with_unfolding_all rfl, L.up (by assumption)⟩) ?_)|((with_reducible refine is_calldf 21 ?_); refine calld_d (c59 _) (by assumption) fun v h p1 p m s1 => ?_)|((with_reducible refine is_calldf 20 ?_); refine calld_r (c54 (L.ints (L.up (by assumption))) (L.ints (L.up (by assumption)))) ?_)|((with_reducible refine is_callf 22 ?_); refine call_r (c60 _ _) ?_)|((with_reducible refine is_calldf 22 ?_); refine calld_r (c60 _ _) ?_)|((with_reducible refine is_rl1 ?_); first|(refine rt_w1 (by assumption) (by infer_instance) (by with_unfolding_all rfl) ?_)|(refine rt_11 (by assumption) (by infer_instance) (by with_unfolding_all rfl) ?_))|((with_reducible refine is_rl2 ?_); first|(refine rt_w2 (by assumption) (by infer_instance) (by with_unfolding_all rfl) ?_)|(refine rt_12 (by assumption) (by infer_instance) (by with_unfolding_all rfl) ?_))|((with_reducible refine is_vk ?_); first|(with_reducible refine not_dh (by assumption) ?_)|(with_reducible refine not_dn (by assumption) ?_)|(with_reducible refine not_d (fun hb => ?_) (fun hb => ?_))|(with_reducible refine pick_dh (by assumption) ?_)|(with_reducible refine pick_dn (by assumption) ?_)|(with_reducible refine pick_d (fun hb => ?_) (fun hb => ?_))|(with_reducible refine len_o (by assumption) ?_)|(with_reducible refine nil_i ?_)|(with_reducible refine ex2_0 ?_)|(with_reducible refine ex2_1 ?_)|(with_reducible refine ex3_0 ?_)|(with_reducible refine ex3_1 ?_)|(with_reducible refine ex3_2 ?_)|(with_reducible refine pick_t ?_)|(with_reducible refine pick_f ?_)|(with_reducible refine not_t ?_)|(with_reducible refine not_f ?_)|(with_reducible refine pick_h (by assumption) ?_)|(with_reducible refine pick_n (by assumption) ?_)|(with_reducible refine not_h (by assumption) ?_)|(with_reducible refine not_n (by assumption) ?_)|(with_reducible refine not_s (fun hb => ?_) (fun hb => ?_))|(with_reducible refine pick_s (fun hb => ?_) (fun hb => ?_))|(with_reducible refine len_g (by assumption) ?_)|(with_reducible refine slen_i ?_)|(with_reducible refine len_s ?_)|(refine fld_g (by with_unfolding_all rfl) ?_)|(with_reducible refine leni_t (by assumption) ?_))|((with_reducible refine is_gd ?_); first|(with_reducible refine gd_dht (by assumption) ?_)|(with_reducible refine gd_dnt (by assumption) ?_)|(with_reducible refine gd_dhf (by assumption) ?_)|(with_reducible refine gd_dnf (by assumption) ?_)|(with_reducible refine gd_dt (fun hb => ?_) (fun hb => ?_))|(with_reducible refine gd_df (fun hb => ?_) (fun hb => ?_))|(with_reducible refine gd_tt ?_)|(with_reducible refine gd_ff ?_)|(with_reducible refine gd_tf ?_)|(with_reducible refine gd_ft ?_)|(with_reducible refine gd_u ?_)|(with_reducible refine gd_ht (by assumption) ?_)|(with_reducible refine gd_hf (by assumption) ?_)|(with_reducible refine gd_nt (by assumption) ?_)|(with_reducible refine gd_nf (by assumption) ?_)|(with_reducible refine gd_st (fun hb => ?_) (fun hb => ?_))|(with_reducible refine gd_sf (fun hb => ?_) (fun hb => ?_)))|((with_reducible refine is_cnd ?_); first|(with_reducible refine cnd_dh (by assumption) ?_)|(with_reducible refine cnd_dn (by assumption) ?_)|(with_reducible refine cnd_d (fun hb => ?_) (fun hb => ?_))|(with_reducible refine cnd_t ?_)|(with_reducible refine cnd_f ?_)|(with_reducible refine cnd_h (by assumption) ?_)|(with_reducible refine cnd_n (by assumption) ?_)|(with_reducible refine cnd_b (fun hb => ?_) (fun hb => ?_)))|((with_reducible refine is_bin ?_); first|(with_reducible refine sub_a (by assumption) (by decide) (by decide) ?_)|(with_reducible refine snil_i (fun hn => ?_) (fun hn => ?_))|(with_reducible refine prq_i (fun hc => ?_) (fun hc => ?_))|(refine mul_j (by omega) (by omega) ?_)|(with_reducible refine eql_h (by first | assumption | decide) ?_)|(with_reducible refine eql_n (by first | assumption | decide) ?_)|(with_reducible refine neq_h (by first | assumption | decide) ?_)|(with_reducible refine neq_n (by first | assumption | decide) ?_)|(with_reducible refine lss_i (fun hc => ?_) (fun hc => ?_))|(with_reducible refine leq_i (fun hc => ?_) (fun hc => ?_))|(with_reducible refine gtr_i (fun hc => ?_) (fun hc => ?_))|(with_reducible refine geq_i (fun hc => ?_) (fun hc => ?_))|(with_reducible refine eql_i (fun hc => ?_) (fun hc => ?_))|(with_reducible refine neq_i (fun hc => ?_) (fun hc => ?_))|(with_reducible refine seq_s (fun hc => ?_) (fun hc => ?_))|(with_reducible refine sne_s (fun hc => ?_) (fun hc => ?_))|(with_reducible refine sls_i ?_)|(with_reducible refine inc_i (by omega) ?_)|(with_reducible refine sub_j (by omega) (by omega) ?_)|(with_reducible refine add_j (by omega) (by omega) ?_))|((with_reducible refine is_six ?_); first|(with_reducible refine sidx_0 (by omega) ?_))|((with_reducible refine is_idx ?_); first|(refine ia_g (by assumption) (by omega) (by omega) fun p hp => ?_)|(refine ia_o (by omega) (by omega) ?_)|(refine idxA fun p hp => ?_)|(refine idx_dp (by assumption) (by with_unfolding_all rfl) (by omega) (by omega) fun p hp => ?_)|(refine idx_dz (by assumption) (by with_unfolding_all rfl) (by omega) (by omega) fun p hp => ?_)|(refine idx_f (by assumption) (by with_unfolding_all rfl) (by omega) fun p hp => ?_)|(refine idx_fz (by assumption) (by with_unfolding_all rfl) (by omega) (by omega) fun p hp => ?_)|(refine idxi_t (by assumption) (by omega) ?_)|(refine idx_o (by assumption) (by omega) ?_)|(refine idx_oz (by assumption) (by omega) (by omega) ?_))|((with_reducible refine is_fa ?_); first|(with_reducible refine fa_g (by assumption) fun p hp => ?_)|(with_reducible refine fao_e ?_)|(with_reducible refine fao ?_))|((with_reducible refine is_ldo ?_); first|(refine ldoA ?_)|(refine ldwA ?_)|(refine ldor (by assumption) (q := by infer_instance) (by with_unfolding_all rfl) (by with_unfolding_all exact Nat.le_refl _) ?_)|(refine ldf_d (by assumption) (by infer_instance) (by with_unfolding_all rfl) (by omega) (by with_unfolding_all exact Nat.le_of_ble_eq_true rfl) (by with_unfolding_all rfl) ?_)|(refine ldw_d (by assumption) (by infer_instance) (by with_unfolding_all rfl) (by omega) ?_))|((with_reducible refine is_ld ?_); first|(refine ldgA ?_)|(refine ldr_w (by assumption) (by with_unfolding_all rfl) ?_)|(refine ldr_g (by assumption) (by with_unfolding_all rfl) (by with_unfolding_all exact Nat.le_refl _) ?_)|(refine ldi_t (by assumption) (by omega) ?_))|((with_reducible refine is_box ?_); first|(with_reducible refine box_a (by assumption) fun i h z p m => ?_)|(refine box_1 (by assumption) (by with_unfolding_all rfl) fun i h z p m => ?_))|((with_reducible refine is_ok ?_); first|(with_reducible refine alloc_z (by assumption) fun i h z p m => ?_))|((with_reducible refine is_st ?_); first|(refine sto (by assumption) (q := by infer_instance) (by with_unfolding_all exact Nat.le_of_ble_eq_true rfl) rfl rfl (u := by infer_instance) fun h p m => ?_)|(refine st_w (by assumption) (by infer_instance) (by with_unfolding_all rfl) (by with_unfolding_all rfl) (by first | rfl | exact flat_ones (Flat.flat _)) (by infer_instance) fun h p m => ?_)|(refine stw_o (by assumption) (by infer_instance) (by with_unfolding_all rfl) (by omega) (by infer_instance) fun h p m => ?_))|((with_reducible refine is_new ?_); first|(with_reducible refine new_n ?_)|(with_reducible refine new_p (by assumption) ?_))|((with_reducible refine is_pd ?_); first|(refine pd_p (by assumption) (by with_unfolding_all rfl) ?_)|(refine pd_c (by assumption) (by infer_instance) (by with_unfolding_all rfl) ?_)|(refine pd_o (by assumption) (by infer_instance) (by with_unfolding_all rfl) ?_))|((with_reducible refine is_vb ?_); first|(refine vb_mac (by assumption) ?_)|(with_reducible refine vb_f ?_)|(refine vbA ?_)|(with_reducible refine vb_l (by assumption) ?_)|(refine vb_as rfl (by assumption) ?_)|(refine vb_ao rfl (by assumption) (by assumption) (by infer_instance) ?_)|(refine IsSl.vb (by assumption) (by assumption) (by infer_instance) ?_))|((with_reducible refine is_tru ?_); first|(with_reducible refine ⟨trivial, ?_⟩))|((with_reducible refine is_ret ?_); first|(with_reducible refine ret1 ?_)|(with_reducible refine ret2 ?_)|(with_reducible refine ret3 ?_)|(with_reducible refine ret0 ?_))|((with_reducible refine is_bld ?_); first|(refine vk_i (bd24_z) ?_)|(refine vk_i (bd77_01 _ _) ?_))|((with_reducible refine is_bsl ?_); first|(refine bs_g (bs36_0 _) (by assumption) fun i h p m => ?_)|(refine bs_g (bs22_0 _) (by assumption) fun i h p m => ?_)|(refine bs_g (bs51_1 _ _ _ _) (by assumption) fun i h p m => ?_)|(refine bs_g (bs27_0 _) (by assumption) fun i h p m => ?_)|(refine bs_g (bs53_2 _ _ _) (by assumption) fun i h p m => ?_)|(refine bs_g (bs141_3 _ _ _ _) (by assumption) fun i h p m => ?_)|(refine bs_g (bs53_3 _ _ _ _) (by assumption) fun i h p m => ?_)|(refine bs_g (bs53_1 _ _) (by assumption) fun i h p m => ?_))|(with_reducible refine mv_i ?_)|(with_reducible refine seq_i ?_)|((with_reducible refine fun (_ : Tmps) => ?_); (try dsimp only [nth]))))
              · have ha : agn l k := (agn_iff hkl).mpr ⟨j, by omega, (meet_cl (muE_ok (hJ j (by omega))).1 h1).mpr hb⟩
                exact ⟨by rw [mutE, if_neg (by omega), firstErr_at hJ hkl (by rw [hm, if_pos ha]; decide), hm, if_pos ha]; rfl, Mem.pre (by assumption)⟩
              · refine next1 (by omega) ⟨⟨Stb.st⟩, m, fun q hq => ?_⟩
                by_cases e : q = j
                · subst e; exact hb
                · exact hJ2 q (by omega)
              · have ha : ¬ agn l k := by
                  rw [agn_iff hkl]
                  rintro ⟨q, hq, e⟩
                  exact hJ2 q (by omega) ((meet_cl (muE_ok (hJ q hq)).1 h1).mp e)
                rw [if_neg ha] at hm
                exact next1 hkl ⟨⟨Stb.st⟩, m, up_no hm hJ⟩
          · exfalso; omega
        · have e58 : (if ¬ (0 ≤ (gt l k).kind ∧ (gt l k).kind ≤ 3) then (4 : Int) else if ¬ rightS x (gt l k) then 3 else 0) = 3 := by rw [if_neg (by simpa using h1), if_pos h3]
          have hm : muE x l k = 3 := by rw [muE, if_neg (by simpa using h1), if_pos h3]
          ((with_reducible (refine mv_i ?_; refine mv_i ?_; refine len_g (by assumption) ?_; refine lss_i (fun hc => ?_) (fun hc => ?_); refine cnd_t ?_)); (refine ldwA ?_); (refine vb_mac (by assumption) ?_); (with_reducible (refine mv_i ?_; refine mv_i ?_)); (refine idxA fun p hp => ?_); (refine ldr_w (by assumption) (by with_unfolding_all rfl) ?_); (with_reducible (refine vb_f ?_)); (rotate_left); (with_reducible (refine cnd_f ?_; refine mv_i ?_; refine mv_i ?_; refine ret2 ?_)); (rotate_left))
          · refine calld_r (c58 ⟨_, rfl, s.up⟩ hh (gt l k)) ?_
            rw [e58]
            ((with_reducible (refine new_n ?_; refine mv_i ?_; refine mv_i ?_; refine neq_n (by first | assumption | decide) ?_; refine cnd_t ?_; refine mv_i ?_; refine mv_i ?_; refine mv_i ?_; refine mv_i ?_; refine ret2 ?_)))
            exact ⟨by rw [mutE, if_neg (by omega), firstErr_at hJ hkl (by rw [hm]; decide), hm]; rfl, Mem.pre (by assumption)⟩
          · exfalso; omega
      · have e58 : (if ¬ (0 ≤ (gt l k).kind ∧ (gt l k).kind ≤ 3) then (4 : Int) else if ¬ rightS x (gt l k) then 3 else 0) = 4 := by rw [if_pos h1]
        have hm : muE x l k = 4 := by rw [muE, if_pos h1]
        ((with_reducible (refine mv_i ?_; refine mv_i ?_; refine len_g (by assumption) ?_; refine lss_i (fun hc => ?_) (fun hc => ?_); refine cnd_t ?_)); (refine ldwA ?_); (refine vb_mac (by assumption) ?_); (with_reducible (refine mv_i ?_; refine mv_i ?_)); (refine idxA fun p hp => ?_); (refine ldr_w (by assumption) (by with_unfolding_all rfl) ?_); (with_reducible (refine vb_f ?_)); (rotate_left); (with_reducible (refine cnd_f ?_; refine mv_i ?_; refine mv_i ?_; refine ret2 ?_)); (rotate_left))
        · refine calld_r (c58 ⟨_, rfl, s.up⟩ hh (gt l k)) ?_
          rw [e58]
          ((with_reducible (refine new_n ?_; refine mv_i ?_; refine mv_i ?_; refine neq_n (by first | assumption | decide) ?_; refine cnd_t ?_; refine mv_i ?_; refine mv_i ?_; refine mv_i ?_; refine mv_i ?_; refine ret2 ?_)))
          exact ⟨by rw [mutE, if_neg (by omega), firstErr_at hJ hkl (by rw [hm]; decide), hm]; rfl, Mem.pre (by assumption)⟩
        · exfalso; omega
    · ((with_reducible (refine mv_i ?_; refine mv_i ?_; refine len_g (by assumption) ?_; refine lss_i (fun hc => ?_) (fun hc => ?_); refine cnd_t ?_)); (refine ldwA ?_); (refine vb_mac (by assumption) ?_); (with_reducible (refine mv_i ?_; refine mv_i ?_)); (refine idxA fun p hp => ?_); (refine ldr_w (by assumption) (by with_unfolding_all rfl) ?_); (with_reducible (refine vb_f ?_)); (rotate_left); (with_reducible (refine cnd_f ?_; refine mv_i ?_; refine mv_i ?_; refine ret2 ?_)); (rotate_left))
      all_goals (try (exfalso; omega))
      exact ⟨by rw [mutE, if_neg (by omega), firstErr_no fun j hj => hJ j (by omega)]; rfl, Mem.pre (by assumption)⟩
end Go.Proofs.Ytgmgmkhenhaniaa

set_option linter.unusedSimpArgs false
set_option linter.unusedVariables false
set_option linter.unnecessarySimpa false
set_option maxRecDepth 100000
set_option maxHeartbeats 4000000
namespace Go.Proofs.Ytgmgmkhenhaniaa
open Go.AM
variable {h g : Heap}
/-! ### copies -/
theorem c82 {x : Value} {l : List Stp} (s : L g x l) (hb : l.length ≤ 1048576) : DetP Try.prog 57 [x] g fun v h' => g <+: h' ∧ ∃ o, IsSl v o l.length ∧ OwnNew g h' o (flat l) 4 := by
  have m := Mem.start g
  refine w82 ?_
  unfold n82
  obtain ⟨b, c, rfl, hb2⟩ := s.shape
  ((with_reducible (refine mv_i ?_; refine mv_i ?_; refine snil_i (fun hn => ?_) (fun hn => ?_); refine cnd_t ?_; refine mv_i ?_; refine ret1 ?_)); (rotate_left); (with_reducible (refine cnd_f ?_)); (refine bs_g (bs22_0 _) (by assumption) fun i h p m => ?_); (with_reducible (refine mv_i ?_)); (rotate_left))
  · subst hn
    have := s.none_len
    subst this
    exact ⟨m.pre, none, IsSl.nil, fun _ _ m' => m'.nil 4⟩
  · by_cases hl : l = []
    · subst hl
      refine app_none (b := b) (c2 := c) rfl hb2 ?_
      ((with_reducible (refine mv_i ?_; refine ret1 ?_)))
      exact ⟨m.pre, some i, IsSl.some1, OwnNew.of m⟩
    · have hpos : 0 < l.length := List.length_pos_iff.mpr hl
      refine app_o m (IsSl.some1 (n := 0)) (by infer_instance) (by simp) (src_ro s hpos) (by omega) fun i h p m => ?_
      ((with_reducible (refine mv_i ?_; refine ret1 ?_)))
      refine ⟨m.pre, some i, ?_, ?_⟩
      · rw [Nat.zero_add]; exact IsSl.some0
      · simp only [List.nil_append, List.set_cons_zero] at m
        exact OwnNew.of m
/-- The reference's copy, one's own. -/
theorem c14o {v : Value} {x : Mach} (s : MacV g v x) (hb : x.steps.length ≤ 1048576) : DetP Try.prog 7 [v] g fun v h' => g <+: h' ∧ ∃ y o, v = .agg #[.int .i64 x.states, .int .i64 x.inputs, .int .i64 x.outputs, .int .i64 x.start, y] ∧ IsSl y o x.steps.length ∧ OwnNew g h' o (flat x.steps) 4 := by
  obtain ⟨tv, rfl, s⟩ := s
  have m := Mem.start g
  refine w14 ?_
  unfold n14
  obtain ⟨b, q, rfl, hb2⟩ := s.shape
  ((with_reducible (refine box_a (by assumption) fun i h z p m => ?_; refine alloc_z (by assumption) fun i h z p m => ?_)); (refine bs_g (bs22_0 _) (by assumption) fun i h p m => ?_); (with_reducible (refine fao ?_)); (refine ldoA ?_))
  by_cases hl : x.steps = []
  · refine app_none (b := b) (c2 := q) (by rw [hl]; rfl) hb2 ?_
    ((with_reducible (refine fao ?_)); (refine sto (by assumption) (q := by infer_instance) (by with_unfolding_all exact Nat.le_of_ble_eq_true rfl) rfl rfl (u := by infer_instance) fun h p m => ?_); (refine ldwA ?_); (refine st_w (by assumption) (by infer_instance) (by with_unfolding_all rfl) (by with_unfolding_all rfl) (by first | rfl | exact flat_ones (Flat.flat _)) (by infer_instance) fun h p m => ?_); (refine rt_w1 (by assumption) (by infer_instance) (by with_unfolding_all rfl) ?_); (with_reducible (refine ret1 ?_)))
    refine ⟨m.pre, _, some i, rfl, ?_, ?_⟩
    · rw [hl]; exact IsSl.some1 (n := 0)
    · rw [hl]; exact OwnNew.of m
  · have hpos : 0 < x.steps.length := List.length_pos_iff.mpr hl
    refine app_o m (IsSl.some1 (n := 0)) (by infer_instance) (by simp) (src_ro s hpos) (by omega) fun i h p m => ?_
    rw [Nat.zero_add]
    simp only [List.nil_append, List.set_cons_zero] at m
    ((with_reducible (refine fao ?_)); (refine sto (by assumption) (q := by infer_instance) (by with_unfolding_all exact Nat.le_of_ble_eq_true rfl) rfl rfl (u := by infer_instance) fun h p m => ?_); (refine ldwA ?_); (refine st_w (by assumption) (by infer_instance) (by with_unfolding_all rfl) (by with_unfolding_all rfl) (by first | rfl | exact flat_ones (Flat.flat _)) (by infer_instance) fun h p m => ?_); (refine rt_w1 (by assumption) (by infer_instance) (by with_unfolding_all rfl) ?_); (with_reducible (refine ret1 ?_)))
    exact ⟨m.pre, _, some i, rfl, IsSl.some0, OwnNew.of m⟩
/-- The same, to be read only. -/
theorem c14 {v : Value} {x : Mach} (s : MacV g v x) (hb : x.steps.length ≤ 1048576) : DetP Try.prog 7 [v] g fun v h' => g <+: h' ∧ ∃ b q n, v = .agg #[.int .i64 x.states, .int .i64 x.inputs, .int .i64 x.outputs, .int .i64 x.start, .slice b n q] ∧ n = x.steps.length ∧ L h' (.slice b n q) x.steps := by
  refine DetP.freeze ?_
  obtain ⟨v, h', hr, hp, y, o, rfl, hs, hn⟩ := c14o s hb
  have m := hn _ _ (Mem.start g)
  have hl := IsSl.ro hs m (k := 0) rfl (by omega)
  obtain ⟨b, q, rfl, _⟩ := hl.shape
  exact ⟨_, _, hr, hp, b, q, _, rfl, rfl, hl⟩
/-- Mutations copied. -/
theorem c17 {x : Value} {l : List Mut} (s : L g x l) (hb : l.length ≤ 1048576) : DetP Try.prog 24 [x] g fun v h' => g <+: h' ∧ ∃ b q n, v = .slice b n q ∧ n = l.length ∧ L h' (.slice b n q) l := by
  refine DetP.freeze ?_
  have m := Mem.start g
  refine w17 ?_
  unfold n17
  obtain ⟨b, c, rfl, hb2⟩ := s.shape
  ((with_reducible (refine mv_i ?_)); (refine bs_g (bs27_0 _) (by assumption) fun i h p m => ?_); (with_reducible (refine mv_i ?_)))
  by_cases hl : l = []
  · subst hl
    refine app_none (b := b) (c2 := c) rfl hb2 ?_
    ((with_reducible (refine mv_i ?_; refine ret1 ?_)))
    exact ⟨m.pre, _, _, _, rfl, rfl, ret_flat (xs := ([] : List Mut)) (k := 0) m rfl (by decide) (.inr (by decide))⟩
  · have hpos : 0 < l.length := List.length_pos_iff.mpr hl
    refine app_o m (IsSl.some1 (n := 0)) (by infer_instance) (by simp) (src_ro s hpos) (by omega) fun i h p m => ?_
    rw [Nat.zero_add]
    simp only [List.nil_append, List.set_cons_zero] at m
    ((with_reducible (refine mv_i ?_; refine ret1 ?_)))
    exact ⟨m.pre, _, _, _, rfl, rfl, ret_flat (k := 0) m rfl (by omega) (.inl rfl)⟩
/-! ### a step -/
theorem c52 {v : Value} {x : Mach} (s : MacV g v x) (h0 : (chkM x).2 = 0) (hl : (x.steps.length : Int) = x.states * x.inputs) {q w : Int} (hq : 0 ≤ q ∧ q ≤ x.states - 1) (hw : 0 ≤ w ∧ w ≤ x.inputs - 1) :
    Runs Try.prog 45 [v, .int .i64 q, .int .i64 w] g (fv (gt x.steps (q * x.inputs + w).toNat)) g := by
  obtain ⟨tv, rfl, s⟩ := s
  have m := Mem.start g
  obtain ⟨d1, d2⟩ := prod_bd (chk_ok h0).1
  obtain ⟨e1, e2, _⟩ := full_at h0 hl hq hw
  have e3 : 0 ≤ q * x.inputs := Int.mul_nonneg hq.1 (by omega)
  refine DetP.forget rfl ?_
  refine w52 ?_
  unfold n52
  ((with_reducible (refine box_a (by assumption) fun i h z p m => ?_; refine alloc_z (by assumption) fun i h z p m => ?_; refine fao ?_)); (refine ldoA ?_); (with_reducible (refine mv_i ?_; refine fao ?_)); (refine ldoA ?_); (refine mul_j (by omega) (by omega) ?_); (with_reducible (refine mv_i ?_; refine add_j (by omega) (by omega) ?_)); (refine idx_dz (by assumption) (by with_unfolding_all rfl) (by omega) (by omega) fun p hp => ?_); (refine ldr_w (by assumption) (by with_unfolding_all rfl) ?_); (refine st_w (by assumption) (by infer_instance) (by with_unfolding_all rfl) (by with_unfolding_all rfl) (by first | rfl | exact flat_ones (Flat.flat _)) (by infer_instance) fun h p m => ?_); (refine rt_w1 (by assumption) (by infer_instance) (by with_unfolding_all rfl) ?_); (with_reducible (refine ret1 ?_)))
  exact ⟨rfl, Mem.pre (by assumption)⟩
/-! ### machines that are the same -/
end Go.Proofs.Ytgmgmkhenhaniaa

set_option linter.unusedSimpArgs false
set_option linter.unusedVariables false
set_option linter.unnecessarySimpa false
set_option maxRecDepth 100000
set_option maxHeartbeats 4000000
namespace Go.Proofs.Ytgmgmkhenhaniaa
open Go.AM
variable {h g : Heap}
theorem errM_ok {x : Mach} (h0 : errM x = 0) : (chkM x).2 = 0 ∧ headOK x ∧ (x.steps.length : Int) = x.states * x.inputs ∧ x.states ≤ 12 := by
  unfold errM at h0
  split at h0
  · contradiction
  · rename_i h1
    have h1 : (chkM x).2 = 0 := by simpa using h1
    split at h0
    · cases h0
    · split at h0
      · rename_i h2 h3
        exact ⟨h1, (chk_ok h1).1, (opn_iff h1).mp h3, by omega⟩
      · cases h0
noncomputable def bothE (x : Mach) (l : List Mut) : Int := if errM x ≠ 0 then errM x else (mutE x l).2
/-! ### several mutants -/
noncomputable def allE (x : Mach) : List (List Mut) → Int
  | [] => 0
  | l :: ls => if (mutE x l).2 ≠ 0 then (mutE x l).2 else allE x ls
theorem allE_at {x : Mach} {ls : List (List Mut)} {k : Nat} (hJ : ∀ j (hj : j < k) (hl : j < ls.length), (mutE x ls[j]).2 = 0) (hk : k < ls.length) (he : (mutE x ls[k]).2 ≠ 0) : allE x ls = (mutE x ls[k]).2 := by
  induction ls generalizing k with
  | nil => simp at hk
  | cons l ls ih =>
    unfold allE
    cases k with
    | zero => rw [if_pos (by simpa using he)]; rfl
    | succ k =>
      have := hJ 0 (by omega) (by simp)
      rw [if_neg (by simpa using this)]
      exact ih (k := k) (fun j hj hl => hJ (j + 1) (by omega) (by simpa using hl)) (by simpa using hk) (by simpa using he)
theorem allE_no {x : Mach} {ls : List (List Mut)} (hJ : ∀ j (hl : j < ls.length), (mutE x ls[j]).2 = 0) : allE x ls = 0 := by
  induction ls with
  | nil => rfl
  | cons l ls ih =>
    unfold allE
    have := hJ 0 (by simp)
    rw [if_neg (by simpa using this)]
    exact ih fun j hl => hJ (j + 1) (by simpa using hl)
theorem c47 {v y : Value} {x : Mach} {ls : List (List Mut)} (s : MacV g v x) (t : L g y ls) : Runs Try.prog 30 [v, y] g (.int .i64 (if errM x ≠ 0 then errM x else allE x ls)) g := by
  obtain ⟨tv, rfl, s⟩ := s
  have lt := t.lt
  have m := Mem.start g
  refine DetP.forget rfl ?_
  refine w47 ?_
  unfold n47
  refine box_a m fun i0 h0 z0 p0 m => ?_
  ((with_reducible (refine mv_i ?_)); (refine ldwA ?_); (refine call_r (c43 ⟨_, by with_unfolding_all rfl, L.up (by assumption)⟩) ?_); (with_reducible (refine mv_i ?_; refine mv_i ?_; refine neq_i (fun hc => ?_) (fun hc => ?_); refine cnd_f ?_; refine mv_i ?_; refine len_g (by assumption) ?_; refine mv_i ?_)); (rotate_left); (with_reducible (refine cnd_t ?_; refine mv_i ?_; refine mv_i ?_; refine ret1 ?_)); (rotate_left))
  · rw [if_neg (by simpa using hc)]
    have hm := (errM_ok hc).2.1
    refine loop1 ls.length (fun k h2 => Prec h0 h2 ∧ Mem g h2 [⟨some i0, [.int .i64 x.states, .int .i64 x.inputs, .int .i64 x.outputs, .int .i64 x.start, tv], z0⟩] ∧ ∀ j (hj : j < k) (hl : j < ls.length), (mutE x ls[j]).2 = 0) ⟨⟨Stab.refl _⟩, m, fun j hj => by omega⟩ ?_
    rintro k h2 _ hk ⟨p2, m, hJ⟩
    ((with_reducible (refine lss_i (fun hc => ?_) (fun hc => ?_); refine cnd_t ?_)); (rotate_left); (with_reducible (refine cnd_f ?_; refine mv_i ?_; refine ret1 ?_)); (rotate_left))
    · have hkl : k < ls.length := by omega
      refine idx_l t rfl hkl fun p y1 hp s1 => ?_
      ((refine ldgA ?_); (with_reducible (refine mv_i ?_)); (refine ldwA ?_); (with_reducible (refine mv_i ?_)))
      refine call_r (c57 ⟨_, rfl, s.up⟩ s1.up hm) ?_
      unfold mk2
      ((with_reducible (refine mv_i ?_; refine ex2_0 ?_; refine ex2_1 ?_; refine mv_i ?_; refine mv_i ?_; refine mv_i ?_; refine neq_i (fun hc => ?_) (fun hc => ?_); refine cnd_f ?_; refine inc_i (by omega) ?_; refine mv_i ?_)); (rotate_left); (with_reducible (refine cnd_t ?_; refine mv_i ?_; refine mv_i ?_; refine ret1 ?_)); (rotate_left))
      · refine next1 hkl ⟨⟨Stb.st⟩, m, fun j hj hl => ?_⟩
        by_cases e : j = k
        · subst e; assumption
        · exact hJ j (by omega) hl
      · exact ⟨by rw [allE_at hJ hkl (by assumption)], Mem.pre (by assumption)⟩
    · exact ⟨by rw [allE_no fun j hl => hJ j (by omega) hl], Mem.pre (by assumption)⟩
  · exact ⟨by rw [if_pos hc], Mem.pre (by assumption)⟩
/-! ### lists of one's own, lent -/
theorem lent1 {l : List E} {i k c : Nat} {y : Value} {xs : List Mut} {h1 h0 : Heap} (m : Mem h0 h l) (q : Ent l i k [y] 1) [S : Stb h1 h] (s : L h1 y xs) (hc : c = 2) : L (frz 0 h) (.slice (some ⟨i, 0, none⟩) 1 c) [xs] := by
  subst hc
  exact ⟨[[y]], rfl, m.lent0 (n := 1) q.ok rfl (by decide) (by decide), fun k h1 h2 => by
    have : k = 0 := by simp at h1; exact h1
    subst this
    exact ⟨y, rfl, s.lent⟩⟩
theorem all1 (x : Mach) (l : List Mut) : (if errM x ≠ 0 then errM x else allE x [l]) = bothE x l := by
  unfold bothE allE allE
  by_cases h : (mutE x l).2 = 0 <;> simp [h]
end Go.Proofs.Ytgmgmkhenhaniaa
