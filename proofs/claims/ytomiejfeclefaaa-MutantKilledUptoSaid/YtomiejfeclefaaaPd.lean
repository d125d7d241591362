import Derived.Test.YtomiejfeclefaaaPc
import Derived.Test.YtomiejfeclefaaaAnL
import Derived.Test.YtomiejfeclefaaaPa
set_option linter.unusedSimpArgs false
set_option linter.unusedVariables false
set_option linter.unnecessarySimpa false
set_option maxRecDepth 100000
set_option maxHeartbeats 4000000
namespace Go.Proofs.Ytomiejfeclefaaa
open Go.AM
variable {h g : Heap}
def ltp (a b : Pr) : Prop := a.a < b.a ∨ a.a = b.a ∧ a.b < b.b
instance (a b : Pr) : Decidable (ltp a b) := by unfold ltp; infer_instance
theorem nd_at {ps : List Pr} (hn : ps.Nodup) {k : Nat} (hk : k < ps.length) : ¬ gt ps k ∈ ps.take k := by
  intro hm
  obtain ⟨j, hj, e⟩ := List.mem_iff_getElem.mp hm
  rw [List.length_take] at hj
  rw [List.getElem_take, ← gt_at hk] at e
  exact List.pairwise_iff_getElem.mp hn j k (by omega) hk (by omega) e
theorem ltp_tot {a b : Pr} (h : ¬ ltp b a) (hne : ¬ a = b) : ltp a b := by
  unfold ltp at *
  cases a; cases b
  simp only [Pr.mk.injEq] at *
  omega
theorem ltp_tr {a b c : Pr} (h1 : ltp a b) (h2 : ltp b c) : ltp a c := by unfold ltp at *; omega
theorem ins_pw {ys : List Pr} {p : Pr} {a : Nat} (hpw : ys.Pairwise ltp) (ha : a ≤ ys.length) (hgt : ∀ j, a ≤ j → j < ys.length → ltp p (gt ys j)) (hge : a = 0 ∨ ¬ ltp p (gt ys (a - 1))) (hni : ¬ p ∈ ys) : (ys.take a ++ p :: ys.drop a).Pairwise ltp := by
  have pw := List.pairwise_iff_getElem.mp hpw
  rw [List.pairwise_append]
  refine ⟨hpw.sublist (List.take_sublist _ _), List.pairwise_cons.mpr ⟨fun b hb => ?_, hpw.sublist (List.drop_sublist _ _)⟩, fun c hc b hb => ?_⟩
  · obtain ⟨j, hj, rfl⟩ := List.mem_iff_getElem.mp hb
    rw [List.length_drop] at hj
    rw [List.getElem_drop, gt_at (by omega)]
    exact hgt _ (by omega) (by omega)
  · obtain ⟨i, hi, rfl⟩ := List.mem_iff_getElem.mp hc
    rw [List.length_take] at hi
    rw [List.getElem_take]
    rcases List.mem_cons.mp hb with rfl | hb
    · have h1 : ltp (gt ys (a - 1)) b := by
        refine ltp_tot (hge.resolve_left (by omega)) fun e => hni ?_
        rw [← e]; exact gd_mem _ (by omega)
      by_cases e : i = a - 1
      · subst e; rw [gt_at (by omega)]; exact h1
      · have := pw i (a - 1) (by omega) (by omega) (by omega)
        rw [gt_at (k := a - 1) (by omega)] at this
        exact ltp_tr this h1
    · obtain ⟨j, hj, rfl⟩ := List.mem_iff_getElem.mp hb
      rw [List.length_drop] at hj
      rw [List.getElem_drop]
      exact pw _ _ (by omega) (by omega) (by omega)
theorem cp_ins {ys : List Pr} {z : Pr} {a : Nat} (ha : a ≤ ys.length) : (cpL (ys ++ [z]) (a + 1) a (ys.length - a)).length = ys.length + 1 ∧ ∀ p, (cpL (ys ++ [z]) (a + 1) a (ys.length - a)).set a p = ys.take a ++ p :: ys.drop a := by
  have e : cpL (ys ++ [z]) (a + 1) a (ys.length - a) = (ys ++ [z]).take (a + 1) ++ ys.drop a := by
    unfold cpL
    have e1 : (ys ++ [z]).drop (a + 1 + (ys.length - a)) = [] := List.drop_of_length_le (by simp; omega)
    have e2 : ((ys ++ [z]).drop a).take (ys.length - a) = ys.drop a := by
      rw [List.drop_append_of_le_length ha, List.take_append_of_le_length (by simp), List.take_of_length_le (by simp)]
    rw [e1, e2, List.append_nil]
  have hl : ((ys ++ [z]).take (a + 1)).length = a + 1 := by rw [List.length_take]; simp; omega
  refine ⟨by rw [e, List.length_append, hl, List.length_drop]; omega, fun p => ?_⟩
  rw [e, List.set_append_left _ _ (by omega)]
  refine List.ext_getElem? fun j => ?_
  by_cases hj : j < a + 1
  · rw [List.getElem?_append_left (by rw [List.length_set]; omega), List.getElem?_set]
    by_cases e : a = j
    · subst e
      rw [if_pos rfl, if_pos (by omega), List.getElem?_append_right (by rw [List.length_take]; omega)]
      simp [Nat.min_eq_left ha]
    · rw [if_neg e, List.getElem?_append_left (by rw [List.length_take]; omega), List.getElem?_take, List.getElem?_take, if_pos (by omega), if_pos (by omega), List.getElem?_append_left (by omega)]
  · rw [List.getElem?_append_right (by rw [List.length_set]; omega), List.length_set, hl, List.getElem?_append_right (by rw [List.length_take]; omega), List.length_take, Nat.min_eq_left ha]
    obtain ⟨d, rfl⟩ : ∃ d, j = a + 1 + d := ⟨j - (a + 1), by omega⟩
    rw [show a + 1 + d - (a + 1) = d by omega, show a + 1 + d - a = d + 1 by omega, List.getElem?_cons_succ]
theorem c35 {v : Value} {ps : List Pr} (s : L g v (ps.map PrX.mk)) (hn : ps.Nodup) (hl : ps.length ≤ 1600) : DetP Try.prog 35 [v] g fun v' h' => g <+: h' ∧ ∃ b n q, v' = .slice b n q ∧ L h' (.slice b n q) (srt cmpP ps) := by
  refine DetP.freeze ?_
  have m := Mem.start g
  refine w35 ?_
  unfold n35
  ((with_reducible (refine mv_i ?_; refine mv_i ?_; refine mv_i ?_)))
  refine loop2 ps.length (fun k a h => ∃ o ys, IsSl a o ys.length ∧ ys.Perm (ps.take k) ∧ ys.Pairwise ltp ∧ Prec g h ∧ Mem g h [⟨o, flat ys, 2⟩]) ⟨none, [], IsSl.nil, List.Perm.nil, List.Pairwise.nil, ⟨Stab.refl _⟩, m.nil 2⟩ ?_
  rintro k a h2 _ hk ⟨o, ys, hs, hpm, hpw, p2, m⟩
  have hyl : ys.length = k := by have := hpm.length_eq; rw [List.length_take] at this; omega
  ((with_reducible (refine mv_i ?_; refine mv_i ?_));
      (refine len_x (by assumption) ?_);
      (with_reducible (refine lss_i (fun hc => ?_) (fun hc => ?_); refine cnd_t ?_; refine mv_i ?_; refine len_o (by assumption) ?_; refine mv_i ?_));
      (rotate_left);
      (with_reducible (refine cnd_f ?_; refine mv_i ?_; refine mv_i ?_; refine ret1 ?_));
      (rotate_left))
  · have hkl : k < ps.length := by omega
    refine ⟨fun vs h => ∃ at_ : Nat, vs = [.int .i64 (at_ : Int)] ∧ at_ ≤ ys.length ∧ (∀ j, at_ ≤ j → j < ys.length → ltp (gt ps k) (gt ys j)) ∧ Prec g h ∧ Mem g h [⟨o, flat ys, 2⟩], fun vs _ => match vs with | [.int _ n] => n.toNat | _ => 0, ⟨ys.length, rfl, Nat.le_refl _, fun j h1 h2 => by omega, ⟨Stb.st⟩, m⟩, ?_⟩
    rintro h6 _ v5 ⟨at_, e5, hat, hgt, p6, m⟩
    cases e5
    have e1 : ((at_ : Int) - 1).toNat = at_ - 1 := by omega
    ((with_reducible (refine mv_i ?_; refine gtr_i (fun hc => ?_) (fun hc => ?_); refine mv_i ?_; refine gd_tt ?_; refine mv_i ?_; refine gd_tt ?_; refine mv_i ?_; refine gd_tt ?_; refine sub_j (by omega) (by omega) ?_; refine gd_tt ?_));
        (refine idx_oz (by assumption) (by omega) (by omega) ?_);
        (with_reducible (refine gd_tt ?_));
        (refine ia_o (by omega) (by omega) ?_);
        (with_reducible (refine gd_tt ?_));
        (refine ldf_d (by assumption) (by infer_instance) (by with_unfolding_all rfl) (by omega) (by with_unfolding_all exact Nat.le_of_ble_eq_true rfl) (by with_unfolding_all rfl) ?_);
        (refine vb_n (by with_unfolding_all rfl) ?_);
        (with_reducible (refine gd_tt ?_; refine mv_i ?_; refine gd_tt ?_; refine mv_i ?_; refine gd_tt ?_));
        (refine idx_x (by assumption) (by with_unfolding_all rfl) (by omega) fun p w hp => ?_);
        (with_reducible (refine gd_tt ?_; refine fa_g (by assumption) fun p hp => ?_; refine gd_tt ?_));
        (refine ld_g (by assumption) (by with_unfolding_all rfl) ?_);
        (refine vb_n (by with_unfolding_all rfl) ?_);
        (with_reducible (refine gd_tt ?_; refine gtr_i (fun hc => ?_) (fun hc => ?_); refine gd_tt ?_; refine mv_i ?_; refine gd_tf ?_; refine gd_tf ?_; refine gd_tf ?_; refine gd_tf ?_; refine gd_tf ?_; refine gd_tf ?_; refine gd_tf ?_; refine gd_tf ?_; refine gd_tf ?_; refine gd_tf ?_; refine gd_tf ?_; refine gd_tf ?_; refine gd_tf ?_; refine gd_u ?_; refine gd_u ?_; refine gd_u ?_; refine gd_u ?_; refine gd_u ?_; refine gd_u ?_; refine gd_u ?_; refine gd_u ?_; refine gd_u ?_; refine gd_u ?_; refine gd_u ?_; refine gd_u ?_; refine gd_tf ?_; refine gd_tt ?_; refine pick_t ?_; refine pick_t ?_; refine cnd_t ?_; refine mv_i ?_; refine sub_j (by omega) (by omega) ?_; refine mv_i ?_));
        (rotate_left);
        (with_reducible (refine gd_tt ?_; refine mv_i ?_; refine gd_ff ?_; refine mv_i ?_; refine gd_ff ?_; refine mv_i ?_; refine gd_ff ?_; refine sub_j (by omega) (by omega) ?_; refine gd_ff ?_));
        (refine idx_oz (by assumption) (by omega) (by omega) ?_);
        (with_reducible (refine gd_ff ?_));
        (refine ia_o (by omega) (by omega) ?_);
        (with_reducible (refine gd_ff ?_));
        (refine ldf_d (by assumption) (by infer_instance) (by with_unfolding_all rfl) (by omega) (by with_unfolding_all exact Nat.le_of_ble_eq_true rfl) (by with_unfolding_all rfl) ?_);
        (refine vb_n (by with_unfolding_all rfl) ?_);
        (with_reducible (refine gd_ff ?_; refine mv_i ?_; refine gd_ff ?_; refine mv_i ?_; refine gd_ff ?_));
        (refine idx_x (by assumption) (by with_unfolding_all rfl) (by omega) fun p w hp => ?_);
        (with_reducible (refine gd_ff ?_; refine fa_g (by assumption) fun p hp => ?_; refine gd_ff ?_));
        (refine ld_g (by assumption) (by with_unfolding_all rfl) ?_);
        (refine vb_n (by with_unfolding_all rfl) ?_);
        (with_reducible (refine gd_ff ?_; refine eql_i (fun hc => ?_) (fun hc => ?_); refine gd_ff ?_; refine mv_i ?_; refine gd_tt ?_; refine mv_i ?_; refine gd_tt ?_; refine mv_i ?_; refine gd_tt ?_; refine sub_j (by omega) (by omega) ?_; refine gd_tt ?_));
        (refine idx_oz (by assumption) (by omega) (by omega) ?_);
        (with_reducible (refine gd_tt ?_));
        (refine ia_o (by omega) (by omega) ?_);
        (with_reducible (refine gd_tt ?_));
        (refine ldf_d (by assumption) (by infer_instance) (by with_unfolding_all rfl) (by omega) (by with_unfolding_all exact Nat.le_of_ble_eq_true rfl) (by with_unfolding_all rfl) ?_);
        (refine vb_n (by with_unfolding_all rfl) ?_);
        (with_reducible (refine gd_tt ?_; refine mv_i ?_; refine gd_tt ?_; refine mv_i ?_; refine gd_tt ?_));
        (refine idx_x (by assumption) (by with_unfolding_all rfl) (by omega) fun p w hp => ?_);
        (with_reducible (refine gd_tt ?_; refine fa_g (by assumption) fun p hp => ?_; refine gd_tt ?_));
        (refine ld_g (by assumption) (by with_unfolding_all rfl) ?_);
        (refine vb_n (by with_unfolding_all rfl) ?_);
        (with_reducible (refine gd_tt ?_; refine gtr_i (fun hc => ?_) (fun hc => ?_); refine gd_ff ?_; refine pick_t ?_; refine gd_tt ?_; refine pick_f ?_; refine pick_t ?_; refine cnd_t ?_; refine mv_i ?_; refine sub_j (by omega) (by omega) ?_; refine mv_i ?_));
        (rotate_left);
        (with_reducible (refine gd_ff ?_; refine pick_t ?_; refine gd_tt ?_; refine pick_f ?_; refine pick_t ?_; refine cnd_f ?_; refine mv_i ?_));
        (refine vk_i (bd77_01 _ _) ?_);
        (refine bs_g (bs36_1 _ _) (by assumption) fun i h p m => ?_);
        (rotate_left);
        (with_reducible (refine gd_ff ?_; refine mv_i ?_; refine gd_ft ?_; refine gd_ft ?_; refine gd_ft ?_; refine gd_ft ?_; refine gd_ft ?_; refine gd_ft ?_; refine gd_ft ?_; refine gd_ft ?_; refine gd_ft ?_; refine gd_ft ?_; refine gd_ft ?_; refine gd_ft ?_; refine gd_ff ?_; refine pick_f ?_; refine gd_tt ?_; refine pick_f ?_; refine pick_t ?_; refine cnd_f ?_; refine mv_i ?_));
        (refine vk_i (bd77_01 _ _) ?_);
        (refine bs_g (bs36_1 _ _) (by assumption) fun i h p m => ?_);
        (rotate_left);
        (with_reducible (refine mv_i ?_; refine gd_ft ?_; refine gd_ft ?_; refine gd_ft ?_; refine gd_ft ?_; refine gd_ft ?_; refine gd_ft ?_; refine gd_ft ?_; refine gd_ft ?_; refine gd_ft ?_; refine gd_ft ?_; refine gd_ft ?_; refine gd_ft ?_; refine gd_ft ?_; refine gd_u ?_; refine gd_u ?_; refine gd_u ?_; refine gd_u ?_; refine gd_u ?_; refine gd_u ?_; refine gd_u ?_; refine gd_u ?_; refine gd_u ?_; refine gd_u ?_; refine gd_u ?_; refine gd_u ?_; refine gd_u ?_; refine gd_u ?_; refine gd_u ?_; refine gd_u ?_; refine gd_u ?_; refine gd_u ?_; refine gd_u ?_; refine gd_u ?_; refine gd_u ?_; refine gd_u ?_; refine gd_u ?_; refine gd_u ?_; refine gd_u ?_; refine gd_u ?_; refine gd_ft ?_; refine pick_f ?_; refine cnd_f ?_; refine mv_i ?_));
        (refine vk_i (bd77_01 _ _) ?_);
        (refine bs_g (bs36_1 _ _) (by assumption) fun i h p m => ?_);
        (rotate_left))
    · rw [e1] at hc
      have hlt : ltp (gt ps k) (gt ys (at_ - 1)) := .inl hc
      refine ⟨⟨at_ - 1, by rw [show ((at_ - 1 : Nat) : Int) = (at_ : Int) - 1 by omega], by omega, fun j h1 h2 => ?_, ⟨Stb.st⟩, m⟩, ?_⟩
      · by_cases ej : j = at_ - 1
        · subst ej; exact hlt
        · exact hgt j (by omega) h2
      · show ((at_ : Int) - 1).toNat < (at_ : Int).toNat
        omega
    · have hlt : ltp (gt ps k) (gt ys (at_ - 1)) := .inr (by rw [e1] at *; constructor <;> omega)
      refine ⟨⟨at_ - 1, by rw [show ((at_ - 1 : Nat) : Int) = (at_ : Int) - 1 by omega], by omega, fun j h1 h2 => ?_, ⟨Stb.st⟩, m⟩, ?_⟩
      · by_cases ej : j = at_ - 1
        · subst ej; exact hlt
        · exact hgt j (by omega) h2
      · show ((at_ : Int) - 1).toNat < (at_ : Int).toNat
        omega
    · have hge : at_ = 0 ∨ ¬ ltp (gt ps k) (gt ys (at_ - 1)) := .inr (by rw [e1] at *; unfold ltp; omega)
      refine app_snoc (a := (⟨0, 0⟩ : Pr)) (k2 := 0) (j := 0) m hs (by infer_instance) ⟨rfl⟩ rfl ⟨by omega, by omega⟩ fun i3 h7 p7 m => ?_
      simp only [List.set_cons_succ, List.set_cons_zero] at m
      ((with_reducible (refine mv_i ?_; refine mv_i ?_; refine mv_i ?_; refine inc_i (by omega) ?_)))
      refine sl_own (n := ys.length + 1) m (by infer_instance) (by omega) (by omega) ?_
      refine vb_sl m (by infer_instance) ?_
      ((with_reducible (refine mv_i ?_; refine mv_i ?_)))
      refine sl_own (n := ys.length + 1) m (by infer_instance) (by omega) (by omega) ?_
      refine vb_sl m (by infer_instance) ?_
      skip
      simp only [Int.toNat_natCast]
      refine cp_own (a := at_ + 1) (b := at_) (xs := ys ++ [(⟨0, 0⟩ : Pr)]) m (by infer_instance) rfl (by rw [List.length_append, List.length_singleton]; omega) (by rw [List.length_append, List.length_singleton]; omega) (by infer_instance) fun h8 v8 p8 m => ?_
      refine ⟨trivial, ?_⟩
      rw [show Nat.min (ys.length + 1 - at_) (ys.length + 1 - (at_ + 1)) = ys.length - at_ from by simp only [Nat.min_def]; split <;> omega] at m
      obtain ⟨hcl, hcs⟩ := cp_ins (z := (⟨0, 0⟩ : Pr)) hat
      generalize cpL (ys ++ [(⟨0, 0⟩ : Pr)]) (at_ + 1) at_ (ys.length - at_) = zs at m hcl hcs
      have hs3 : IsSl (.slice (some ⟨i3, 0, none⟩) (ys.length + 1) 0) (some i3) zs.length := by rw [hcl]; exact IsSl.some0
      ((with_reducible (refine mv_i ?_; refine mv_i ?_; refine mv_i ?_; refine mv_i ?_));
          (refine idx_x (by assumption) (by with_unfolding_all rfl) (by omega) fun p w hp => ?_);
          (with_reducible (refine fa_g (by assumption) fun p hp => ?_));
          (refine ld_g (by assumption) (by with_unfolding_all rfl) ?_);
          (refine vb_n (by with_unfolding_all rfl) ?_);
          (with_reducible (refine mv_i ?_; refine mv_i ?_));
          (refine idx_x (by assumption) (by with_unfolding_all rfl) (by omega) fun p w hp => ?_);
          (with_reducible (refine fa_g (by assumption) fun p hp => ?_));
          (refine ld_g (by assumption) (by with_unfolding_all rfl) ?_);
          (refine vb_n (by with_unfolding_all rfl) ?_);
          (refine vk_i (bd77_01 _ _) ?_);
          (refine idx_o (by assumption) (by omega) ?_);
          (refine stw_o (by assumption) (by infer_instance) (by with_unfolding_all rfl) (by omega) (by infer_instance) fun h p m => ?_);
          (with_reducible (refine ⟨trivial, ?_⟩; refine mv_i ?_; refine inc_i (by omega) ?_; refine mv_i ?_)))
      refine next2 hkl ⟨some i3, ys.take at_ ++ gt ps k :: ys.drop at_, ?_, ?_, ?_, ⟨Stb.st⟩, ?_⟩
      · rw [← hcs (gt ps k), List.length_set, hcl]; exact IsSl.some0
      · refine List.perm_middle.trans ?_
        rw [List.take_append_drop, take_gd Df.d hkl]
        exact (hpm.cons _).trans (List.perm_append_singleton _ _).symm
      · refine ins_pw hpw hat hgt hge fun hm => ?_
        exact nd_at hn hkl (hpm.mem_iff.mp hm)
      · rw [← hcs (gt ps k)]; exact m.tail
    · have hge : at_ = 0 ∨ ¬ ltp (gt ps k) (gt ys (at_ - 1)) := .inr (by rw [e1] at *; unfold ltp; omega)
      refine app_snoc (a := (⟨0, 0⟩ : Pr)) (k2 := 0) (j := 0) m hs (by infer_instance) ⟨rfl⟩ rfl ⟨by omega, by omega⟩ fun i3 h7 p7 m => ?_
      simp only [List.set_cons_succ, List.set_cons_zero] at m
      ((with_reducible (refine mv_i ?_; refine mv_i ?_; refine mv_i ?_; refine inc_i (by omega) ?_)))
      refine sl_own (n := ys.length + 1) m (by infer_instance) (by omega) (by omega) ?_
      refine vb_sl m (by infer_instance) ?_
      ((with_reducible (refine mv_i ?_; refine mv_i ?_)))
      refine sl_own (n := ys.length + 1) m (by infer_instance) (by omega) (by omega) ?_
      refine vb_sl m (by infer_instance) ?_
      skip
      simp only [Int.toNat_natCast]
      refine cp_own (a := at_ + 1) (b := at_) (xs := ys ++ [(⟨0, 0⟩ : Pr)]) m (by infer_instance) rfl (by rw [List.length_append, List.length_singleton]; omega) (by rw [List.length_append, List.length_singleton]; omega) (by infer_instance) fun h8 v8 p8 m => ?_
      refine ⟨trivial, ?_⟩
      rw [show Nat.min (ys.length + 1 - at_) (ys.length + 1 - (at_ + 1)) = ys.length - at_ from by simp only [Nat.min_def]; split <;> omega] at m
      obtain ⟨hcl, hcs⟩ := cp_ins (z := (⟨0, 0⟩ : Pr)) hat
      generalize cpL (ys ++ [(⟨0, 0⟩ : Pr)]) (at_ + 1) at_ (ys.length - at_) = zs at m hcl hcs
      have hs3 : IsSl (.slice (some ⟨i3, 0, none⟩) (ys.length + 1) 0) (some i3) zs.length := by rw [hcl]; exact IsSl.some0
      ((with_reducible (refine mv_i ?_; refine mv_i ?_; refine mv_i ?_; refine mv_i ?_));
          (refine idx_x (by assumption) (by with_unfolding_all rfl) (by omega) fun p w hp => ?_);
          (with_reducible (refine fa_g (by assumption) fun p hp => ?_));
          (refine ld_g (by assumption) (by with_unfolding_all rfl) ?_);
          (refine vb_n (by with_unfolding_all rfl) ?_);
          (with_reducible (refine mv_i ?_; refine mv_i ?_));
          (refine idx_x (by assumption) (by with_unfolding_all rfl) (by omega) fun p w hp => ?_);
          (with_reducible (refine fa_g (by assumption) fun p hp => ?_));
          (refine ld_g (by assumption) (by with_unfolding_all rfl) ?_);
          (refine vb_n (by with_unfolding_all rfl) ?_);
          (refine vk_i (bd77_01 _ _) ?_);
          (refine idx_o (by assumption) (by omega) ?_);
          (refine stw_o (by assumption) (by infer_instance) (by with_unfolding_all rfl) (by omega) (by infer_instance) fun h p m => ?_);
          (with_reducible (refine ⟨trivial, ?_⟩; refine mv_i ?_; refine inc_i (by omega) ?_; refine mv_i ?_)))
      refine next2 hkl ⟨some i3, ys.take at_ ++ gt ps k :: ys.drop at_, ?_, ?_, ?_, ⟨Stb.st⟩, ?_⟩
      · rw [← hcs (gt ps k), List.length_set, hcl]; exact IsSl.some0
      · refine List.perm_middle.trans ?_
        rw [List.take_append_drop, take_gd Df.d hkl]
        exact (hpm.cons _).trans (List.perm_append_singleton _ _).symm
      · refine ins_pw hpw hat hgt hge fun hm => ?_
        exact nd_at hn hkl (hpm.mem_iff.mp hm)
      · rw [← hcs (gt ps k)]; exact m.tail
    · have hge : at_ = 0 ∨ ¬ ltp (gt ps k) (gt ys (at_ - 1)) := .inl (by omega)
      refine app_snoc (a := (⟨0, 0⟩ : Pr)) (k2 := 0) (j := 0) m hs (by infer_instance) ⟨rfl⟩ rfl ⟨by omega, by omega⟩ fun i3 h7 p7 m => ?_
      simp only [List.set_cons_succ, List.set_cons_zero] at m
      ((with_reducible (refine mv_i ?_; refine mv_i ?_; refine mv_i ?_; refine inc_i (by omega) ?_)))
      refine sl_own (n := ys.length + 1) m (by infer_instance) (by omega) (by omega) ?_
      refine vb_sl m (by infer_instance) ?_
      ((with_reducible (refine mv_i ?_; refine mv_i ?_)))
      refine sl_own (n := ys.length + 1) m (by infer_instance) (by omega) (by omega) ?_
      refine vb_sl m (by infer_instance) ?_
      skip
      simp only [Int.toNat_natCast]
      refine cp_own (a := at_ + 1) (b := at_) (xs := ys ++ [(⟨0, 0⟩ : Pr)]) m (by infer_instance) rfl (by rw [List.length_append, List.length_singleton]; omega) (by rw [List.length_append, List.length_singleton]; omega) (by infer_instance) fun h8 v8 p8 m => ?_
      refine ⟨trivial, ?_⟩
      rw [show Nat.min (ys.length + 1 - at_) (ys.length + 1 - (at_ + 1)) = ys.length - at_ from by simp only [Nat.min_def]; split <;> omega] at m
      obtain ⟨hcl, hcs⟩ := cp_ins (z := (⟨0, 0⟩ : Pr)) hat
      generalize cpL (ys ++ [(⟨0, 0⟩ : Pr)]) (at_ + 1) at_ (ys.length - at_) = zs at m hcl hcs
      have hs3 : IsSl (.slice (some ⟨i3, 0, none⟩) (ys.length + 1) 0) (some i3) zs.length := by rw [hcl]; exact IsSl.some0
      ((with_reducible (refine mv_i ?_; refine mv_i ?_; refine mv_i ?_; refine mv_i ?_));
          (refine idx_x (by assumption) (by with_unfolding_all rfl) (by omega) fun p w hp => ?_);
          (with_reducible (refine fa_g (by assumption) fun p hp => ?_));
          (refine ld_g (by assumption) (by with_unfolding_all rfl) ?_);
          (refine vb_n (by with_unfolding_all rfl) ?_);
          (with_reducible (refine mv_i ?_; refine mv_i ?_));
          (refine idx_x (by assumption) (by with_unfolding_all rfl) (by omega) fun p w hp => ?_);
          (with_reducible (refine fa_g (by assumption) fun p hp => ?_));
          (refine ld_g (by assumption) (by with_unfolding_all rfl) ?_);
          (refine vb_n (by with_unfolding_all rfl) ?_);
          (refine vk_i (bd77_01 _ _) ?_);
          (refine idx_o (by assumption) (by omega) ?_);
          (refine stw_o (by assumption) (by infer_instance) (by with_unfolding_all rfl) (by omega) (by infer_instance) fun h p m => ?_);
          (with_reducible (refine ⟨trivial, ?_⟩; refine mv_i ?_; refine inc_i (by omega) ?_; refine mv_i ?_)))
      refine next2 hkl ⟨some i3, ys.take at_ ++ gt ps k :: ys.drop at_, ?_, ?_, ?_, ⟨Stb.st⟩, ?_⟩
      · rw [← hcs (gt ps k), List.length_set, hcl]; exact IsSl.some0
      · refine List.perm_middle.trans ?_
        rw [List.take_append_drop, take_gd Df.d hkl]
        exact (hpm.cons _).trans (List.perm_append_singleton _ _).symm
      · refine ins_pw hpw hat hgt hge fun hm => ?_
        exact nd_at hn hkl (hpm.mem_iff.mp hm)
      · rw [← hcs (gt ps k)]; exact m.tail
  · have hkk : k = ps.length := by omega
    rw [List.take_of_length_le (by omega)] at hpm
    have hsr : ys = srt cmpP ps := by
      have pw := List.pairwise_iff_getElem.mp hpw
      have hsz : ys.toArray.size = ps.toArray.size := by simpa using hpm.length_eq
      have := Go.Sort.sorted_unique_holds (lt := Go.Proofs.ltOf cmpP) swoP totP ps.toArray ys.toArray ⟨hsz, fun i hi => ?_, ?_⟩ ?_
      · simpa [srt] using this
      · rcases hi with hi | hi
        · omega
        · simp at hi; simp [List.getElem!_eq_getElem?_getD, List.getElem?_eq_none hi, List.getElem?_eq_none (show ys.length ≤ i by omega)]
      · have ht : List.take ps.length ys = ys := List.take_of_length_le (by omega)
        simpa [ht] using hpm
      · intro i j _ hij hj
        have hj : j < ys.length := by simp at hj; omega
        rw [ltPn]
        have := pw i j (by omega) hj hij
        simp only [List.getElem!_toArray, List.getElem!_eq_getElem?_getD, List.getElem?_eq_getElem hj, List.getElem?_eq_getElem (show i < ys.length by omega), Option.getD_some]
        unfold ltp at this; omega
    obtain ⟨b, c, rfl⟩ := hs.isS
    exact ⟨m.pre, b, _, c, rfl, by rw [← hsr]; exact IsSl.ro hs m (k := 0) rfl (by omega)⟩
end Go.Proofs.Ytomiejfeclefaaa

set_option linter.unusedSimpArgs false
set_option linter.unusedVariables false
set_option linter.unnecessarySimpa false
set_option maxRecDepth 100000
set_option maxHeartbeats 4000000
namespace Go.Proofs.Ytomiejfeclefaaa
open Go.AM
variable {h g : Heap}
theorem ps_nd {x y : Mach} (P : Par x y) {p0 : Pr} (h0 : inP x p0) : (srch x y p0).ps.Nodup ∧ (srch x y p0).ps.length ≤ 1600 := by
  have B := BI.all P h0 1601
  exact ⟨B.nd, B.few (chk_ok P.cx).1.1.2⟩
theorem c7 {v y : Value} {x : Mach} {l : List Mut} (s : MacV g v x) (t : L g y l) (hb0 : x.steps.length ≤ 1048576) (hl : l.length ≤ 1048576) : DetP Try.prog 7 [v, y] g fun v' _ => v' = .bool true := by
  obtain ⟨tv, rfl, s⟩ := s
  obtain ⟨b0, q0, rfl, _⟩ := s.shape
  have m := Mem.start g
  refine w7 ?_
  unfold n7
  have C18 := fun {h : Heap} {v y : Value} (s : MacV h v x) (t : L h y l) => c18 (g := h) s t
  by_cases hB : bothE x l = 0
  · obtain ⟨P, h0⟩ := par_x hB
    obtain ⟨hnd, hln⟩ := ps_nd P h0
    have C31 := fun {h : Heap} {v y : Value} (s : MacV h v x) (t : L h y l) => c31 (g := h) s t hB
    have C32 := fun {h : Heap} {v y : Value} (s : MacV h v x) (t : L h y l) => c32 (g := h) s t hB
    have C33 := fun {h : Heap} {v y : Value} (s : MacV h v x) (t : L h y l) => c33 (g := h) s t hB
    rw [hB] at C18
    generalize mutd x l = ym at C31 C32 C33 hnd hln
    have hr1 : relP x ym ⟨x.start, ym.start⟩ = if (srch x ym ⟨x.start, ym.start⟩).fnd = none then srt cmpP (srch x ym ⟨x.start, ym.start⟩).ps else [] := rfl
    have hr2 : relC x ym ⟨x.start, ym.start⟩ = if (srch x ym ⟨x.start, ym.start⟩).fnd = none then 0 else 23 := rfl
    have hd1 : difE x ym ⟨x.start, ym.start⟩ = if (srch x ym ⟨x.start, ym.start⟩).fnd = none then 23 else 0 := rfl
    have hd2 : difW x ym ⟨x.start, ym.start⟩ = (srch x ym ⟨x.start, ym.start⟩).fnd.getD [] := rfl
    generalize relP x ym ⟨x.start, ym.start⟩ = rp at C32 hr1
    generalize relC x ym ⟨x.start, ym.start⟩ = rc at C32 hr2
    generalize difE x ym ⟨x.start, ym.start⟩ = de at C31 hd1
    generalize difW x ym ⟨x.start, ym.start⟩ = dw at C31 C33 hd2
    generalize (srch x ym ⟨x.start, ym.start⟩).ps = ps at C33 hr1 hnd hln
    generalize (srch x ym ⟨x.start, ym.start⟩).fnd = fn at C33 hr1 hr2 hd1 hd2
    have C35 := fun {h : Heap} {v : Value} (s : L h v (ps.map PrX.mk)) => c35 (g := h) s hnd hln
    generalize ps.map PrX.mk = pm at C33 C35
    generalize srt cmpP ps = sp at hr1 C35
    clear hnd hln P h0
    rcases fn with _ | w
    ·
      simp only [if_pos, Option.isSome_none, Option.getD_none] at hr1 hr2 hd1 hd2 C33
      subst hr1 hr2 hd1 hd2
      ((with_reducible (refine box_a (by assumption) fun i h z p m => ?_; refine mv_i ?_));
          (refine call_r c11 ?_);
          (with_reducible (refine not_t ?_; refine cnd_f ?_));
          (refine ldo_w (by assumption) (by infer_instance) (by with_unfolding_all rfl) ?_))
      refine call_d (c14 ⟨_, rfl, s.up⟩ hb0) m fun v1 h1 p1 p2 m ⟨b1, q1, n1, e1, hn1, s1⟩ => ?_
      subst e1
      ((with_reducible (refine mv_i ?_)))
      refine call_d (c17 t.up hl) m fun v2 h2 p3 p4 m ⟨b2, q2, n2, e2, hn2, s2⟩ => ?_
      subst e2
      skip
      refine call_d (C31 ⟨_, rfl, s1.up⟩ s2.up) m fun v3 h3 p5 p6 m ⟨b3, n3, q3, e3, s3⟩ => ?_
      subst e3
      ((with_reducible (refine mv_i ?_; refine ex2_0 ?_; refine ex2_1 ?_; refine mv_i ?_; refine mv_i ?_));
          (refine ldo_w (by assumption) (by infer_instance) (by with_unfolding_all rfl) ?_))
      refine call_d (c14 ⟨_, rfl, s.up⟩ hb0) m fun v1 h1 p1 p2 m ⟨b1, q1, n1, e1, hn1, s1⟩ => ?_
      subst e1
      ((with_reducible (refine mv_i ?_)))
      refine call_d (c17 t.up hl) m fun v2 h2 p3 p4 m ⟨b2, q2, n2, e2, hn2, s2⟩ => ?_
      subst e2
      skip
      refine call_d (C32 ⟨_, rfl, s1.up⟩ s2.up) m fun v4 h4 p7 p8 m ⟨b4, n4, q4, e4, s4⟩ => ?_
      subst e4
      ((with_reducible (refine mv_i ?_; refine ex2_0 ?_; refine ex2_1 ?_; refine mv_i ?_; refine mv_i ?_));
          (refine ldo_w (by assumption) (by infer_instance) (by with_unfolding_all rfl) ?_);
          (with_reducible (refine mv_i ?_)))
      refine call_r (C18 ⟨_, rfl, s.up⟩ t.up) ?_
      ((with_reducible (refine mv_i ?_; refine mv_i ?_; refine neq_h (by first | assumption | decide) ?_; refine cnd_f ?_));
          (refine ldo_w (by assumption) (by infer_instance) (by with_unfolding_all rfl) ?_);
          (with_reducible (refine mv_i ?_)))
      refine call_d (C33 ⟨_, rfl, s.up⟩ t.up) m fun v5 h5 p9 p10 m ⟨b5, n5, q5, b6, n6, q6, e5, s5, s6⟩ => ?_
      subst e5
      ((with_reducible (refine mv_i ?_; refine ex3_0 ?_; refine ex3_1 ?_; refine ex3_2 ?_; refine mv_i ?_; refine mv_i ?_; refine mv_i ?_; refine mv_i ?_; refine cnd_f ?_; refine mv_i ?_; refine eql_h (by first | assumption | decide) ?_; refine mv_i ?_; refine gd_tt ?_; refine mv_i ?_; refine gd_tt ?_; refine len_g (by assumption) ?_; refine gd_tt ?_; refine eql_h (by first | assumption | decide) ?_; refine pick_t ?_; refine mv_i ?_; refine gd_tt ?_; refine mv_i ?_; refine gd_tt ?_; refine eql_h (by first | assumption | decide) ?_; refine pick_t ?_; refine mv_i ?_; refine gd_tt ?_; refine mv_i ?_; refine gd_tt ?_; refine mv_i ?_; refine gd_tt ?_)))
      refine call_d (C35 s6.up) m fun v6 h6 p11 p12 m ⟨b7, n7, q7, e6, s7⟩ => ?_
      subst e6
      ((with_reducible (refine gd_tt ?_)))
      refine call_r (c34 s4.up s7.up) ?_
      rw [decide_eq_true rfl]
      ((with_reducible (refine pick_t ?_; refine mv_i ?_; refine ret1 ?_)))
      all_goals first | rfl
    ·
      simp only [reduceCtorEq, if_false, Option.isSome_some, Option.getD_some] at hr1 hr2 hd1 hd2 C33
      subst hr1 hr2 hd1 hd2
      ((with_reducible (refine box_a (by assumption) fun i h z p m => ?_; refine mv_i ?_));
          (refine call_r c11 ?_);
          (with_reducible (refine not_t ?_; refine cnd_f ?_));
          (refine ldo_w (by assumption) (by infer_instance) (by with_unfolding_all rfl) ?_))
      refine call_d (c14 ⟨_, rfl, s.up⟩ hb0) m fun v1 h1 p1 p2 m ⟨b1, q1, n1, e1, hn1, s1⟩ => ?_
      subst e1
      ((with_reducible (refine mv_i ?_)))
      refine call_d (c17 t.up hl) m fun v2 h2 p3 p4 m ⟨b2, q2, n2, e2, hn2, s2⟩ => ?_
      subst e2
      skip
      refine call_d (C31 ⟨_, rfl, s1.up⟩ s2.up) m fun v3 h3 p5 p6 m ⟨b3, n3, q3, e3, s3⟩ => ?_
      subst e3
      ((with_reducible (refine mv_i ?_; refine ex2_0 ?_; refine ex2_1 ?_; refine mv_i ?_; refine mv_i ?_));
          (refine ldo_w (by assumption) (by infer_instance) (by with_unfolding_all rfl) ?_))
      refine call_d (c14 ⟨_, rfl, s.up⟩ hb0) m fun v1 h1 p1 p2 m ⟨b1, q1, n1, e1, hn1, s1⟩ => ?_
      subst e1
      ((with_reducible (refine mv_i ?_)))
      refine call_d (c17 t.up hl) m fun v2 h2 p3 p4 m ⟨b2, q2, n2, e2, hn2, s2⟩ => ?_
      subst e2
      skip
      refine call_d (C32 ⟨_, rfl, s1.up⟩ s2.up) m fun v4 h4 p7 p8 m ⟨b4, n4, q4, e4, s4⟩ => ?_
      subst e4
      ((with_reducible (refine mv_i ?_; refine ex2_0 ?_; refine ex2_1 ?_; refine mv_i ?_; refine mv_i ?_));
          (refine ldo_w (by assumption) (by infer_instance) (by with_unfolding_all rfl) ?_);
          (with_reducible (refine mv_i ?_)))
      refine call_r (C18 ⟨_, rfl, s.up⟩ t.up) ?_
      ((with_reducible (refine mv_i ?_; refine mv_i ?_; refine neq_h (by first | assumption | decide) ?_; refine cnd_f ?_));
          (refine ldo_w (by assumption) (by infer_instance) (by with_unfolding_all rfl) ?_);
          (with_reducible (refine mv_i ?_)))
      refine call_d (C33 ⟨_, rfl, s.up⟩ t.up) m fun v5 h5 p9 p10 m ⟨b5, n5, q5, b6, n6, q6, e5, s5, s6⟩ => ?_
      subst e5
      ((with_reducible (refine mv_i ?_; refine ex3_0 ?_; refine ex3_1 ?_; refine ex3_2 ?_; refine mv_i ?_; refine mv_i ?_; refine mv_i ?_; refine mv_i ?_; refine cnd_t ?_; refine mv_i ?_; refine eql_h (by first | assumption | decide) ?_; refine mv_i ?_; refine gd_tt ?_; refine mv_i ?_; refine gd_tt ?_; refine mv_i ?_; refine gd_tt ?_)))
      refine call_r (c29 s3.up s5.up) ?_
      rw [decide_eq_true rfl]
      ((with_reducible (refine pick_t ?_; refine mv_i ?_; refine gd_tt ?_; refine mv_i ?_; refine gd_tt ?_; refine eql_h (by first | assumption | decide) ?_; refine pick_t ?_; refine mv_i ?_; refine gd_tt ?_; refine mv_i ?_; refine gd_tt ?_; refine len_g (by assumption) ?_; refine gd_tt ?_; refine eql_h (by first | assumption | decide) ?_; refine pick_t ?_; refine mv_i ?_; refine ret1 ?_)))
      all_goals first | rfl | (exact (hc rfl).elim)
  · have C31 := fun {h : Heap} {v y : Value} (s : MacV h v x) (t : L h y l) => c31n (g := h) s t hB
    have C32 := fun {h : Heap} {v y : Value} (s : MacV h v x) (t : L h y l) => c32n (g := h) s t hB
    generalize bothE x l = be at C18 C31 C32 hB
    ((with_reducible (refine box_a (by assumption) fun i h z p m => ?_; refine mv_i ?_));
        (refine call_r c11 ?_);
        (with_reducible (refine not_t ?_; refine cnd_f ?_));
        (refine ldo_w (by assumption) (by infer_instance) (by with_unfolding_all rfl) ?_))
    refine call_d (c14 ⟨_, rfl, s.up⟩ hb0) m fun v1 h1 p1 p2 m ⟨b1, q1, n1, e1, hn1, s1⟩ => ?_
    subst e1
    ((with_reducible (refine mv_i ?_)))
    refine call_d (c17 t.up hl) m fun v2 h2 p3 p4 m ⟨b2, q2, n2, e2, hn2, s2⟩ => ?_
    subst e2
    skip
    refine call_d (C31 ⟨_, rfl, s1.up⟩ s2.up) m fun v3 h3 p5 p6 m e3 => ?_
    subst e3
    ((with_reducible (refine mv_i ?_; refine ex2_0 ?_; refine ex2_1 ?_; refine mv_i ?_; refine mv_i ?_));
        (refine ldo_w (by assumption) (by infer_instance) (by with_unfolding_all rfl) ?_))
    refine call_d (c14 ⟨_, rfl, s.up⟩ hb0) m fun v1 h1 p1 p2 m ⟨b1, q1, n1, e1, hn1, s1⟩ => ?_
    subst e1
    ((with_reducible (refine mv_i ?_)))
    refine call_d (c17 t.up hl) m fun v2 h2 p3 p4 m ⟨b2, q2, n2, e2, hn2, s2⟩ => ?_
    subst e2
    skip
    refine call_d (C32 ⟨_, rfl, s1.up⟩ s2.up) m fun v4 h4 p7 p8 m e4 => ?_
    subst e4
    ((with_reducible (refine mv_i ?_; refine ex2_0 ?_; refine ex2_1 ?_; refine mv_i ?_; refine mv_i ?_));
        (refine ldo_w (by assumption) (by infer_instance) (by with_unfolding_all rfl) ?_);
        (with_reducible (refine mv_i ?_)))
    refine call_r (C18 ⟨_, rfl, s.up⟩ t.up) ?_
    ((with_reducible (refine mv_i ?_; refine mv_i ?_; refine neq_n (by first | assumption | decide) ?_; refine cnd_t ?_; refine mv_i ?_; refine mv_i ?_; refine eql_i (fun hc => ?_) (fun hc => ?_); refine mv_i ?_; refine gd_tt ?_; refine mv_i ?_; refine gd_tt ?_; refine mv_i ?_; refine gd_tt ?_; refine eql_h (by first | assumption | decide) ?_; refine pick_t ?_; refine mv_i ?_; refine gd_tt ?_; refine mv_i ?_; refine gd_tt ?_; refine len_s ?_; refine gd_tt ?_; refine mv_i ?_; refine gd_tt ?_; refine len_s ?_; refine gd_tt ?_; refine add_j (by omega) (by omega) ?_; refine gd_tt ?_; refine eql_h (by first | assumption | decide) ?_; refine pick_t ?_; refine mv_i ?_; refine ret1 ?_));
        (rotate_left);
        (with_reducible (refine mv_i ?_; refine gd_ft ?_; refine gd_ft ?_; refine gd_ft ?_; refine pick_f ?_; refine mv_i ?_; refine gd_ft ?_; refine gd_ft ?_; refine gd_ft ?_; refine gd_ft ?_; refine gd_ft ?_; refine gd_ft ?_; refine pick_f ?_; refine mv_i ?_; refine ret1 ?_));
        (rotate_left))
    all_goals first
      | rfl
      | exact (hc rfl).elim
end Go.Proofs.Ytomiejfeclefaaa
