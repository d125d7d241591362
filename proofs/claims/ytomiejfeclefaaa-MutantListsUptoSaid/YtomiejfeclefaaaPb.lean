import Derived.Test.YtomiejfeclefaaaPa
import Derived.Test.YtomiejfeclefaaaAnG
import Derived.Test.YtomiejfeclefaaaBulk
import Derived.Test.YtomiejfeclefaaaChecked
import Derived.WalkKit
import Derived.ProofKit
import Derived.Test.YtomiejfeclefaaaAmW
import Derived.Test.YtomiejfeclefaaaProg
import Derived.KernelRfl
import Derived.Test.YtomiejfeclefaaaAnI
import Derived.Test.YtomiejfeclefaaaAnJ
import Derived.Test.YtomiejfeclefaaaAnK
import Derived.Test.YtomiejfeclefaaaAnL
set_option linter.unusedSimpArgs false
set_option linter.unusedVariables false
set_option linter.unnecessarySimpa false
set_option maxRecDepth 100000
set_option maxHeartbeats 4000000
namespace Go.Proofs.Ytomiejfeclefaaa
open Go.AM
variable {h g : Heap}
theorem forgetE {P : Program} {f : FuncId} {args : List Value} {Q : Value → Prop} (hf : ∀ v, Q v → cloB v = true) (d : DetP P f args h fun v h' => Q v ∧ h <+: h') : ∃ v, Q v ∧ Runs P f args h v h := by
  obtain ⟨v, h', hr, hq, hp⟩ := d
  exact ⟨v, hq, DetP.forget (hf v hq) ⟨v, h', hr, rfl, hp⟩⟩
open Classical in
theorem c42 {v : Value} {x : Mach} (s : MacV g v x) (hh : headOK x) : ∃ k : Int, Runs Try.prog 42 [v] g (.tuple #[.int .i64 k, .int .i64 (if opn x then 0 else 39)]) g := by
  obtain ⟨tv, rfl, s⟩ := s
  have m := Mem.start g
  suffices hs : DetP Try.prog 42 [.agg #[.int .i64 x.states, .int .i64 x.inputs, .int .i64 x.outputs, .int .i64 x.start, tv]] g fun v' h' => (∃ k : Int, v' = .tuple #[.int .i64 k, .int .i64 (if opn x then 0 else 39)]) ∧ g <+: h' by
    obtain ⟨v', ⟨k, rfl⟩, hr⟩ := forgetE (fun v ⟨k, e⟩ => by rw [e]; rfl) hs
    exact ⟨k, hr⟩
  obtain ⟨⟨s1, s2⟩, ⟨i1, i2⟩, _⟩ := hh
  obtain ⟨S, hS⟩ : ∃ S : Nat, x.states = (S : Int) := ⟨x.states.toNat, by omega⟩
  obtain ⟨I, hI⟩ : ∃ I : Nat, x.inputs = (I : Int) := ⟨x.inputs.toNat, by omega⟩
  refine w42 ?_
  unfold n42
  ((with_reducible (refine box_a (by assumption) fun i h z p m => ?_; refine mv_i ?_; refine mv_i ?_; refine mv_i ?_)))
  refine loop1 S (fun k h2 => h = h2 ∧ ∀ s, s < k → ∀ i : Nat, i < I → 0 ≤ idxOf (atS (s : Int) (i : Int)) x.steps) ⟨rfl, fun j hj => by omega⟩ ?_
  rintro k _ _ hk ⟨rfl, hJ⟩
  ((with_reducible (refine mv_i ?_; refine fao ?_));
      (refine ldo (by assumption) (q := by infer_instance) (by with_unfolding_all rfl) ?_);
      (with_reducible (refine lss_i (fun hc => ?_) (fun hc => ?_); refine cnd_t ?_; refine mv_i ?_));
      (rotate_left);
      (with_reducible (refine cnd_f ?_; refine mv_i ?_; refine mv_i ?_; refine ret2 ?_));
      (rotate_left))
  · refine loop1 I (fun q h2 => h = h2 ∧ ∀ i : Nat, i < q → 0 ≤ idxOf (atS (k : Int) (i : Int)) x.steps) ⟨rfl, fun j hj => by omega⟩ ?_
    rintro q _ _ hq ⟨rfl, hJ2⟩
    ((with_reducible (refine mv_i ?_; refine fao ?_));
        (refine ldo (by assumption) (q := by infer_instance) (by with_unfolding_all rfl) ?_);
        (with_reducible (refine lss_i (fun hc => ?_) (fun hc => ?_); refine cnd_t ?_));
        (refine ldo_w (by assumption) (by infer_instance) (by with_unfolding_all rfl) ?_);
        (with_reducible (refine mv_i ?_; refine mv_i ?_));
        (refine call_r (c74 ⟨_, by with_unfolding_all rfl, L.up (by assumption)⟩ _ _) ?_);
        (with_reducible (refine eql_i (fun hc => ?_) (fun hc => ?_); refine cnd_t ?_; refine mv_i ?_; refine mv_i ?_; refine mv_i ?_; refine ret2 ?_));
        (rotate_left);
        (with_reducible (refine cnd_f ?_; refine mv_i ?_; refine inc_i (by omega) ?_; refine mv_i ?_));
        (rotate_left);
        (with_reducible (refine cnd_f ?_; refine mv_i ?_; refine inc_i (by omega) ?_; refine mv_i ?_));
        (rotate_left))
    · refine ⟨⟨(k : Int), ?_⟩, Mem.pre (by assumption)⟩
      rw [if_neg]
      intro ho
      have := ho k (by omega) q (by omega)
      omega
    · refine next1 (by omega) ⟨rfl, fun i hi => ?_⟩
      by_cases e : i = q
      · subst e
        rcases idxOf_spec (atS (k : Int) (i : Int)) x.steps with ⟨e1, _⟩ | ⟨_, _, e1, _⟩ <;> omega
      · exact hJ2 i (by omega)
    · refine next1 (by omega) ⟨rfl, fun s hs i hi => ?_⟩
      by_cases e : s = k
      · subst e; exact hJ2 i (by omega)
      · exact hJ s (by omega) i hi
  · refine ⟨⟨(0 : Int), ?_⟩, Mem.pre (by assumption)⟩
    rw [if_pos]
    intro s hs i hi
    exact hJ s (by omega) i (by omega)
/-! ### a machine's error in this chapter -/
open Classical in
noncomputable def errM (x : Mach) : Int := if (chkM x).2 ≠ 0 then (chkM x).2 else if 12 < x.states then 2 else if opn x then 0 else 39
theorem c41 {v : Value} {x : Mach} (s : MacV g v x) : Runs Try.prog 41 [v] g (.int .i64 (chkM x).2) g := by
  obtain ⟨tv, rfl, s⟩ := s
  have m := Mem.start g
  refine DetP.forget rfl ?_
  refine w41 ?_
  unfold n41
  ((with_reducible (refine box_a (by assumption) fun i h z p m => ?_; refine mv_i ?_));
      (refine ldo_w (by assumption) (by infer_instance) (by with_unfolding_all rfl) ?_);
      (refine call_r (c73 ⟨_, by with_unfolding_all rfl, L.up (by assumption)⟩) ?_);
      (with_reducible (refine mv_i ?_)))
  unfold mk2
  ((with_reducible (refine ex2_0 ?_; refine ex2_1 ?_; refine mv_i ?_; refine mv_i ?_; refine mv_i ?_; refine mv_i ?_; refine ret1 ?_)))
  exact ⟨rfl, Mem.pre (by assumption)⟩
open Classical in
theorem c12 {v : Value} {x : Mach} (s : MacV g v x) : Runs Try.prog 12 [v] g (.int .i64 (errM x)) g := by
  obtain ⟨tv, rfl, s⟩ := s
  have m := Mem.start g
  refine DetP.forget rfl ?_
  refine w12 ?_
  unfold n12
  by_cases h1 : (chkM x).2 = 0
  · by_cases h2 : 12 < x.states
    · have e : errM x = 2 := by rw [errM, if_neg (by simpa using h1), if_pos h2]
      ((with_reducible (refine box_a (by assumption) fun i h z p m => ?_; refine mv_i ?_));
          (refine ldo_w (by assumption) (by infer_instance) (by with_unfolding_all rfl) ?_);
          (refine call_r (c41 ⟨_, by with_unfolding_all rfl, L.up (by assumption)⟩) ?_);
          (with_reducible (refine mv_i ?_; refine mv_i ?_; refine neq_h (by first | assumption | decide) ?_; refine cnd_f ?_; refine fao ?_));
          (refine ldo (by assumption) (q := by infer_instance) (by with_unfolding_all rfl) ?_);
          (with_reducible (refine gtr_i (fun hc => ?_) (fun hc => ?_); refine cnd_t ?_; refine mv_i ?_; refine ret1 ?_));
          (rotate_left);
          (with_reducible (refine cnd_f ?_));
          (refine ldo_w (by assumption) (by infer_instance) (by with_unfolding_all rfl) ?_);
          (rotate_left))
      · exact ⟨by rw [e], Mem.pre (by assumption)⟩
      · contradiction
    · have e : errM x = if opn x then 0 else 39 := by rw [errM, if_neg (by simpa using h1), if_neg h2]
      ((with_reducible (refine box_a (by assumption) fun i h z p m => ?_; refine mv_i ?_));
          (refine ldo_w (by assumption) (by infer_instance) (by with_unfolding_all rfl) ?_);
          (refine call_r (c41 ⟨_, by with_unfolding_all rfl, L.up (by assumption)⟩) ?_);
          (with_reducible (refine mv_i ?_; refine mv_i ?_; refine neq_h (by first | assumption | decide) ?_; refine cnd_f ?_; refine fao ?_));
          (refine ldo (by assumption) (q := by infer_instance) (by with_unfolding_all rfl) ?_);
          (with_reducible (refine gtr_i (fun hc => ?_) (fun hc => ?_); refine cnd_t ?_; refine mv_i ?_; refine ret1 ?_));
          (rotate_left);
          (with_reducible (refine cnd_f ?_));
          (refine ldo_w (by assumption) (by infer_instance) (by with_unfolding_all rfl) ?_);
          (rotate_left))
      · contradiction
      · obtain ⟨k, hr⟩ := c42 (g := h) ⟨_, rfl, s.up⟩ (chk_ok h1).1
        refine call_r hr ?_
        ((with_reducible (refine mv_i ?_; refine ex2_0 ?_; refine ex2_1 ?_; refine mv_i ?_; refine mv_i ?_; refine mv_i ?_; refine mv_i ?_; refine ret1 ?_)))
        exact ⟨by rw [e], Mem.pre (by assumption)⟩
  · ((with_reducible (refine box_a (by assumption) fun i h z p m => ?_; refine mv_i ?_));
      (refine ldo_w (by assumption) (by infer_instance) (by with_unfolding_all rfl) ?_);
      (refine call_r (c41 ⟨_, by with_unfolding_all rfl, L.up (by assumption)⟩) ?_);
      (with_reducible (refine mv_i ?_; refine mv_i ?_; refine neq_n (by first | assumption | decide) ?_; refine cnd_t ?_; refine mv_i ?_; refine mv_i ?_; refine ret1 ?_)))
    exact ⟨by rw [errM, if_pos h1], Mem.pre (by assumption)⟩
open Classical in
theorem errM_or (x : Mach) (b1 b2 : Bool) (h1 : b1 = decide (x.states ≤ 12)) (h2 : b2 = decide ((x.steps.length : Int) = IntKind.i64.wrap (x.states * x.inputs))) : orOf [(chkM x).2, unl b1 2, unl b2 39] = errM x := by
  subst h1 h2
  rw [orOf_cons, orOf_cons, orOf_cons, orOf_nil]
  unfold errM
  by_cases h0 : (chkM x).2 = 0
  · have hp := prod_bd (chk_ok h0).1
    rw [wrap_i (by omega) (by omega)]
    simp only [h0, ne_eq, not_true, if_false, if_true]
    have ho := opn_iff h0
    unfold unl
    by_cases h3 : x.states ≤ 12
    · have : ¬ 12 < x.states := by omega
      by_cases h4 : opn x
      · have := ho.mp h4
        simp [h3, h4, this, *]
      · have h5 : ¬ (x.steps.length : Int) = x.states * x.inputs := fun q => h4 (ho.mpr q)
        simp [h3, h4, h5, *]
    · have : 12 < x.states := by omega
      simp [h3, this]
  · rw [if_neg h0, if_pos h0]
theorem c43 {v : Value} {x : Mach} (s : MacV g v x) : Runs Try.prog 43 [v] g (.int .i64 (errM x)) g := by
  obtain ⟨tv, rfl, s⟩ := s
  have lt := s.lt
  have m := Mem.start g
  refine DetP.forget rfl ?_
  refine w43 ?_
  unfold n43
  ((with_reducible (refine box_a (by assumption) fun i h z p m => ?_; refine mv_i ?_));
      (refine ldo_w (by assumption) (by infer_instance) (by with_unfolding_all rfl) ?_);
      (refine call_r (c75 ⟨_, by with_unfolding_all rfl, L.up (by assumption)⟩) ?_);
      (with_reducible (refine mv_i ?_)))
  unfold mk2
  ((with_reducible (refine ex2_0 ?_; refine ex2_1 ?_; refine mv_i ?_; refine mv_i ?_; refine mv_i ?_; refine fao ?_));
      (refine ldo (by assumption) (q := by infer_instance) (by with_unfolding_all rfl) ?_);
      (refine vb_n (by with_unfolding_all rfl) ?_);
      (with_reducible (refine leq_i (fun hc => ?_) (fun hc => ?_)));
      (refine calld_r (c77 _ _) ?_);
      (with_reducible (refine new_n ?_; refine fao ?_));
      (refine ldo (by assumption) (q := by infer_instance) (by with_unfolding_all rfl) ?_);
      (with_reducible (refine vb_l (by assumption) ?_; refine len_g (by assumption) ?_; refine fao ?_));
      (refine ldo (by assumption) (q := by infer_instance) (by with_unfolding_all rfl) ?_);
      (refine vb_n (by with_unfolding_all rfl) ?_);
      (with_reducible (refine fao ?_));
      (refine ldo (by assumption) (q := by infer_instance) (by with_unfolding_all rfl) ?_);
      (refine vb_n (by with_unfolding_all rfl) ?_);
      (rotate_left);
      (refine calld_r (c77 _ _) ?_);
      (with_reducible (refine new_n ?_; refine fao ?_));
      (refine ldo (by assumption) (q := by infer_instance) (by with_unfolding_all rfl) ?_);
      (with_reducible (refine vb_l (by assumption) ?_; refine len_g (by assumption) ?_; refine fao ?_));
      (refine ldo (by assumption) (q := by infer_instance) (by with_unfolding_all rfl) ?_);
      (refine vb_n (by with_unfolding_all rfl) ?_);
      (with_reducible (refine fao ?_));
      (refine ldo (by assumption) (q := by infer_instance) (by with_unfolding_all rfl) ?_);
      (refine vb_n (by with_unfolding_all rfl) ?_);
      (rotate_left))
  all_goals
    refine mul_w ?_
    (repeat' (first|((with_reducible refine is_callf 48 ?_); refine call_r (c48 _ _ _) ?_)|((with_reducible refine is_calldf 48 ?_); refine calld_r (c48 _ _ _) ?_)|((with_reducible refine is_callf 53 ?_); refine call_r (c53 _ _ _) ?_)|((with_reducible refine is_calldf 53 ?_); refine calld_r (c53 _ _ _) ?_)|((with_reducible refine is_callf 96 ?_); refine call_r (c96 _ _ _) ?_)|((with_reducible refine is_calldf 96 ?_); refine calld_r (c96 _ _ _) ?_)|((with_reducible refine is_callf 72 ?_); refine call_r c72t ?_)|((with_reducible refine is_calldf 72 ?_); refine calld_r c72t ?_)|((with_reducible refine is_callf 72 ?_); refine call_r c72f ?_)|((with_reducible refine is_calldf 72 ?_); refine calld_r c72f ?_)|((with_reducible refine is_callf 72 ?_); refine call_r (c72 _) ?_)|((with_reducible refine is_calldf 72 ?_); refine calld_r (c72 _) ?_)|((with_reducible refine is_callf 77 ?_); refine call_r (c77 _ _) ?_)|((with_reducible refine is_calldf 77 ?_); refine calld_r (c77 _ _) ?_)|((with_reducible refine is_callf 91 ?_); refine call_r (c91 _ _) ?_)|((with_reducible refine is_calldf 91 ?_); refine calld_r (c91 _ _) ?_)|((with_reducible refine is_callf 107 ?_); refine call_r (c107 _) ?_)|((with_reducible refine is_calldf 107 ?_); refine calld_r (c107 _) ?_)|((with_reducible refine is_callf 81 ?_); refine call_r (c81 _ _) ?_)|((with_reducible refine is_calldf 81 ?_); refine calld_r (c81 _ _) ?_)|((with_reducible refine is_callf 76 ?_); refine call_r (c76 (own_ints (xs := [_, _, _]) (by assumption) (q := by infer_instance) rfl rfl (by decide))) ?_)|((with_reducible refine is_calldf 76 ?_); refine calld_r (c76 (own_ints (xs := [_, _, _]) (by assumption) (q := by infer_instance) rfl rfl (by decide))) ?_)|((with_reducible refine is_callf 80 ?_); refine call_r (c80 (own_ints (xs := [_, _, _]) (by assumption) (q := by infer_instance) rfl rfl (by decide))) ?_)|((with_reducible refine is_calldf 80 ?_); refine calld_r (c80 (own_ints (xs := [_, _, _]) (by assumption) (q := by infer_instance) rfl rfl (by decide))) ?_)|((with_reducible refine is_callf 80 ?_); refine call_r (c80 (own_ints (xs := [_, _]) (by assumption) (q := by infer_instance) rfl rfl (by decide))) ?_)|((with_reducible refine is_calldf 80 ?_); refine calld_r (c80 (own_ints (xs := [_, _]) (by assumption) (q := by infer_instance) rfl rfl (by decide))) ?_)|((with_reducible refine is_callf 46 ?_); refine call_r (c46 _ _) ?_)|((with_reducible refine is_calldf 46 ?_); refine calld_r (c46 _ _) ?_)|((with_reducible refine is_callf 49 ?_); refine call_r (c49 _ _) ?_)|((with_reducible refine is_calldf 49 ?_); refine calld_r (c49 _ _) ?_)|((with_reducible refine is_callf 54 ?_); refine call_r (c54 (own_ints (xs := [_, _]) (by assumption) (q := by infer_instance) rfl rfl (by decide)) (own_ints (xs := [_, _]) (by assumption) (q := by infer_instance) rfl rfl (by decide))) ?_)|((with_reducible refine is_calldf 54 ?_); refine calld_r (c54 (own_ints (xs := [_, _]) (by assumption) (q := by infer_instance) rfl rfl (by decide)) (own_ints (xs := [_, _]) (by assumption) (q := by infer_instance) rfl rfl (by decide))) ?_)|((with_reducible refine is_callf 74 ?_); refine call_r (c74 ⟨_, by with_unfolding_all rfl, L.up (by assumption)⟩ _ _) ?_)|((with_reducible refine is_calldf 74 ?_); refine calld_r (c74 ⟨_, by with_unfolding_all rfl, L.up (by assumption)⟩ _ _) ?_)|((with_reducible refine is_callf 73 ?_); refine call_r (c73 ⟨_, by with_unfolding_all rfl, L.up (by assumption)⟩) ?_)|((with_reducible refine is_callf 75 ?_); refine call_r (c75 ⟨_, by with_unfolding_all rfl, L.up (by assumption)⟩) ?_)|((with_reducible refine is_callf 41 ?_); refine call_r (c41 ⟨_, by with_unfolding_all rfl, L.up (by assumption)⟩) ?_)|((with_reducible refine is_rl1 ?_); first|(refine rt_w1 (by assumption) (by infer_instance) (by with_unfolding_all rfl) ?_)|(refine rt_11 (by assumption) (by infer_instance) (by with_unfolding_all rfl) ?_))|((with_reducible refine is_rl2 ?_); first|(refine rt_w2 (by assumption) (by infer_instance) (by with_unfolding_all rfl) ?_)|(refine rt_12 (by assumption) (by infer_instance) (by with_unfolding_all rfl) ?_))|((with_reducible refine is_vk ?_); first|(with_reducible refine not_dh (by assumption) ?_)|(with_reducible refine not_dn (by assumption) ?_)|(with_reducible refine not_d (fun hb => ?_) (fun hb => ?_))|(with_reducible refine pick_dh (by assumption) ?_)|(with_reducible refine pick_dn (by assumption) ?_)|(with_reducible refine pick_d (fun hb => ?_) (fun hb => ?_))|(with_reducible refine len_o (by assumption) ?_)|(with_reducible refine nil_i ?_)|(with_reducible refine ex2_0 ?_)|(with_reducible refine ex2_1 ?_)|(with_reducible refine ex3_0 ?_)|(with_reducible refine ex3_1 ?_)|(with_reducible refine ex3_2 ?_)|(with_reducible refine pick_t ?_)|(with_reducible refine pick_f ?_)|(with_reducible refine not_t ?_)|(with_reducible refine not_f ?_)|(with_reducible refine pick_h (by assumption) ?_)|(with_reducible refine pick_n (by assumption) ?_)|(with_reducible refine not_h (by assumption) ?_)|(with_reducible refine not_n (by assumption) ?_)|(with_reducible refine not_s (fun hb => ?_) (fun hb => ?_))|(with_reducible refine pick_s (fun hb => ?_) (fun hb => ?_))|(with_reducible refine len_g (by assumption) ?_)|(with_reducible refine slen_i ?_)|(with_reducible refine len_s ?_)|(refine fld_g (by with_unfolding_all rfl) ?_)|(with_reducible refine leni_t (by assumption) ?_))|((with_reducible refine is_gd ?_); first|(with_reducible refine gd_dht (by assumption) ?_)|(with_reducible refine gd_dnt (by assumption) ?_)|(with_reducible refine gd_dhf (by assumption) ?_)|(with_reducible refine gd_dnf (by assumption) ?_)|(with_reducible refine gd_dt (fun hb => ?_) (fun hb => ?_))|(with_reducible refine gd_df (fun hb => ?_) (fun hb => ?_))|(with_reducible refine gd_tt ?_)|(with_reducible refine gd_ff ?_)|(with_reducible refine gd_tf ?_)|(with_reducible refine gd_ft ?_)|(with_reducible refine gd_u ?_)|(with_reducible refine gd_ht (by assumption) ?_)|(with_reducible refine gd_hf (by assumption) ?_)|(with_reducible refine gd_nt (by assumption) ?_)|(with_reducible refine gd_nf (by assumption) ?_)|(with_reducible refine gd_st (fun hb => ?_) (fun hb => ?_))|(with_reducible refine gd_sf (fun hb => ?_) (fun hb => ?_)))|((with_reducible refine is_cnd ?_); first|(with_reducible refine cnd_dh (by assumption) ?_)|(with_reducible refine cnd_dn (by assumption) ?_)|(with_reducible refine cnd_d (fun hb => ?_) (fun hb => ?_))|(with_reducible refine cnd_t ?_)|(with_reducible refine cnd_f ?_)|(with_reducible refine cnd_h (by assumption) ?_)|(with_reducible refine cnd_n (by assumption) ?_)|(with_reducible refine cnd_b (fun hb => ?_) (fun hb => ?_)))|((with_reducible refine is_bin ?_); first|(with_reducible refine sub_a (by assumption) (by decide) (by decide) ?_)|(with_reducible refine snil_i (fun hn => ?_) (fun hn => ?_))|(with_reducible refine prq_i (fun hc => ?_) (fun hc => ?_))|(refine mul_j (by omega) (by omega) ?_)|(with_reducible refine eql_h (by first | assumption | decide) ?_)|(with_reducible refine eql_n (by first | assumption | decide) ?_)|(with_reducible refine neq_h (by first | assumption | decide) ?_)|(with_reducible refine neq_n (by first | assumption | decide) ?_)|(with_reducible refine lss_i (fun hc => ?_) (fun hc => ?_))|(with_reducible refine leq_i (fun hc => ?_) (fun hc => ?_))|(with_reducible refine gtr_i (fun hc => ?_) (fun hc => ?_))|(with_reducible refine geq_i (fun hc => ?_) (fun hc => ?_))|(with_reducible refine eql_i (fun hc => ?_) (fun hc => ?_))|(with_reducible refine neq_i (fun hc => ?_) (fun hc => ?_))|(with_reducible refine seq_s (fun hc => ?_) (fun hc => ?_))|(with_reducible refine sne_s (fun hc => ?_) (fun hc => ?_))|(with_reducible refine sls_i ?_)|(with_reducible refine inc_i (by omega) ?_)|(with_reducible refine sub_j (by omega) (by omega) ?_)|(with_reducible refine add_j (by omega) (by omega) ?_))|((with_reducible refine is_six ?_); first|(with_reducible refine sidx_0 (by omega) ?_))|((with_reducible refine is_idx ?_); first|(refine ia_g (by assumption) (by omega) (by omega) fun p hp => ?_)|(refine ia_o (by omega) (by omega) ?_)|(refine idx_d (by assumption) (by with_unfolding_all rfl) (by omega) fun p hp => ?_)|(refine idx_dp (by assumption) (by with_unfolding_all rfl) (by omega) (by omega) fun p hp => ?_)|(refine idx_dz (by assumption) (by with_unfolding_all rfl) (by omega) (by omega) fun p hp => ?_)|(refine idx_f (by assumption) (by with_unfolding_all rfl) (by omega) fun p hp => ?_)|(refine idx_fz (by assumption) (by with_unfolding_all rfl) (by omega) (by omega) fun p hp => ?_)|(refine idxi_t (by assumption) (by omega) ?_)|(refine idx_o (by assumption) (by omega) ?_)|(refine idx_oz (by assumption) (by omega) (by omega) ?_))|((with_reducible refine is_fa ?_); first|(with_reducible refine fa_g (by assumption) fun p hp => ?_)|(with_reducible refine fao_e ?_)|(with_reducible refine fao ?_))|((with_reducible refine is_ldo ?_); first|(refine ldo (by assumption) (q := by infer_instance) (by with_unfolding_all rfl) ?_)|(refine ldo_w (by assumption) (by infer_instance) (by with_unfolding_all rfl) ?_)|(refine ldor (by assumption) (q := by infer_instance) (by with_unfolding_all rfl) (by with_unfolding_all exact Nat.le_refl _) ?_)|(refine ldf_d (by assumption) (by infer_instance) (by with_unfolding_all rfl) (by omega) (by with_unfolding_all exact Nat.le_of_ble_eq_true rfl) (by with_unfolding_all rfl) ?_)|(refine ldw_d (by assumption) (by infer_instance) (by with_unfolding_all rfl) (by omega) ?_))|((with_reducible refine is_ld ?_); first|(refine ld_g (by assumption) (by with_unfolding_all rfl) ?_)|(refine ldr_w (by assumption) (by with_unfolding_all rfl) ?_)|(refine ldr_g (by assumption) (by with_unfolding_all rfl) (by with_unfolding_all exact Nat.le_refl _) ?_)|(refine ldi_t (by assumption) (by omega) ?_))|((with_reducible refine is_box ?_); first|(with_reducible refine box_a (by assumption) fun i h z p m => ?_)|(refine box_1 (by assumption) (by with_unfolding_all rfl) fun i h z p m => ?_))|((with_reducible refine is_ok ?_); first|(with_reducible refine alloc_z (by assumption) fun i h z p m => ?_))|((with_reducible refine is_st ?_); first|(refine sto (by assumption) (q := by infer_instance) (by with_unfolding_all exact Nat.le_of_ble_eq_true rfl) rfl rfl (u := by infer_instance) fun h p m => ?_)|(refine st_w (by assumption) (by infer_instance) (by with_unfolding_all rfl) (by with_unfolding_all rfl) (by first | rfl | exact flat_ones (Flat.flat _)) (by infer_instance) fun h p m => ?_)|(refine stw_o (by assumption) (by infer_instance) (by with_unfolding_all rfl) (by omega) (by infer_instance) fun h p m => ?_))|((with_reducible refine is_new ?_); first|(with_reducible refine new_n ?_)|(with_reducible refine new_p (by assumption) ?_))|((with_reducible refine is_pd ?_); first|(refine pd_p (by assumption) (by with_unfolding_all rfl) ?_)|(refine pd_c (by assumption) (by infer_instance) (by with_unfolding_all rfl) ?_)|(refine pd_o (by assumption) (by infer_instance) (by with_unfolding_all rfl) ?_))|((with_reducible refine is_vb ?_); first|(refine vb_mac (by assumption) ?_)|(with_reducible refine vb_f ?_)|(refine vb_n (by with_unfolding_all rfl) ?_)|(with_reducible refine vb_l (by assumption) ?_)|(refine vb_as rfl (by assumption) ?_)|(refine vb_ao rfl (by assumption) (by assumption) (by infer_instance) ?_)|(refine IsSl.vb (by assumption) (by assumption) (by infer_instance) ?_))|((with_reducible refine is_tru ?_); first|(with_reducible refine ⟨trivial, ?_⟩))|((with_reducible refine is_ret ?_); first|(with_reducible refine ret1 ?_)|(with_reducible refine ret2 ?_)|(with_reducible refine ret3 ?_)|(with_reducible refine ret0 ?_))|((with_reducible refine is_bld ?_); first|(refine vk_i (bd24_z) ?_)|(refine vk_i (bd77_01 _ _) ?_))|((with_reducible refine is_bsl ?_); first|(refine bs_g (bs36_0 _) (by assumption) fun i h p m => ?_)|(refine bs_g (bs22_0 _) (by assumption) fun i h p m => ?_)|(refine bs_g (bs51_1 _ _ _ _) (by assumption) fun i h p m => ?_)|(refine bs_g (bs27_0 _) (by assumption) fun i h p m => ?_)|(refine bs_g (bs53_2 _ _ _) (by assumption) fun i h p m => ?_)|(refine bs_g (bs141_3 _ _ _ _) (by assumption) fun i h p m => ?_)|(refine bs_g (bs53_3 _ _ _ _) (by assumption) fun i h p m => ?_)|(refine bs_g (bs53_1 _ _) (by assumption) fun i h p m => ?_))|(with_reducible refine mv_i ?_)|(with_reducible refine seq_i ?_)|((with_reducible refine fun (_ : Tmps) => ?_); (try dsimp only [nth]))))
  all_goals
    refine ⟨?_, Mem.pre (by assumption)⟩
    rw [errM_or x _ _ (by first | exact (decide_eq_true (by assumption)).symm | exact (decide_eq_false (by assumption)).symm) (by first | exact (decide_eq_true (by assumption)).symm | exact (decide_eq_false (by assumption)).symm)]
end Go.Proofs.Ytomiejfeclefaaa

set_option linter.unusedSimpArgs false
set_option linter.unusedVariables false
set_option linter.unnecessarySimpa false
set_option maxRecDepth 100000
set_option maxHeartbeats 4000000
namespace Go.Proofs.Ytomiejfeclefaaa
open Go.AM
variable {h g : Heap}
/-! ### searches -/
def com (xs ys : List Int) : Bool := decide (0 ≤ idxOf (fun n => decide (0 ≤ idxOf (fun t => decide (n = t)) ys)) xs)
/-! ### what mutations change -/
def tgs (m : Mut) : List Int := if m.kind = 0 then [] else if m.kind = 1 then [m.step] else if m.kind = 2 then [] else [m.step, m.to]
def ous (m : Mut) : List Int := if m.kind = 0 then [m.step] else []
def sms (m : Mut) : Bool := if m.kind = 0 then false else if m.kind = 1 then false else decide (m.kind = 2)
def meetS (a b : Mut) : Bool := com (tgs a) (tgs b) || (com (ous a) (ous b) || (sms a && sms b))
/-! ### the parts of a mutation -/
def within (lo n hi : Int) : Prop := lo ≤ n ∧ n ≤ hi
def rightS (x : Mach) (m : Mut) : Prop :=
  if m.kind = 0 then (0 ≤ m.step ∧ m.step ≤ x.steps.length - 1) ∧ (0 ≤ m.to ∧ m.to ≤ x.outputs - 1)
  else if m.kind = 1 then (0 ≤ m.step ∧ m.step ≤ x.steps.length - 1) ∧ (0 ≤ m.to ∧ m.to ≤ x.states - 1)
  else if m.kind = 2 then m.step = 0 ∧ (0 ≤ m.to ∧ m.to ≤ x.states - 1)
  else (0 ≤ m.step ∧ m.step ≤ x.steps.length - 1) ∧ (0 ≤ m.to ∧ m.to ≤ x.steps.length - 1)
instance (x : Mach) (m : Mut) : Decidable (rightS x m) := by unfold rightS; infer_instance
end Go.Proofs.Ytomiejfeclefaaa

set_option linter.unusedSimpArgs false
set_option linter.unusedVariables false
set_option linter.unnecessarySimpa false
set_option maxRecDepth 100000
set_option maxHeartbeats 4000000
namespace Go.Proofs.Ytomiejfeclefaaa
open Go.AM
variable {h g : Heap}
/-! ### a mutant's error -/
def ordS (l : List Mut) (k : Nat) : Prop := (k = 0 ∨ cmpM (gt l (k - 1)) (gt l k) < 0) ∧ ((gt l k).kind ≠ 3 ∨ (gt l k).step < (gt l k).to)
instance (l : List Mut) (k : Nat) : Decidable (ordS l k) := by unfold ordS; infer_instance
def agn (l : List Mut) (k : Nat) : Prop := 0 ≤ idxOf (fun o => meetS o (gt l k)) (l.take k)
instance (l : List Mut) (k : Nat) : Decidable (agn l k) := by unfold agn; infer_instance
def muE (x : Mach) (l : List Mut) (k : Nat) : Int :=
  if ¬ (0 ≤ (gt l k).kind ∧ (gt l k).kind ≤ 3) then 4 else if ¬ rightS x (gt l k) then 3 else if ¬ ordS l k then 14 else if agn l k then 13 else 0
def mutE (x : Mach) (l : List Mut) : Nat × Int := if 4 < l.length then (0, 2) else firstErr (muE x l) l.length
end Go.Proofs.Ytomiejfeclefaaa

set_option linter.unusedSimpArgs false
set_option linter.unusedVariables false
set_option linter.unnecessarySimpa false
set_option maxRecDepth 100000
set_option maxHeartbeats 4000000
namespace Go.Proofs.Ytomiejfeclefaaa
open Go.AM
variable {h g : Heap}
/-! ### the reference's error of a mutant -/
theorem c89 {x : Value} {xs : List Int} (s : L g x xs) (z : Int) : Runs Try.prog 89 [x, .int .i64 z] g (.bool (decide (z ∈ xs))) g := by
  have lt := s.lt
  refine DetP.runs (w89 ?_)
  unfold n89
  ((with_reducible (refine mv_i ?_; refine mv_i ?_)))
  refine loop1 xs.length (fun k h2 => g = h2 ∧ ∀ j, j < k → gt xs j ≠ z) ⟨rfl, fun j hj => by omega⟩ ?_
  rintro k _ _ hk ⟨rfl, hJ⟩
  ((with_reducible (refine mv_i ?_; refine mv_i ?_; refine len_g (by assumption) ?_; refine lss_i (fun hc => ?_) (fun hc => ?_); refine cnd_t ?_; refine mv_i ?_; refine mv_i ?_));
      (refine idx_d (by assumption) (by with_unfolding_all rfl) (by omega) fun p hp => ?_);
      (refine ld_g (by assumption) (by with_unfolding_all rfl) ?_);
      (with_reducible (refine mv_i ?_; refine eql_i (fun hc => ?_) (fun hc => ?_); refine cnd_t ?_; refine mv_i ?_; refine ret1 ?_));
      (rotate_left);
      (with_reducible (refine cnd_f ?_; refine mv_i ?_; refine inc_i (by omega) ?_; refine mv_i ?_));
      (rotate_left);
      (with_reducible (refine cnd_f ?_; refine mv_i ?_; refine ret1 ?_));
      (rotate_left))
  · refine ⟨?_, rfl⟩
    rw [decide_eq_true]
    rw [← hc]
    exact gd_mem _ (by omega)
  · refine next1 (by omega) ⟨rfl, fun j hj => ?_⟩
    by_cases q : j = k
    · subst q; assumption
    · exact hJ j (by omega)
  · refine ⟨?_, rfl⟩
    rw [decide_eq_false]
    intro hm
    obtain ⟨j, hj, e⟩ := mem_gd Df.d hm
    exact hJ j (by omega) e
theorem c59 (t : Mut) : DetP Try.prog 59 [fv t] g fun v' h' => g <+: h' ∧ L h' v' [t.kind, t.step, t.to] := by
  refine DetP.freeze ?_
  have m := Mem.start g
  refine w59 ?_
  unfold n59
  ((with_reducible (refine box_a (by assumption) fun i h z p m => ?_; refine mv_i ?_; refine fao ?_));
      (refine ldo (by assumption) (q := by infer_instance) (by with_unfolding_all rfl) ?_);
      (with_reducible (refine fao ?_));
      (refine ldo (by assumption) (q := by infer_instance) (by with_unfolding_all rfl) ?_);
      (with_reducible (refine fao ?_));
      (refine ldo (by assumption) (q := by infer_instance) (by with_unfolding_all rfl) ?_);
      (refine bs_g (bs141_3 _ _ _ _) (by assumption) fun i h p m => ?_);
      (with_reducible (refine mv_i ?_; refine ret1 ?_)))
  exact ⟨m.pre, ret_flat (xs := [t.kind, t.step, t.to]) (k := 0) m rfl (by simp) (.inr (by simp))⟩
def tgR (m : Mut) : List Int := if m.kind = 3 then [m.step, m.to] else [m.step]
theorem c88 (t : Mut) : DetP Try.prog 88 [fv t] g fun v' h' => g <+: h' ∧ L h' v' (tgR t) := by
  refine DetP.freeze ?_
  have m := Mem.start g
  refine w88 ?_
  unfold n88
  ((with_reducible (refine box_a (by assumption) fun i h z p m => ?_; refine mv_i ?_; refine fao ?_));
      (refine ldo (by assumption) (q := by infer_instance) (by with_unfolding_all rfl) ?_);
      (with_reducible (refine eql_i (fun hc => ?_) (fun hc => ?_); refine cnd_t ?_; refine fao ?_));
      (refine ldo (by assumption) (q := by infer_instance) (by with_unfolding_all rfl) ?_);
      (with_reducible (refine fao ?_));
      (refine ldo (by assumption) (q := by infer_instance) (by with_unfolding_all rfl) ?_);
      (refine bs_g (bs53_2 _ _ _) (by assumption) fun i h p m => ?_);
      (with_reducible (refine mv_i ?_; refine ret1 ?_));
      (rotate_left);
      (with_reducible (refine cnd_f ?_; refine fao ?_));
      (refine ldo (by assumption) (q := by infer_instance) (by with_unfolding_all rfl) ?_);
      (refine bs_g (bs53_1 _ _) (by assumption) fun i h p m => ?_);
      (with_reducible (refine mv_i ?_; refine ret1 ?_));
      (rotate_left))
  · rw [show tgR t = [t.step, t.to] by simp [tgR, *]]
    exact ⟨m.pre, ret_flat (xs := [t.step, t.to]) (k := 0) m rfl (by simp) (.inr (by simp))⟩
  · rw [show tgR t = [t.step] by simp [tgR, *]]
    exact ⟨m.pre, ret_flat (xs := [t.step]) (k := 0) m rfl (by simp) (.inr (by simp))⟩
def clS (a b : Mut) : Prop :=
  if a.kind = 0 ∨ b.kind = 0 then a.kind = b.kind ∧ a.step = b.step else if a.kind = 2 ∨ b.kind = 2 then a.kind = b.kind else ∃ z ∈ tgR a, z ∈ tgR b
theorem cl0 {a b : Mut} (h : a.kind = 0 ∨ b.kind = 0) : clS a b ↔ (a.kind = b.kind ∧ a.step = b.step) := by rw [clS, if_pos h]
theorem cl2 {a b : Mut} (h1 : ¬ a.kind = 0) (h2 : ¬ b.kind = 0) (h : a.kind = 2 ∨ b.kind = 2) : clS a b ↔ a.kind = b.kind := by rw [clS, if_neg (by rintro (q | q) <;> contradiction), if_pos h]
theorem cl3 {a b : Mut} (h1 : ¬ a.kind = 0) (h2 : ¬ b.kind = 0) (h3 : ¬ a.kind = 2) (h4 : ¬ b.kind = 2) : clS a b ↔ ∃ z ∈ tgR a, z ∈ tgR b := by rw [clS, if_neg (by rintro (q | q) <;> contradiction), if_neg (by rintro (q | q) <;> contradiction)]
open Classical in
theorem c60 (a b : Mut) : Runs Try.prog 60 [fv a, fv b] g (.bool (decide (clS a b))) g := by
  have m := Mem.start g
  refine DetP.forget rfl ?_
  refine w60 ?_
  unfold n60
  ((with_reducible (refine box_a (by assumption) fun i h z p m => ?_; refine box_a (by assumption) fun i h z p m => ?_; refine mv_i ?_; refine fao ?_));
      (refine ldo (by assumption) (q := by infer_instance) (by with_unfolding_all rfl) ?_);
      (with_reducible (refine eql_i (fun hc => ?_) (fun hc => ?_); refine mv_i ?_; refine gd_tf ?_; refine gd_tf ?_; refine gd_tf ?_; refine pick_t ?_; refine cnd_t ?_; refine fao ?_));
      (refine ldo (by assumption) (q := by infer_instance) (by with_unfolding_all rfl) ?_);
      (with_reducible (refine fao ?_));
      (refine ldo (by assumption) (q := by infer_instance) (by with_unfolding_all rfl) ?_);
      (with_reducible (refine eql_i (fun hc => ?_) (fun hc => ?_); refine mv_i ?_; refine gd_tt ?_; refine fao ?_; refine gd_tt ?_));
      (refine ldo (by assumption) (q := by infer_instance) (by with_unfolding_all rfl) ?_);
      (with_reducible (refine gd_tt ?_; refine fao ?_; refine gd_tt ?_));
      (refine ldo (by assumption) (q := by infer_instance) (by with_unfolding_all rfl) ?_);
      (with_reducible (refine gd_tt ?_; refine eql_i (fun hc => ?_) (fun hc => ?_); refine pick_t ?_; refine mv_i ?_; refine ret1 ?_));
      (rotate_left);
      (with_reducible (refine pick_t ?_; refine mv_i ?_; refine ret1 ?_));
      (rotate_left);
      (with_reducible (refine mv_i ?_; refine gd_ft ?_; refine gd_ft ?_; refine gd_ft ?_; refine gd_ft ?_; refine gd_ft ?_; refine pick_f ?_; refine mv_i ?_; refine ret1 ?_));
      (rotate_left);
      (with_reducible (refine mv_i ?_; refine gd_ff ?_; refine fao ?_; refine gd_ff ?_));
      (refine ldo (by assumption) (q := by infer_instance) (by with_unfolding_all rfl) ?_);
      (with_reducible (refine gd_ff ?_; refine eql_i (fun hc => ?_) (fun hc => ?_); refine pick_f ?_; refine cnd_t ?_; refine fao ?_));
      (refine ldo (by assumption) (q := by infer_instance) (by with_unfolding_all rfl) ?_);
      (with_reducible (refine fao ?_));
      (refine ldo (by assumption) (q := by infer_instance) (by with_unfolding_all rfl) ?_);
      (with_reducible (refine eql_i (fun hc => ?_) (fun hc => ?_); refine mv_i ?_; refine gd_tt ?_; refine fao ?_; refine gd_tt ?_));
      (refine ldo (by assumption) (q := by infer_instance) (by with_unfolding_all rfl) ?_);
      (with_reducible (refine gd_tt ?_; refine fao ?_; refine gd_tt ?_));
      (refine ldo (by assumption) (q := by infer_instance) (by with_unfolding_all rfl) ?_);
      (with_reducible (refine gd_tt ?_; refine eql_i (fun hc => ?_) (fun hc => ?_); refine pick_t ?_; refine mv_i ?_; refine ret1 ?_));
      (rotate_left);
      (with_reducible (refine pick_t ?_; refine mv_i ?_; refine ret1 ?_));
      (rotate_left);
      (with_reducible (refine mv_i ?_; refine gd_ft ?_; refine gd_ft ?_; refine gd_ft ?_; refine gd_ft ?_; refine gd_ft ?_; refine pick_f ?_; refine mv_i ?_; refine ret1 ?_));
      (rotate_left);
      (with_reducible (refine pick_f ?_; refine cnd_f ?_; refine fao ?_));
      (refine ldo (by assumption) (q := by infer_instance) (by with_unfolding_all rfl) ?_);
      (with_reducible (refine eql_i (fun hc => ?_) (fun hc => ?_); refine mv_i ?_; refine gd_tf ?_; refine gd_tf ?_; refine gd_tf ?_; refine pick_t ?_; refine cnd_t ?_; refine fao ?_));
      (refine ldo (by assumption) (q := by infer_instance) (by with_unfolding_all rfl) ?_);
      (with_reducible (refine fao ?_));
      (refine ldo (by assumption) (q := by infer_instance) (by with_unfolding_all rfl) ?_);
      (with_reducible (refine eql_i (fun hc => ?_) (fun hc => ?_); refine mv_i ?_; refine ret1 ?_));
      (rotate_left);
      (with_reducible (refine mv_i ?_; refine ret1 ?_));
      (rotate_left);
      (with_reducible (refine mv_i ?_; refine gd_ff ?_; refine fao ?_; refine gd_ff ?_));
      (refine ldo (by assumption) (q := by infer_instance) (by with_unfolding_all rfl) ?_);
      (with_reducible (refine gd_ff ?_; refine eql_i (fun hc => ?_) (fun hc => ?_); refine pick_f ?_; refine cnd_t ?_; refine fao ?_));
      (refine ldo (by assumption) (q := by infer_instance) (by with_unfolding_all rfl) ?_);
      (with_reducible (refine fao ?_));
      (refine ldo (by assumption) (q := by infer_instance) (by with_unfolding_all rfl) ?_);
      (with_reducible (refine eql_i (fun hc => ?_) (fun hc => ?_); refine mv_i ?_; refine ret1 ?_));
      (rotate_left);
      (with_reducible (refine mv_i ?_; refine ret1 ?_));
      (rotate_left);
      (with_reducible (refine pick_f ?_; refine cnd_f ?_));
      (refine ldo_w (by assumption) (by infer_instance) (by with_unfolding_all rfl) ?_);
      (with_reducible (refine vb_f ?_));
      (rotate_left))
  all_goals first
    | (have e := cl0 (a := a) (b := b) (by first | (left; assumption) | (right; assumption))
       refine ⟨?_, Mem.pre (by assumption)⟩
       first
         | (rw [decide_eq_true (e.mpr ⟨by assumption, by assumption⟩)]; done)
         | (rw [decide_eq_false (fun q => by have := e.mp q; obtain ⟨q1, q2⟩ := this; contradiction)]; done))
    | (have e := cl2 (a := a) (b := b) (by assumption) (by assumption) (by first | (left; assumption) | (right; assumption))
       refine ⟨?_, Mem.pre (by assumption)⟩
       first
         | (rw [decide_eq_true (e.mpr (by assumption))]; done)
         | (rw [decide_eq_false (fun q => absurd (e.mp q) (by assumption))]; done))
    | skip
  have e := cl3 (a := a) (b := b) (by assumption) (by assumption) (by assumption) (by assumption)
  refine calld_d (c88 a) m fun v1 h1 p1 p2 m s1 => ?_
  obtain ⟨b1, q1, rfl, _⟩ := s1.shape
  refine new_p p1 ?_
  ((refine ldo_w (by assumption) (by infer_instance) (by with_unfolding_all rfl) ?_);
      (with_reducible (refine vb_f ?_)))
  refine calld_d (c88 b) m fun v2 h2 p3 p4 m s2 => ?_
  obtain ⟨b2, q2, rfl, _⟩ := s2.shape
  refine new_p p3 ?_
  have hl1 : (tgR a).length ≤ 2 := by unfold tgR; split <;> simp
  ((with_reducible (refine mv_i ?_; refine mv_i ?_; refine mv_i ?_)))
  refine loop1 (tgR a).length (fun k h3 => h2 = h3 ∧ ∀ j, j < k → gt (tgR a) j ∉ tgR b) ⟨rfl, fun j hj => by omega⟩ ?_
  rintro k _ _ hk ⟨rfl, hJ⟩
  ((with_reducible (refine mv_i ?_; refine mv_i ?_; refine len_g (by assumption) ?_; refine lss_i (fun hc => ?_) (fun hc => ?_); refine cnd_t ?_; refine mv_i ?_; refine mv_i ?_; refine mv_i ?_));
      (refine idx_d (by assumption) (by with_unfolding_all rfl) (by omega) fun p hp => ?_);
      (refine ld_g (by assumption) (by with_unfolding_all rfl) ?_);
      (rotate_left);
      (with_reducible (refine cnd_f ?_; refine mv_i ?_; refine ret1 ?_));
      (rotate_left))
  · refine call_r (c89 s2.up _) ?_
    ((with_reducible (refine cnd_d (fun hb => ?_) (fun hb => ?_); refine mv_i ?_; refine ret1 ?_));
        (rotate_left);
        (with_reducible (refine mv_i ?_; refine inc_i (by omega) ?_; refine mv_i ?_));
        (rotate_left))
    · refine ⟨?_, Mem.pre (by assumption)⟩
      rw [decide_eq_true (e.mpr ⟨_, gd_mem Df.d (show k < (tgR a).length by omega), hb⟩)]
    · refine next1 (by omega) ⟨rfl, fun j hj => ?_⟩
      by_cases q : j = k
      · subst q; exact hb
      · exact hJ j (by omega)
  · refine ⟨?_, Mem.pre (by assumption)⟩
    rw [decide_eq_false]
    rw [e]
    rintro ⟨z, h1, h2⟩
    obtain ⟨j, hj, rfl⟩ := mem_gd Df.d h1
    exact hJ j (by omega) h2
theorem c58 {v : Value} {x : Mach} (s : MacV g v x) (hh : headOK x) (t : Mut) : Runs Try.prog 58 [v, fv t] g (.int .i64 (if ¬ (0 ≤ t.kind ∧ t.kind ≤ 3) then 4 else if ¬ rightS x t then 3 else 0)) g := by
  obtain ⟨tv, rfl, s⟩ := s
  have lt := s.lt
  obtain ⟨a1, a2, a3, a4⟩ := hh
  have m := Mem.start g
  refine DetP.forget rfl ?_
  refine w58 ?_
  unfold n58
  by_cases hk : 0 ≤ t.kind ∧ t.kind ≤ 3
  · have hk2 : t.kind = 0 ∨ t.kind = 1 ∨ t.kind = 2 ∨ t.kind = 3 := by omega
    rcases hk2 with e | e | e | e
    · have n2 : ¬ t.kind = 2 := by omega
      have n3 : ¬ t.kind = 3 := by omega
      ((with_reducible (refine box_a (by assumption) fun i h z p m => ?_; refine box_a (by assumption) fun i h z p m => ?_; refine mv_i ?_; refine fao ?_));
          (refine ldo (by assumption) (q := by infer_instance) (by with_unfolding_all rfl) ?_);
          (refine call_r (c53 _ _ _) ?_);
          (with_reducible (refine not_dh (by assumption) ?_; refine cnd_f ?_; refine fao ?_));
          (refine ldo (by assumption) (q := by infer_instance) (by with_unfolding_all rfl) ?_);
          (with_reducible (refine vb_l (by assumption) ?_; refine len_g (by assumption) ?_; refine sub_j (by omega) (by omega) ?_; refine fao ?_));
          (refine ldo (by assumption) (q := by infer_instance) (by with_unfolding_all rfl) ?_);
          (refine vb_n (by with_unfolding_all rfl) ?_);
          (with_reducible (refine sub_a (by assumption) (by decide) (by decide) ?_; refine mv_i ?_; refine mv_i ?_; refine seq_i ?_; refine fao ?_));
          (refine ldo (by assumption) (q := by infer_instance) (by with_unfolding_all rfl) ?_);
          (with_reducible (refine eql_h (by first | assumption | decide) ?_; refine cnd_t ?_; refine fao ?_));
          (refine ldo (by assumption) (q := by infer_instance) (by with_unfolding_all rfl) ?_);
          (with_reducible (refine sub_a (by assumption) (by decide) (by decide) ?_; refine mv_i ?_));
          ((with_reducible refine fun (_ : Tmps) => ?_); (try dsimp only [nth]));
          (with_reducible (refine seq_i ?_; refine fao ?_));
          (refine ldo (by assumption) (q := by infer_instance) (by with_unfolding_all rfl) ?_);
          (with_reducible (refine eql_n (by first | assumption | decide) ?_; refine cnd_f ?_));
          ((with_reducible refine fun (_ : Tmps) => ?_); (try dsimp only [nth]));
          (with_reducible (refine seq_i ?_; refine fao ?_));
          (refine ldo (by assumption) (q := by infer_instance) (by with_unfolding_all rfl) ?_);
          (with_reducible (refine eql_n (by first | assumption | decide) ?_; refine cnd_f ?_));
          ((with_reducible refine fun (_ : Tmps) => ?_); (try dsimp only [nth]));
          (with_reducible (refine fao ?_));
          (refine ldo (by assumption) (q := by infer_instance) (by with_unfolding_all rfl) ?_);
          (with_reducible (refine mv_i ?_));
          (refine call_r (c53 _ _ _) ?_);
          (with_reducible (refine not_d (fun hb => ?_) (fun hb => ?_); refine mv_i ?_; refine gd_ff ?_; refine fao ?_; refine gd_ff ?_));
          (refine ldo (by assumption) (q := by infer_instance) (by with_unfolding_all rfl) ?_);
          (with_reducible (refine gd_ff ?_; refine mv_i ?_; refine gd_ff ?_));
          (refine call_r (c53 _ _ _) ?_);
          (with_reducible (refine gd_ff ?_; refine not_d (fun hb => ?_) (fun hb => ?_); refine pick_f ?_; refine cnd_f ?_; refine mv_i ?_; refine ret1 ?_));
          (rotate_left);
          (with_reducible (refine pick_f ?_; refine cnd_t ?_; refine mv_i ?_; refine ret1 ?_));
          (rotate_left);
          (with_reducible (refine mv_i ?_; refine gd_tf ?_; refine gd_tf ?_; refine gd_tf ?_; refine gd_tf ?_; refine gd_tf ?_; refine pick_t ?_; refine cnd_t ?_; refine mv_i ?_; refine ret1 ?_));
          (rotate_left))
      all_goals
        refine ⟨?_, Mem.pre (by assumption)⟩
        rw [if_neg (by simpa using hk)]
        first
          | (rw [if_neg (by simp [rightS, e]; omega)]; done)
          | (rw [if_pos (by simp [rightS, e]; omega)]; done)
          | (simp [rightS, e]; done)
          | (simp [rightS, e]; omega)
    · have n0 : ¬ t.kind = 0 := by omega
      have n2 : ¬ t.kind = 2 := by omega
      have n3 : ¬ t.kind = 3 := by omega
      ((with_reducible (refine box_a (by assumption) fun i h z p m => ?_; refine box_a (by assumption) fun i h z p m => ?_; refine mv_i ?_; refine fao ?_));
          (refine ldo (by assumption) (q := by infer_instance) (by with_unfolding_all rfl) ?_);
          (refine call_r (c53 _ _ _) ?_);
          (with_reducible (refine not_dh (by assumption) ?_; refine cnd_f ?_; refine fao ?_));
          (refine ldo (by assumption) (q := by infer_instance) (by with_unfolding_all rfl) ?_);
          (with_reducible (refine vb_l (by assumption) ?_; refine len_g (by assumption) ?_; refine sub_j (by omega) (by omega) ?_; refine fao ?_));
          (refine ldo (by assumption) (q := by infer_instance) (by with_unfolding_all rfl) ?_);
          (refine vb_n (by with_unfolding_all rfl) ?_);
          (with_reducible (refine sub_a (by assumption) (by decide) (by decide) ?_; refine mv_i ?_; refine mv_i ?_; refine seq_i ?_; refine fao ?_));
          (refine ldo (by assumption) (q := by infer_instance) (by with_unfolding_all rfl) ?_);
          (with_reducible (refine eql_n (by first | assumption | decide) ?_; refine cnd_f ?_));
          ((with_reducible refine fun (_ : Tmps) => ?_); (try dsimp only [nth]));
          (with_reducible (refine seq_i ?_; refine fao ?_));
          (refine ldo (by assumption) (q := by infer_instance) (by with_unfolding_all rfl) ?_);
          (with_reducible (refine eql_n (by first | assumption | decide) ?_; refine cnd_f ?_));
          ((with_reducible refine fun (_ : Tmps) => ?_); (try dsimp only [nth]));
          (with_reducible (refine seq_i ?_; refine fao ?_));
          (refine ldo (by assumption) (q := by infer_instance) (by with_unfolding_all rfl) ?_);
          (with_reducible (refine eql_n (by first | assumption | decide) ?_; refine cnd_f ?_));
          ((with_reducible refine fun (_ : Tmps) => ?_); (try dsimp only [nth]));
          (with_reducible (refine fao ?_));
          (refine ldo (by assumption) (q := by infer_instance) (by with_unfolding_all rfl) ?_);
          (with_reducible (refine mv_i ?_));
          (refine call_r (c53 _ _ _) ?_);
          (with_reducible (refine not_d (fun hb => ?_) (fun hb => ?_); refine mv_i ?_; refine gd_ff ?_; refine fao ?_; refine gd_ff ?_));
          (refine ldo (by assumption) (q := by infer_instance) (by with_unfolding_all rfl) ?_);
          (with_reducible (refine gd_ff ?_; refine mv_i ?_; refine gd_ff ?_));
          (refine call_r (c53 _ _ _) ?_);
          (with_reducible (refine gd_ff ?_; refine not_d (fun hb => ?_) (fun hb => ?_); refine pick_f ?_; refine cnd_f ?_; refine mv_i ?_; refine ret1 ?_));
          (rotate_left);
          (with_reducible (refine pick_f ?_; refine cnd_t ?_; refine mv_i ?_; refine ret1 ?_));
          (rotate_left);
          (with_reducible (refine mv_i ?_; refine gd_tf ?_; refine gd_tf ?_; refine gd_tf ?_; refine gd_tf ?_; refine gd_tf ?_; refine pick_t ?_; refine cnd_t ?_; refine mv_i ?_; refine ret1 ?_));
          (rotate_left))
      all_goals
        refine ⟨?_, Mem.pre (by assumption)⟩
        rw [if_neg (by simpa using hk)]
        first
          | (rw [if_neg (by simp [rightS, e]; omega)]; done)
          | (rw [if_pos (by simp [rightS, e]; omega)]; done)
          | (simp [rightS, e]; done)
          | (simp [rightS, e]; omega)
    · have n0 : ¬ t.kind = 0 := by omega
      have n3 : ¬ t.kind = 3 := by omega
      ((with_reducible (refine box_a (by assumption) fun i h z p m => ?_; refine box_a (by assumption) fun i h z p m => ?_; refine mv_i ?_; refine fao ?_));
          (refine ldo (by assumption) (q := by infer_instance) (by with_unfolding_all rfl) ?_);
          (refine call_r (c53 _ _ _) ?_);
          (with_reducible (refine not_dh (by assumption) ?_; refine cnd_f ?_; refine fao ?_));
          (refine ldo (by assumption) (q := by infer_instance) (by with_unfolding_all rfl) ?_);
          (with_reducible (refine vb_l (by assumption) ?_; refine len_g (by assumption) ?_; refine sub_j (by omega) (by omega) ?_; refine fao ?_));
          (refine ldo (by assumption) (q := by infer_instance) (by with_unfolding_all rfl) ?_);
          (refine vb_n (by with_unfolding_all rfl) ?_);
          (with_reducible (refine sub_a (by assumption) (by decide) (by decide) ?_; refine mv_i ?_; refine mv_i ?_; refine seq_i ?_; refine fao ?_));
          (refine ldo (by assumption) (q := by infer_instance) (by with_unfolding_all rfl) ?_);
          (with_reducible (refine eql_n (by first | assumption | decide) ?_; refine cnd_f ?_));
          ((with_reducible refine fun (_ : Tmps) => ?_); (try dsimp only [nth]));
          (with_reducible (refine seq_i ?_; refine fao ?_));
          (refine ldo (by assumption) (q := by infer_instance) (by with_unfolding_all rfl) ?_);
          (with_reducible (refine eql_h (by first | assumption | decide) ?_; refine cnd_t ?_; refine mv_i ?_));
          ((with_reducible refine fun (_ : Tmps) => ?_); (try dsimp only [nth]));
          (with_reducible (refine seq_i ?_; refine fao ?_));
          (refine ldo (by assumption) (q := by infer_instance) (by with_unfolding_all rfl) ?_);
          (with_reducible (refine eql_n (by first | assumption | decide) ?_; refine cnd_f ?_));
          ((with_reducible refine fun (_ : Tmps) => ?_); (try dsimp only [nth]));
          (with_reducible (refine fao ?_));
          (refine ldo (by assumption) (q := by infer_instance) (by with_unfolding_all rfl) ?_);
          (with_reducible (refine mv_i ?_));
          (refine call_r (c53 _ _ _) ?_);
          (with_reducible (refine not_d (fun hb => ?_) (fun hb => ?_); refine mv_i ?_; refine gd_ff ?_; refine fao ?_; refine gd_ff ?_));
          (refine ldo (by assumption) (q := by infer_instance) (by with_unfolding_all rfl) ?_);
          (with_reducible (refine gd_ff ?_; refine mv_i ?_; refine gd_ff ?_));
          (refine call_r (c53 _ _ _) ?_);
          (with_reducible (refine gd_ff ?_; refine not_d (fun hb => ?_) (fun hb => ?_); refine pick_f ?_; refine cnd_f ?_; refine mv_i ?_; refine ret1 ?_));
          (rotate_left);
          (with_reducible (refine pick_f ?_; refine cnd_t ?_; refine mv_i ?_; refine ret1 ?_));
          (rotate_left);
          (with_reducible (refine mv_i ?_; refine gd_tf ?_; refine gd_tf ?_; refine gd_tf ?_; refine gd_tf ?_; refine gd_tf ?_; refine pick_t ?_; refine cnd_t ?_; refine mv_i ?_; refine ret1 ?_));
          (rotate_left))
      all_goals
        refine ⟨?_, Mem.pre (by assumption)⟩
        rw [if_neg (by simpa using hk)]
        first
          | (rw [if_neg (by simp [rightS, e]; omega)]; done)
          | (rw [if_pos (by simp [rightS, e]; omega)]; done)
          | (simp [rightS, e]; done)
          | (simp [rightS, e]; omega)
    · have n0 : ¬ t.kind = 0 := by omega
      have n2 : ¬ t.kind = 2 := by omega
      ((with_reducible (refine box_a (by assumption) fun i h z p m => ?_; refine box_a (by assumption) fun i h z p m => ?_; refine mv_i ?_; refine fao ?_));
          (refine ldo (by assumption) (q := by infer_instance) (by with_unfolding_all rfl) ?_);
          (refine call_r (c53 _ _ _) ?_);
          (with_reducible (refine not_dh (by assumption) ?_; refine cnd_f ?_; refine fao ?_));
          (refine ldo (by assumption) (q := by infer_instance) (by with_unfolding_all rfl) ?_);
          (with_reducible (refine vb_l (by assumption) ?_; refine len_g (by assumption) ?_; refine sub_j (by omega) (by omega) ?_; refine fao ?_));
          (refine ldo (by assumption) (q := by infer_instance) (by with_unfolding_all rfl) ?_);
          (refine vb_n (by with_unfolding_all rfl) ?_);
          (with_reducible (refine sub_a (by assumption) (by decide) (by decide) ?_; refine mv_i ?_; refine mv_i ?_; refine seq_i ?_; refine fao ?_));
          (refine ldo (by assumption) (q := by infer_instance) (by with_unfolding_all rfl) ?_);
          (with_reducible (refine eql_n (by first | assumption | decide) ?_; refine cnd_f ?_));
          ((with_reducible refine fun (_ : Tmps) => ?_); (try dsimp only [nth]));
          (with_reducible (refine seq_i ?_; refine fao ?_));
          (refine ldo (by assumption) (q := by infer_instance) (by with_unfolding_all rfl) ?_);
          (with_reducible (refine eql_n (by first | assumption | decide) ?_; refine cnd_f ?_));
          ((with_reducible refine fun (_ : Tmps) => ?_); (try dsimp only [nth]));
          (with_reducible (refine seq_i ?_; refine fao ?_));
          (refine ldo (by assumption) (q := by infer_instance) (by with_unfolding_all rfl) ?_);
          (with_reducible (refine eql_h (by first | assumption | decide) ?_; refine cnd_t ?_; refine fao ?_));
          (refine ldo (by assumption) (q := by infer_instance) (by with_unfolding_all rfl) ?_);
          (with_reducible (refine len_g (by assumption) ?_; refine sub_j (by omega) (by omega) ?_; refine mv_i ?_));
          ((with_reducible refine fun (_ : Tmps) => ?_); (try dsimp only [nth]));
          (with_reducible (refine fao ?_));
          (refine ldo (by assumption) (q := by infer_instance) (by with_unfolding_all rfl) ?_);
          (with_reducible (refine mv_i ?_));
          (refine call_r (c53 _ _ _) ?_);
          (with_reducible (refine not_d (fun hb => ?_) (fun hb => ?_); refine mv_i ?_; refine gd_ff ?_; refine fao ?_; refine gd_ff ?_));
          (refine ldo (by assumption) (q := by infer_instance) (by with_unfolding_all rfl) ?_);
          (with_reducible (refine gd_ff ?_; refine mv_i ?_; refine gd_ff ?_));
          (refine call_r (c53 _ _ _) ?_);
          (with_reducible (refine gd_ff ?_; refine not_d (fun hb => ?_) (fun hb => ?_); refine pick_f ?_; refine cnd_f ?_; refine mv_i ?_; refine ret1 ?_));
          (rotate_left);
          (with_reducible (refine pick_f ?_; refine cnd_t ?_; refine mv_i ?_; refine ret1 ?_));
          (rotate_left);
          (with_reducible (refine mv_i ?_; refine gd_tf ?_; refine gd_tf ?_; refine gd_tf ?_; refine gd_tf ?_; refine gd_tf ?_; refine pick_t ?_; refine cnd_t ?_; refine mv_i ?_; refine ret1 ?_));
          (rotate_left))
      all_goals
        refine ⟨?_, Mem.pre (by assumption)⟩
        rw [if_neg (by simpa using hk)]
        first
          | (rw [if_neg (by simp [rightS, e]; omega)]; done)
          | (rw [if_pos (by simp [rightS, e]; omega)]; done)
          | (simp [rightS, e]; done)
          | (simp [rightS, e]; omega)
  · ((with_reducible (refine box_a (by assumption) fun i h z p m => ?_; refine box_a (by assumption) fun i h z p m => ?_; refine mv_i ?_; refine fao ?_));
      (refine ldo (by assumption) (q := by infer_instance) (by with_unfolding_all rfl) ?_);
      (refine call_r (c53 _ _ _) ?_);
      (with_reducible (refine not_dn (by assumption) ?_; refine cnd_t ?_; refine mv_i ?_; refine ret1 ?_)))
    exact ⟨by rw [if_pos hk], Mem.pre (by assumption)⟩
end Go.Proofs.Ytomiejfeclefaaa

set_option linter.unusedSimpArgs false
set_option linter.unusedVariables false
set_option linter.unnecessarySimpa false
set_option maxRecDepth 100000
set_option maxHeartbeats 4000000
namespace Go.Proofs.Ytomiejfeclefaaa
open Go.AM
variable {h g : Heap}
theorem com_iff (xs ys : List Int) : com xs ys = true ↔ ∃ z ∈ xs, z ∈ ys := by
  unfold com
  rw [decide_eq_true_iff, idxOf_any, List.any_eq_true]
  constructor
  · rintro ⟨z, hz, q⟩
    rw [decide_eq_true_iff, idxOf_any, List.any_eq_true] at q
    obtain ⟨y, hy, e⟩ := q
    have : z = y := by simpa using e
    exact ⟨z, hz, this ▸ hy⟩
  · rintro ⟨z, hz, hy⟩
    refine ⟨z, hz, ?_⟩
    rw [decide_eq_true_iff, idxOf_any, List.any_eq_true]
    exact ⟨z, hy, by simp⟩
theorem meet_cl {a b : Mut} (ha : 0 ≤ a.kind ∧ a.kind ≤ 3) (hb : 0 ≤ b.kind ∧ b.kind ≤ 3) : meetS a b = true ↔ clS a b := by
  unfold meetS
  rw [Bool.or_eq_true, Bool.or_eq_true, Bool.and_eq_true, com_iff, com_iff]
  have ha2 : a.kind = 0 ∨ a.kind = 1 ∨ a.kind = 2 ∨ a.kind = 3 := by omega
  have hb2 : b.kind = 0 ∨ b.kind = 1 ∨ b.kind = 2 ∨ b.kind = 3 := by omega
  rcases ha2 with e1 | e1 | e1 | e1 <;> rcases hb2 with e2 | e2 | e2 | e2 <;> simp [clS, tgs, ous, sms, tgR, e1, e2]
theorem cmpL3 (a b : Mut) : 0 ≤ cmpL [a.kind, a.step, a.to] [b.kind, b.step, b.to] ↔ ¬ cmpM a b < 0 := by
  unfold cmpM
  rw [orOf_cons, orOf_cons, orOf_cons, orOf_nil]
  simp only [cmpL, cmpI]
  repeat' split
  all_goals omega
theorem agn_iff {l : List Mut} {k : Nat} (hk : k < l.length) : agn l k ↔ ∃ j, j < k ∧ meetS (gt l j) (gt l k) = true := by
  unfold agn
  rw [idxOf_any, List.any_eq_true]
  constructor
  · rintro ⟨t, ht, q⟩
    obtain ⟨j, hj, e⟩ := mem_gd Df.d ht
    have hjk : j < k := by simp at hj; omega
    refine ⟨j, hjk, ?_⟩
    have : gt l j = t := by
      rw [← e]
      unfold gt
      rw [List.getD_eq_getElem?_getD, List.getD_eq_getElem?_getD, List.getElem?_take, if_pos hjk]
    rw [this]; exact q
  · rintro ⟨j, hj, q⟩
    refine ⟨gt l j, ?_, q⟩
    rw [List.mem_take_iff_getElem]
    exact ⟨j, by omega, by rw [gt_at (by omega)]⟩
theorem muE_ok {x : Mach} {l : List Mut} {k : Nat} (h0 : muE x l k = 0) : (0 ≤ (gt l k).kind ∧ (gt l k).kind ≤ 3) ∧ rightS x (gt l k) ∧ ordS l k ∧ ¬ agn l k := by
  unfold muE at h0
  split at h0
  · cases h0
  · rename_i h1
    split at h0
    · cases h0
    · rename_i h2
      split at h0
      · cases h0
      · rename_i h3
        split at h0
        · cases h0
        · rename_i h4
          exact ⟨by simpa using h1, by simpa using h2, by simpa using h3, h4⟩
theorem muE_is {x : Mach} {l : List Mut} {k : Nat} (h1 : 0 ≤ (gt l k).kind ∧ (gt l k).kind ≤ 3) (h2 : rightS x (gt l k)) : muE x l k = if ¬ ordS l k then 14 else if agn l k then 13 else 0 := by
  rw [muE, if_neg (by simpa using h1), if_neg (by simpa using h2)]
open Classical in
theorem c21 {v y : Value} {x : Mach} {l : List Mut} (s : MacV g v x) (t : L g y l) (hh : headOK x) : Runs Try.prog 21 [v, y] g (mk2 (mutE x l).1 (mutE x l).2) g := by
  obtain ⟨tv, rfl, s⟩ := s
  have lt := t.lt
  have m := Mem.start g
  refine DetP.forget rfl ?_
  refine w21 ?_
  unfold n21
  refine box_a m fun i0 h0 z0 p0 m => ?_
  ((with_reducible (refine mv_i ?_; refine mv_i ?_; refine mv_i ?_; refine len_g (by assumption) ?_; refine gtr_i (fun hc => ?_) (fun hc => ?_); refine cnd_t ?_; refine mv_i ?_; refine mv_i ?_; refine ret2 ?_));
      (rotate_left);
      (with_reducible (refine cnd_f ?_; refine mv_i ?_));
      (rotate_left))
  · exact ⟨by rw [mutE, if_pos (by omega)]; rfl, Mem.pre (by assumption)⟩
  · have hlen := hc
    refine loop1 l.length (fun k h2 => Prec h0 h2 ∧ Mem g h2 [⟨some i0, [.int .i64 x.states, .int .i64 x.inputs, .int .i64 x.outputs, .int .i64 x.start, tv], z0⟩] ∧ ∀ j, j < k → muE x l j = 0) ⟨⟨Stab.refl _⟩, m, fun j hj => by omega⟩ ?_
    rintro k h2 _ hk ⟨p2, m, hJ⟩
    by_cases hkl : k < l.length
    · have hlk : (k : Int) < l.length := by omega
      by_cases h1 : 0 ≤ (gt l k).kind ∧ (gt l k).kind ≤ 3
      · by_cases h3 : rightS x (gt l k)
        · have e58 : (if ¬ (0 ≤ (gt l k).kind ∧ (gt l k).kind ≤ 3) then (4 : Int) else if ¬ rightS x (gt l k) then 3 else 0) = 0 := by rw [if_neg (by simpa using h1), if_neg (by simpa using h3)]
          have hm := muE_is h1 h3
          ((with_reducible (refine mv_i ?_; refine mv_i ?_; refine len_g (by assumption) ?_; refine lss_i (fun hc => ?_) (fun hc => ?_); refine cnd_t ?_));
              (refine ldo_w (by assumption) (by infer_instance) (by with_unfolding_all rfl) ?_);
              (refine vb_mac (by assumption) ?_);
              (with_reducible (refine mv_i ?_; refine mv_i ?_));
              (refine idx_d (by assumption) (by with_unfolding_all rfl) (by omega) fun p hp => ?_);
              (refine ldr_w (by assumption) (by with_unfolding_all rfl) ?_);
              (with_reducible (refine vb_f ?_));
              (rotate_left);
              (with_reducible (refine cnd_f ?_; refine mv_i ?_; refine mv_i ?_; refine ret2 ?_));
              (rotate_left))
          · refine calld_r (c58 ⟨_, rfl, s.up⟩ hh (gt l k)) ?_
            rw [e58]
            ((with_reducible (refine new_n ?_; refine mv_i ?_; refine mv_i ?_; refine neq_h (by first | assumption | decide) ?_; refine cnd_f ?_; refine mv_i ?_; refine gtr_i (fun hc => ?_) (fun hc => ?_); refine mv_i ?_; refine gd_tt ?_; refine mv_i ?_; refine gd_tt ?_; refine mv_i ?_; refine gd_tt ?_; refine sub_j (by omega) (by omega) ?_; refine gd_tt ?_));
                (refine idx_dp (by assumption) (by with_unfolding_all rfl) (by omega) (by omega) fun p hp => ?_);
                (with_reducible (refine gd_tt ?_));
                (refine ldr_w (by assumption) (by with_unfolding_all rfl) ?_);
                (with_reducible (refine vb_f ?_; refine gd_tt ?_));
                (refine calld_d (c59 _) (by assumption) fun v h p1 p m s1 => ?_);
                (with_reducible (refine new_p (by assumption) ?_; refine gd_tt ?_; refine mv_i ?_; refine gd_tt ?_; refine mv_i ?_; refine gd_tt ?_));
                (refine idx_d (by assumption) (by with_unfolding_all rfl) (by omega) fun p hp => ?_);
                (with_reducible (refine gd_tt ?_));
                (refine ldr_w (by assumption) (by with_unfolding_all rfl) ?_);
                (with_reducible (refine vb_f ?_; refine gd_tt ?_));
                (refine calld_d (c59 _) (by assumption) fun v h p1 p m s1 => ?_);
                (with_reducible (refine new_p (by assumption) ?_; refine gd_tt ?_));
                (refine calld_r (c54 (L.ints (L.up (by assumption))) (L.ints (L.up (by assumption)))) ?_);
                (with_reducible (refine new_n ?_; refine gd_tt ?_; refine geq_i (fun hc => ?_) (fun hc => ?_); refine pick_t ?_; refine mv_i ?_; refine gd_tf ?_; refine gd_tf ?_; refine gd_tf ?_; refine gd_tf ?_; refine gd_tf ?_; refine gd_tf ?_; refine gd_tf ?_; refine gd_u ?_; refine gd_u ?_; refine gd_u ?_; refine gd_u ?_; refine gd_u ?_; refine gd_u ?_; refine gd_u ?_; refine gd_u ?_; refine gd_u ?_; refine gd_u ?_; refine gd_u ?_; refine gd_tf ?_; refine pick_t ?_; refine cnd_t ?_; refine mv_i ?_; refine mv_i ?_; refine mv_i ?_; refine ret2 ?_));
                (rotate_left);
                (with_reducible (refine pick_t ?_; refine mv_i ?_; refine gd_ff ?_; refine mv_i ?_; refine gd_ff ?_; refine mv_i ?_; refine gd_ff ?_));
                (refine idx_d (by assumption) (by with_unfolding_all rfl) (by omega) fun p hp => ?_);
                (with_reducible (refine gd_ff ?_; refine fa_g (by assumption) fun p hp => ?_; refine gd_ff ?_));
                (refine ld_g (by assumption) (by with_unfolding_all rfl) ?_);
                (refine vb_n (by with_unfolding_all rfl) ?_);
                (with_reducible (refine gd_ff ?_; refine eql_i (fun hc => ?_) (fun hc => ?_); refine gd_ff ?_; refine mv_i ?_; refine gd_tt ?_; refine mv_i ?_; refine gd_tt ?_; refine mv_i ?_; refine gd_tt ?_));
                (refine idx_d (by assumption) (by with_unfolding_all rfl) (by omega) fun p hp => ?_);
                (with_reducible (refine gd_tt ?_; refine fa_g (by assumption) fun p hp => ?_; refine gd_tt ?_));
                (refine ld_g (by assumption) (by with_unfolding_all rfl) ?_);
                (refine vb_n (by with_unfolding_all rfl) ?_);
                (with_reducible (refine gd_tt ?_; refine mv_i ?_; refine gd_tt ?_; refine mv_i ?_; refine gd_tt ?_));
                (refine idx_d (by assumption) (by with_unfolding_all rfl) (by omega) fun p hp => ?_);
                (with_reducible (refine gd_tt ?_; refine fa_g (by assumption) fun p hp => ?_; refine gd_tt ?_));
                (refine ld_g (by assumption) (by with_unfolding_all rfl) ?_);
                (refine vb_n (by with_unfolding_all rfl) ?_);
                (with_reducible (refine gd_tt ?_; refine leq_i (fun hc => ?_) (fun hc => ?_); refine gd_ff ?_; refine pick_t ?_; refine pick_f ?_; refine cnd_t ?_; refine mv_i ?_; refine mv_i ?_; refine mv_i ?_; refine ret2 ?_));
                (rotate_left);
                (with_reducible (refine gd_ff ?_; refine pick_t ?_; refine pick_f ?_; refine cnd_f ?_; refine mv_i ?_));
                (rotate_left);
                (with_reducible (refine gd_ff ?_; refine mv_i ?_; refine gd_ft ?_; refine gd_ft ?_; refine gd_ft ?_; refine gd_ft ?_; refine gd_ft ?_; refine gd_ft ?_; refine gd_ft ?_; refine gd_ft ?_; refine gd_ft ?_; refine gd_ft ?_; refine gd_ft ?_; refine gd_ff ?_; refine pick_f ?_; refine pick_f ?_; refine cnd_f ?_; refine mv_i ?_));
                (rotate_left);
                (with_reducible (refine mv_i ?_; refine gd_ft ?_; refine gd_ft ?_; refine gd_ft ?_; refine gd_ft ?_; refine gd_ft ?_; refine gd_ft ?_; refine gd_ft ?_; refine gd_ft ?_; refine gd_ft ?_; refine gd_ft ?_; refine gd_ft ?_; refine gd_ft ?_; refine gd_ft ?_; refine pick_f ?_; refine mv_i ?_; refine gd_ff ?_; refine mv_i ?_; refine gd_ff ?_; refine mv_i ?_; refine gd_ff ?_));
                (refine idx_d (by assumption) (by with_unfolding_all rfl) (by omega) fun p hp => ?_);
                (with_reducible (refine gd_ff ?_; refine fa_g (by assumption) fun p hp => ?_; refine gd_ff ?_));
                (refine ld_g (by assumption) (by with_unfolding_all rfl) ?_);
                (refine vb_n (by with_unfolding_all rfl) ?_);
                (with_reducible (refine gd_ff ?_; refine eql_i (fun hc => ?_) (fun hc => ?_); refine gd_ff ?_; refine mv_i ?_; refine gd_tt ?_; refine mv_i ?_; refine gd_tt ?_; refine mv_i ?_; refine gd_tt ?_));
                (refine idx_d (by assumption) (by with_unfolding_all rfl) (by omega) fun p hp => ?_);
                (with_reducible (refine gd_tt ?_; refine fa_g (by assumption) fun p hp => ?_; refine gd_tt ?_));
                (refine ld_g (by assumption) (by with_unfolding_all rfl) ?_);
                (refine vb_n (by with_unfolding_all rfl) ?_);
                (with_reducible (refine gd_tt ?_; refine mv_i ?_; refine gd_tt ?_; refine mv_i ?_; refine gd_tt ?_));
                (refine idx_d (by assumption) (by with_unfolding_all rfl) (by omega) fun p hp => ?_);
                (with_reducible (refine gd_tt ?_; refine fa_g (by assumption) fun p hp => ?_; refine gd_tt ?_));
                (refine ld_g (by assumption) (by with_unfolding_all rfl) ?_);
                (refine vb_n (by with_unfolding_all rfl) ?_);
                (with_reducible (refine gd_tt ?_; refine leq_i (fun hc => ?_) (fun hc => ?_); refine gd_ff ?_; refine pick_t ?_; refine pick_f ?_; refine cnd_t ?_; refine mv_i ?_; refine mv_i ?_; refine mv_i ?_; refine ret2 ?_));
                (rotate_left);
                (with_reducible (refine gd_ff ?_; refine pick_t ?_; refine pick_f ?_; refine cnd_f ?_; refine mv_i ?_));
                (rotate_left);
                (with_reducible (refine gd_ff ?_; refine mv_i ?_; refine gd_ft ?_; refine gd_ft ?_; refine gd_ft ?_; refine gd_ft ?_; refine gd_ft ?_; refine gd_ft ?_; refine gd_ft ?_; refine gd_ft ?_; refine gd_ft ?_; refine gd_ft ?_; refine gd_ft ?_; refine gd_ff ?_; refine pick_f ?_; refine pick_f ?_; refine cnd_f ?_; refine mv_i ?_));
                (rotate_left))
            all_goals first
              | (have hno : ¬ ordS l k := by
                   rintro ⟨q1, q2⟩
                   first
                     | (rcases q2 with q2 | q2
                        · contradiction
                        · omega)
                     | (rcases q1 with q1 | q1
                        · omega
                        · exact (cmpL3 _ _).mp (by assumption) q1)
                 exact ⟨by rw [mutE, if_neg (by omega), firstErr_at hJ hkl (by rw [hm, if_pos hno]; decide), hm, if_pos hno]; rfl, Mem.pre (by assumption)⟩)
              | skip
            all_goals
              have ho : ordS l k := ⟨by first | (left; omega) | (right; exact Classical.byContradiction fun q => absurd ((cmpL3 _ _).mpr q) (by assumption)), by first | (left; assumption) | (right; omega)⟩
              rw [if_neg (by simpa using ho)] at hm
              refine loop1 k (fun j h3 => Prec h0 h3 ∧ Mem g h3 [⟨some i0, [.int .i64 x.states, .int .i64 x.inputs, .int .i64 x.outputs, .int .i64 x.start, tv], z0⟩] ∧ ∀ q, q < j → ¬ clS (gt l q) (gt l k)) ⟨⟨Stb.st⟩, m, fun q hq => by omega⟩ ?_
              rintro j h3 _ hj ⟨p3, m, hJ2⟩
              (repeat' (first|((with_reducible refine is_callf 48 ?_); refine call_r (c48 _ _ _) ?_)|((with_reducible refine is_calldf 48 ?_); refine calld_r (c48 _ _ _) ?_)|((with_reducible refine is_callf 53 ?_); refine call_r (c53 _ _ _) ?_)|((with_reducible refine is_calldf 53 ?_); refine calld_r (c53 _ _ _) ?_)|((with_reducible refine is_callf 96 ?_); refine call_r (c96 _ _ _) ?_)|((with_reducible refine is_calldf 96 ?_); refine calld_r (c96 _ _ _) ?_)|((with_reducible refine is_callf 72 ?_); refine call_r c72t ?_)|((with_reducible refine is_calldf 72 ?_); refine calld_r c72t ?_)|((with_reducible refine is_callf 72 ?_); refine call_r c72f ?_)|((with_reducible refine is_calldf 72 ?_); refine calld_r c72f ?_)|((with_reducible refine is_callf 72 ?_); refine call_r (c72 _) ?_)|((with_reducible refine is_calldf 72 ?_); refine calld_r (c72 _) ?_)|((with_reducible refine is_callf 77 ?_); refine call_r (c77 _ _) ?_)|((with_reducible refine is_calldf 77 ?_); refine calld_r (c77 _ _) ?_)|((with_reducible refine is_callf 91 ?_); refine call_r (c91 _ _) ?_)|((with_reducible refine is_calldf 91 ?_); refine calld_r (c91 _ _) ?_)|((with_reducible refine is_callf 107 ?_); refine call_r (c107 _) ?_)|((with_reducible refine is_calldf 107 ?_); refine calld_r (c107 _) ?_)|((with_reducible refine is_callf 81 ?_); refine call_r (c81 _ _) ?_)|((with_reducible refine is_calldf 81 ?_); refine calld_r (c81 _ _) ?_)|((with_reducible refine is_callf 76 ?_); refine call_r (c76 (own_ints (xs := [_, _, _]) (by assumption) (q := by infer_instance) rfl rfl (by decide))) ?_)|((with_reducible refine is_calldf 76 ?_); refine calld_r (c76 (own_ints (xs := [_, _, _]) (by assumption) (q := by infer_instance) rfl rfl (by decide))) ?_)|((with_reducible refine is_callf 80 ?_); refine call_r (c80 (own_ints (xs := [_, _, _]) (by assumption) (q := by infer_instance) rfl rfl (by decide))) ?_)|((with_reducible refine is_calldf 80 ?_); refine calld_r (c80 (own_ints (xs := [_, _, _]) (by assumption) (q := by infer_instance) rfl rfl (by decide))) ?_)|((with_reducible refine is_callf 80 ?_); refine call_r (c80 (own_ints (xs := [_, _]) (by assumption) (q := by infer_instance) rfl rfl (by decide))) ?_)|((with_reducible refine is_calldf 80 ?_); refine calld_r (c80 (own_ints (xs := [_, _]) (by assumption) (q := by infer_instance) rfl rfl (by decide))) ?_)|((with_reducible refine is_callf 46 ?_); refine call_r (c46 _ _) ?_)|((with_reducible refine is_calldf 46 ?_); refine calld_r (c46 _ _) ?_)|((with_reducible refine is_callf 49 ?_); refine call_r (c49 _ _) ?_)|((with_reducible refine is_calldf 49 ?_); refine calld_r (c49 _ _) ?_)|((with_reducible refine is_callf 54 ?_); refine call_r (c54 (own_ints (xs := [_, _]) (by assumption) (q := by infer_instance) rfl rfl (by decide)) (own_ints (xs := [_, _]) (by assumption) (q := by infer_instance) rfl rfl (by decide))) ?_)|((with_reducible refine is_calldf 54 ?_); refine calld_r (c54 (own_ints (xs := [_, _]) (by assumption) (q := by infer_instance) rfl rfl (by decide)) (own_ints (xs := [_, _]) (by assumption) (q := by infer_instance) rfl rfl (by decide))) ?_)|((with_reducible refine is_callf 74 ?_); refine call_r (c74 ⟨_, by with_unfolding_all rfl, L.up (by assumption)⟩ _ _) ?_)|((with_reducible refine is_calldf 74 ?_); refine calld_r (c74 ⟨_, by with_unfolding_all rfl, L.up (by assumption)⟩ _ _) ?_)|((with_reducible refine is_callf 73 ?_); refine call_r (c73 ⟨_, by with_unfolding_all rfl, L.up (by assumption)⟩) ?_)|((with_reducible refine is_callf 75 ?_); refine call_r (c75 ⟨_, by with_unfolding_all rfl, L.up (by assumption)⟩) ?_)|((with_reducible refine is_calldf 59 ?_); refine calld_d (c59 _) (by assumption) fun v h p1 p m s1 => ?_)|((with_reducible refine is_calldf 54 ?_); refine calld_r (c54 (L.ints (L.up (by assumption))) (L.ints (L.up (by assumption)))) ?_)|((with_reducible refine is_callf 60 ?_); refine call_r (c60 _ _) ?_)|((with_reducible refine is_calldf 60 ?_); refine calld_r (c60 _ _) ?_)|((with_reducible refine is_rl1 ?_); first|(refine rt_w1 (by assumption) (by infer_instance) (by with_unfolding_all rfl) ?_)|(refine rt_11 (by assumption) (by infer_instance) (by with_unfolding_all rfl) ?_))|((with_reducible refine is_rl2 ?_); first|(refine rt_w2 (by assumption) (by infer_instance) (by with_unfolding_all rfl) ?_)|(refine rt_12 (by assumption) (by infer_instance) (by with_unfolding_all rfl) ?_))|((with_reducible refine is_vk ?_); first|(with_reducible refine not_dh (by assumption) ?_)|(with_reducible refine not_dn (by assumption) ?_)|(with_reducible refine not_d (fun hb => ?_) (fun hb => ?_))|(with_reducible refine pick_dh (by assumption) ?_)|(with_reducible refine pick_dn (by assumption) ?_)|(with_reducible refine pick_d (fun hb => ?_) (fun hb => ?_))|(with_reducible refine len_o (by assumption) ?_)|(with_reducible refine nil_i ?_)|(with_reducible refine ex2_0 ?_)|(with_reducible refine ex2_1 ?_)|(with_reducible refine ex3_0 ?_)|(with_reducible refine ex3_1 ?_)|(with_reducible refine ex3_2 ?_)|(with_reducible refine pick_t ?_)|(with_reducible refine pick_f ?_)|(with_reducible refine not_t ?_)|(with_reducible refine not_f ?_)|(with_reducible refine pick_h (by assumption) ?_)|(with_reducible refine pick_n (by assumption) ?_)|(with_reducible refine not_h (by assumption) ?_)|(with_reducible refine not_n (by assumption) ?_)|(with_reducible refine not_s (fun hb => ?_) (fun hb => ?_))|(with_reducible refine pick_s (fun hb => ?_) (fun hb => ?_))|(with_reducible refine len_g (by assumption) ?_)|(with_reducible refine slen_i ?_)|(with_reducible refine len_s ?_)|(refine fld_g (by with_unfolding_all rfl) ?_)|(with_reducible refine leni_t (by assumption) ?_))|((with_reducible refine is_gd ?_); first|(with_reducible refine gd_dht (by assumption) ?_)|(with_reducible refine gd_dnt (by assumption) ?_)|(with_reducible refine gd_dhf (by assumption) ?_)|(with_reducible refine gd_dnf (by assumption) ?_)|(with_reducible refine gd_dt (fun hb => ?_) (fun hb => ?_))|(with_reducible refine gd_df (fun hb => ?_) (fun hb => ?_))|(with_reducible refine gd_tt ?_)|(with_reducible refine gd_ff ?_)|(with_reducible refine gd_tf ?_)|(with_reducible refine gd_ft ?_)|(with_reducible refine gd_u ?_)|(with_reducible refine gd_ht (by assumption) ?_)|(with_reducible refine gd_hf (by assumption) ?_)|(with_reducible refine gd_nt (by assumption) ?_)|(with_reducible refine gd_nf (by assumption) ?_)|(with_reducible refine gd_st (fun hb => ?_) (fun hb => ?_))|(with_reducible refine gd_sf (fun hb => ?_) (fun hb => ?_)))|((with_reducible refine is_cnd ?_); first|(with_reducible refine cnd_dh (by assumption) ?_)|(with_reducible refine cnd_dn (by assumption) ?_)|(with_reducible refine cnd_d (fun hb => ?_) (fun hb => ?_))|(with_reducible refine cnd_t ?_)|(with_reducible refine cnd_f ?_)|(with_reducible refine cnd_h (by assumption) ?_)|(with_reducible refine cnd_n (by assumption) ?_)|(with_reducible refine cnd_b (fun hb => ?_) (fun hb => ?_)))|((with_reducible refine is_bin ?_); first|(with_reducible refine sub_a (by assumption) (by decide) (by decide) ?_)|(with_reducible refine snil_i (fun hn => ?_) (fun hn => ?_))|(with_reducible refine prq_i (fun hc => ?_) (fun hc => ?_))|(refine mul_j (by omega) (by omega) ?_)|(with_reducible refine eql_h (by first | assumption | decide) ?_)|(with_reducible refine eql_n (by first | assumption | decide) ?_)|(with_reducible refine neq_h (by first | assumption | decide) ?_)|(with_reducible refine neq_n (by first | assumption | decide) ?_)|(with_reducible refine lss_i (fun hc => ?_) (fun hc => ?_))|(with_reducible refine leq_i (fun hc => ?_) (fun hc => ?_))|(with_reducible refine gtr_i (fun hc => ?_) (fun hc => ?_))|(with_reducible refine geq_i (fun hc => ?_) (fun hc => ?_))|(with_reducible refine eql_i (fun hc => ?_) (fun hc => ?_))|(with_reducible refine neq_i (fun hc => ?_) (fun hc => ?_))|(with_reducible refine seq_s (fun hc => ?_) (fun hc => ?_))|(with_reducible refine sne_s (fun hc => ?_) (fun hc => ?_))|(with_reducible refine sls_i ?_)|(with_reducible refine inc_i (by omega) ?_)|(with_reducible refine sub_j (by omega) (by omega) ?_)|(with_reducible refine add_j (by omega) (by omega) ?_))|((with_reducible refine is_six ?_); first|(with_reducible refine sidx_0 (by omega) ?_))|((with_reducible refine is_idx ?_); first|(refine ia_g (by assumption) (by omega) (by omega) fun p hp => ?_)|(refine ia_o (by omega) (by omega) ?_)|(refine idx_d (by assumption) (by with_unfolding_all rfl) (by omega) fun p hp => ?_)|(refine idx_dp (by assumption) (by with_unfolding_all rfl) (by omega) (by omega) fun p hp => ?_)|(refine idx_dz (by assumption) (by with_unfolding_all rfl) (by omega) (by omega) fun p hp => ?_)|(refine idx_f (by assumption) (by with_unfolding_all rfl) (by omega) fun p hp => ?_)|(refine idx_fz (by assumption) (by with_unfolding_all rfl) (by omega) (by omega) fun p hp => ?_)|(refine idxi_t (by assumption) (by omega) ?_)|(refine idx_o (by assumption) (by omega) ?_)|(refine idx_oz (by assumption) (by omega) (by omega) ?_))|((with_reducible refine is_fa ?_); first|(with_reducible refine fa_g (by assumption) fun p hp => ?_)|(with_reducible refine fao_e ?_)|(with_reducible refine fao ?_))|((with_reducible refine is_ldo ?_); first|(refine ldo (by assumption) (q := by infer_instance) (by with_unfolding_all rfl) ?_)|(refine ldo_w (by assumption) (by infer_instance) (by with_unfolding_all rfl) ?_)|(refine ldor (by assumption) (q := by infer_instance) (by with_unfolding_all rfl) (by with_unfolding_all exact Nat.le_refl _) ?_)|(refine ldf_d (by assumption) (by infer_instance) (by with_unfolding_all rfl) (by omega) (by with_unfolding_all exact Nat.le_of_ble_eq_true rfl) (by with_unfolding_all rfl) ?_)|(refine ldw_d (by assumption) (by infer_instance) (by with_unfolding_all rfl) (by omega) ?_))|((with_reducible refine is_ld ?_); first|(refine ld_g (by assumption) (by with_unfolding_all rfl) ?_)|(refine ldr_w (by assumption) (by with_unfolding_all rfl) ?_)|(refine ldr_g (by assumption) (by with_unfolding_all rfl) (by with_unfolding_all exact Nat.le_refl _) ?_)|(refine ldi_t (by assumption) (by omega) ?_))|((with_reducible refine is_box ?_); first|(with_reducible refine box_a (by assumption) fun i h z p m => ?_)|(refine box_1 (by assumption) (by with_unfolding_all rfl) fun i h z p m => ?_))|((with_reducible refine is_ok ?_); first|(with_reducible refine alloc_z (by assumption) fun i h z p m => ?_))|((with_reducible refine is_st ?_); first|(refine sto (by assumption) (q := by infer_instance) (by with_unfolding_all exact Nat.le_of_ble_eq_true rfl) rfl rfl (u := by infer_instance) fun h p m => ?_)|(refine st_w (by assumption) (by infer_instance) (by with_unfolding_all rfl) (by with_unfolding_all rfl) (by first | rfl | exact flat_ones (Flat.flat _)) (by infer_instance) fun h p m => ?_)|(refine stw_o (by assumption) (by infer_instance) (by with_unfolding_all rfl) (by omega) (by infer_instance) fun h p m => ?_))|((with_reducible refine is_new ?_); first|(with_reducible refine new_n ?_)|(with_reducible refine new_p (by assumption) ?_))|((with_reducible refine is_pd ?_); first|(refine pd_p (by assumption) (by with_unfolding_all rfl) ?_)|(refine pd_c (by assumption) (by infer_instance) (by with_unfolding_all rfl) ?_)|(refine pd_o (by assumption) (by infer_instance) (by with_unfolding_all rfl) ?_))|((with_reducible refine is_vb ?_); first|(refine vb_mac (by assumption) ?_)|(with_reducible refine vb_f ?_)|(refine vb_n (by with_unfolding_all rfl) ?_)|(with_reducible refine vb_l (by assumption) ?_)|(refine vb_as rfl (by assumption) ?_)|(refine vb_ao rfl (by assumption) (by assumption) (by infer_instance) ?_)|(refine IsSl.vb (by assumption) (by assumption) (by infer_instance) ?_))|((with_reducible refine is_tru ?_); first|(with_reducible refine ⟨trivial, ?_⟩))|((with_reducible refine is_ret ?_); first|(with_reducible refine ret1 ?_)|(with_reducible refine ret2 ?_)|(with_reducible refine ret3 ?_)|(with_reducible refine ret0 ?_))|((with_reducible refine is_bld ?_); first|(refine vk_i (bd24_z) ?_)|(refine vk_i (bd77_01 _ _) ?_))|((with_reducible refine is_bsl ?_); first|(refine bs_g (bs36_0 _) (by assumption) fun i h p m => ?_)|(refine bs_g (bs22_0 _) (by assumption) fun i h p m => ?_)|(refine bs_g (bs51_1 _ _ _ _) (by assumption) fun i h p m => ?_)|(refine bs_g (bs27_0 _) (by assumption) fun i h p m => ?_)|(refine bs_g (bs53_2 _ _ _) (by assumption) fun i h p m => ?_)|(refine bs_g (bs141_3 _ _ _ _) (by assumption) fun i h p m => ?_)|(refine bs_g (bs53_3 _ _ _ _) (by assumption) fun i h p m => ?_)|(refine bs_g (bs53_1 _ _) (by assumption) fun i h p m => ?_))|(with_reducible refine mv_i ?_)|(with_reducible refine seq_i ?_)|((with_reducible refine fun (_ : Tmps) => ?_); (try dsimp only [nth]))))
              · have ha : agn l k := (agn_iff hkl).mpr ⟨j, by omega, (meet_cl (muE_ok (hJ j (by omega))).1 h1).mpr hb⟩
                exact ⟨by rw [mutE, if_neg (by omega), firstErr_at hJ hkl (by rw [hm, if_pos ha]; decide), hm, if_pos ha]; rfl, Mem.pre (by assumption)⟩
              · refine next1 (by omega) ⟨⟨Stb.st⟩, m, fun q hq => ?_⟩
                by_cases e : q = j
                · subst e; exact hb
                · exact hJ2 q (by omega)
              · have ha : ¬ agn l k := by
                  rw [agn_iff hkl]
                  rintro ⟨q, hq, e⟩
                  exact hJ2 q (by omega) ((meet_cl (muE_ok (hJ q hq)).1 h1).mp e)
                rw [if_neg ha] at hm
                exact next1 hkl ⟨⟨Stb.st⟩, m, up_no hm hJ⟩
          · exfalso; omega
        · have e58 : (if ¬ (0 ≤ (gt l k).kind ∧ (gt l k).kind ≤ 3) then (4 : Int) else if ¬ rightS x (gt l k) then 3 else 0) = 3 := by rw [if_neg (by simpa using h1), if_pos h3]
          have hm : muE x l k = 3 := by rw [muE, if_neg (by simpa using h1), if_pos h3]
          ((with_reducible (refine mv_i ?_; refine mv_i ?_; refine len_g (by assumption) ?_; refine lss_i (fun hc => ?_) (fun hc => ?_); refine cnd_t ?_));
              (refine ldo_w (by assumption) (by infer_instance) (by with_unfolding_all rfl) ?_);
              (refine vb_mac (by assumption) ?_);
              (with_reducible (refine mv_i ?_; refine mv_i ?_));
              (refine idx_d (by assumption) (by with_unfolding_all rfl) (by omega) fun p hp => ?_);
              (refine ldr_w (by assumption) (by with_unfolding_all rfl) ?_);
              (with_reducible (refine vb_f ?_));
              (rotate_left);
              (with_reducible (refine cnd_f ?_; refine mv_i ?_; refine mv_i ?_; refine ret2 ?_));
              (rotate_left))
          · refine calld_r (c58 ⟨_, rfl, s.up⟩ hh (gt l k)) ?_
            rw [e58]
            ((with_reducible (refine new_n ?_; refine mv_i ?_; refine mv_i ?_; refine neq_n (by first | assumption | decide) ?_; refine cnd_t ?_; refine mv_i ?_; refine mv_i ?_; refine mv_i ?_; refine mv_i ?_; refine ret2 ?_)))
            exact ⟨by rw [mutE, if_neg (by omega), firstErr_at hJ hkl (by rw [hm]; decide), hm]; rfl, Mem.pre (by assumption)⟩
          · exfalso; omega
      · have e58 : (if ¬ (0 ≤ (gt l k).kind ∧ (gt l k).kind ≤ 3) then (4 : Int) else if ¬ rightS x (gt l k) then 3 else 0) = 4 := by rw [if_pos h1]
        have hm : muE x l k = 4 := by rw [muE, if_pos h1]
        ((with_reducible (refine mv_i ?_; refine mv_i ?_; refine len_g (by assumption) ?_; refine lss_i (fun hc => ?_) (fun hc => ?_); refine cnd_t ?_));
            (refine ldo_w (by assumption) (by infer_instance) (by with_unfolding_all rfl) ?_);
            (refine vb_mac (by assumption) ?_);
            (with_reducible (refine mv_i ?_; refine mv_i ?_));
            (refine idx_d (by assumption) (by with_unfolding_all rfl) (by omega) fun p hp => ?_);
            (refine ldr_w (by assumption) (by with_unfolding_all rfl) ?_);
            (with_reducible (refine vb_f ?_));
            (rotate_left);
            (with_reducible (refine cnd_f ?_; refine mv_i ?_; refine mv_i ?_; refine ret2 ?_));
            (rotate_left))
        · refine calld_r (c58 ⟨_, rfl, s.up⟩ hh (gt l k)) ?_
          rw [e58]
          ((with_reducible (refine new_n ?_; refine mv_i ?_; refine mv_i ?_; refine neq_n (by first | assumption | decide) ?_; refine cnd_t ?_; refine mv_i ?_; refine mv_i ?_; refine mv_i ?_; refine mv_i ?_; refine ret2 ?_)))
          exact ⟨by rw [mutE, if_neg (by omega), firstErr_at hJ hkl (by rw [hm]; decide), hm]; rfl, Mem.pre (by assumption)⟩
        · exfalso; omega
    · ((with_reducible (refine mv_i ?_; refine mv_i ?_; refine len_g (by assumption) ?_; refine lss_i (fun hc => ?_) (fun hc => ?_); refine cnd_t ?_));
        (refine ldo_w (by assumption) (by infer_instance) (by with_unfolding_all rfl) ?_);
        (refine vb_mac (by assumption) ?_);
        (with_reducible (refine mv_i ?_; refine mv_i ?_));
        (refine idx_d (by assumption) (by with_unfolding_all rfl) (by omega) fun p hp => ?_);
        (refine ldr_w (by assumption) (by with_unfolding_all rfl) ?_);
        (with_reducible (refine vb_f ?_));
        (rotate_left);
        (with_reducible (refine cnd_f ?_; refine mv_i ?_; refine mv_i ?_; refine ret2 ?_));
        (rotate_left))
      all_goals (try (exfalso; omega))
      exact ⟨by rw [mutE, if_neg (by omega), firstErr_no fun j hj => hJ j (by omega)]; rfl, Mem.pre (by assumption)⟩
end Go.Proofs.Ytomiejfeclefaaa

set_option linter.unusedSimpArgs false
set_option linter.unusedVariables false
set_option linter.unnecessarySimpa false
set_option maxRecDepth 100000
set_option maxHeartbeats 4000000
namespace Go.Proofs.Ytomiejfeclefaaa
open Go.AM
variable {h g : Heap}
/-! ### copies -/
/-- The reference's copy, one's own. -/
theorem c14o {v : Value} {x : Mach} (s : MacV g v x) (hb : x.steps.length ≤ 1048576) : DetP Try.prog 14 [v] g fun v h' => g <+: h' ∧ ∃ y o, v = .agg #[.int .i64 x.states, .int .i64 x.inputs, .int .i64 x.outputs, .int .i64 x.start, y] ∧ IsSl y o x.steps.length ∧ OwnNew g h' o (flat x.steps) 4 := by
  obtain ⟨tv, rfl, s⟩ := s
  have m := Mem.start g
  refine w14 ?_
  unfold n14
  obtain ⟨b, q, rfl, hb2⟩ := s.shape
  ((with_reducible (refine box_a (by assumption) fun i h z p m => ?_; refine alloc_z (by assumption) fun i h z p m => ?_));
      (refine bs_g (bs22_0 _) (by assumption) fun i h p m => ?_);
      (with_reducible (refine fao ?_));
      (refine ldo (by assumption) (q := by infer_instance) (by with_unfolding_all rfl) ?_))
  by_cases hl : x.steps = []
  · refine app_none (b := b) (c2 := q) (by rw [hl]; rfl) hb2 ?_
    ((with_reducible (refine fao ?_));
        (refine sto (by assumption) (q := by infer_instance) (by with_unfolding_all exact Nat.le_of_ble_eq_true rfl) rfl rfl (u := by infer_instance) fun h p m => ?_);
        (refine ldo_w (by assumption) (by infer_instance) (by with_unfolding_all rfl) ?_);
        (refine st_w (by assumption) (by infer_instance) (by with_unfolding_all rfl) (by with_unfolding_all rfl) (by first | rfl | exact flat_ones (Flat.flat _)) (by infer_instance) fun h p m => ?_);
        (refine rt_w1 (by assumption) (by infer_instance) (by with_unfolding_all rfl) ?_);
        (with_reducible (refine ret1 ?_)))
    refine ⟨m.pre, _, some i, rfl, ?_, ?_⟩
    · rw [hl]; exact IsSl.some1 (n := 0)
    · rw [hl]; exact OwnNew.of m
  · have hpos : 0 < x.steps.length := List.length_pos_iff.mpr hl
    refine app_o m (IsSl.some1 (n := 0)) (by infer_instance) (by simp) (src_ro s hpos) (by omega) fun i h p m => ?_
    rw [Nat.zero_add]
    simp only [List.nil_append, List.set_cons_zero] at m
    ((with_reducible (refine fao ?_));
        (refine sto (by assumption) (q := by infer_instance) (by with_unfolding_all exact Nat.le_of_ble_eq_true rfl) rfl rfl (u := by infer_instance) fun h p m => ?_);
        (refine ldo_w (by assumption) (by infer_instance) (by with_unfolding_all rfl) ?_);
        (refine st_w (by assumption) (by infer_instance) (by with_unfolding_all rfl) (by with_unfolding_all rfl) (by first | rfl | exact flat_ones (Flat.flat _)) (by infer_instance) fun h p m => ?_);
        (refine rt_w1 (by assumption) (by infer_instance) (by with_unfolding_all rfl) ?_);
        (with_reducible (refine ret1 ?_)))
    exact ⟨m.pre, _, some i, rfl, IsSl.some0, OwnNew.of m⟩
/-- The same, to be read only. -/
theorem c14 {v : Value} {x : Mach} (s : MacV g v x) (hb : x.steps.length ≤ 1048576) : DetP Try.prog 14 [v] g fun v h' => g <+: h' ∧ ∃ b q n, v = .agg #[.int .i64 x.states, .int .i64 x.inputs, .int .i64 x.outputs, .int .i64 x.start, .slice b n q] ∧ n = x.steps.length ∧ L h' (.slice b n q) x.steps := by
  refine DetP.freeze ?_
  obtain ⟨v, h', hr, hp, y, o, rfl, hs, hn⟩ := c14o s hb
  have m := hn _ _ (Mem.start g)
  have hl := IsSl.ro hs m (k := 0) rfl (by omega)
  obtain ⟨b, q, rfl, _⟩ := hl.shape
  exact ⟨_, _, hr, hp, b, q, _, rfl, rfl, hl⟩
/-! ### a step -/
/-! ### machines that are the same -/
theorem eq82 (a b : Stp) : eqSt Try.prog 82 (Flat.cells a).toArray (Flat.cells b).toArray = cond (a.frm == b.frm) (cond (a.inp == b.inp) (cond (a.out == b.out) (cond (a.to == b.to) (some true) (some false)) (some false)) (some false)) (some false) := by kernel_rfl
theorem eq82' (a b : Stp) : eqSt Try.prog 82 (Flat.cells a).toArray (Flat.cells b).toArray = some (decide (a = b)) := by
  rw [eq82]
  by_cases e : a = b
  · subst e; simp
  · rw [decide_eq_false e]
    cases a; cases b
    simp only [Stp.mk.injEq] at e
    simp only [Bool.cond_eq_ite, beq_iff_eq]
    repeat' split
    all_goals first
      | rfl
      | (exfalso; simp_all; done)
theorem stne_i {K : Value → Heap → Prop} {a b : Stp} (h1 : a = b → K (.bool false) g) (h2 : ¬ a = b → K (.bool true) g) : vK (aBin Try.prog .neq 82 (fv a) (fv b)) g K := by
  refine vk_i (v := .bool (!decide (a = b))) (by show (eqSt Try.prog 82 (Flat.cells a).toArray (Flat.cells b).toArray).map (fun r => Value.bool !r) = _; rw [eq82']; rfl) ?_
  by_cases e : a = b
  · subst e; simpa using h1 rfl
  · rw [decide_eq_false e]; exact h2 e
theorem c23 {v w : Value} {a b : Mach} (s : MacV g v a) (t : MacV g w b) : Runs Try.prog 23 [v, w] g (.bool (decide (a = b))) g := by
  obtain ⟨x, rfl, s⟩ := s
  obtain ⟨y, rfl, t⟩ := t
  have lt := s.lt
  have m := Mem.start g
  refine DetP.forget rfl ?_
  refine w23 ?_
  unfold n23
  ((with_reducible (refine box_a (by assumption) fun i h z p m => ?_; refine box_a (by assumption) fun i h z p m => ?_; refine mv_i ?_; refine fao ?_));
      (refine ldo (by assumption) (q := by infer_instance) (by with_unfolding_all rfl) ?_);
      (with_reducible (refine fao ?_));
      (refine ldo (by assumption) (q := by infer_instance) (by with_unfolding_all rfl) ?_);
      (with_reducible (refine neq_i (fun hc => ?_) (fun hc => ?_); refine mv_i ?_; refine gd_ff ?_; refine fao ?_; refine gd_ff ?_));
      (refine ldo (by assumption) (q := by infer_instance) (by with_unfolding_all rfl) ?_);
      (with_reducible (refine gd_ff ?_; refine fao ?_; refine gd_ff ?_));
      (refine ldo (by assumption) (q := by infer_instance) (by with_unfolding_all rfl) ?_);
      (with_reducible (refine gd_ff ?_; refine neq_i (fun hc => ?_) (fun hc => ?_); refine pick_f ?_; refine mv_i ?_; refine gd_ff ?_; refine fao ?_; refine gd_ff ?_));
      (refine ldo (by assumption) (q := by infer_instance) (by with_unfolding_all rfl) ?_);
      (with_reducible (refine gd_ff ?_; refine fao ?_; refine gd_ff ?_));
      (refine ldo (by assumption) (q := by infer_instance) (by with_unfolding_all rfl) ?_);
      (with_reducible (refine gd_ff ?_; refine neq_i (fun hc => ?_) (fun hc => ?_); refine pick_f ?_; refine mv_i ?_; refine gd_ff ?_; refine fao ?_; refine gd_ff ?_));
      (refine ldo (by assumption) (q := by infer_instance) (by with_unfolding_all rfl) ?_);
      (with_reducible (refine gd_ff ?_; refine fao ?_; refine gd_ff ?_));
      (refine ldo (by assumption) (q := by infer_instance) (by with_unfolding_all rfl) ?_);
      (with_reducible (refine gd_ff ?_; refine neq_i (fun hc => ?_) (fun hc => ?_); refine pick_f ?_; refine mv_i ?_; refine gd_ff ?_; refine fao ?_; refine gd_ff ?_));
      (refine ldo (by assumption) (q := by infer_instance) (by with_unfolding_all rfl) ?_);
      (with_reducible (refine gd_ff ?_; refine len_g (by assumption) ?_; refine gd_ff ?_; refine fao ?_; refine gd_ff ?_));
      (refine ldo (by assumption) (q := by infer_instance) (by with_unfolding_all rfl) ?_);
      (with_reducible (refine gd_ff ?_; refine len_g (by assumption) ?_; refine gd_ff ?_; refine neq_i (fun hc => ?_) (fun hc => ?_); refine pick_f ?_; refine cnd_f ?_; refine mv_i ?_));
      (rotate_left);
      (with_reducible (refine pick_f ?_; refine cnd_t ?_; refine mv_i ?_; refine ret1 ?_));
      (rotate_left);
      (with_reducible (refine pick_f ?_; refine mv_i ?_; refine gd_tf ?_; refine gd_tf ?_; refine gd_tf ?_; refine gd_tf ?_; refine gd_tf ?_; refine gd_tf ?_; refine gd_tf ?_; refine pick_t ?_; refine cnd_t ?_; refine mv_i ?_; refine ret1 ?_));
      (rotate_left);
      (with_reducible (refine pick_f ?_; refine mv_i ?_; refine gd_tf ?_; refine gd_tf ?_; refine gd_tf ?_; refine gd_tf ?_; refine gd_tf ?_; refine pick_t ?_; refine mv_i ?_; refine gd_tf ?_; refine gd_tf ?_; refine gd_tf ?_; refine gd_tf ?_; refine gd_tf ?_; refine gd_tf ?_; refine gd_tf ?_; refine pick_t ?_; refine cnd_t ?_; refine mv_i ?_; refine ret1 ?_));
      (rotate_left);
      (with_reducible (refine pick_f ?_; refine mv_i ?_; refine gd_tf ?_; refine gd_tf ?_; refine gd_tf ?_; refine gd_tf ?_; refine gd_tf ?_; refine pick_t ?_; refine mv_i ?_; refine gd_tf ?_; refine gd_tf ?_; refine gd_tf ?_; refine gd_tf ?_; refine gd_tf ?_; refine pick_t ?_; refine mv_i ?_; refine gd_tf ?_; refine gd_tf ?_; refine gd_tf ?_; refine gd_tf ?_; refine gd_tf ?_; refine gd_tf ?_; refine gd_tf ?_; refine pick_t ?_; refine cnd_t ?_; refine mv_i ?_; refine ret1 ?_));
      (rotate_left);
      (with_reducible (refine mv_i ?_; refine gd_tf ?_; refine gd_tf ?_; refine gd_tf ?_; refine gd_tf ?_; refine gd_tf ?_; refine pick_t ?_; refine mv_i ?_; refine gd_tf ?_; refine gd_tf ?_; refine gd_tf ?_; refine gd_tf ?_; refine gd_tf ?_; refine pick_t ?_; refine mv_i ?_; refine gd_tf ?_; refine gd_tf ?_; refine gd_tf ?_; refine gd_tf ?_; refine gd_tf ?_; refine pick_t ?_; refine mv_i ?_; refine gd_tf ?_; refine gd_tf ?_; refine gd_tf ?_; refine gd_tf ?_; refine gd_tf ?_; refine gd_tf ?_; refine gd_tf ?_; refine pick_t ?_; refine cnd_t ?_; refine mv_i ?_; refine ret1 ?_));
      (rotate_left))
  all_goals first
    | (refine ⟨?_, Mem.pre (by assumption)⟩
       rw [decide_eq_false]
       rintro rfl
       contradiction)
    | skip
  refine loop1 a.steps.length (fun k h2 => h = h2 ∧ ∀ j, j < k → gt a.steps j = gt b.steps j) ⟨rfl, fun j hj => by omega⟩ ?_
  rintro k _ _ hk ⟨rfl, hJ⟩
  ((with_reducible (refine mv_i ?_; refine fao ?_));
      (refine ldo (by assumption) (q := by infer_instance) (by with_unfolding_all rfl) ?_);
      (with_reducible (refine len_g (by assumption) ?_; refine lss_i (fun hc => ?_) (fun hc => ?_); refine cnd_t ?_; refine fao ?_));
      (refine ldo (by assumption) (q := by infer_instance) (by with_unfolding_all rfl) ?_);
      (with_reducible (refine vb_l (by assumption) ?_; refine mv_i ?_));
      (refine idx_d (by assumption) (by with_unfolding_all rfl) (by omega) fun p hp => ?_);
      (refine ldr_w (by assumption) (by with_unfolding_all rfl) ?_);
      (with_reducible (refine vb_f ?_; refine fao ?_));
      (refine ldo (by assumption) (q := by infer_instance) (by with_unfolding_all rfl) ?_);
      (with_reducible (refine vb_l (by assumption) ?_; refine mv_i ?_));
      (refine idx_d (by assumption) (by with_unfolding_all rfl) (by omega) fun p hp => ?_);
      (refine ldr_w (by assumption) (by with_unfolding_all rfl) ?_);
      (with_reducible (refine vb_f ?_; refine stne_i (fun hc => ?_) (fun hc => ?_); refine cnd_f ?_; refine mv_i ?_; refine inc_i (by omega) ?_; refine mv_i ?_));
      (rotate_left);
      (with_reducible (refine cnd_t ?_; refine mv_i ?_; refine ret1 ?_));
      (rotate_left);
      (with_reducible (refine cnd_f ?_; refine mv_i ?_; refine ret1 ?_));
      (rotate_left))
  · refine next1 (by omega) ⟨rfl, fun j hj => ?_⟩
    by_cases q : j = k
    · subst q; assumption
    · exact hJ j (by omega)
  · refine ⟨?_, Mem.pre (by assumption)⟩
    rw [decide_eq_false]
    rintro rfl
    exact hc rfl
  · refine ⟨?_, Mem.pre (by assumption)⟩
    rw [decide_eq_true]
    have hst : a.steps = b.steps := by
      refine List.ext_getElem (by omega) fun j h1 h2 => ?_
      rw [gt_at h1, gt_at h2]
      exact hJ j (by omega)
    cases a; cases b
    simp_all
end Go.Proofs.Ytomiejfeclefaaa

set_option linter.unusedSimpArgs false
set_option linter.unusedVariables false
set_option linter.unnecessarySimpa false
set_option maxRecDepth 100000
set_option maxHeartbeats 4000000
namespace Go.Proofs.Ytomiejfeclefaaa
open Go.AM
variable {h g : Heap}
theorem errM_ok {x : Mach} (h0 : errM x = 0) : (chkM x).2 = 0 ∧ headOK x ∧ (x.steps.length : Int) = x.states * x.inputs ∧ x.states ≤ 12 := by
  unfold errM at h0
  split at h0
  · contradiction
  · rename_i h1
    have h1 : (chkM x).2 = 0 := by simpa using h1
    split at h0
    · cases h0
    · split at h0
      · rename_i h2 h3
        exact ⟨h1, (chk_ok h1).1, (opn_iff h1).mp h3, by omega⟩
      · cases h0
/-! ### several mutants -/
/-! ### lists of one's own, lent -/
end Go.Proofs.Ytomiejfeclefaaa

set_option linter.unusedSimpArgs false
set_option linter.unusedVariables false
set_option linter.unnecessarySimpa false
set_option maxRecDepth 100000
set_option maxHeartbeats 4000000
namespace Go.Proofs.Ytomiejfeclefaaa
open Go.AM
variable {h g : Heap}
/-! ### mutants as machines -/
def setOut (l : List Stp) (k : Nat) (v : Int) : List Stp := l.set k { gt l k with out := v }
def setTo (l : List Stp) (k : Nat) (v : Int) : List Stp := l.set k { gt l k with to := v }
def ap1 (x cur : Mach) (m : Mut) : Mach :=
  if m.kind = 0 then { cur with steps := setOut cur.steps m.step.toNat m.to }
  else if m.kind = 1 then { cur with steps := setTo cur.steps m.step.toNat m.to }
  else if m.kind = 2 then { cur with start := m.to }
  else { cur with steps := setTo (setTo cur.steps m.step.toNat (gt x.steps m.to.toNat).to) m.to.toNat (gt x.steps m.step.toNat).to }
def muts (x : Mach) (l : List Mut) (k : Nat) : Mach := (l.take k).foldl (ap1 x) x
def mutd (x : Mach) (l : List Mut) : Mach := l.foldl (ap1 x) x
theorem ap1_same (x cur : Mach) (m : Mut) : (ap1 x cur m).states = cur.states ∧ (ap1 x cur m).inputs = cur.inputs ∧ (ap1 x cur m).outputs = cur.outputs ∧ (ap1 x cur m).steps.length = cur.steps.length := by
  unfold ap1 setOut setTo
  repeat' split
  all_goals simp
theorem muts_next {x : Mach} {l : List Mut} {k : Nat} (hk : k < l.length) : muts x l (k + 1) = ap1 x (muts x l k) (gt l k) := by
  unfold muts
  rw [take_gd Df.d hk, List.foldl_append]
  rfl
theorem muts_same (x : Mach) (l : List Mut) : ∀ k, (muts x l k).states = x.states ∧ (muts x l k).inputs = x.inputs ∧ (muts x l k).outputs = x.outputs ∧ (muts x l k).steps.length = x.steps.length := by
  intro k
  induction k with
  | zero => simp [muts]
  | succ k ih =>
    by_cases hk : k < l.length
    · rw [muts_next hk]
      have := ap1_same x (muts x l k) (gt l k)
      omega
    · have : muts x l (k + 1) = muts x l k := by
        unfold muts
        rw [List.take_of_length_le (by omega), List.take_of_length_le (by omega)]
      rw [this]; exact ih
end Go.Proofs.Ytomiejfeclefaaa

set_option linter.unusedSimpArgs false
set_option linter.unusedVariables false
set_option linter.unnecessarySimpa false
set_option maxRecDepth 100000
set_option maxHeartbeats 4000000
namespace Go.Proofs.Ytomiejfeclefaaa
open Go.AM
variable {h g : Heap}
theorem mutE_ok {x : Mach} {l : List Mut} (h0 : (mutE x l).2 = 0) : l.length ≤ 4 ∧ ∀ k, k < l.length → (0 ≤ (gt l k).kind ∧ (gt l k).kind ≤ 3) ∧ rightS x (gt l k) := by
  unfold mutE at h0
  split at h0
  · cases h0
  · exact ⟨by omega, fun k hk => ⟨(muE_ok (firstErr_zero h0 k hk)).1, (muE_ok (firstErr_zero h0 k hk)).2.1⟩⟩
theorem small {x : Mach} (h0 : errM x = 0) : x.steps.length ≤ 320 := by
  obtain ⟨h1, h2, h3, _⟩ := errM_ok h0
  have := prod_bd h2
  omega
end Go.Proofs.Ytomiejfeclefaaa

set_option linter.unusedSimpArgs false
set_option linter.unusedVariables false
set_option linter.unnecessarySimpa false
set_option maxRecDepth 100000
set_option maxHeartbeats 4000000
namespace Go.Proofs.Ytomiejfeclefaaa
open Go.AM
variable {h g : Heap}
end Go.Proofs.Ytomiejfeclefaaa

set_option linter.unusedSimpArgs false
set_option linter.unusedVariables false
set_option linter.unnecessarySimpa false
set_option maxRecDepth 100000
namespace Go.Proofs.Ytomiejfeclefaaa
open Go.AM
open Go.ChangeShapes Go.WideShapes Go.ChangeAt Go.RowKit
theorem laid : laidOutB Try.prog = true := by kernel_rfl
theorem own : ownKnob Try.prog.godebug = none := by kernel_rfl
def dStp {H : Type} : DataW H → Stp | .agg [a, b, c, d] => ⟨dint a, dint b, dint c, dint d⟩ | _ => Df.d
def dMac {H : Type} : DataW H → Mach | .agg [a, b, c, d, e] => ⟨dint a, dint b, dint c, dint d, dlist dStp e⟩ | _ => ⟨0, 0, 0, 0, []⟩
theorem ARd_stp {H : Type} {h : Heap} {cs : List Value} {d : DataW H} (q : ARd Try.prog h 82 cs d) : cs = Flat.cells (dStp d) := by
  obtain ⟨parts, rfl, hl, hp, hf⟩ := q.fields Try.underlying82
  have hl : cs.length = 4 := hl
  obtain ⟨a, b, c, d, rfl⟩ : ∃ a b c d, parts = [a, b, c, d] := by
    match parts, hp with
    | [a, b, c, d], _ => exact ⟨a, b, c, d, rfl⟩
  have g0 : cs[0]? = some (.int .i64 (dint a)) := ARd.f_int (hf 0 _ a rfl rfl) Try.underlying3
  have g1 : cs[1]? = some (.int .i64 (dint b)) := ARd.f_int (hf 1 _ b rfl rfl) Try.underlying3
  have g2 : cs[2]? = some (.int .i64 (dint c)) := ARd.f_int (hf 2 _ c rfl rfl) Try.underlying3
  have g3 : cs[3]? = some (.int .i64 (dint d)) := ARd.f_int (hf 3 _ d rfl rfl) Try.underlying3
  refine List.ext_getElem? fun j => ?_
  by_cases hj : j < 4
  · match j, hj with
    | 0, _ => rw [g0]; rfl
    | 1, _ => rw [g1]; rfl
    | 2, _ => rw [g2]; rfl
    | 3, _ => rw [g3]; rfl
  · rw [List.getElem?_eq_none (by omega), List.getElem?_eq_none (by rw [Flat.len]; show 4 ≤ j; omega)]
theorem dl_le {H α : Type} (de : DataW H → α) (d : DataW H) : (dlist de d).length ≤ Rows.uptoBulk d := by
  cases d with
  | slice elems spare =>
    have := bulks.length_le elems
    have := bulks.slice_elems elems spare
    simp only [dlist, List.length_map]; omega
  | lit l => simp [dlist]
  | nil => simp [dlist]
  | ptr d => simp [dlist]
  | agg parts => simp [dlist]
  | iface t d => simp [dlist]
  | map entries => simp [dlist]
  | held h => simp [dlist]
theorem mac_le {H : Type} (d : DataW H) : (dMac d).steps.length ≤ Rows.uptoBulk d := by
  unfold dMac
  split
  · rename_i a b c d e
    have := dl_le dStp e
    simp only [Rows.uptoBulk, Rows.uptoBulkAll]
    omega
  · simp
theorem ARd_mac {H : Type} {h : Heap} {cs : List Value} {d : DataW H} (q : ARd Try.prog h 24 cs d) (hb : (dMac d).steps.length ≤ 2 ^ 50) : MacV h (absV Try.prog 24 cs) (dMac d) := by
  obtain ⟨parts, rfl, hl, hp, hf⟩ := q.fields Try.underlying24
  have hl : cs.length = 5 := hl
  obtain ⟨a, b, c, d, e, rfl⟩ : ∃ a b c d e, parts = [a, b, c, d, e] := by
    match parts, hp with
    | [a, b, c, d, e], _ => exact ⟨a, b, c, d, e, rfl⟩
  have g0 : cs[0]? = some (.int .i64 (dint a)) := ARd.f_int (hf 0 _ a rfl rfl) Try.underlying3
  have g1 : cs[1]? = some (.int .i64 (dint b)) := ARd.f_int (hf 1 _ b rfl rfl) Try.underlying3
  have g2 : cs[2]? = some (.int .i64 (dint c)) := ARd.f_int (hf 2 _ c rfl rfl) Try.underlying3
  have g3 : cs[3]? = some (.int .i64 (dint d)) := ARd.f_int (hf 3 _ d rfl rfl) Try.underlying3
  obtain ⟨o, l, c', e', s⟩ := ARd.list dStp (hf 4 _ e rfl rfl) Try.underlying22 (by kernel_rfl) (fun cs d r => ARd_stp r) hb
  have g4 : cs[4]? = some (.slice o l c') := drop_one e'
  refine ⟨_, ?_, s⟩
  simp only [absV, Try.underlying24]
  congr 1
  have : cs = [.int .i64 (dint a), .int .i64 (dint b), .int .i64 (dint c), .int .i64 (dint d), .slice o l c'] := by
    refine List.ext_getElem? fun j => ?_
    by_cases hj : j < 5
    · match j, hj with
      | 0, _ => rw [g0]; rfl
      | 1, _ => rw [g1]; rfl
      | 2, _ => rw [g2]; rfl
      | 3, _ => rw [g3]; rfl
      | 4, _ => rw [g4]; rfl
    · rw [List.getElem?_eq_none (by omega), List.getElem?_eq_none (by simp; omega)]
  rw [this]; rfl
end Go.Proofs.Ytomiejfeclefaaa

set_option linter.unusedVariables false
set_option maxRecDepth 100000
namespace Go.Proofs.Ytomiejfeclefaaa
open Go.AM

/-! ### examiner/examinerlaw41.MutantLists: function 3 -/
def n3 (a0 : Value) (h : Heap) (R : Value → Heap → Prop) : Prop :=
  okK (some (aBox Try.prog 24 a0 h)) fun v1 h =>
  mvK (Value.bool false) h fun v2 h =>
  cK Try.prog 11 [] h fun v8 h =>
  vK (aUn UnOp.not v8) h fun v9 h =>
  cnd v9 (
   mvK (Value.bool false) h fun v2_1 h =>
   retV [some v2_1] R h) (
   vK (aLoad Try.prog 24 v1 h) h fun v10 h =>
   cK Try.prog 12 [v10] h fun v11 h =>
   vK (aBin Try.prog BinOp.eql 3 v11 (Value.int IntKind.i64 0)) h fun v12 h =>
   mvK v12 h fun v13 h =>
   gdK v13 true (fun k0 =>
    vK (aFieldAddr Try.prog 24 v1 0) h fun v14 h =>
    k0 v14 h) (fun v14_1 h =>
    gdK v13 true (fun k1 =>
     vK (aLoad Try.prog 3 v14_1 h) h fun v15 h =>
     k1 v15 h) (fun v15_1 h =>
     gdK v13 true (fun k2 =>
      vK (aBin Try.prog BinOp.gtr 3 v15_1 (Value.int IntKind.i64 12)) h fun v16 h =>
      k2 v16 h) (fun v16_1 h =>
      vK (pickV v13 v16_1 (Value.bool false)) h fun v17 h =>
      cnd v17 (
       mvK (Value.bool true) h fun v2_2 h =>
       retV [some v2_2] R h) (
       vK (aLoad Try.prog 24 v1 h) h fun v19 h =>
       cK Try.prog 14 [v19] h fun v20 h =>
       cK Try.prog 13 [v20] h fun v21 h =>
       mvK v21 h fun v18 h =>
       vK (aExtract v18 0) h fun v22 h =>
       vK (aExtract v18 1) h fun v23 h =>
       mvK v22 h fun v3 h =>
       mvK v23 h fun v4 h =>
       vK (aLoad Try.prog 24 v1 h) h fun v24 h =>
       cK Try.prog 12 [v24] h fun v25 h =>
       mvK v25 h fun v5 h =>
       mvK v5 h fun v26 h =>
       vK (aBin Try.prog BinOp.neq 3 v26 (Value.int IntKind.i64 0)) h fun v27 h =>
       cnd v27 (
        mvK v4 h fun v28 h =>
        mvK v5 h fun v29 h =>
        vK (aBin Try.prog BinOp.eql 3 v28 v29) h fun v30 h =>
        mvK v30 h fun v31 h =>
        gdK v31 true (fun k3 =>
         mvK v3 h fun v32 h =>
         k3 v32 h) (fun v32_1 h =>
         gdK v31 true (fun k4 =>
          vK (aLen Try.prog 27 v32_1) h fun v33 h =>
          k4 v33 h) (fun v33_1 h =>
          gdK v31 true (fun k5 =>
           vK (aBin Try.prog BinOp.eql 3 v33_1 (Value.int IntKind.i64 0)) h fun v34 h =>
           k5 v34 h) (fun v34_1 h =>
           vK (pickV v31 v34_1 (Value.bool false)) h fun v35 h =>
           mvK v35 h fun v2_3 h =>
           retV [some v2_3] R h) h) h) h) (
        vK (aLoad Try.prog 24 v1 h) h fun v36 h =>
        cK Try.prog 15 [v36] h fun v37 h =>
        mvK v37 h fun v6 h =>
        mvK v4 h fun v38 h =>
        vK (aBin Try.prog BinOp.neq 28 v38 (Value.int IntKind.i64 0)) h fun v39 h =>
        mvK v39 h fun v40 h =>
        gdK v40 false (fun k6 =>
         mvK v3 h fun v41 h =>
         k6 v41 h) (fun v41_1 h =>
         gdK v40 false (fun k7 =>
          vK (aLen Try.prog 27 v41_1) h fun v42 h =>
          k7 v42 h) (fun v42_1 h =>
          gdK v40 false (fun k8 =>
           mvK v6 h fun v43 h =>
           k8 v43 h) (fun v43_1 h =>
           gdK v40 false (fun k9 =>
            vK (aLen Try.prog 27 v43_1) h fun v44 h =>
            k9 v44 h) (fun v44_1 h =>
            gdK v40 false (fun k10 =>
             vK (aBin Try.prog BinOp.neq 3 v42_1 v44_1) h fun v45 h =>
             k10 v45 h) (fun v45_1 h =>
             vK (pickV v40 (Value.bool true) v45_1) h fun v46 h =>
             cnd v46 (
              mvK (Value.bool false) h fun v2_4 h =>
              retV [some v2_4] R h) (
              mvK (Value.int IntKind.i64 0) h fun v7 h =>
              ∃ (I13 : List Value → Heap → Prop) (μ13 : List Value → Heap → Nat), I13 [v7] h ∧
              ∀ (h13 : Heap) (j13 : Tmps) (v7_1 : Value), I13 [v7_1] h13 → (let h := h13
               mvK v7_1 h fun v47 h =>
               mvK v3 h fun v48 h =>
               vK (aLen Try.prog 27 v48) h fun v49 h =>
               vK (aBin Try.prog BinOp.lss 3 v47 v49) h fun v50 h =>
               cnd v50 (
                mvK v3 h fun v53 h =>
                mvK v7_1 h fun v54 h =>
                vK (aIndexAddr Try.prog 27 v53 v54) h fun v55 h =>
                vK (aLoad Try.prog 34 v55 h) h fun v56 g =>
                VB h.length v56 ∧ (let h := g
                 mvK v6 h fun v57 h =>
                 mvK v7_1 h fun v58 h =>
                 vK (aIndexAddr Try.prog 27 v57 v58) h fun v59 h =>
                 vK (aLoad Try.prog 34 v59 h) h fun v60 g =>
                 VB h.length v60 ∧ (let h := g
                  vK (aBin Try.prog BinOp.neq 34 v56 v60) h fun v61 h =>
                  cnd v61 (
                   mvK (Value.bool false) h fun v2_5 h =>
                   retV [some v2_5] R h) (
                   mvK v7_1 h fun v51 h =>
                   vK (aBin Try.prog BinOp.add 3 v51 (Value.int IntKind.i64 1)) h fun v52 h =>
                   mvK v52 h fun v7_2 h =>
                   I13 [v7_2] h ∧ μ13 [v7_2] h < μ13 [v7_1] h13)))) (
                mvK (Value.bool true) h fun v2_6 h =>
                retV [some v2_6] R h)))) h) h) h) h) h))) h) h) h)
def lv3 (q : Nat) : List Nat := bif Nat.beq q 26 then [4611545280939032708, 7] else []
theorem ok3 : lkOK Try.prog lv3 Try.f3 1 (Try.f3.body.getD .skip) 3 = true := by kernel_rfl
theorem e3 (a0 : Value) (h : Heap) (R : Value → Heap → Prop) : n3 a0 h R = wpK Try.prog lv3 (Try.f3.body.getD .skip) (endK Try.prog [.tmp 2] R) (argT [a0]) h := by kernel_rfl
theorem w3 {a0 : Value} {h : Heap} {R : Value → Heap → Prop} (hn : n3 a0 h R) : DetP Try.prog 3 [a0] h R :=
  DetP.of_code (rs := [.tmp 2]) (n := 1) Try.func3 (by kernel_rfl) (by kernel_rfl) lv3 ok3 rfl ((e3 a0 h R) ▸ hn)

/-! ### examiner/mutant.MutationsOf: function 13 -/
def n13 (a0 : Value) (h : Heap) (R : Value → Heap → Prop) : Prop :=
  okK (some (aBox Try.prog 24 a0 h)) fun v1 h =>
  mvK (Value.slice none 0 0) h fun v2 h =>
  mvK (Value.int IntKind.i64 0) h fun v3 h =>
  vK (aLoad Try.prog 24 v1 h) h fun v13 h =>
  cK Try.prog 43 [v13] h fun v14 h =>
  mvK v14 h fun v4 h =>
  mvK v4 h fun v15 h =>
  vK (aBin Try.prog BinOp.neq 28 v15 (Value.int IntKind.i64 0)) h fun v16 h =>
  cnd v16 (
   mvK v4 h fun v17 h =>
   mvK (Value.slice none 0 0) h fun v2_1 h =>
   mvK v17 h fun v3_1 h =>
   retV [some v2_1, some v3_1] R h) (
   okK (aAlloc Try.prog 27 h) fun v5 h =>
   mvK (Value.func (Fn.func 44) #[] #[v5]) h fun v18 h =>
   mvK v18 h fun v6 h =>
   vK (aFieldAddr Try.prog 24 v1 4) h fun v19 h =>
   vK (aLoad Try.prog 22 v19 h) h fun v20 h =>
   vK (aLen Try.prog 22 v20) h fun v21 h =>
   mvK (Value.int IntKind.i64 0) h fun v22 h =>
   ∃ (I7 : List Value → Heap → Prop) (μ7 : List Value → Heap → Nat), I7 [v22] h ∧
   ∀ (h7 : Heap) (j7 : Tmps) (v22_1 : Value), I7 [v22_1] h7 → (let h := h7
    vK (aBin Try.prog BinOp.lss 3 v22_1 v21) h fun v23 h =>
    cnd v23 (
     mvK v22_1 h fun v24 h =>
     vK (aIndexAddr Try.prog 22 v20 v22_1) h fun v25 h =>
     vK (aLoad Try.prog 82 v25 h) h fun v26 h =>
     okK (aAlloc Try.prog 82 h) fun v8 h =>
     mvK v24 h fun v7 h =>
     okK ((aStore Try.prog 82 v8 v26 h).map (undef, ·)) fun _ h =>
     vK (aFieldAddr Try.prog 24 v1 2) h fun v27 h =>
     vK (aLoad Try.prog 3 v27 h) h fun v28 h =>
     mvK (Value.int IntKind.i64 0) h fun v29 h =>
     ∃ (I10 : List Value → Heap → Prop) (μ10 : List Value → Heap → Nat), I10 [v29] h ∧
     ∀ (h10 : Heap) (j10 : Tmps) (v29_1 : Value), I10 [v29_1] h10 → (let h := h10
      vK (aBin Try.prog BinOp.lss 3 v29_1 v28) h fun v30 h =>
      cnd v30 (
       mvK v29_1 h fun v31 h =>
       mvK v31 h fun v9 h =>
       mvK v6 h fun v32 h =>
       mvK v9 h fun v33 h =>
       vK (aFieldAddr Try.prog 82 v8 2) h fun v34 h =>
       vK (aLoad Try.prog 3 v34 h) h fun v35 h =>
       vK (aBin Try.prog BinOp.neq 3 v33 v35) h fun v36 h =>
       mvK v7 h fun v37 h =>
       mvK v9 h fun v38 h =>
       vK (aBuild Try.prog 34 [(0, (Value.int IntKind.i64 0)), (1, v37), (2, v38)]) h fun v39 h =>
       callK Try.prog (fnOf v32 [v36, v39]) h fun v40 h =>
       vK (aBin Try.prog BinOp.add 3 v29_1 (Value.int IntKind.i64 1)) h fun v41 h =>
       mvK v41 h fun v29_2 h =>
       I10 [v29_2] h ∧ μ10 [v29_2] h < μ10 [v29_1] h10) (
       vK (aFieldAddr Try.prog 24 v1 0) h fun v42 h =>
       vK (aLoad Try.prog 3 v42 h) h fun v43 h =>
       mvK (Value.int IntKind.i64 0) h fun v44 h =>
       ∃ (I15 : List Value → Heap → Prop) (μ15 : List Value → Heap → Nat), I15 [v44] h ∧
       ∀ (h15 : Heap) (j15 : Tmps) (v44_1 : Value), I15 [v44_1] h15 → (let h := h15
        vK (aBin Try.prog BinOp.lss 3 v44_1 v43) h fun v45 h =>
        cnd v45 (
         mvK v44_1 h fun v46 h =>
         mvK v46 h fun v10 h =>
         mvK v6 h fun v47 h =>
         mvK v10 h fun v48 h =>
         vK (aFieldAddr Try.prog 82 v8 3) h fun v49 h =>
         vK (aLoad Try.prog 3 v49 h) h fun v50 h =>
         vK (aBin Try.prog BinOp.neq 3 v48 v50) h fun v51 h =>
         mvK v7 h fun v52 h =>
         mvK v10 h fun v53 h =>
         vK (aBuild Try.prog 34 [(0, (Value.int IntKind.i64 1)), (1, v52), (2, v53)]) h fun v54 h =>
         callK Try.prog (fnOf v47 [v51, v54]) h fun v55 h =>
         vK (aBin Try.prog BinOp.add 3 v44_1 (Value.int IntKind.i64 1)) h fun v56 h =>
         mvK v56 h fun v44_2 h =>
         I15 [v44_2] h ∧ μ15 [v44_2] h < μ15 [v44_1] h15) (
         mvK v7 h fun v57 h =>
         vK (aBin Try.prog BinOp.add 3 v57 (Value.int IntKind.i64 1)) h fun v58 h =>
         mvK v58 h fun v11 h =>
         ∃ (I20 : List Value → Heap → Prop) (μ20 : List Value → Heap → Nat), I20 [v11] h ∧
         ∀ (h20 : Heap) (j20 : Tmps) (v11_1 : Value), I20 [v11_1] h20 → (let h := h20
          mvK v11_1 h fun v59 h =>
          vK (aFieldAddr Try.prog 24 v1 4) h fun v60 h =>
          vK (aLoad Try.prog 22 v60 h) h fun v61 h =>
          vK (aLen Try.prog 22 v61) h fun v62 h =>
          vK (aBin Try.prog BinOp.lss 3 v59 v62) h fun v63 h =>
          cnd v63 (
           mvK v6 h fun v66 h =>
           vK (aFieldAddr Try.prog 24 v1 4) h fun v67 h =>
           vK (aLoad Try.prog 22 v67 h) h fun v68 g =>
           VB h.length v68 ∧ (let h := g
            mvK v11_1 h fun v69 h =>
            vK (aIndexAddr Try.prog 22 v68 v69) h fun v70 h =>
            vK (aFieldAddr Try.prog 82 v70 3) h fun v71 h =>
            vK (aLoad Try.prog 3 v71 h) h fun v72 g =>
            VB h.length v72 ∧ (let h := g
             vK (aFieldAddr Try.prog 82 v8 3) h fun v73 h =>
             vK (aLoad Try.prog 3 v73 h) h fun v74 g =>
             VB h.length v74 ∧ (let h := g
              vK (aBin Try.prog BinOp.neq 3 v72 v74) h fun v75 h =>
              mvK v7 h fun v76 h =>
              mvK v11_1 h fun v77 h =>
              vK (aBuild Try.prog 34 [(0, (Value.int IntKind.i64 3)), (1, v76), (2, v77)]) h fun v78 h =>
              callK Try.prog (fnOf v66 [v75, v78]) h fun v79 h =>
              mvK v11_1 h fun v64 h =>
              vK (aBin Try.prog BinOp.add 3 v64 (Value.int IntKind.i64 1)) h fun v65 h =>
              mvK v65 h fun v11_2 h =>
              I20 [v11_2] h ∧ μ20 [v11_2] h < μ20 [v11_1] h20)))) (
           vK (aBin Try.prog BinOp.add 3 v22_1 (Value.int IntKind.i64 1)) h fun v80 h =>
           mvK v80 h fun v22_2 h =>
           I7 [v22_2] h ∧ μ7 [v22_2] h < μ7 [v22_1] h7))))))) (
     vK (aFieldAddr Try.prog 24 v1 0) h fun v81 h =>
     vK (aLoad Try.prog 3 v81 h) h fun v82 h =>
     mvK (Value.int IntKind.i64 0) h fun v83 h =>
     ∃ (I25 : List Value → Heap → Prop) (μ25 : List Value → Heap → Nat), I25 [v83] h ∧
     ∀ (h25 : Heap) (j25 : Tmps) (v83_1 : Value), I25 [v83_1] h25 → (let h := h25
      vK (aBin Try.prog BinOp.lss 3 v83_1 v82) h fun v84 h =>
      cnd v84 (
       mvK v83_1 h fun v85 h =>
       mvK v85 h fun v12 h =>
       mvK v6 h fun v86 h =>
       mvK v12 h fun v87 h =>
       vK (aFieldAddr Try.prog 24 v1 3) h fun v88 h =>
       vK (aLoad Try.prog 3 v88 h) h fun v89 h =>
       vK (aBin Try.prog BinOp.neq 3 v87 v89) h fun v90 h =>
       mvK v12 h fun v91 h =>
       vK (aBuild Try.prog 34 [(0, (Value.int IntKind.i64 2)), (2, v91)]) h fun v92 h =>
       callK Try.prog (fnOf v86 [v90, v92]) h fun v93 h =>
       vK (aBin Try.prog BinOp.add 3 v83_1 (Value.int IntKind.i64 1)) h fun v94 h =>
       mvK v94 h fun v83_2 h =>
       I25 [v83_2] h ∧ μ25 [v83_2] h < μ25 [v83_1] h25) (
       vK (aLoad Try.prog 27 v5 h) h fun v95 h =>
       cK Try.prog 45 [v95, (Value.func (Fn.func 46) #[] #[])] h fun v96 h =>
       vK (aLoad Try.prog 27 v5 h) h fun v97 h =>
       mvK v97 h fun v2_2 h =>
       mvK (Value.int IntKind.i64 0) h fun v3_2 h =>
       retV [some v2_2, some v3_2] R h)))))
def lv13 (q : Nat) : List Nat := bif Nat.beq q 14 then [2417851639229258345222016, 22] else bif Nat.beq q 20 then [4397509640704, 29] else bif Nat.beq q 30 then [144097595889812480, 44] else bif Nat.beq q 40 then [1208925243153876871284736, 11] else bif Nat.beq q 50 then [39604409850575251763374329856, 83] else []
theorem ok13 : lkOK Try.prog lv13 Try.f13 1 (Try.f13.body.getD .skip) 13 = true := by kernel_rfl
theorem e13 (a0 : Value) (h : Heap) (R : Value → Heap → Prop) : n13 a0 h R = wpK Try.prog lv13 (Try.f13.body.getD .skip) (endK Try.prog [.tmp 2, .tmp 3] R) (argT [a0]) h := by kernel_rfl
theorem w13 {a0 : Value} {h : Heap} {R : Value → Heap → Prop} (hn : n13 a0 h R) : DetP Try.prog 13 [a0] h R :=
  DetP.of_code (rs := [.tmp 2, .tmp 3]) (n := 1) Try.func13 (by kernel_rfl) (by kernel_rfl) lv13 ok13 rfl ((e13 a0 h R) ▸ hn)

/-! ### examiner/examinerref41.Mutations: function 15 -/
def n15 (a0 : Value) (h : Heap) (R : Value → Heap → Prop) : Prop :=
  okK (some (aBox Try.prog 24 a0 h)) fun v1 h =>
  mvK (Value.slice none 0 0) h fun v2 h =>
  mvK (Value.slice none 0 0) h fun v3 h =>
  mvK (Value.int IntKind.i64 0) h fun v4 h =>
  ∃ (I3 : List Value → Heap → Prop) (μ3 : List Value → Heap → Nat), I3 [v3, v4] h ∧
  ∀ (h3 : Heap) (j3 : Tmps) (v3_1 : Value) (v4_1 : Value), I3 [v3_1, v4_1] h3 → (let h := h3
   mvK v4_1 h fun v10 h =>
   vK (aBin Try.prog BinOp.lss 3 v10 (Value.int IntKind.i64 4)) h fun v11 h =>
   cnd v11 (
    mvK (Value.int IntKind.i64 0) h fun v5 h =>
    ∃ (I6 : List Value → Heap → Prop) (μ6 : List Value → Heap → Nat), I6 [v3_1, v5] h ∧
    ∀ (h6 : Heap) (j6 : Tmps) (v3_2 : Value) (v5_1 : Value), I6 [v3_2, v5_1] h6 → (let h := h6
     mvK v5_1 h fun v14 h =>
     vK (aFieldAddr Try.prog 24 v1 4) h fun v15 h =>
     vK (aLoad Try.prog 22 v15 h) h fun v16 h =>
     vK (aLen Try.prog 22 v16) h fun v17 h =>
     vK (aMax (Value.int IntKind.i64 1) v17) h fun v18 h =>
     vK (aBin Try.prog BinOp.lss 3 v14 v18) h fun v19 h =>
     cnd v19 (
      mvK (Value.int IntKind.i64 0) h fun v6 h =>
      ∃ (I9 : List Value → Heap → Prop) (μ9 : List Value → Heap → Nat), I9 [v3_2, v6] h ∧
      ∀ (h9 : Heap) (j9 : Tmps) (v3_3 : Value) (v6_1 : Value), I9 [v3_3, v6_1] h9 → (let h := h9
       mvK v6_1 h fun v22 h =>
       vK (aFieldAddr Try.prog 24 v1 2) h fun v23 h =>
       vK (aLoad Try.prog 3 v23 h) h fun v24 h =>
       vK (aFieldAddr Try.prog 24 v1 0) h fun v25 h =>
       vK (aLoad Try.prog 3 v25 h) h fun v26 h =>
       vK (aFieldAddr Try.prog 24 v1 4) h fun v27 h =>
       vK (aLoad Try.prog 22 v27 h) h fun v28 h =>
       vK (aLen Try.prog 22 v28) h fun v29 h =>
       vK (aMax3 v24 v26 v29) h fun v30 h =>
       vK (aBin Try.prog BinOp.lss 3 v22 v30) h fun v31 h =>
       cnd v31 (
        seqK (fun k0 =>
         mvK v4_1 h fun v34 h =>
         mvK v5_1 h fun v35 h =>
         mvK v6_1 h fun v36 h =>
         vK (aBuild Try.prog 34 [(0, v34), (1, v35), (2, v36)]) h fun v37 h =>
         okK (aAlloc Try.prog 34 h) fun v7 h =>
         okK ((aStore Try.prog 34 v7 v37 h).map (undef, ·)) fun _ h =>
         vK (aLoad Try.prog 24 v1 h) h fun v39 h =>
         vK (aLoad Try.prog 34 v7 h) h fun v40 h =>
         okK (aBuildSlice Try.prog 27 1 [(0, v40)] h) fun v41 h =>
         cK Try.prog 21 [v39, v41] h fun v42 h =>
         mvK v42 h fun v38 h =>
         vK (aExtract v38 0) h fun v43 h =>
         vK (aExtract v38 1) h fun v44 h =>
         mvK v43 h fun v8 h =>
         mvK v44 h fun v9 h =>
         mvK v9 h fun v45 h =>
         vK (aBin Try.prog BinOp.eql 3 v45 (Value.int IntKind.i64 0)) h fun v46 h =>
         mvK v46 h fun v47 h =>
         gdK v47 true (fun k1 =>
          vK (aLoad Try.prog 24 v1 h) h fun v48 g =>
          VB h.length v48 ∧ (let h := g
           k1 v48 h)) (fun v48_1 h =>
          gdK v47 true (fun k2 =>
           vK (aLoad Try.prog 34 v7 h) h fun v49 g =>
           VB h.length v49 ∧ (let h := g
            k2 v49 h)) (fun v49_1 h =>
           gdK v47 true (fun k3 =>
            okK (aBuildSlice Try.prog 27 1 [(0, v49_1)] h) fun v50 h =>
            k3 v50 h) (fun v50_1 h =>
            gdK v47 true (fun k4 =>
             cKD Try.prog 24 [v48_1, v50_1] h fun v51 g =>
             (∃ new, g = h ++ new) ∧ (let h := g
              k4 v51 h)) (fun v51_1 h =>
             gdK v47 true (fun k5 =>
              vK (aLoad Try.prog 24 v1 h) h fun v52 g =>
              VB h.length v52 ∧ (let h := g
               k5 v52 h)) (fun v52_1 h =>
              gdK v47 true (fun k6 =>
               cKD Try.prog 23 [v51_1, v52_1] h fun v53 g =>
               (∃ new, g = h ++ new) ∧ (let h := g
                k6 v53 h)) (fun v53_1 h =>
               gdK v47 true (fun k7 =>
                vK (aUn UnOp.not v53_1) h fun v54 h =>
                k7 v54 h) (fun v54_1 h =>
                vK (pickV v47 v54_1 (Value.bool false)) h fun v55 h =>
                cnd v55 (
                 mvK v3_3 h fun v56 h =>
                 vK (aLoad Try.prog 34 v7 h) h fun v57 h =>
                 okK (aBuildSlice Try.prog 27 1 [(0, v57)] h) fun v58 h =>
                 okK (aAppend Try.prog 27 27 v56 v58 h) fun v59 h =>
                 mvK v59 h fun v3_4 h =>
                 k0 [v3_4] h) (
                 k0 [v3_3] h)) h) h) h) h) h) h) h) fun x0 h => ∀ jx0 : Tmps,
         let v3_5 : Value := nth x0 0
         mvK v6_1 h fun v32 h =>
         vK (aBin Try.prog BinOp.add 3 v32 (Value.int IntKind.i64 1)) h fun v33 h =>
         mvK v33 h fun v6_2 h =>
         I9 [v3_5, v6_2] h ∧ μ9 [v3_5, v6_2] h < μ9 [v3_3, v6_1] h9) (
        mvK v5_1 h fun v20 h =>
        vK (aBin Try.prog BinOp.add 3 v20 (Value.int IntKind.i64 1)) h fun v21 h =>
        mvK v21 h fun v5_2 h =>
        I6 [v3_3, v5_2] h ∧ μ6 [v3_3, v5_2] h < μ6 [v3_2, v5_1] h6))) (
      mvK v4_1 h fun v12 h =>
      vK (aBin Try.prog BinOp.add 3 v12 (Value.int IntKind.i64 1)) h fun v13 h =>
      mvK v13 h fun v4_2 h =>
      I3 [v3_2, v4_2] h ∧ μ3 [v3_2, v4_2] h < μ3 [v3_1, v4_1] h3))) (
    mvK v3_1 h fun v60 h =>
    mvK v60 h fun v2_1 h =>
    retV [some v2_1] R h))
def lv15 (q : Nat) : List Nat := bif Nat.beq q 6 then [1152921504606846968, 3, 4] else bif Nat.beq q 12 then [1152921504606831592, 3, 5] else bif Nat.beq q 18 then [1152921504602653640, 3, 6] else bif Nat.beq q 21 then [1152921487426978696, 3] else []
theorem ok15 : lkOK Try.prog lv15 Try.f15 1 (Try.f15.body.getD .skip) 15 = true := by kernel_rfl
theorem e15 (a0 : Value) (h : Heap) (R : Value → Heap → Prop) : n15 a0 h R = wpK Try.prog lv15 (Try.f15.body.getD .skip) (endK Try.prog [.tmp 2] R) (argT [a0]) h := by kernel_rfl
theorem w15 {a0 : Value} {h : Heap} {R : Value → Heap → Prop} (hn : n15 a0 h R) : DetP Try.prog 15 [a0] h R :=
  DetP.of_code (rs := [.tmp 2]) (n := 1) Try.func15 (by kernel_rfl) (by kernel_rfl) lv15 ok15 rfl ((e15 a0 h R) ▸ hn)

end Go.Proofs.Ytomiejfeclefaaa

set_option linter.unusedVariables false
set_option maxRecDepth 100000
namespace Go.Proofs.Ytomiejfeclefaaa
open Go.AM

/-! ### examiner/examinerlaw41.MutantKilled: function 7 -/
/-! ### examiner/examinerlaw41.MutantOne: function 8 -/
/-! ### examiner/examinerlaw41.MutantStands: function 9 -/
/-! ### examiner/examinerlaw41.MutantOrdered: function 10 -/
/-! ### examiner/mutant.RelationOf: function 32 -/
/-! ### examiner/examinerref41.Relation: function 35 -/
/-! ### examiner/examinerref37.WordErr: function 36 -/
/-! ### examiner/examinerref41.Kills: function 37 -/
/-! ### examiner/examinerref41.Stands: function 39 -/
/-! ### examiner/mutant.MutationsOf$1: function 44 -/
def n44 (a0 a1 a2 : Value) (h : Heap) (R : Value → Heap → Prop) : Prop :=
  okK (some (aBox Try.prog 34 a1 h)) fun v4 h =>
  mvK a0 h fun v5 h =>
  cnd v5 (
   vK (aLoad Try.prog 27 a2 h) h fun v6 h =>
   vK (aLoad Try.prog 34 v4 h) h fun v7 h =>
   okK (aBuildSlice Try.prog 27 1 [(0, v7)] h) fun v8 h =>
   okK (aAppend Try.prog 27 27 v6 v8 h) fun v9 h =>
   okK ((aStore Try.prog 27 a2 v9 h).map (undef, ·)) fun _ h =>
   retV [] R h) (
   retV [] R h)
def lv44 (q : Nat) : List Nat := []
theorem ok44 : lkOK Try.prog lv44 Try.f44 3 (Try.f44.body.getD .skip) 44 = true := by kernel_rfl
theorem e44 (a0 a1 a2 : Value) (h : Heap) (R : Value → Heap → Prop) : n44 a0 a1 a2 h R = wpK Try.prog lv44 (Try.f44.body.getD .skip) (endK Try.prog [] R) (argT [a0, a1, a2]) h := by kernel_rfl
theorem w44 {a0 a1 a2 : Value} {h : Heap} {R : Value → Heap → Prop} (hn : n44 a0 a1 a2 h R) : DetP Try.prog 44 [a0, a1, a2] h R :=
  DetP.of_code (rs := []) (n := 3) Try.func44 (by kernel_rfl) (by kernel_rfl) lv44 ok44 rfl ((e44 a0 a1 a2 h R) ▸ hn)

/-! ### slices.SortFunc[[][2]int,[2]int]: function 66 -/
/-! ### examiner/examinerref40.Catches: function 68 -/
/-! ### examiner/examinerref41.met: function 71 -/
/-! ### examiner/examinerref37.Answer: function 95 -/
/-! ### examiner/examinerref37.Taken: function 122 -/
end Go.Proofs.Ytomiejfeclefaaa

set_option linter.unusedVariables false
set_option maxRecDepth 100000
namespace Go.Proofs.Ytomiejfeclefaaa
open Go.AM

/-! ### examiner/examinerref41.ListErr: function 25 -/
/-! ### examiner/examinerlaw41.few: function 26 -/
/-! ### examiner/mutant.KindsOf: function 27 -/
/-! ### examiner/examinerref41.OwnList: function 28 -/
/-! ### examiner/examinerbase.SameInts: function 29 -/
/-! ### examiner/examinerref41.Kinds: function 30 -/
/-! ### examiner/mutant.Killing: function 31 -/
/-! ### examiner/examinerref41.Kill: function 33 -/
/-! ### examiner/examinerlaw41.samePairs: function 34 -/
/-! ### examiner/mutant.allErr: function 61 -/
/-! ### slices.IndexFunc[[]examiner/api.Machine,examiner/api.Machine]: function 62 -/
/-! ### examiner/mutant.KindsOf$1: function 63 -/
/-! ### examiner/model.Difference: function 64 -/
/-! ### examiner/examinerref37.Differ: function 65 -/
/-! ### examiner/examinerref37.Search: function 67 -/
/-! ### slices.Clone[[]int,int]: function 69 -/
/-! ### examiner/examinerbase.OwnInts: function 70 -/
/-! ### examiner/examinerref37.met: function 94 -/
/-! ### examiner/examinerlaw41.MutantSorts: function 6 -/
def n6 (a0 a1 : Value) (h : Heap) (R : Value → Heap → Prop) : Prop :=
  okK (some (aBox Try.prog 24 a0 h)) fun v2 h =>
  mvK (Value.bool false) h fun v4 h =>
  cK Try.prog 11 [] h fun v8 h =>
  vK (aUn UnOp.not v8) h fun v9 h =>
  cnd v9 (
   mvK (Value.bool false) h fun v4_1 h =>
   retV [some v4_1] R h) (
   vK (aLoad Try.prog 24 v2 h) h fun v10 h =>
   mvK a1 h fun v11 h =>
   cK Try.prog 25 [v10, v11] h fun v12 h =>
   mvK v12 h fun v5 h =>
   mvK v5 h fun v13 h =>
   vK (aBin Try.prog BinOp.eql 3 v13 (Value.int IntKind.i64 0)) h fun v14 h =>
   mvK v14 h fun v15 h =>
   gdK v15 true (fun k0 =>
    vK (aLoad Try.prog 24 v2 h) h fun v16 h =>
    k0 v16 h) (fun v16_1 h =>
    gdK v15 true (fun k1 =>
     cK Try.prog 26 [v16_1] h fun v17 h =>
     k1 v17 h) (fun v17_1 h =>
     gdK v15 true (fun k2 =>
      vK (aUn UnOp.not v17_1) h fun v18 h =>
      k2 v18 h) (fun v18_1 h =>
      gdK v15 true (fun k3 =>
       mvK v18_1 h fun v19 h =>
       k3 v19 h) (fun v19_1 h =>
       gdK v19_1 false (fun k4 =>
        mvK a1 h fun v20 h =>
        k4 v20 h) (fun v20_1 h =>
        gdK v19_1 false (fun k5 =>
         vK (aLen Try.prog 51 v20_1) h fun v21 h =>
         k5 v21 h) (fun v21_1 h =>
         gdK v19_1 false (fun k6 =>
          vK (aBin Try.prog BinOp.gtr 3 v21_1 (Value.int IntKind.i64 8)) h fun v22 h =>
          k6 v22 h) (fun v22_1 h =>
          gdK v15 true (fun k7 =>
           vK (pickV v19_1 (Value.bool true) v22_1) h fun v23 h =>
           k7 v23 h) (fun v23_1 h =>
           vK (pickV v15 v23_1 (Value.bool false)) h fun v24 h =>
           cnd v24 (
            mvK (Value.bool true) h fun v4_2 h =>
            retV [some v4_2] R h) (
            vK (aLoad Try.prog 24 v2 h) h fun v26 h =>
            cK Try.prog 14 [v26] h fun v27 h =>
            mvK a1 h fun v28 h =>
            cK Try.prog 28 [v28] h fun v29 h =>
            cK Try.prog 27 [v27, v29] h fun v30 h =>
            mvK v30 h fun v25 h =>
            vK (aExtract v25 0) h fun v31 h =>
            vK (aExtract v25 1) h fun v32 h =>
            mvK v31 h fun v6 h =>
            mvK v32 h fun v7 h =>
            mvK v5 h fun v33 h =>
            vK (aBin Try.prog BinOp.neq 3 v33 (Value.int IntKind.i64 0)) h fun v34 h =>
            cnd v34 (
             mvK v7 h fun v35 h =>
             mvK v5 h fun v36 h =>
             vK (aBin Try.prog BinOp.eql 3 v35 v36) h fun v37 h =>
             mvK v37 h fun v38 h =>
             gdK v38 true (fun k8 =>
              mvK v6 h fun v39 h =>
              k8 v39 h) (fun v39_1 h =>
              gdK v38 true (fun k9 =>
               vK (aLen Try.prog 53 v39_1) h fun v40 h =>
               k9 v40 h) (fun v40_1 h =>
               gdK v38 true (fun k10 =>
                vK (aBin Try.prog BinOp.eql 3 v40_1 (Value.int IntKind.i64 0)) h fun v41 h =>
                k10 v41 h) (fun v41_1 h =>
                vK (pickV v38 v41_1 (Value.bool false)) h fun v42 h =>
                mvK v42 h fun v4_3 h =>
                retV [some v4_3] R h) h) h) h) (
             mvK v7 h fun v43 h =>
             vK (aBin Try.prog BinOp.eql 28 v43 (Value.int IntKind.i64 0)) h fun v44 h =>
             mvK v44 h fun v45 h =>
             gdK v45 true (fun k11 =>
              mvK v6 h fun v46 h =>
              k11 v46 h) (fun v46_1 h =>
              gdK v45 true (fun k12 =>
               vK (aLoad Try.prog 24 v2 h) h fun v47 h =>
               k12 v47 h) (fun v47_1 h =>
               gdK v45 true (fun k13 =>
                mvK a1 h fun v48 h =>
                k13 v48 h) (fun v48_1 h =>
                gdK v45 true (fun k14 =>
                 cK Try.prog 30 [v47_1, v48_1] h fun v49 h =>
                 k14 v49 h) (fun v49_1 h =>
                 gdK v45 true (fun k15 =>
                  cK Try.prog 29 [v46_1, v49_1] h fun v50 h =>
                  k15 v50 h) (fun v50_1 h =>
                  vK (pickV v45 v50_1 (Value.bool false)) h fun v51 h =>
                  mvK v51 h fun v4_4 h =>
                  retV [some v4_4] R h) h) h) h) h) h))) h) h) h) h) h) h) h) h)
def lv6 (q : Nat) : List Nat := []
theorem e6 (a0 a1 : Value) (h : Heap) (R : Value → Heap → Prop) : n6 a0 a1 h R = wpK Try.prog lv6 (Try.f6.body.getD .skip) (endK Try.prog [.tmp 4] R) (argT [a0, a1]) h := by kernel_rfl
end Go.Proofs.Ytomiejfeclefaaa

set_option linter.unusedSimpArgs false
set_option linter.unusedVariables false
set_option linter.unnecessarySimpa false
set_option maxRecDepth 100000
set_option maxHeartbeats 4000000
namespace Go.Proofs.Ytomiejfeclefaaa
open Go.AM
variable {h g : Heap}
/-! ### a mutant is a right machine -/
theorem gst {α : Type} [Df α] {l : List α} {k j : Nat} {a : α} (hk : k < l.length) : gt (l.set k a) j = if k = j then a else gt l j := by
  unfold gt
  by_cases e : k = j
  · subst e; simp [hk]
  · simp [e]
structure Alk (x c : Mach) : Prop where
  st : c.states = x.states
  ip : c.inputs = x.inputs
  ot : c.outputs = x.outputs
  ln : c.steps.length = x.steps.length
  hs : 0 ≤ c.start ∧ c.start ≤ x.states - 1
  fi : ∀ k, k < x.steps.length → (gt c.steps k).frm = (gt x.steps k).frm ∧ (gt c.steps k).inp = (gt x.steps k).inp ∧ inR x (gt c.steps k)
theorem Alk.self {x : Mach} (h0 : (chkM x).2 = 0) : Alk x x := by
  obtain ⟨hh, _, hs⟩ := chk_ok h0
  exact ⟨rfl, rfl, rfl, rfl, hh.2.2.2, fun k hk => ⟨rfl, rfl, (st_ok (hs k hk)).1⟩⟩
theorem setTo_fi {x : Mach} {l : List Stp} (hl : l.length = x.steps.length) (hf : ∀ k, k < x.steps.length → (gt l k).frm = (gt x.steps k).frm ∧ (gt l k).inp = (gt x.steps k).inp ∧ inR x (gt l k))
    {j : Nat} {v : Int} (hj : j < x.steps.length) (hv : 0 ≤ v ∧ v ≤ x.states - 1) : ∀ k, k < x.steps.length → (gt (setTo l j v) k).frm = (gt x.steps k).frm ∧ (gt (setTo l j v) k).inp = (gt x.steps k).inp ∧ inR x (gt (setTo l j v) k) := by
  intro k hk
  unfold setTo
  rw [gst (by omega)]
  by_cases e : j = k
  · subst e
    rw [if_pos rfl]
    obtain ⟨f1, f2, f3, f4, f5, f6⟩ := hf j hj
    exact ⟨f1, f2, f3, hv, f5, f6⟩
  · rw [if_neg e]; exact hf k hk
theorem Alk.ap1 {x c : Mach} (h0 : (chkM x).2 = 0) (a : Alk x c) {m : Mut} (hk : 0 ≤ m.kind ∧ m.kind ≤ 3) (hr : rightS x m) : Alk x (ap1 x c m) := by
  have S := Alk.self h0
  unfold rightS at hr
  unfold Go.Proofs.Ytomiejfeclefaaa.ap1
  split at hr
  · rename_i e
    rw [if_pos e]
    obtain ⟨r1, r2⟩ := hr
    refine ⟨a.st, a.ip, a.ot, by simpa [setOut] using a.ln, a.hs, fun k hk => ?_⟩
    show (gt (setOut c.steps _ _) k).frm = _ ∧ _
    unfold setOut
    rw [gst (by rw [a.ln]; omega)]
    by_cases e : m.step.toNat = k
    · subst e
      rw [if_pos rfl]
      obtain ⟨f1, f2, f3, f4, f5, f6⟩ := a.fi _ hk
      exact ⟨f1, f2, f3, f4, f5, r2⟩
    · rw [if_neg e]; exact a.fi k hk
  · rename_i e
    rw [if_neg e]
    split at hr
    · rename_i e
      rw [if_pos e]
      obtain ⟨r1, r2⟩ := hr
      exact ⟨a.st, a.ip, a.ot, by simpa [setTo] using a.ln, a.hs, setTo_fi a.ln a.fi (by omega) r2⟩
    · rename_i e
      rw [if_neg e]
      split at hr
      · rename_i e
        rw [if_pos e]
        exact ⟨a.st, a.ip, a.ot, a.ln, hr.2, a.fi⟩
      · rename_i e
        rw [if_neg e]
        obtain ⟨r1, r2⟩ := hr
        refine ⟨a.st, a.ip, a.ot, by simpa [setTo] using a.ln, a.hs, ?_⟩
        exact setTo_fi (by simpa [setTo] using a.ln) (setTo_fi a.ln a.fi (by omega) (S.fi m.to.toNat (by omega)).2.2.2.1) (by omega) (S.fi m.step.toNat (by omega)).2.2.2.1
/-! ### pairs -/
end Go.Proofs.Ytomiejfeclefaaa

set_option linter.unusedSimpArgs false
set_option linter.unusedVariables false
set_option linter.unnecessarySimpa false
set_option maxRecDepth 100000
set_option maxHeartbeats 4000000
namespace Go.Proofs.Ytomiejfeclefaaa
open Go.AM
variable {h g : Heap}
/-! ### the table of a complete machine: rows of pointers to copies of its steps -/
end Go.Proofs.Ytomiejfeclefaaa

set_option linter.unusedSimpArgs false
set_option linter.unusedVariables false
set_option linter.unnecessarySimpa false
set_option maxRecDepth 100000
set_option maxHeartbeats 4000000
namespace Go.Proofs.Ytomiejfeclefaaa
open Go.AM
variable {h g : Heap}
/-! ### the search for a word by which two machines differ -/
def stO (x : Mach) (q w : Int) : Stp := gt x.steps (q * x.inputs + w).toNat
def inP (x : Mach) (p : Pr) : Prop := (0 ≤ p.a ∧ p.a ≤ x.states - 1) ∧ (0 ≤ p.b ∧ p.b ≤ x.states - 1)
instance (x : Mach) (p : Pr) : Decidable (inP x p) := by unfold inP; infer_instance
structure BS where
  ps : List Pr
  ws : List (List Int)
  fnd : Option (List Int)
def tgt (x y : Mach) (p : Pr) (n : Int) : Pr := ⟨(stO x p.a n).to, (stO y p.b n).to⟩
def same (x y : Mach) (p : Pr) (n : Int) : Prop := (stO x p.a n).out = (stO y p.b n).out
instance (x y : Mach) (p : Pr) (n : Int) : Decidable (same x y p n) := by unfold same; infer_instance
def wrd (s : BS) (i n : Nat) : List Int := s.ws.getD i [] ++ [(n : Int)]
def bst (x y : Mach) (i n : Nat) (s : BS) : BS :=
  if s.fnd.isSome then s
  else if ¬ same x y (gt s.ps i) n then { s with fnd := some (wrd s i n) }
  else if tgt x y (gt s.ps i) n ∈ s.ps then s
  else ⟨s.ps ++ [tgt x y (gt s.ps i) n], s.ws ++ [wrd s i n], none⟩
def brow (x y : Mach) (i : Nat) (s : BS) : Nat → BS
  | 0 => s
  | n + 1 => bst x y i n (brow x y i s n)
def bfs (x y : Mach) (p0 : Pr) : Nat → BS
  | 0 => ⟨[p0], [[]], none⟩
  | k + 1 => if k < (bfs x y p0 k).ps.length then brow x y k (bfs x y p0 k) x.inputs.toNat else bfs x y p0 k
/-- What holds of a search between right machines. -/
structure BI (x : Mach) (s : BS) : Prop where
  nd : s.ps.Nodup
  inp : ∀ p ∈ s.ps, inP x p
  len : s.ws.length = s.ps.length
/-- Right machines beside each other. -/
structure Par (x y : Mach) : Prop where
  cx : (chkM x).2 = 0
  cy : (chkM y).2 = 0
  lx : (x.steps.length : Int) = x.states * x.inputs
  ly : (y.steps.length : Int) = y.states * y.inputs
  st : y.states = x.states
  ip : y.inputs = x.inputs
theorem stO_ok {x : Mach} (h0 : (chkM x).2 = 0) (hl : (x.steps.length : Int) = x.states * x.inputs) {q w : Int} (hq : 0 ≤ q ∧ q ≤ x.states - 1) (hw : 0 ≤ w ∧ w ≤ x.inputs - 1) : inR x (stO x q w) := by
  obtain ⟨e1, e2, _⟩ := full_at h0 hl hq hw
  exact (st_ok ((chk_ok h0).2.2 _ e2)).1
theorem Par.tgt {x y : Mach} (P : Par x y) {p : Pr} (hp : inP x p) {n : Nat} (hn : n < x.inputs.toNat) : inP x (Go.Proofs.Ytomiejfeclefaaa.tgt x y p n) := by
  have h1 := stO_ok P.cx P.lx hp.1 (w := (n : Int)) ⟨by omega, by omega⟩
  have h2 := stO_ok P.cy P.ly (q := p.b) (by rw [P.st]; exact hp.2) (w := (n : Int)) ⟨by omega, by rw [P.ip]; omega⟩
  have h3 := h2.2.1
  rw [P.st] at h3
  exact ⟨h1.2.1, h3⟩
theorem BI.step {x y : Mach} (P : Par x y) {s : BS} (b : BI x s) {i n : Nat} (hi : i < s.ps.length) (hn : n < x.inputs.toNat) : BI x (bst x y i n s) := by
  unfold bst
  split
  · exact b
  · split
    · exact ⟨b.nd, b.inp, b.len⟩
    · split
      · exact b
      · rename_i hm
        refine ⟨?_, ?_, by simp [b.len]⟩
        · rw [List.nodup_append]
          exact ⟨b.nd, by simp, by intro a ha c hc e; subst e; rw [List.mem_singleton] at hc; rw [hc] at ha; exact hm ha⟩
        · intro p hp
          rcases List.mem_append.mp hp with hp | hp
          · exact b.inp p hp
          · rw [List.mem_singleton] at hp; subst hp
            exact P.tgt (b.inp _ (gd_mem _ hi)) hn
theorem bst_grow {x y : Mach} {i n : Nat} {s : BS} : s.ps <+: (bst x y i n s).ps ∧ s.ws <+: (bst x y i n s).ws := by
  unfold bst
  split
  · exact ⟨List.prefix_refl _, List.prefix_refl _⟩
  · split
    · exact ⟨List.prefix_refl _, List.prefix_refl _⟩
    · split
      · exact ⟨List.prefix_refl _, List.prefix_refl _⟩
      · exact ⟨List.prefix_append _ _, List.prefix_append _ _⟩
theorem brow_grow {x y : Mach} {i : Nat} {s : BS} : ∀ n, s.ps <+: (brow x y i s n).ps ∧ s.ws <+: (brow x y i s n).ws
  | 0 => ⟨List.prefix_refl _, List.prefix_refl _⟩
  | n + 1 => ⟨(brow_grow n).1.trans bst_grow.1, (brow_grow n).2.trans bst_grow.2⟩
theorem BI.row {x y : Mach} (P : Par x y) {s : BS} (b : BI x s) {i : Nat} (hi : i < s.ps.length) : ∀ n, n ≤ x.inputs.toNat → BI x (brow x y i s n)
  | 0, _ => b
  | n + 1, h => (BI.row P b hi n (by omega)).step P (Nat.lt_of_lt_of_le hi (brow_grow n).1.length_le) (by omega)
theorem BI.all {x y : Mach} (P : Par x y) {p0 : Pr} (h0 : inP x p0) : ∀ k, BI x (bfs x y p0 k)
  | 0 => ⟨by simp [bfs], by intro p hp; simp [bfs] at hp; subst hp; exact h0, rfl⟩
  | k + 1 => by
    unfold bfs
    split
    · rename_i h; exact (BI.all P h0 k).row P h _ (Nat.le_refl _)
    · exact BI.all P h0 k
end Go.Proofs.Ytomiejfeclefaaa

set_option linter.unusedSimpArgs false
set_option linter.unusedVariables false
set_option linter.unnecessarySimpa false
set_option maxRecDepth 100000
set_option maxHeartbeats 4000000
namespace Go.Proofs.Ytomiejfeclefaaa
open Go.AM
variable {h g : Heap}
/-! ### small functions -/
theorem bs27_1 (x1 : Mut) (h : Heap) : aBuildSlice Try.prog 27 1 [(0, (fv x1))] h = some (.slice (some ⟨h.length, 0, none⟩) 1 2, newArr h (flat [x1]) 3) := by kernel_rfl
/-! ### pairs with words -/
structure PrX where
  get : Pr
instance : Rep PrX := ⟨3, fun _ cs p => ∃ v, cs = [.int .i64 p.get.a, .int .i64 p.get.b, v] ∧ v.oneCell' = true, by rintro h cs a ⟨v, rfl, _⟩; rfl, fun _ e => e, by rintro h cs a ⟨v, rfl, e⟩; simp only [List.all_cons, e]; rfl⟩
end Go.Proofs.Ytomiejfeclefaaa

set_option linter.unusedSimpArgs false
set_option linter.unusedVariables false
set_option linter.unnecessarySimpa false
set_option maxRecDepth 100000
set_option maxHeartbeats 4000000
namespace Go.Proofs.Ytomiejfeclefaaa
open Go.AM
variable {h g : Heap}
/-! ### several mutants: their error -/
/-! ### own copies of several mutants -/
end Go.Proofs.Ytomiejfeclefaaa

set_option linter.unusedSimpArgs false
set_option linter.unusedVariables false
set_option linter.unnecessarySimpa false
set_option maxRecDepth 100000
set_option maxHeartbeats 4000000
namespace Go.Proofs.Ytomiejfeclefaaa
open Go.AM
variable {h g : Heap}
/-! ### reading a table -/
/-! ### more of the search -/
end Go.Proofs.Ytomiejfeclefaaa

set_option linter.unusedSimpArgs false
set_option linter.unusedVariables false
set_option linter.unnecessarySimpa false
set_option maxRecDepth 100000
set_option maxHeartbeats 4000000
namespace Go.Proofs.Ytomiejfeclefaaa
open Go.AM
variable {h g : Heap}
/-! ### the reference's search -/
end Go.Proofs.Ytomiejfeclefaaa

set_option linter.unusedSimpArgs false
set_option linter.unusedVariables false
set_option linter.unnecessarySimpa false
set_option maxRecDepth 100000
set_option maxHeartbeats 4000000
namespace Go.Proofs.Ytomiejfeclefaaa
open Go.AM
variable {h g : Heap}
/-! ### lists of machines -/
instance : Rep Mach := ⟨5, fun h cs x => ∃ v, cs = [.int .i64 x.states, .int .i64 x.inputs, .int .i64 x.outputs, .int .i64 x.start, v] ∧ L h v x.steps, by rintro h cs a ⟨v, rfl, _⟩; rfl,
  by rintro h h' cs a hs ⟨v, e, s⟩; exact ⟨v, e, s.mono hs⟩, by rintro h cs a ⟨v, rfl, s⟩; simp only [List.all_cons, s.one]; rfl⟩
instance : Df Mach := ⟨⟨0, 0, 0, 0, []⟩⟩
/-! ### the other way round -/
end Go.Proofs.Ytomiejfeclefaaa

set_option linter.unusedSimpArgs false
set_option linter.unusedVariables false
set_option linter.unnecessarySimpa false
set_option maxRecDepth 100000
set_option maxHeartbeats 4000000
namespace Go.Proofs.Ytomiejfeclefaaa
open Go.AM
variable {h g : Heap}
/-! ### kinds of mutants -/
/-! ### kinds: the reference -/
end Go.Proofs.Ytomiejfeclefaaa

set_option linter.unusedVariables false
set_option maxRecDepth 100000
namespace Go.Proofs
def Ytomiejfeclefaaa.lays45_ren : Go.Shelf.Ren := ⟨fun | 6 => 45 | 15 => 79 | 14 => 78 | 28 => 105 | 29 => 106 | 20 => 97 | 21 => 98 | 22 => 99 | 23 => 100 | 24 => 101 | 25 => 102 | 26 => 103 | 27 => 104 | 46 => 123 | 47 => 124 | 48 => 125 | 49 => 126 | 50 => 127 | 57 => 133 | n => n, fun | 22 => 27 | 24 => 34 | 25 => 84 | 3 => 3 | 39 => 123 | 0 => 0 | 53 => 151 | 55 => 153 | 4 => 4 | 46 => 144 | 45 => 143 | 50 => 148 | 5 => 5 | 9 => 9 | 66 => 165 | 70 => 169 | 76 => 175 | 77 => 41 | n => n, fun | n => n⟩
theorem Ytomiejfeclefaaa.lays45 : Go.Proofs.SlLaysF0.n6 Try.prog Ytomiejfeclefaaa.lays45_ren where
  mixed := by kernel_rfl
  f6 := ⟨ "slices.SortFunc[[]examiner/api.Mutation,examiner/api.Mutation]", by decide, Try.func45.trans (congrArg some (by kernel_rfl))⟩
  f14 := ⟨ "slices.pdqsortCmpFunc[examiner/api.Mutation]", by decide, Try.func78.trans (congrArg some (by kernel_rfl))⟩
  f15 := Try.func79.trans (congrArg some (by kernel_rfl))
  f20 := ⟨ "slices.insertionSortCmpFunc[examiner/api.Mutation]", by decide, Try.func97.trans (congrArg some (by kernel_rfl))⟩
  f21 := ⟨ "slices.heapSortCmpFunc[examiner/api.Mutation]", by decide, Try.func98.trans (congrArg some (by kernel_rfl))⟩
  f22 := ⟨ "slices.breakPatternsCmpFunc[examiner/api.Mutation]", by decide, Try.func99.trans (congrArg some (by kernel_rfl))⟩
  f23 := ⟨ "slices.choosePivotCmpFunc[examiner/api.Mutation]", by decide, Try.func100.trans (congrArg some (by kernel_rfl))⟩
  f24 := ⟨ "slices.reverseRangeCmpFunc[examiner/api.Mutation]", by decide, Try.func101.trans (congrArg some (by kernel_rfl))⟩
  f25 := ⟨ "slices.partialInsertionSortCmpFunc[examiner/api.Mutation]", by decide, Try.func102.trans (congrArg some (by kernel_rfl))⟩
  f26 := ⟨ "slices.partitionEqualCmpFunc[examiner/api.Mutation]", by decide, Try.func103.trans (congrArg some (by kernel_rfl))⟩
  f27 := ⟨ "slices.partitionCmpFunc[examiner/api.Mutation]", by decide, Try.func104.trans (congrArg some (by kernel_rfl))⟩
  f28 := Try.func105.trans (congrArg some (by kernel_rfl))
  f29 := Try.func106.trans (congrArg some (by kernel_rfl))
  f46 := ⟨ "slices.siftDownCmpFunc[examiner/api.Mutation]", by decide, Try.func123.trans (congrArg some (by kernel_rfl))⟩
  f47 := Try.func124.trans (congrArg some (by kernel_rfl))
  f48 := Try.func125.trans (congrArg some (by kernel_rfl))
  f49 := ⟨ "slices.medianAdjacentCmpFunc[examiner/api.Mutation]", by decide, Try.func126.trans (congrArg some (by kernel_rfl))⟩
  f50 := ⟨ "slices.medianCmpFunc[examiner/api.Mutation]", by decide, Try.func127.trans (congrArg some (by kernel_rfl))⟩
  f57 := ⟨ "slices.order2CmpFunc[examiner/api.Mutation]", by decide, Try.func133.trans (congrArg some (by kernel_rfl))⟩
  t0 := Try.underlying0
  a0 := Try.isAgg0
  z0 := Try.sizeOf0
  v0 := Try.zeroValue0
  t3 := Try.underlying3
  a3 := Try.isAgg3
  z3 := Try.sizeOf3
  v3 := Try.zeroValue3
  t4 := Try.underlying4
  a4 := Try.isAgg4
  z4 := Try.sizeOf4
  v4 := Try.zeroValue4
  t5 := Try.underlying5
  a5 := Try.isAgg5
  z5 := Try.sizeOf5
  v5 := Try.zeroValue5
  t9 := Try.underlying9
  a9 := Try.isAgg9
  z9 := Try.sizeOf9
  v9 := Try.zeroValue9
  t22 := Try.underlying27
  a22 := Try.isAgg27
  z22 := Try.sizeOf27
  v22 := Try.zeroValue27
  t25 := Try.underlying84
  a25 := Try.isAgg84
  z25 := Try.sizeOf84
  v25 := Try.zeroValue84
  t39 := Try.underlying123
  a39 := Try.isAgg123
  z39 := Try.sizeOf123
  v39 := Try.zeroValue123
  t45 := Try.underlying143
  a45 := Try.isAgg143
  z45 := Try.sizeOf143
  v45 := Try.zeroValue143
  t46 := Try.underlying144
  a46 := Try.isAgg144
  z46 := Try.sizeOf144
  v46 := Try.zeroValue144
  t50 := Try.underlying148
  a50 := Try.isAgg148
  z50 := Try.sizeOf148
  v50 := Try.zeroValue148
  t53 := Try.underlying151
  a53 := Try.isAgg151
  z53 := Try.sizeOf151
  v53 := Try.zeroValue151
  t55 := Try.underlying153
  a55 := Try.isAgg153
  z55 := Try.sizeOf153
  v55 := Try.zeroValue153
  t66 := Try.underlying165
  a66 := Try.isAgg165
  z66 := Try.sizeOf165
  v66 := Try.zeroValue165
  t70 := Try.underlying169
  a70 := Try.isAgg169
  z70 := Try.sizeOf169
  v70 := Try.zeroValue169
  t76 := Try.underlying175
  a76 := Try.isAgg175
  z76 := Try.sizeOf175
  v76 := Try.zeroValue175
  t77 := Try.underlying41
  a77 := Try.isAgg41
  z77 := Try.sizeOf41
  v77 := Try.zeroValue41
end Go.Proofs

set_option linter.unusedSimpArgs false
set_option linter.unusedVariables false
set_option linter.unnecessarySimpa false
set_option maxRecDepth 100000
set_option maxHeartbeats 4000000
namespace Go.Proofs.Ytomiejfeclefaaa
open Go.AM
variable {h g : Heap}
/-! ### sorting -/
instance : Inhabited Pr := ⟨⟨0, 0⟩⟩
instance : Inhabited Mut := ⟨⟨0, 0, 0⟩⟩
end Go.Proofs.Ytomiejfeclefaaa

set_option linter.unusedSimpArgs false
set_option linter.unusedVariables false
set_option linter.unnecessarySimpa false
set_option maxRecDepth 100000
set_option maxHeartbeats 4000000
namespace Go.Proofs.Ytomiejfeclefaaa
open Go.AM
variable {h g : Heap}
end Go.Proofs.Ytomiejfeclefaaa

set_option linter.unusedSimpArgs false
set_option linter.unusedVariables false
set_option linter.unnecessarySimpa false
set_option maxRecDepth 100000
set_option maxHeartbeats 4000000
namespace Go.Proofs.Ytomiejfeclefaaa
open Go.AM
variable {h g : Heap}
/-! ### sorting mutations -/
def ltm (a b : Mut) : Prop := a.kind < b.kind ∨ a.kind = b.kind ∧ (a.step < b.step ∨ a.step = b.step ∧ a.to < b.to)
instance (a b : Mut) : Decidable (ltm a b) := by unfold ltm; infer_instance
theorem cmpM_lt (a b : Mut) : cmpM a b < 0 ↔ ltm a b := by
  rw [cmpM, orOf_cons, orOf_cons, orOf_cons, orOf_nil]
  unfold cmpI ltm
  repeat' split
  all_goals omega
theorem ltM (a b : Mut) : Go.Proofs.ltOf cmpM a b = true ↔ ltm a b := by
  unfold Go.Proofs.ltOf
  rw [decide_eq_true_iff, cmpM_lt]
theorem ltMn (a b : Mut) : Go.Proofs.ltOf cmpM a b = false ↔ ¬ ltm a b := by
  rw [← ltM, Bool.not_eq_true]
theorem swoM : Go.Sort.SWO (Go.Proofs.ltOf cmpM) := by
  refine ⟨fun x => ?_, fun x y z h1 h2 => ?_, fun x y z h1 h2 => ?_⟩
  · rw [ltMn]; unfold ltm; omega
  · rw [ltM] at *; unfold ltm at *; omega
  · rw [ltMn] at *; unfold ltm at *; omega
theorem totM : ∀ x y, Go.Proofs.ltOf cmpM x y = false → Go.Proofs.ltOf cmpM y x = false → x = y := by
  intro x y h1 h2
  rw [ltMn] at h1 h2
  unfold ltm at *
  cases x; cases y
  simp only [Mut.mk.injEq] at *
  omega
theorem c45 {i c : Nat} {xs : List Mut} {h0 : Heap} {Lm : List E} {k : Nat} (m : Mem h0 h Lm) (q : Lm[k]? = some ⟨some i, flat xs, 3⟩) (hne : 0 < xs.length) (hlen : xs.length < 4611686018427387904) :
    Runs Try.prog 45 [.slice (some ⟨i, 0, none⟩) xs.length c, .func (.func 46) #[] #[]] h (.tuple #[]) (h.set i (.arr ⟨flat (srt cmpM xs), 3, false⟩)) :=
  sort_run (α := Mut) (g0 := 46) lays45 Try.isAgg34 Try.sizeOf34 cmpM swoM totM (enters_of Try.func46 (by kernel_rfl) rfl) (by kernel_rfl) rfl (fun x y => c46 x y) rfl (by kernel_rfl) (m.get q) hne hlen (by decide)
theorem sort45 {K : Value → Heap → Prop} {v : Value} {i : Nat} {xs : List Mut} {h0 : Heap} {Lm : List E} {k : Nat} (m : Mem h0 h Lm) (s : IsSl v (some i) xs.length) (q : Lm[k]? = some ⟨some i, flat xs, 3⟩) (hne : 0 < xs.length) (hlen : xs.length < 4611686018427387904)
    (hK : ∀ h', Prec h h' → Mem h0 h' (Lm.set k ⟨some i, flat (srt cmpM xs), 3⟩) → K (.tuple #[]) h') : callK Try.prog (some (45, [v, .func (.func 46) #[] #[]])) h K := by
  obtain ⟨c, rfl, _⟩ := s
  exact call_r (c45 m q hne hlen) (hK _ ⟨m.setStab q _⟩ (m.set q _))
/-- Nothing to sort. -/
theorem c45n {y : Value} {o : Option Nat} (s : IsSl y o 0) : Runs Try.prog 45 [y, .func (.func 46) #[] #[]] h (.tuple #[]) h := by
  intro ρ w cargs G R rl
  obtain ⟨c0, c1, rfl⟩ : ∃ c0 c1, cargs = [c0, c1] := by
    match cargs, rl.1 with
    | [a, b], _ => exact ⟨a, b, rfl⟩
  have r0 := rl.2 0
  have r1 := rl.2 1
  simp only [List.getD, List.getElem?_cons_zero, Option.getD_some, List.getElem?_cons_succ] at r0 r1
  have hc0 : ∃ p cap, c0 = .slice p 0 cap := by
    cases o with
    | none => obtain ⟨rfl, _⟩ := s; cases r0; exact ⟨_, _, rfl⟩
    | some i => obtain ⟨c, rfl, _⟩ := s; cases r0; exact ⟨_, _, rfl⟩
  obtain ⟨p, cap, rfl⟩ := hc0
  have hc1 : c1 = .func (.func 46) #[] #[] := by
    cases r1 with
    | func _ h1 _ h3 _ => rw [Array.eq_empty_of_size_eq_zero h1.symm, Array.eq_empty_of_size_eq_zero h3.symm]
  subst hc1
  refine .inl ⟨by kernel_rfl, (Go.Proofs.AnyF.slices_SortFunc_none lays45 p cap (.func (.func 46) #[] #[]) w).mono ?_⟩
  rintro e w' ⟨rfl, rfl⟩
  exact ⟨.tuple #[], h, ρ, .tuple #[], ⟨rfl, rfl⟩, rfl, R, Step.refl _ _ _, .tuple rfl fun j hj => absurd hj (by simp)⟩
/-- The closure that adds a real mutation. -/
theorem c44 {ib zb : Nat} {o : Option Nat} {y : Value} {xs : List Mut} {h0 : Heap} {Lm : List E} (m : Mem h0 h (⟨some ib, [y], zb⟩ :: ⟨o, flat xs, 3⟩ :: Lm)) (s : IsSl y o xs.length) (hb : xs.length ≤ 1048576) (real : Bool) (t : Mut) :
    DetP Try.prog 44 [.bool real, fv t, .pointer (some ⟨ib, 0, none⟩)] h fun v' h' => v' = .tuple #[] ∧ Prec h h' ∧ ∃ o' y', IsSl y' o' (if real then xs ++ [t] else xs).length ∧ Mem h0 h' (⟨some ib, [y'], zb⟩ :: ⟨o', flat (if real then xs ++ [t] else xs), 3⟩ :: Lm) := by
  obtain ⟨ya, yc, hy⟩ := s.isS
  refine w44 ?_
  unfold n44
  refine box_a m fun it ht zt pt m => ?_
  cases real
  · ((with_reducible (refine mv_i ?_; refine cnd_f ?_; refine ret0 ?_)))
    exact ⟨rfl, ⟨Stb.st⟩, o, y, s, m.tail⟩
  · ((with_reducible (refine mv_i ?_; refine cnd_t ?_));
      (refine ldo (by assumption) (q := by infer_instance) (by with_unfolding_all rfl) ?_);
      (refine ldo_w (by assumption) (by infer_instance) (by with_unfolding_all rfl) ?_);
      (refine bs_g (bs27_1 _ _) (by assumption) fun i h p m => ?_))
    refine app_snoc (a := t) (k2 := 0) (j := 0) m s (by infer_instance) ⟨rfl⟩ rfl ⟨by omega, by omega⟩ fun i3 h7 p7 m => ?_
    simp only [List.set_cons_succ, List.set_cons_zero] at m
    ((refine sto (by assumption) (q := by infer_instance) (by with_unfolding_all exact Nat.le_of_ble_eq_true rfl) rfl rfl (u := by infer_instance) fun h p m => ?_);
        (with_reducible (refine ret0 ?_)))
    exact ⟨rfl, ⟨Stb.st⟩, some i3, _, by rw [if_pos rfl, List.length_append]; exact IsSl.some0, m.tail.tail⟩
end Go.Proofs.Ytomiejfeclefaaa

set_option linter.unusedSimpArgs false
set_option linter.unusedVariables false
set_option linter.unnecessarySimpa false
set_option maxRecDepth 100000
set_option maxHeartbeats 4000000
namespace Go.Proofs.Ytomiejfeclefaaa
open Go.AM
variable {h g : Heap}
theorem bd34_012 (a b c : Int) : aBuild Try.prog 34 [(0, .int .i64 a), (1, .int .i64 b), (2, .int .i64 c)] = some (fv (⟨a, b, c⟩ : Mut)) := by kernel_rfl
theorem bd34_02 (a c : Int) : aBuild Try.prog 34 [(0, .int .i64 a), (2, .int .i64 c)] = some (fv (⟨a, 0, c⟩ : Mut)) := by kernel_rfl
/-! ### real mutations -/
def Rl (x : Mach) (m : Mut) : Prop :=
  (m.kind = 0 ∧ (0 ≤ m.step ∧ m.step < x.steps.length) ∧ (0 ≤ m.to ∧ m.to < x.outputs) ∧ m.to ≠ (gt x.steps m.step.toNat).out) ∨
  (m.kind = 1 ∧ (0 ≤ m.step ∧ m.step < x.steps.length) ∧ (0 ≤ m.to ∧ m.to < x.states) ∧ m.to ≠ (gt x.steps m.step.toNat).to) ∨
  (m.kind = 2 ∧ m.step = 0 ∧ (0 ≤ m.to ∧ m.to < x.states) ∧ m.to ≠ x.start) ∨
  (m.kind = 3 ∧ (0 ≤ m.step ∧ m.step < x.steps.length) ∧ (m.step < m.to ∧ m.to < x.steps.length) ∧ (gt x.steps m.to.toNat).to ≠ (gt x.steps m.step.toNat).to)
/-- What is in the list while it grows. -/
def stg (A R : Mut → Prop) (kd si : Int) (n : Nat) (m : Mut) : Prop := A m ∨ (m.kind = kd ∧ m.step = si ∧ m.to < n ∧ R m)
theorem stg_add {A R : Mut → Prop} {kd si : Int} {n : Nat} {ys : List Mut} {real : Bool} (hn : ys.Nodup) (hm : ∀ m, m ∈ ys ↔ stg A R kd si n m) (hA : ¬ A ⟨kd, si, n⟩) (hR : real = true ↔ R ⟨kd, si, n⟩) :
    (if real then ys ++ [⟨kd, si, n⟩] else ys).Nodup ∧ ∀ m, m ∈ (if real then ys ++ [⟨kd, si, n⟩] else ys) ↔ stg A R kd si (n + 1) m := by
  have hni : ¬ (⟨kd, si, n⟩ : Mut) ∈ ys := by
    rw [hm]
    rintro (h | ⟨_, _, h, _⟩)
    · exact hA h
    · simp at h
  have key : ∀ m : Mut, stg A R kd si (n + 1) m ↔ stg A R kd si n m ∨ (m = ⟨kd, si, n⟩ ∧ R ⟨kd, si, n⟩) := by
    intro m
    unfold stg
    constructor
    · rintro (h | ⟨h1, h2, h3, h4⟩)
      · exact .inl (.inl h)
      · by_cases e : m.to = n
        · refine .inr ?_
          have : m = ⟨kd, si, n⟩ := by cases m; simp only [Mut.mk.injEq] at *; exact ⟨h1, h2, e⟩
          subst this; exact ⟨rfl, h4⟩
        · exact .inl (.inr ⟨h1, h2, by omega, h4⟩)
    · rintro ((h | ⟨h1, h2, h3, h4⟩) | ⟨rfl, h⟩)
      · exact .inl h
      · exact .inr ⟨h1, h2, by omega, h4⟩
      · exact .inr ⟨rfl, rfl, by simp; omega, h⟩
  cases real with
  | true =>
    refine ⟨?_, fun m => ?_⟩
    · rw [if_pos rfl, List.nodup_append]
      exact ⟨hn, by simp, by intro a ha b hb e; rw [List.mem_singleton] at hb; subst hb; subst e; exact hni ha⟩
    · rw [if_pos rfl, key, List.mem_append, hm, List.mem_singleton]
      exact or_congr_right ⟨fun h => ⟨h, hR.mp rfl⟩, fun h => h.1⟩
  | false =>
    refine ⟨hn, fun m => ?_⟩
    show m ∈ ys ↔ _
    rw [key, hm]
    exact ⟨.inl, fun h => h.resolve_right fun q => by have := hR.mpr q.2; cases this⟩
theorem stg_base {A R : Mut → Prop} {kd si : Int} {n : Nat} (h : ∀ m : Mut, R m → m.kind = kd → m.step = si → (n : Int) ≤ m.to) (m : Mut) : stg A R kd si n m ↔ A m :=
  ⟨fun q => q.elim id fun ⟨h1, h2, h3, h4⟩ => by have := h m h4 h1 h2; omega, .inl⟩
theorem stg_end {A R : Mut → Prop} {kd si : Int} {n : Nat} (h : ∀ m : Mut, R m → m.kind = kd → m.step = si → m.to < n) (m : Mut) : stg A R kd si n m ↔ A m ∨ (m.kind = kd ∧ m.step = si ∧ R m) :=
  ⟨fun q => q.imp id fun ⟨h1, h2, _, h4⟩ => ⟨h1, h2, h4⟩, fun q => q.imp id fun ⟨h1, h2, h4⟩ => ⟨h1, h2, h m h4 h1 h2, h4⟩⟩
theorem add_len {ys : List Mut} {real : Bool} {t : Mut} {n : Nat} (h : ys.length ≤ n) : (if real then ys ++ [t] else ys).length ≤ n + 1 := by
  split
  · simp; omega
  · omega
theorem Rl_le {x : Mach} {m : Mut} (h : Rl x m) : 0 ≤ m.to := by unfold Rl at h; omega
def stA (x : Mach) (i : Nat) (m : Mut) : Prop := m.kind ≠ 2 ∧ m.step < i ∧ Rl x m
def stB (x : Mach) (i : Nat) (m : Mut) : Prop := stA x i m ∨ (m.kind = 0 ∧ m.step = i ∧ Rl x m)
def stC (x : Mach) (i : Nat) (m : Mut) : Prop := stB x i m ∨ (m.kind = 1 ∧ m.step = i ∧ Rl x m)
theorem Rl0 {x : Mach} {i k : Nat} (hi : i < x.steps.length) (hk : (k : Int) < x.outputs) : Rl x ⟨0, i, k⟩ ↔ ¬ (k : Int) = (gt x.steps i).out := by
  constructor
  · rintro (⟨_, _, _, h⟩ | ⟨h, _⟩ | ⟨h, _⟩ | ⟨h, _⟩)
    · simpa using h
    all_goals (exfalso; simp at h)
  · intro h; exact .inl ⟨rfl, ⟨by simp, by simpa using hi⟩, ⟨by simp, hk⟩, by simpa using h⟩
theorem Rl1 {x : Mach} {i k : Nat} (hi : i < x.steps.length) (hk : (k : Int) < x.states) : Rl x ⟨1, i, k⟩ ↔ ¬ (k : Int) = (gt x.steps i).to := by
  constructor
  · rintro (⟨h, _⟩ | ⟨_, _, _, h⟩ | ⟨h, _⟩ | ⟨h, _⟩)
    · exfalso; simp at h
    · simpa using h
    all_goals (exfalso; simp at h)
  · intro h; exact .inr (.inl ⟨rfl, ⟨by simp, by simpa using hi⟩, ⟨by simp, hk⟩, by simpa using h⟩)
theorem Rl2 {x : Mach} {k : Nat} (hk : (k : Int) < x.states) : Rl x ⟨2, 0, k⟩ ↔ ¬ (k : Int) = x.start := by
  constructor
  · rintro (⟨h, _⟩ | ⟨h, _⟩ | ⟨_, _, _, h⟩ | ⟨h, _⟩)
    · exfalso; simp at h
    · exfalso; simp at h
    · exact h
    · exfalso; simp at h
  · intro h; exact .inr (.inr (.inl ⟨rfl, rfl, ⟨by simp, hk⟩, h⟩))
theorem Rl3 {x : Mach} {i k : Nat} (hi : i < k) (hk : k < x.steps.length) : Rl x ⟨3, i, k⟩ ↔ ¬ (gt x.steps k).to = (gt x.steps i).to := by
  constructor
  · rintro (⟨h, _⟩ | ⟨h, _⟩ | ⟨h, _⟩ | ⟨_, _, _, h⟩)
    · exfalso; simp at h
    · exfalso; simp at h
    · exfalso; simp at h
    · simpa using h
  · intro h; exact .inr (.inr (.inr ⟨rfl, ⟨by simp, by simp; omega⟩, ⟨by simpa using hi, by simpa using hk⟩, by simpa using h⟩))
def stD (x : Mach) (m : Mut) : Prop := m.kind ≠ 2 ∧ Rl x m
theorem nA {x : Mach} {i : Nat} {kd t : Int} : ¬ stA x i ⟨kd, i, t⟩ := fun q => by have := q.2.1; simp at this
theorem nB {x : Mach} {i : Nat} {kd t : Int} (h : kd ≠ 0) : ¬ stB x i ⟨kd, i, t⟩ := fun q => q.elim nA fun q => h q.1
theorem nC {x : Mach} {i : Nat} {kd t : Int} (h : kd ≠ 0) (h2 : kd ≠ 1) : ¬ stC x i ⟨kd, i, t⟩ := fun q => q.elim (nB h) fun q => h2 q.1
theorem endC {x : Mach} {i : Nat} (m : Mut) : (stC x i m ∨ (m.kind = 3 ∧ m.step = i ∧ Rl x m)) ↔ stA x (i + 1) m := by
  unfold stC stB stA
  constructor
  · rintro (((⟨h1, h2, h3⟩ | ⟨h1, h2, h3⟩) | ⟨h1, h2, h3⟩) | ⟨h1, h2, h3⟩)
    · exact ⟨h1, by omega, h3⟩
    all_goals exact ⟨by omega, by omega, h3⟩
  · rintro ⟨h1, h2, h3⟩
    by_cases e : m.step < i
    · exact .inl (.inl (.inl ⟨h1, e, h3⟩))
    · have hk : m.kind = 0 ∨ m.kind = 1 ∨ m.kind = 3 := by have := h3; unfold Rl at this; omega
      rcases hk with hk | hk | hk
      · exact .inl (.inl (.inr ⟨hk, by omega, h3⟩))
      · exact .inl (.inr ⟨hk, by omega, h3⟩)
      · exact .inr ⟨hk, by omega, h3⟩
theorem endA {x : Mach} (m : Mut) : stA x x.steps.length m ↔ stD x m := by
  unfold stA stD
  exact ⟨fun h => ⟨h.1, h.2.2⟩, fun h => ⟨h.1, by have := h.2; unfold Rl at this; have := h.1; omega, h.2⟩⟩
theorem endD {x : Mach} (m : Mut) : (stD x m ∨ (m.kind = 2 ∧ m.step = 0 ∧ Rl x m)) ↔ Rl x m := by
  unfold stD
  constructor
  · rintro (h | h)
    · exact h.2
    · exact h.2.2
  · intro h
    by_cases e : m.kind = 2
    · exact .inr ⟨e, by have := h; unfold Rl at this; omega, h⟩
    · exact .inl ⟨e, h⟩
theorem c13 {v : Value} {x : Mach} (s : MacV g v x) (hE : errM x = 0) : DetP Try.prog 13 [v] g fun v' h' => g <+: h' ∧ ∃ b n q ys, v' = .tuple #[.slice b n q, .int .i64 0] ∧ ys.Nodup ∧ (∀ m, m ∈ ys ↔ Rl x m) ∧ L h' (.slice b n q) (srt cmpM ys) := by
  refine DetP.freeze ?_
  obtain ⟨tv, rfl, s⟩ := s
  have lt := s.lt
  obtain ⟨b0, q0, rfl, _⟩ := s.shape
  obtain ⟨e3, e4, e5, e6⟩ := errM_ok hE
  have hsm := small hE
  obtain ⟨⟨a1, a2⟩, ⟨a3, a4⟩, ⟨a5, a6⟩, a7, a8⟩ := e4
  have m := Mem.start g
  refine w13 ?_
  unfold n13
  refine box_a m fun ix hx0 zx p1 m => ?_
  ((with_reducible (refine mv_i ?_; refine mv_i ?_));
      (refine ldo_w (by assumption) (by infer_instance) (by with_unfolding_all rfl) ?_);
      (refine call_r (c43 ⟨_, by with_unfolding_all rfl, L.up (by assumption)⟩) ?_);
      (with_reducible (refine mv_i ?_; refine mv_i ?_; refine neq_h (by first | assumption | decide) ?_; refine cnd_f ?_; refine alloc_z (by assumption) fun i h z p m => ?_; refine mv_i ?_; refine mv_i ?_; refine fao ?_));
      (refine ldo (by assumption) (q := by infer_instance) (by with_unfolding_all rfl) ?_);
      (with_reducible (refine len_g (by assumption) ?_; refine mv_i ?_)))
  obtain ⟨ib, rfl⟩ : ∃ q, q = i := ⟨i, rfl⟩
  obtain ⟨zb, rfl⟩ : ∃ q, q = z := ⟨z, rfl⟩
  obtain ⟨hx, rfl⟩ : ∃ q, q = h := ⟨h, rfl⟩
  have m := (m.nil 3).perm (List.Perm.swap _ _ _)
  refine loop1 x.steps.length (fun n0 h => ∃ y o ys, IsSl y o ys.length ∧ (ys.Nodup ∧ ∀ m, m ∈ ys ↔ stA x n0 m) ∧ ys.length ≤ n0 * 368 ∧ Prec hx h ∧ Mem g h [⟨some ib, [y], zb⟩, ⟨o, flat ys, 3⟩, ⟨some ix, [.int .i64 x.states, .int .i64 x.inputs, .int .i64 x.outputs, .int .i64 x.start, .slice b0 x.steps.length q0], zx⟩]) ⟨.slice none 0 0, none, [], IsSl.nil, ⟨List.nodup_nil, fun m => ?_⟩, by simp, ⟨Stab.refl _⟩, m⟩ ?_
  · constructor
    · intro h; cases h
    · rintro ⟨_, h2, h3⟩; unfold Rl at h3; exfalso; simp at h2; omega
  rintro n0 h2 _ hi ⟨y, o, ys, hs, hmm, hyl, p2, m⟩
  ((with_reducible (refine lss_i (fun hc => ?_) (fun hc => ?_); refine cnd_t ?_; refine mv_i ?_));
      (refine idx_d (by assumption) (by with_unfolding_all rfl) (by omega) fun p hp => ?_);
      (refine ldr_w (by assumption) (by with_unfolding_all rfl) ?_);
      (with_reducible (refine alloc_z (by assumption) fun i h z p m => ?_; refine mv_i ?_));
      (refine st_w (by assumption) (by infer_instance) (by with_unfolding_all rfl) (by with_unfolding_all rfl) (by first | rfl | exact flat_ones (Flat.flat _)) (by infer_instance) fun h p m => ?_);
      (with_reducible (refine fao ?_));
      (refine ldo (by assumption) (q := by infer_instance) (by with_unfolding_all rfl) ?_);
      (with_reducible (refine mv_i ?_));
      (rotate_left);
      (with_reducible (refine cnd_f ?_; refine fao ?_));
      (refine ldo (by assumption) (q := by infer_instance) (by with_unfolding_all rfl) ?_);
      (with_reducible (refine mv_i ?_));
      (rotate_left))
  · have hn0 : n0 < x.steps.length := by omega
    obtain ⟨ib2, rfl⟩ : ∃ q, q = i := ⟨i, rfl⟩
    obtain ⟨zb2, rfl⟩ : ∃ q, q = z := ⟨z, rfl⟩
    have m := m.perm ((List.Perm.swap _ _ _).trans (List.Perm.cons _ (List.Perm.swap _ _ _)))
    refine loop1 x.outputs.toNat (fun k h => ∃ y o ys, IsSl y o ys.length ∧ (ys.Nodup ∧ ∀ m, m ∈ ys ↔ stg (stA x n0) (Rl x) 0 n0 k m) ∧ ys.length ≤ n0 * 368 + k ∧ Prec hx h ∧ Mem g h [⟨some ib, [y], zb⟩, ⟨o, flat ys, 3⟩, ⟨some ib2, Flat.cells (gt x.steps n0), zb2⟩, ⟨some ix, [.int .i64 x.states, .int .i64 x.inputs, .int .i64 x.outputs, .int .i64 x.start, .slice b0 x.steps.length q0], zx⟩]) ⟨y, o, ys, hs, ⟨hmm.1, fun m => by rw [hmm.2, stg_base fun m h _ _ => Rl_le h]⟩, by omega, ⟨Stb.st⟩, m⟩ ?_
    rintro k h3 _ hk ⟨y, o, ys, hs, hmm, hyl, p3, m⟩
    ((with_reducible (refine lss_i (fun hc => ?_) (fun hc => ?_); refine cnd_t ?_; refine mv_i ?_; refine mv_i ?_; refine mv_i ?_; refine mv_i ?_; refine fao ?_));
        (refine ldo (by assumption) (q := by infer_instance) (by with_unfolding_all rfl) ?_);
        (with_reducible (refine neq_i (fun hc => ?_) (fun hc => ?_); refine mv_i ?_; refine mv_i ?_));
        (refine vk_i (bd34_012 _ _ _) ?_);
        (rotate_left);
        (with_reducible (refine mv_i ?_; refine mv_i ?_));
        (refine vk_i (bd34_012 _ _ _) ?_);
        (rotate_left);
        (with_reducible (refine cnd_f ?_; refine fao ?_));
        (refine ldo (by assumption) (q := by infer_instance) (by with_unfolding_all rfl) ?_);
        (with_reducible (refine mv_i ?_));
        (rotate_left))
    · have hkk : (k : Int) < x.outputs := by assumption
      refine call_i (c44 m hs (by omega) false (⟨0, n0, k⟩ : Mut)) fun v4 h4 ⟨hv, p4, o', y', hs', m⟩ => ?_
      subst hv
      ((with_reducible (refine inc_i (by omega) ?_; refine mv_i ?_)))
      refine next1 (by omega) ⟨y', o', _, hs', stg_add hmm.1 hmm.2 (nA) (⟨fun q => (by cases q), fun q => ((Rl0 hn0 hkk).mp q hc).elim⟩), add_len hyl, ⟨Stb.st⟩, m⟩
    · have hkk : (k : Int) < x.outputs := by assumption
      refine call_i (c44 m hs (by omega) true (⟨0, n0, k⟩ : Mut)) fun v4 h4 ⟨hv, p4, o', y', hs', m⟩ => ?_
      subst hv
      ((with_reducible (refine inc_i (by omega) ?_; refine mv_i ?_)))
      refine next1 (by omega) ⟨y', o', _, hs', stg_add hmm.1 hmm.2 (nA) (⟨fun _ => (Rl0 hn0 hkk).mpr hc, fun _ => rfl⟩), add_len hyl, ⟨Stb.st⟩, m⟩
    · have hmB : ∀ m, m ∈ ys ↔ stB x n0 m := fun m => by rw [hmm.2, stg_end fun m h h1 h2 => by unfold Rl at h; omega]; rfl
      have hnd := hmm.1
      refine loop1 x.states.toNat (fun k h => ∃ y o ys, IsSl y o ys.length ∧ (ys.Nodup ∧ ∀ m, m ∈ ys ↔ stg (stB x n0) (Rl x) 1 n0 k m) ∧ ys.length ≤ n0 * 368 + 8 + k ∧ Prec hx h ∧ Mem g h [⟨some ib, [y], zb⟩, ⟨o, flat ys, 3⟩, ⟨some ib2, Flat.cells (gt x.steps n0), zb2⟩, ⟨some ix, [.int .i64 x.states, .int .i64 x.inputs, .int .i64 x.outputs, .int .i64 x.start, .slice b0 x.steps.length q0], zx⟩]) ⟨y, o, ys, hs, ⟨hnd, fun m => by rw [hmB, stg_base fun m h _ _ => Rl_le h]⟩, by omega, ⟨Stb.st⟩, m⟩ ?_
      rintro k h4 _ hk ⟨y, o, ys, hs, hmm, hyl, p4, m⟩
      ((with_reducible (refine lss_i (fun hc => ?_) (fun hc => ?_); refine cnd_t ?_; refine mv_i ?_; refine mv_i ?_; refine mv_i ?_; refine mv_i ?_; refine fao ?_));
          (refine ldo (by assumption) (q := by infer_instance) (by with_unfolding_all rfl) ?_);
          (with_reducible (refine neq_i (fun hc => ?_) (fun hc => ?_); refine mv_i ?_; refine mv_i ?_));
          (refine vk_i (bd34_012 _ _ _) ?_);
          (rotate_left);
          (with_reducible (refine mv_i ?_; refine mv_i ?_));
          (refine vk_i (bd34_012 _ _ _) ?_);
          (rotate_left);
          (with_reducible (refine cnd_f ?_; refine mv_i ?_; refine inc_i (by omega) ?_; refine mv_i ?_));
          (rotate_left))
      · have hkk : (k : Int) < x.states := by assumption
        refine call_i (c44 m hs (by omega) false (⟨1, n0, k⟩ : Mut)) fun v4 h4 ⟨hv, p4, o', y', hs', m⟩ => ?_
        subst hv
        ((with_reducible (refine inc_i (by omega) ?_; refine mv_i ?_)))
        refine next1 (by omega) ⟨y', o', _, hs', stg_add hmm.1 hmm.2 (nB (by decide)) (⟨fun q => (by cases q), fun q => ((Rl1 hn0 hkk).mp q hc).elim⟩), add_len hyl, ⟨Stb.st⟩, m⟩
      · have hkk : (k : Int) < x.states := by assumption
        refine call_i (c44 m hs (by omega) true (⟨1, n0, k⟩ : Mut)) fun v4 h4 ⟨hv, p4, o', y', hs', m⟩ => ?_
        subst hv
        ((with_reducible (refine inc_i (by omega) ?_; refine mv_i ?_)))
        refine next1 (by omega) ⟨y', o', _, hs', stg_add hmm.1 hmm.2 (nB (by decide)) (⟨fun _ => (Rl1 hn0 hkk).mpr hc, fun _ => rfl⟩), add_len hyl, ⟨Stb.st⟩, m⟩
      · have hmC : ∀ m, m ∈ ys ↔ stC x n0 m := fun m => by rw [hmm.2, stg_end fun m h h1 h2 => by unfold Rl at h; omega]; rfl
        have hnd := hmm.1
        refine ⟨fun vs h => ∃ k : Nat, vs = [.int .i64 (k : Int)] ∧ n0 + 1 ≤ k ∧ k ≤ x.steps.length ∧ ∃ y o ys, IsSl y o ys.length ∧ (ys.Nodup ∧ ∀ m, m ∈ ys ↔ stg (stC x n0) (Rl x) 3 n0 k m) ∧ ys.length ≤ n0 * 368 + 48 + k ∧ Prec hx h ∧ Mem g h [⟨some ib, [y], zb⟩, ⟨o, flat ys, 3⟩, ⟨some ib2, Flat.cells (gt x.steps n0), zb2⟩, ⟨some ix, [.int .i64 x.states, .int .i64 x.inputs, .int .i64 x.outputs, .int .i64 x.start, .slice b0 x.steps.length q0], zx⟩], fun vs _ => match vs with | [.int _ n] => x.steps.length - n.toNat | _ => 0, ⟨n0 + 1, rfl, Nat.le_refl _, hn0, y, o, ys, hs, ⟨hnd, fun m => by rw [hmC, stg_base fun m h h1 h2 => by unfold Rl at h; omega]⟩, by omega, ⟨Stb.st⟩, m⟩, ?_⟩
        rintro h5 _ v5 ⟨k, e5, hk1, hk2, y, o, ys, hs, hmm, hyl, p5, m⟩
        cases e5
        ((with_reducible (refine mv_i ?_; refine fao ?_));
            (refine ldo (by assumption) (q := by infer_instance) (by with_unfolding_all rfl) ?_);
            (with_reducible (refine len_g (by assumption) ?_; refine lss_i (fun hc => ?_) (fun hc => ?_); refine cnd_t ?_; refine mv_i ?_; refine fao ?_));
            (refine ldo (by assumption) (q := by infer_instance) (by with_unfolding_all rfl) ?_);
            (with_reducible (refine vb_l (by assumption) ?_; refine mv_i ?_));
            (refine idx_d (by assumption) (by with_unfolding_all rfl) (by omega) fun p hp => ?_);
            (with_reducible (refine fa_g (by assumption) fun p hp => ?_));
            (refine ld_g (by assumption) (by with_unfolding_all rfl) ?_);
            (refine vb_n (by with_unfolding_all rfl) ?_);
            (with_reducible (refine fao ?_));
            (refine ldo (by assumption) (q := by infer_instance) (by with_unfolding_all rfl) ?_);
            (refine vb_n (by with_unfolding_all rfl) ?_);
            (with_reducible (refine neq_i (fun hc => ?_) (fun hc => ?_); refine mv_i ?_; refine mv_i ?_));
            (refine vk_i (bd34_012 _ _ _) ?_);
            (rotate_left);
            (with_reducible (refine mv_i ?_; refine mv_i ?_));
            (refine vk_i (bd34_012 _ _ _) ?_);
            (rotate_left);
            (with_reducible (refine cnd_f ?_; refine inc_i (by omega) ?_; refine mv_i ?_));
            (rotate_left))
        · have hkk : k < x.steps.length := by omega
          refine call_i (c44 m hs (by omega) false (⟨3, n0, k⟩ : Mut)) fun v4 h4 ⟨hv, p4, o', y', hs', m⟩ => ?_
          subst hv
          ((with_reducible (refine mv_i ?_; refine inc_i (by omega) ?_; refine mv_i ?_)))
          refine ⟨⟨k + 1, rfl, by omega, by omega, y', o', _, hs', stg_add hmm.1 hmm.2 (nC (by decide) (by decide)) (⟨fun q => (by cases q), fun q => ((Rl3 (by omega) hkk).mp q hc).elim⟩), add_len hyl, ⟨Stb.st⟩, m⟩, ?_⟩
          show x.steps.length - ((k + 1 : Nat) : Int).toNat < x.steps.length - (k : Int).toNat
          omega
        · have hkk : k < x.steps.length := by omega
          refine call_i (c44 m hs (by omega) true (⟨3, n0, k⟩ : Mut)) fun v4 h4 ⟨hv, p4, o', y', hs', m⟩ => ?_
          subst hv
          ((with_reducible (refine mv_i ?_; refine inc_i (by omega) ?_; refine mv_i ?_)))
          refine ⟨⟨k + 1, rfl, by omega, by omega, y', o', _, hs', stg_add hmm.1 hmm.2 (nC (by decide) (by decide)) (⟨fun _ => (Rl3 (by omega) hkk).mpr hc, fun _ => rfl⟩), add_len hyl, ⟨Stb.st⟩, m⟩, ?_⟩
          show x.steps.length - ((k + 1 : Nat) : Int).toNat < x.steps.length - (k : Int).toNat
          omega
        · refine next1 (by omega) ⟨y, o, ys, hs, ⟨hmm.1, fun m => ?_⟩, by omega, ⟨Stb.st⟩, m.sub (.cons_cons _ (.cons_cons _ (.cons _ (List.Sublist.refl _))))⟩
          rw [hmm.2, stg_end (fun m h h1 h2 => by unfold Rl at h; omega), endC]
  · have hnn : n0 = x.steps.length := by omega
    subst hnn
    refine loop1 x.states.toNat (fun k h => ∃ y o ys, IsSl y o ys.length ∧ (ys.Nodup ∧ ∀ m, m ∈ ys ↔ stg (stD x) (Rl x) 2 0 k m) ∧ ys.length ≤ 320 * 368 + k ∧ Prec hx h ∧ Mem g h [⟨some ib, [y], zb⟩, ⟨o, flat ys, 3⟩, ⟨some ix, [.int .i64 x.states, .int .i64 x.inputs, .int .i64 x.outputs, .int .i64 x.start, .slice b0 x.steps.length q0], zx⟩]) ⟨y, o, ys, hs, ⟨hmm.1, fun m => by rw [hmm.2, endA, stg_base fun m h _ _ => Rl_le h]⟩, by omega, ⟨Stb.st⟩, m⟩ ?_
    rintro k h4 _ hk ⟨y, o, ys, hs, hmm, hyl, p4, m⟩
    ((with_reducible (refine lss_i (fun hc => ?_) (fun hc => ?_); refine cnd_t ?_; refine mv_i ?_; refine mv_i ?_; refine mv_i ?_; refine mv_i ?_; refine fao ?_));
        (refine ldo (by assumption) (q := by infer_instance) (by with_unfolding_all rfl) ?_);
        (with_reducible (refine neq_i (fun hc => ?_) (fun hc => ?_); refine mv_i ?_));
        (refine vk_i (bd34_02 _ _) ?_);
        (rotate_left);
        (with_reducible (refine mv_i ?_));
        (refine vk_i (bd34_02 _ _) ?_);
        (rotate_left);
        (with_reducible (refine cnd_f ?_));
        (refine ldo (by assumption) (q := by infer_instance) (by with_unfolding_all rfl) ?_);
        (rotate_left))
    · have hkk : (k : Int) < x.states := by assumption
      refine call_i (c44 m hs (by omega) false (⟨2, 0, k⟩ : Mut)) fun v4 h4 ⟨hv, p4, o', y', hs', m⟩ => ?_
      subst hv
      ((with_reducible (refine inc_i (by omega) ?_; refine mv_i ?_)))
      refine next1 (by omega) ⟨y', o', _, hs', stg_add hmm.1 hmm.2 (fun q => q.1 rfl) (⟨fun q => (by cases q), fun q => ((Rl2 hkk).mp q hc).elim⟩), add_len hyl, ⟨Stb.st⟩, m⟩
    · have hkk : (k : Int) < x.states := by assumption
      refine call_i (c44 m hs (by omega) true (⟨2, 0, k⟩ : Mut)) fun v4 h4 ⟨hv, p4, o', y', hs', m⟩ => ?_
      subst hv
      ((with_reducible (refine inc_i (by omega) ?_; refine mv_i ?_)))
      refine next1 (by omega) ⟨y', o', _, hs', stg_add hmm.1 hmm.2 (fun q => q.1 rfl) (⟨fun _ => (Rl2 hkk).mpr hc, fun _ => rfl⟩), add_len hyl, ⟨Stb.st⟩, m⟩
    · have hmR : ∀ m, m ∈ ys ↔ Rl x m := fun m => by rw [hmm.2, stg_end (fun m h h1 h2 => by unfold Rl at h; omega), endD]
      have hnd := hmm.1
      have hsl : (srt cmpM ys).length = ys.length := by simp [srt]
      rcases Nat.eq_zero_or_pos ys.length with e0 | e0
      · have e1 : ys = [] := List.length_eq_zero_iff.mp e0
        subst e1
        refine call_r (c45n hs) ?_
        ((refine ldo (by assumption) (q := by infer_instance) (by with_unfolding_all rfl) ?_);
            (with_reducible (refine mv_i ?_; refine mv_i ?_; refine ret2 ?_)))
        obtain ⟨b3, c3, rfl⟩ := hs.isS
        refine ⟨m.pre, b3, _, c3, [], rfl, hnd, hmR, ?_⟩
        have e2 : srt cmpM ([] : List Mut) = [] := by simp [srt]
        rw [e2]
        exact IsSl.ro hs m (k := 1) rfl (by simp)
      · obtain ⟨i9, rfl⟩ := m.isSome (k := 1) ⟨rfl⟩ (by decide) e0
        refine sort45 m hs (k := 1) rfl e0 (by omega) fun h7 p7 m => ?_
        simp only [List.set_cons_succ, List.set_cons_zero] at m
        ((refine ldo (by assumption) (q := by infer_instance) (by with_unfolding_all rfl) ?_);
            (with_reducible (refine mv_i ?_; refine mv_i ?_; refine ret2 ?_)))
        obtain ⟨b3, c3, hye⟩ := hs.isS
        subst hye
        exact ⟨m.pre, b3, _, c3, ys, rfl, hnd, hmR, IsSl.ro (xs := srt cmpM ys) (by rw [hsl]; exact hs) m (k := 1) rfl (by omega)⟩
end Go.Proofs.Ytomiejfeclefaaa

set_option linter.unusedSimpArgs false
set_option linter.unusedVariables false
set_option linter.unnecessarySimpa false
set_option maxRecDepth 100000
set_option maxHeartbeats 4000000
namespace Go.Proofs.Ytomiejfeclefaaa
open Go.AM
variable {h g : Heap}
/-! ### a mutation that is right and changes the machine is a real one -/
theorem mutE_1 (x : Mach) (m : Mut) : (mutE x [m]).2 = 0 ↔ (0 ≤ m.kind ∧ m.kind ≤ 3) ∧ rightS x m ∧ (m.kind ≠ 3 ∨ m.step < m.to) := by
  have h1 : mutE x [m] = firstErr (muE x [m]) 1 := by unfold mutE; rw [if_neg (by simp)]; rfl
  have hg : gt [m] 0 = m := rfl
  have ho : ordS [m] 0 ↔ (m.kind ≠ 3 ∨ m.step < m.to) := by unfold ordS; rw [hg]; simp
  have ha : ¬ agn [m] 0 := by unfold agn; simp [idxOf]
  have h2 : (firstErr (muE x [m]) 1).2 = 0 ↔ muE x [m] 0 = 0 := by
    unfold firstErr firstErr
    by_cases e : muE x [m] 0 = 0 <;> simp [e]
  rw [h1, h2]
  unfold muE
  rw [hg]
  by_cases c1 : 0 ≤ m.kind ∧ m.kind ≤ 3
  · by_cases c2 : rightS x m
    · by_cases c3 : m.kind ≠ 3 ∨ m.step < m.to
      · simp only [c1, c2, ho.mpr c3, ha, c3]; simp
      · have : ¬ ordS [m] 0 := fun q => c3 (ho.mp q)
        simp only [c1, c2, this, c3]; simp
    · simp only [c1, c2]; simp
  · simp only [c1]; simp
theorem set_same {l : List Stp} {k : Nat} {a : Stp} (hk : k < l.length) : l.set k a = l ↔ gt l k = a := by
  constructor
  · intro h
    have := gst (j := k) (a := a) hk
    rw [h, if_pos rfl] at this; exact this
  · rintro rfl
    refine List.ext_getElem (by simp) fun j h1 h2 => ?_
    rw [List.getElem_set]
    split
    · rename_i e; subst e; rw [gt_at]
    · rfl
theorem stp_out (t : Stp) (v : Int) : ({ t with out := v } : Stp) = t ↔ v = t.out := by cases t; simp
theorem stp_to (t : Stp) (v : Int) : ({ t with to := v } : Stp) = t ↔ v = t.to := by cases t; simp
theorem mac_st (x : Mach) (l : List Stp) : ({ x with steps := l } : Mach) = x ↔ l = x.steps := by cases x; simp
theorem mac_start (x : Mach) (v : Int) : ({ x with start := v } : Mach) = x ↔ v = x.start := by cases x; simp
theorem real_iff (x : Mach) (m : Mut) : ((mutE x [m]).2 = 0 ∧ ¬ mutd x [m] = x) ↔ Rl x m := by
  rw [mutE_1, show mutd x [m] = ap1 x x m from rfl]
  constructor
  · rintro ⟨⟨⟨k1, k2⟩, hr, ho⟩, hne⟩
    unfold rightS at hr
    unfold ap1 at hne
    split at hr
    · rename_i e
      rw [if_pos e, mac_st] at hne
      unfold setOut at hne
      rw [set_same (by omega), eq_comm, stp_out] at hne
      exact .inl ⟨e, by omega, by omega, hne⟩
    · rename_i n0
      rw [if_neg n0] at hne
      split at hr
      · rename_i e
        rw [if_pos e, mac_st] at hne
        unfold setTo at hne
        rw [set_same (by omega), eq_comm, stp_to] at hne
        exact .inr (.inl ⟨e, by omega, by omega, hne⟩)
      · rename_i n1
        rw [if_neg n1] at hne
        split at hr
        · rename_i e
          rw [if_pos e, mac_start] at hne
          exact .inr (.inr (.inl ⟨e, by omega, by omega, hne⟩))
        · rename_i n2
          rw [if_neg n2, mac_st] at hne
          refine .inr (.inr (.inr ⟨by omega, by omega, by omega, fun q => hne ?_⟩))
          have e1 : setTo x.steps m.step.toNat (gt x.steps m.to.toNat).to = x.steps := by
            unfold setTo; rw [set_same (by omega), eq_comm, stp_to]; exact q
          rw [e1]
          unfold setTo; rw [set_same (by omega), eq_comm, stp_to]; exact q.symm
  · intro h
    unfold rightS ap1
    rcases h with ⟨e, h1, h2, h3⟩ | ⟨e, h1, h2, h3⟩ | ⟨e, h1, h2, h3⟩ | ⟨e, h1, h2, h3⟩
    · rw [if_pos e, if_pos e, mac_st]
      refine ⟨⟨by omega, by omega, by omega⟩, ?_⟩
      unfold setOut
      rw [set_same (by omega), eq_comm, stp_out]; exact h3
    · have n0 : ¬ m.kind = 0 := by omega
      rw [if_neg n0, if_neg n0, if_pos e, if_pos e, mac_st]
      refine ⟨⟨by omega, by omega, by omega⟩, ?_⟩
      unfold setTo
      rw [set_same (by omega), eq_comm, stp_to]; exact h3
    · have n0 : ¬ m.kind = 0 := by omega
      have n1 : ¬ m.kind = 1 := by omega
      rw [if_neg n0, if_neg n0, if_neg n1, if_neg n1, if_pos e, if_pos e, mac_start]
      exact ⟨⟨by omega, by omega, by omega⟩, h3⟩
    · have n0 : ¬ m.kind = 0 := by omega
      have n1 : ¬ m.kind = 1 := by omega
      have n2 : ¬ m.kind = 2 := by omega
      rw [if_neg n0, if_neg n0, if_neg n1, if_neg n1, if_neg n2, if_neg n2, mac_st]
      refine ⟨⟨by omega, by omega, by omega⟩, fun q => h3 ?_⟩
      have hlen : (setTo x.steps m.step.toNat (gt x.steps m.to.toNat).to).length = x.steps.length := by simp [setTo]
      have h5 : gt (setTo (setTo x.steps m.step.toNat (gt x.steps m.to.toNat).to) m.to.toNat (gt x.steps m.step.toNat).to) m.to.toNat = gt x.steps m.to.toNat := by rw [q]
      have h6 : (gt (setTo (setTo x.steps m.step.toNat (gt x.steps m.to.toNat).to) m.to.toNat (gt x.steps m.step.toNat).to) m.to.toNat).to = (gt x.steps m.step.toNat).to := by
        rw [show setTo (setTo x.steps m.step.toNat (gt x.steps m.to.toNat).to) m.to.toNat (gt x.steps m.step.toNat).to = (setTo x.steps m.step.toNat (gt x.steps m.to.toNat).to).set m.to.toNat { gt (setTo x.steps m.step.toNat (gt x.steps m.to.toNat).to) m.to.toNat with to := (gt x.steps m.step.toNat).to } from rfl, gst (by omega), if_pos rfl]
      rw [h5] at h6
      exact h6
/-- Two lists without doubles, of the same mutations: sorted the same. -/
theorem srtM_eq {ys zs : List Mut} (hy : ys.Nodup) (hz : zs.Pairwise ltm) (hm : ∀ m, m ∈ ys ↔ m ∈ zs) : srt cmpM ys = zs := by
  have hzn : zs.Nodup := hz.imp fun {a b} h e => by subst e; unfold ltm at h; omega
  have hpm : zs.Perm ys := (List.perm_ext_iff_of_nodup hzn hy).mpr fun a => (hm a).symm
  have pw := List.pairwise_iff_getElem.mp hz
  have hlen := hpm.length_eq
  have hsz : zs.toArray.size = ys.toArray.size := by simpa using hlen
  have := Go.Sort.sorted_unique_holds (lt := Go.Proofs.ltOf cmpM) swoM totM ys.toArray zs.toArray ⟨hsz, fun i hi => ?_, ?_⟩ ?_
  · exact (by simpa [srt] using this : zs = srt cmpM ys).symm
  · rcases hi with hi | hi
    · omega
    · simp at hi; simp [List.getElem!_eq_getElem?_getD, List.getElem?_eq_none hi, List.getElem?_eq_none (show zs.length ≤ i by omega)]
  · have ht : List.take ys.length zs = zs := List.take_of_length_le (by omega)
    simpa [ht] using hpm
  · intro i j _ hij hj
    have hj : j < zs.length := by simp at hj; omega
    rw [ltMn]
    have := pw i j (by omega) hj hij
    simp only [List.getElem!_toArray, List.getElem!_eq_getElem?_getD, List.getElem?_eq_getElem hj, List.getElem?_eq_getElem (show i < zs.length by omega), Option.getD_some]
    unfold ltm at *; omega
end Go.Proofs.Ytomiejfeclefaaa

set_option linter.unusedSimpArgs false
set_option linter.unusedVariables false
set_option linter.unnecessarySimpa false
set_option maxRecDepth 100000
set_option maxHeartbeats 4000000
namespace Go.Proofs.Ytomiejfeclefaaa
open Go.AM
variable {h g : Heap}
/-- The reference's mutant. -/
theorem c24m {v y : Value} {x : Mach} {l : List Mut} {g0 : Heap} {Lm : List E} {kk il : Nat} (M : Mem g0 g Lm) (hq : Lm[kk]? = some ⟨some il, flat l, 3⟩) (s : MacV g v x) (t : IsSl y (some il) l.length) (lt : l.length ≤ 2 ^ 50) (hb : x.steps.length ≤ 1048576) (hv : ∀ k, k < l.length → (0 ≤ (gt l k).kind ∧ (gt l k).kind ≤ 3) ∧ rightS x (gt l k)) :
    DetP Try.prog 24 [v, y] g fun v' h' => g <+: h' ∧ ∃ b q n, v' = .agg #[.int .i64 (mutd x l).states, .int .i64 (mutd x l).inputs, .int .i64 (mutd x l).outputs, .int .i64 (mutd x l).start, .slice b n q] ∧ n = (mutd x l).steps.length ∧ L h' (.slice b n q) (mutd x l).steps := by
  refine DetP.freeze ?_
  obtain ⟨tv, rfl, s⟩ := s
  obtain ⟨b0, q0, rfl, _⟩ := s.shape
  have m := Mem.start g
  refine w24 ?_
  unfold n24
  refine box_a m fun i0 h0 z0 p0 m => ?_
  refine alloc_z m fun i1 h1 z1 p1 m => ?_
  ((refine ldo_w (by assumption) (by infer_instance) (by with_unfolding_all rfl) ?_))
  refine call_d (c14o ⟨_, rfl, s.up⟩ hb) m fun y1 h3 p3 p4 _ ⟨y1, o, ev, hs, hn⟩ => ?_
  subst ev
  have m := hn _ _ m
  obtain ⟨a, d, rfl⟩ := hs.isS
  ((with_reducible (refine alloc_z (by assumption) fun i h z p m => ?_));
      (refine st_w (by assumption) (by infer_instance) (by with_unfolding_all rfl) (by with_unfolding_all rfl) (by first | rfl | exact flat_ones (Flat.flat _)) (by infer_instance) fun h p m => ?_);
      (with_reducible (refine mv_i ?_)))
  refine loop1 l.length (fun k h5 => Prec h h5 ∧ Mem g h5 [⟨some i, [.int .i64 x.states, .int .i64 x.inputs, .int .i64 x.outputs, .int .i64 (muts x l k).start, .slice a x.steps.length d], z⟩, ⟨o, flat (muts x l k).steps, 4⟩, ⟨some i1, [.int .i64 0, .int .i64 0, .int .i64 0, .int .i64 0, .slice none 0 0], z1⟩, ⟨some i0, [.int .i64 x.states, .int .i64 x.inputs, .int .i64 x.outputs, .int .i64 x.start, .slice b0 x.steps.length q0], z0⟩]) ⟨⟨Stab.refl _⟩, m⟩ ?_
  rintro k h5 _ hk ⟨p5, m⟩
  obtain ⟨u1, u2, u3, u4⟩ := muts_same x l k
  have hs0 := hs
  have hs : IsSl (.slice a x.steps.length d) o (muts x l k).steps.length := by rw [u4]; exact hs
  by_cases hkl : k < l.length
  · have hnx := muts_next (x := x) hkl
    obtain ⟨r1, r2⟩ := hv k hkl
    have hk2 : (gt l k).kind = 0 ∨ (gt l k).kind = 1 ∨ (gt l k).kind = 2 ∨ (gt l k).kind = 3 := by omega
    rcases hk2 with e | e | e | e
    · rw [rightS, if_pos e] at r2
      obtain ⟨r2, r3⟩ := r2
      have n1 : ¬ (gt l k).kind = 1 := by omega
      have n2 : ¬ (gt l k).kind = 2 := by omega
      have n3 : ¬ (gt l k).kind = 3 := by omega
      have hap : ap1 x (muts x l k) (gt l k) = { muts x l k with steps := setOut (muts x l k).steps (gt l k).step.toNat (gt l k).to } := by rw [ap1, if_pos e]
      rw [hap] at hnx
      ((with_reducible (refine mv_i ?_; refine mv_i ?_; refine len_o (by assumption) ?_; refine lss_i (fun hc => ?_) (fun hc => ?_); refine cnd_t ?_; refine seq_i ?_; refine seq_i ?_; refine mv_i ?_; refine mv_i ?_));
          (refine idx_o (by assumption) (by omega) ?_);
          (with_reducible (refine fao_e ?_));
          (refine ldf_d (Mem.ext M (Mem.pre (by assumption))) ⟨hq⟩ (by with_unfolding_all rfl) (by omega) (by with_unfolding_all exact Nat.le_of_ble_eq_true rfl) (by with_unfolding_all rfl) ?_);
          (with_reducible (refine eql_h (by first | assumption | decide) ?_; refine cnd_t ?_; refine fao ?_));
          (refine ldo (by assumption) (q := by infer_instance) (by with_unfolding_all rfl) ?_);
          (refine IsSl.vb (by assumption) (by assumption) (by infer_instance) ?_);
          (with_reducible (refine mv_i ?_; refine mv_i ?_));
          (refine idx_o (by assumption) (by omega) ?_);
          (with_reducible (refine fao_e ?_));
          (refine ldf_d (Mem.ext M (Mem.pre (by assumption))) ⟨hq⟩ (by with_unfolding_all rfl) (by omega) (by with_unfolding_all exact Nat.le_of_ble_eq_true rfl) (by with_unfolding_all rfl) ?_);
          (refine vb_n (by with_unfolding_all rfl) ?_);
          (with_reducible (refine mv_i ?_; refine mv_i ?_));
          (refine idx_o (by assumption) (by omega) ?_);
          (with_reducible (refine fao_e ?_));
          (refine ldf_d (Mem.ext M (Mem.pre (by assumption))) ⟨hq⟩ (by with_unfolding_all rfl) (by omega) (by with_unfolding_all exact Nat.le_of_ble_eq_true rfl) (by with_unfolding_all rfl) ?_);
          (refine vb_n (by with_unfolding_all rfl) ?_);
          (refine idx_oz (by assumption) (by omega) (by omega) ?_);
          (with_reducible (refine fao_e ?_));
          (rotate_left);
          (with_reducible (refine cnd_f ?_));
          (refine ldo_w (by assumption) (by infer_instance) (by with_unfolding_all rfl) ?_);
          (refine st_w (by assumption) (by infer_instance) (by with_unfolding_all rfl) (by with_unfolding_all rfl) (by first | rfl | exact flat_ones (Flat.flat _)) (by infer_instance) fun h p m => ?_);
          (refine rt_w1 (by assumption) (by infer_instance) (by with_unfolding_all rfl) ?_);
          (with_reducible (refine ret1 ?_));
          (rotate_left))
      rotate_left
      · exfalso; omega
      refine stf_d { gt (muts x l k).steps (gt l k).step.toNat with out := (gt l k).to } m (by infer_instance) rfl (by omega) (by decide) rfl rfl rfl (by infer_instance) fun h p m => ?_
      ((with_reducible (refine ⟨trivial, ?_⟩));
          ((with_reducible refine fun (_ : Tmps) => ?_); (try dsimp only [nth]));
          (with_reducible (refine seq_i ?_; refine mv_i ?_; refine mv_i ?_));
          (refine idx_o (by assumption) (by omega) ?_);
          (with_reducible (refine fao_e ?_));
          (refine ldf_d (Mem.ext M (Mem.pre (by assumption))) ⟨hq⟩ (by with_unfolding_all rfl) (by omega) (by with_unfolding_all exact Nat.le_of_ble_eq_true rfl) (by with_unfolding_all rfl) ?_);
          (with_reducible (refine eql_n (by first | assumption | decide) ?_; refine cnd_f ?_));
          ((with_reducible refine fun (_ : Tmps) => ?_); (try dsimp only [nth]));
          (with_reducible (refine seq_i ?_; refine mv_i ?_; refine mv_i ?_));
          (refine idx_o (by assumption) (by omega) ?_);
          (with_reducible (refine fao_e ?_));
          (refine ldf_d (Mem.ext M (Mem.pre (by assumption))) ⟨hq⟩ (by with_unfolding_all rfl) (by omega) (by with_unfolding_all exact Nat.le_of_ble_eq_true rfl) (by with_unfolding_all rfl) ?_);
          (with_reducible (refine eql_n (by first | assumption | decide) ?_; refine cnd_f ?_));
          ((with_reducible refine fun (_ : Tmps) => ?_); (try dsimp only [nth]));
          (with_reducible (refine mv_i ?_; refine mv_i ?_));
          (refine idx_o (by assumption) (by omega) ?_);
          (with_reducible (refine fao_e ?_));
          (refine ldf_d (Mem.ext M (Mem.pre (by assumption))) ⟨hq⟩ (by with_unfolding_all rfl) (by omega) (by with_unfolding_all exact Nat.le_of_ble_eq_true rfl) (by with_unfolding_all rfl) ?_);
          (with_reducible (refine eql_n (by first | assumption | decide) ?_; refine cnd_f ?_));
          ((with_reducible refine fun (_ : Tmps) => ?_); (try dsimp only [nth]));
          (with_reducible (refine mv_i ?_; refine inc_i (by omega) ?_; refine mv_i ?_)))
      exact next1 hkl ⟨⟨Stb.st⟩, by rw [hnx]; exact m⟩
    · have n0 : ¬ (gt l k).kind = 0 := by omega
      have n2 : ¬ (gt l k).kind = 2 := by omega
      have n3 : ¬ (gt l k).kind = 3 := by omega
      rw [rightS, if_neg n0, if_pos e] at r2
      obtain ⟨r2, r3⟩ := r2
      have hap : ap1 x (muts x l k) (gt l k) = { muts x l k with steps := setTo (muts x l k).steps (gt l k).step.toNat (gt l k).to } := by rw [ap1, if_neg n0, if_pos e]
      rw [hap] at hnx
      ((with_reducible (refine mv_i ?_; refine mv_i ?_; refine len_o (by assumption) ?_; refine lss_i (fun hc => ?_) (fun hc => ?_); refine cnd_t ?_; refine seq_i ?_; refine seq_i ?_; refine mv_i ?_; refine mv_i ?_));
          (refine idx_o (by assumption) (by omega) ?_);
          (with_reducible (refine fao_e ?_));
          (refine ldf_d (Mem.ext M (Mem.pre (by assumption))) ⟨hq⟩ (by with_unfolding_all rfl) (by omega) (by with_unfolding_all exact Nat.le_of_ble_eq_true rfl) (by with_unfolding_all rfl) ?_);
          (with_reducible (refine eql_n (by first | assumption | decide) ?_; refine cnd_f ?_));
          ((with_reducible refine fun (_ : Tmps) => ?_); (try dsimp only [nth]));
          (with_reducible (refine seq_i ?_; refine mv_i ?_; refine mv_i ?_));
          (refine idx_o (by assumption) (by omega) ?_);
          (with_reducible (refine fao_e ?_));
          (refine ldf_d (Mem.ext M (Mem.pre (by assumption))) ⟨hq⟩ (by with_unfolding_all rfl) (by omega) (by with_unfolding_all exact Nat.le_of_ble_eq_true rfl) (by with_unfolding_all rfl) ?_);
          (with_reducible (refine eql_h (by first | assumption | decide) ?_; refine cnd_t ?_; refine fao ?_));
          (refine ldo (by assumption) (q := by infer_instance) (by with_unfolding_all rfl) ?_);
          (refine IsSl.vb (by assumption) (by assumption) (by infer_instance) ?_);
          (with_reducible (refine mv_i ?_; refine mv_i ?_));
          (refine idx_o (by assumption) (by omega) ?_);
          (with_reducible (refine fao_e ?_));
          (refine ldf_d (Mem.ext M (Mem.pre (by assumption))) ⟨hq⟩ (by with_unfolding_all rfl) (by omega) (by with_unfolding_all exact Nat.le_of_ble_eq_true rfl) (by with_unfolding_all rfl) ?_);
          (refine vb_n (by with_unfolding_all rfl) ?_);
          (with_reducible (refine mv_i ?_; refine mv_i ?_));
          (refine idx_o (by assumption) (by omega) ?_);
          (with_reducible (refine fao_e ?_));
          (refine ldf_d (Mem.ext M (Mem.pre (by assumption))) ⟨hq⟩ (by with_unfolding_all rfl) (by omega) (by with_unfolding_all exact Nat.le_of_ble_eq_true rfl) (by with_unfolding_all rfl) ?_);
          (refine vb_n (by with_unfolding_all rfl) ?_);
          (refine idx_oz (by assumption) (by omega) (by omega) ?_);
          (with_reducible (refine fao_e ?_));
          (rotate_left);
          (with_reducible (refine cnd_f ?_));
          (refine ldo_w (by assumption) (by infer_instance) (by with_unfolding_all rfl) ?_);
          (refine st_w (by assumption) (by infer_instance) (by with_unfolding_all rfl) (by with_unfolding_all rfl) (by first | rfl | exact flat_ones (Flat.flat _)) (by infer_instance) fun h p m => ?_);
          (refine rt_w1 (by assumption) (by infer_instance) (by with_unfolding_all rfl) ?_);
          (with_reducible (refine ret1 ?_));
          (rotate_left))
      rotate_left
      · exfalso; omega
      refine stf_d { gt (muts x l k).steps (gt l k).step.toNat with to := (gt l k).to } m (by infer_instance) rfl (by omega) (by decide) rfl rfl rfl (by infer_instance) fun h p m => ?_
      ((with_reducible (refine ⟨trivial, ?_⟩));
          ((with_reducible refine fun (_ : Tmps) => ?_); (try dsimp only [nth]));
          (with_reducible (refine seq_i ?_; refine mv_i ?_; refine mv_i ?_));
          (refine idx_o (by assumption) (by omega) ?_);
          (with_reducible (refine fao_e ?_));
          (refine ldf_d (Mem.ext M (Mem.pre (by assumption))) ⟨hq⟩ (by with_unfolding_all rfl) (by omega) (by with_unfolding_all exact Nat.le_of_ble_eq_true rfl) (by with_unfolding_all rfl) ?_);
          (with_reducible (refine eql_n (by first | assumption | decide) ?_; refine cnd_f ?_));
          ((with_reducible refine fun (_ : Tmps) => ?_); (try dsimp only [nth]));
          (with_reducible (refine mv_i ?_; refine mv_i ?_));
          (refine idx_o (by assumption) (by omega) ?_);
          (with_reducible (refine fao_e ?_));
          (refine ldf_d (Mem.ext M (Mem.pre (by assumption))) ⟨hq⟩ (by with_unfolding_all rfl) (by omega) (by with_unfolding_all exact Nat.le_of_ble_eq_true rfl) (by with_unfolding_all rfl) ?_);
          (with_reducible (refine eql_n (by first | assumption | decide) ?_; refine cnd_f ?_));
          ((with_reducible refine fun (_ : Tmps) => ?_); (try dsimp only [nth]));
          (with_reducible (refine mv_i ?_; refine inc_i (by omega) ?_; refine mv_i ?_)))
      exact next1 hkl ⟨⟨Stb.st⟩, by rw [hnx]; exact m⟩
    · have n0 : ¬ (gt l k).kind = 0 := by omega
      have n1 : ¬ (gt l k).kind = 1 := by omega
      have n3 : ¬ (gt l k).kind = 3 := by omega
      have hap : ap1 x (muts x l k) (gt l k) = { muts x l k with start := (gt l k).to } := by rw [ap1, if_neg n0, if_neg n1, if_pos e]
      rw [hap] at hnx
      ((with_reducible (refine mv_i ?_; refine mv_i ?_; refine len_o (by assumption) ?_; refine lss_i (fun hc => ?_) (fun hc => ?_); refine cnd_t ?_; refine seq_i ?_; refine seq_i ?_; refine mv_i ?_; refine mv_i ?_));
          (refine idx_o (by assumption) (by omega) ?_);
          (with_reducible (refine fao_e ?_));
          (refine ldf_d (Mem.ext M (Mem.pre (by assumption))) ⟨hq⟩ (by with_unfolding_all rfl) (by omega) (by with_unfolding_all exact Nat.le_of_ble_eq_true rfl) (by with_unfolding_all rfl) ?_);
          (with_reducible (refine eql_n (by first | assumption | decide) ?_; refine cnd_f ?_));
          ((with_reducible refine fun (_ : Tmps) => ?_); (try dsimp only [nth]));
          (with_reducible (refine seq_i ?_; refine mv_i ?_; refine mv_i ?_));
          (refine idx_o (by assumption) (by omega) ?_);
          (with_reducible (refine fao_e ?_));
          (refine ldf_d (Mem.ext M (Mem.pre (by assumption))) ⟨hq⟩ (by with_unfolding_all rfl) (by omega) (by with_unfolding_all exact Nat.le_of_ble_eq_true rfl) (by with_unfolding_all rfl) ?_);
          (with_reducible (refine eql_n (by first | assumption | decide) ?_; refine cnd_f ?_));
          ((with_reducible refine fun (_ : Tmps) => ?_); (try dsimp only [nth]));
          (with_reducible (refine seq_i ?_; refine mv_i ?_; refine mv_i ?_));
          (refine idx_o (by assumption) (by omega) ?_);
          (with_reducible (refine fao_e ?_));
          (refine ldf_d (Mem.ext M (Mem.pre (by assumption))) ⟨hq⟩ (by with_unfolding_all rfl) (by omega) (by with_unfolding_all exact Nat.le_of_ble_eq_true rfl) (by with_unfolding_all rfl) ?_);
          (with_reducible (refine eql_h (by first | assumption | decide) ?_; refine cnd_t ?_; refine mv_i ?_; refine mv_i ?_));
          (refine idx_o (by assumption) (by omega) ?_);
          (with_reducible (refine fao_e ?_));
          (refine ldf_d (Mem.ext M (Mem.pre (by assumption))) ⟨hq⟩ (by with_unfolding_all rfl) (by omega) (by with_unfolding_all exact Nat.le_of_ble_eq_true rfl) (by with_unfolding_all rfl) ?_);
          (with_reducible (refine fao ?_));
          (refine sto (by assumption) (q := by infer_instance) (by with_unfolding_all exact Nat.le_of_ble_eq_true rfl) rfl rfl (u := by infer_instance) fun h p m => ?_);
          ((with_reducible refine fun (_ : Tmps) => ?_); (try dsimp only [nth]));
          (with_reducible (refine mv_i ?_; refine mv_i ?_));
          (refine idx_o (by assumption) (by omega) ?_);
          (with_reducible (refine fao_e ?_));
          (refine ldf_d (Mem.ext M (Mem.pre (by assumption))) ⟨hq⟩ (by with_unfolding_all rfl) (by omega) (by with_unfolding_all exact Nat.le_of_ble_eq_true rfl) (by with_unfolding_all rfl) ?_);
          (with_reducible (refine eql_n (by first | assumption | decide) ?_; refine cnd_f ?_));
          ((with_reducible refine fun (_ : Tmps) => ?_); (try dsimp only [nth]));
          (with_reducible (refine mv_i ?_; refine inc_i (by omega) ?_; refine mv_i ?_));
          (rotate_left);
          (with_reducible (refine cnd_f ?_));
          (refine ldo_w (by assumption) (by infer_instance) (by with_unfolding_all rfl) ?_);
          (refine st_w (by assumption) (by infer_instance) (by with_unfolding_all rfl) (by with_unfolding_all rfl) (by first | rfl | exact flat_ones (Flat.flat _)) (by infer_instance) fun h p m => ?_);
          (refine rt_w1 (by assumption) (by infer_instance) (by with_unfolding_all rfl) ?_);
          (with_reducible (refine ret1 ?_));
          (rotate_left))
      · exact next1 hkl ⟨⟨Stb.st⟩, by rw [hnx]; exact m⟩
      · exfalso; omega
    · have n0 : ¬ (gt l k).kind = 0 := by omega
      have n1 : ¬ (gt l k).kind = 1 := by omega
      have n2 : ¬ (gt l k).kind = 2 := by omega
      rw [rightS, if_neg n0, if_neg n1, if_neg n2] at r2
      obtain ⟨r2, r3⟩ := r2
      have hap : ap1 x (muts x l k) (gt l k) = { muts x l k with steps := setTo (setTo (muts x l k).steps (gt l k).step.toNat (gt x.steps (gt l k).to.toNat).to) (gt l k).to.toNat (gt x.steps (gt l k).step.toNat).to } := by rw [ap1, if_neg n0, if_neg n1, if_neg n2]
      rw [hap] at hnx
      ((with_reducible (refine mv_i ?_; refine mv_i ?_; refine len_o (by assumption) ?_; refine lss_i (fun hc => ?_) (fun hc => ?_); refine cnd_t ?_; refine seq_i ?_; refine seq_i ?_; refine mv_i ?_; refine mv_i ?_));
          (refine idx_o (by assumption) (by omega) ?_);
          (with_reducible (refine fao_e ?_));
          (refine ldf_d (Mem.ext M (Mem.pre (by assumption))) ⟨hq⟩ (by with_unfolding_all rfl) (by omega) (by with_unfolding_all exact Nat.le_of_ble_eq_true rfl) (by with_unfolding_all rfl) ?_);
          (with_reducible (refine eql_n (by first | assumption | decide) ?_; refine cnd_f ?_));
          ((with_reducible refine fun (_ : Tmps) => ?_); (try dsimp only [nth]));
          (with_reducible (refine seq_i ?_; refine mv_i ?_; refine mv_i ?_));
          (refine idx_o (by assumption) (by omega) ?_);
          (with_reducible (refine fao_e ?_));
          (refine ldf_d (Mem.ext M (Mem.pre (by assumption))) ⟨hq⟩ (by with_unfolding_all rfl) (by omega) (by with_unfolding_all exact Nat.le_of_ble_eq_true rfl) (by with_unfolding_all rfl) ?_);
          (with_reducible (refine eql_n (by first | assumption | decide) ?_; refine cnd_f ?_));
          ((with_reducible refine fun (_ : Tmps) => ?_); (try dsimp only [nth]));
          (with_reducible (refine seq_i ?_; refine mv_i ?_; refine mv_i ?_));
          (refine idx_o (by assumption) (by omega) ?_);
          (with_reducible (refine fao_e ?_));
          (refine ldf_d (Mem.ext M (Mem.pre (by assumption))) ⟨hq⟩ (by with_unfolding_all rfl) (by omega) (by with_unfolding_all exact Nat.le_of_ble_eq_true rfl) (by with_unfolding_all rfl) ?_);
          (with_reducible (refine eql_n (by first | assumption | decide) ?_; refine cnd_f ?_));
          ((with_reducible refine fun (_ : Tmps) => ?_); (try dsimp only [nth]));
          (with_reducible (refine mv_i ?_; refine mv_i ?_));
          (refine idx_o (by assumption) (by omega) ?_);
          (with_reducible (refine fao_e ?_));
          (refine ldf_d (Mem.ext M (Mem.pre (by assumption))) ⟨hq⟩ (by with_unfolding_all rfl) (by omega) (by with_unfolding_all exact Nat.le_of_ble_eq_true rfl) (by with_unfolding_all rfl) ?_);
          (with_reducible (refine eql_h (by first | assumption | decide) ?_; refine cnd_t ?_; refine fao ?_));
          (refine ldo (by assumption) (q := by infer_instance) (by with_unfolding_all rfl) ?_);
          (refine IsSl.vb (by assumption) (by assumption) (by infer_instance) ?_);
          (with_reducible (refine mv_i ?_; refine mv_i ?_));
          (refine idx_o (by assumption) (by omega) ?_);
          (with_reducible (refine fao_e ?_));
          (refine ldf_d (Mem.ext M (Mem.pre (by assumption))) ⟨hq⟩ (by with_unfolding_all rfl) (by omega) (by with_unfolding_all exact Nat.le_of_ble_eq_true rfl) (by with_unfolding_all rfl) ?_);
          (refine vb_n (by with_unfolding_all rfl) ?_);
          (with_reducible (refine fao ?_));
          (refine ldo (by assumption) (q := by infer_instance) (by with_unfolding_all rfl) ?_);
          (refine IsSl.vb (by assumption) (by assumption) (by infer_instance) ?_);
          (with_reducible (refine mv_i ?_; refine mv_i ?_));
          (refine idx_o (by assumption) (by omega) ?_);
          (with_reducible (refine fao_e ?_));
          (refine ldf_d (Mem.ext M (Mem.pre (by assumption))) ⟨hq⟩ (by with_unfolding_all rfl) (by omega) (by with_unfolding_all exact Nat.le_of_ble_eq_true rfl) (by with_unfolding_all rfl) ?_);
          (refine vb_n (by with_unfolding_all rfl) ?_);
          (with_reducible (refine fao ?_));
          (refine ldo (by assumption) (q := by infer_instance) (by with_unfolding_all rfl) ?_);
          (with_reducible (refine vb_l (by assumption) ?_; refine mv_i ?_; refine mv_i ?_));
          (refine idx_o (by assumption) (by omega) ?_);
          (with_reducible (refine fao_e ?_));
          (refine ldf_d (Mem.ext M (Mem.pre (by assumption))) ⟨hq⟩ (by with_unfolding_all rfl) (by omega) (by with_unfolding_all exact Nat.le_of_ble_eq_true rfl) (by with_unfolding_all rfl) ?_);
          (refine vb_n (by with_unfolding_all rfl) ?_);
          (refine idx_dz (by assumption) (by with_unfolding_all rfl) (by omega) (by omega) fun p hp => ?_);
          (with_reducible (refine fa_g (by assumption) fun p hp => ?_));
          (refine ld_g (by assumption) (by with_unfolding_all rfl) ?_);
          (refine vb_n (by with_unfolding_all rfl) ?_);
          (with_reducible (refine fao ?_));
          (refine ldo (by assumption) (q := by infer_instance) (by with_unfolding_all rfl) ?_);
          (with_reducible (refine vb_l (by assumption) ?_; refine mv_i ?_; refine mv_i ?_));
          (refine idx_o (by assumption) (by omega) ?_);
          (with_reducible (refine fao_e ?_));
          (refine ldf_d (Mem.ext M (Mem.pre (by assumption))) ⟨hq⟩ (by with_unfolding_all rfl) (by omega) (by with_unfolding_all exact Nat.le_of_ble_eq_true rfl) (by with_unfolding_all rfl) ?_);
          (refine vb_n (by with_unfolding_all rfl) ?_);
          (refine idx_dz (by assumption) (by with_unfolding_all rfl) (by omega) (by omega) fun p hp => ?_);
          (with_reducible (refine fa_g (by assumption) fun p hp => ?_));
          (refine ld_g (by assumption) (by with_unfolding_all rfl) ?_);
          (refine vb_n (by with_unfolding_all rfl) ?_);
          (refine idx_oz (by assumption) (by omega) (by omega) ?_);
          (with_reducible (refine fao_e ?_));
          (rotate_left);
          (with_reducible (refine cnd_f ?_));
          (refine ldo_w (by assumption) (by infer_instance) (by with_unfolding_all rfl) ?_);
          (refine st_w (by assumption) (by infer_instance) (by with_unfolding_all rfl) (by with_unfolding_all rfl) (by first | rfl | exact flat_ones (Flat.flat _)) (by infer_instance) fun h p m => ?_);
          (refine rt_w1 (by assumption) (by infer_instance) (by with_unfolding_all rfl) ?_);
          (with_reducible (refine ret1 ?_));
          (rotate_left))
      rotate_left
      · exfalso; omega
      refine stf_d { gt (muts x l k).steps (gt l k).step.toNat with to := (gt x.steps (gt l k).to.toNat).to } m (by infer_instance) rfl (by omega) (by decide) rfl rfl rfl (by infer_instance) fun h p m => ?_
      ((refine pd_c (by assumption) (by infer_instance) (by with_unfolding_all rfl) ?_);
          (with_reducible (refine ⟨trivial, ?_⟩));
          (refine idx_oz (by assumption) (by omega) (by omega) ?_);
          (with_reducible (refine fao_e ?_)))
      have hl2 : (setTo (muts x l k).steps (gt l k).step.toNat (gt x.steps (gt l k).to.toNat).to).length = x.steps.length := by unfold setTo; rw [List.length_set, u4]
      change Mem g h (_ :: ⟨o, flat (setTo (muts x l k).steps (gt l k).step.toNat (gt x.steps (gt l k).to.toNat).to), 4⟩ :: _) at m
      refine stf_d { gt (setTo (muts x l k).steps (gt l k).step.toNat (gt x.steps (gt l k).to.toNat).to) (gt l k).to.toNat with to := (gt x.steps (gt l k).step.toNat).to } m (by infer_instance) rfl (by omega) (by decide) rfl rfl rfl (by infer_instance) fun h p m => ?_
      ((with_reducible (refine ⟨trivial, ?_⟩));
          ((with_reducible refine fun (_ : Tmps) => ?_); (try dsimp only [nth]));
          (with_reducible (refine mv_i ?_; refine inc_i (by omega) ?_; refine mv_i ?_)))
      exact next1 hkl ⟨⟨Stb.st⟩, by rw [hnx]; exact m⟩
  · ((with_reducible (refine mv_i ?_; refine mv_i ?_; refine len_o (by assumption) ?_; refine lss_i (fun hc => ?_) (fun hc => ?_); refine cnd_t ?_; refine seq_i ?_; refine seq_i ?_; refine mv_i ?_; refine mv_i ?_));
      (refine idx_o (by assumption) (by omega) ?_);
      (with_reducible (refine fao_e ?_));
      (refine ldf_d (Mem.ext M (Mem.pre (by assumption))) ⟨hq⟩ (by with_unfolding_all rfl) (by omega) (by with_unfolding_all exact Nat.le_of_ble_eq_true rfl) (by with_unfolding_all rfl) ?_);
      (with_reducible (refine eql_i (fun hc => ?_) (fun hc => ?_); refine cnd_t ?_; refine fao ?_));
      (refine ldo (by assumption) (q := by infer_instance) (by with_unfolding_all rfl) ?_);
      (refine IsSl.vb (by assumption) (by assumption) (by infer_instance) ?_);
      (with_reducible (refine mv_i ?_; refine mv_i ?_));
      (refine idx_o (by assumption) (by omega) ?_);
      (with_reducible (refine fao_e ?_));
      (refine ldf_d (Mem.ext M (Mem.pre (by assumption))) ⟨hq⟩ (by with_unfolding_all rfl) (by omega) (by with_unfolding_all exact Nat.le_of_ble_eq_true rfl) (by with_unfolding_all rfl) ?_);
      (refine vb_n (by with_unfolding_all rfl) ?_);
      (with_reducible (refine mv_i ?_; refine mv_i ?_));
      (refine idx_o (by assumption) (by omega) ?_);
      (with_reducible (refine fao_e ?_));
      (refine ldf_d (Mem.ext M (Mem.pre (by assumption))) ⟨hq⟩ (by with_unfolding_all rfl) (by omega) (by with_unfolding_all exact Nat.le_of_ble_eq_true rfl) (by with_unfolding_all rfl) ?_);
      (refine vb_n (by with_unfolding_all rfl) ?_);
      (refine idx_oz (by assumption) (by omega) (by omega) ?_);
      (with_reducible (refine fao_e ?_));
      (rotate_left);
      (with_reducible (refine cnd_f ?_));
      ((with_reducible refine fun (_ : Tmps) => ?_); (try dsimp only [nth]));
      (with_reducible (refine seq_i ?_; refine mv_i ?_; refine mv_i ?_));
      (refine idx_o (by assumption) (by omega) ?_);
      (with_reducible (refine fao_e ?_));
      (refine ldf_d (Mem.ext M (Mem.pre (by assumption))) ⟨hq⟩ (by with_unfolding_all rfl) (by omega) (by with_unfolding_all exact Nat.le_of_ble_eq_true rfl) (by with_unfolding_all rfl) ?_);
      (with_reducible (refine eql_i (fun hc => ?_) (fun hc => ?_); refine cnd_t ?_; refine fao ?_));
      (refine ldo (by assumption) (q := by infer_instance) (by with_unfolding_all rfl) ?_);
      (refine IsSl.vb (by assumption) (by assumption) (by infer_instance) ?_);
      (with_reducible (refine mv_i ?_; refine mv_i ?_));
      (refine idx_o (by assumption) (by omega) ?_);
      (with_reducible (refine fao_e ?_));
      (refine ldf_d (Mem.ext M (Mem.pre (by assumption))) ⟨hq⟩ (by with_unfolding_all rfl) (by omega) (by with_unfolding_all exact Nat.le_of_ble_eq_true rfl) (by with_unfolding_all rfl) ?_);
      (refine vb_n (by with_unfolding_all rfl) ?_);
      (with_reducible (refine mv_i ?_; refine mv_i ?_));
      (refine idx_o (by assumption) (by omega) ?_);
      (with_reducible (refine fao_e ?_));
      (refine ldf_d (Mem.ext M (Mem.pre (by assumption))) ⟨hq⟩ (by with_unfolding_all rfl) (by omega) (by with_unfolding_all exact Nat.le_of_ble_eq_true rfl) (by with_unfolding_all rfl) ?_);
      (refine vb_n (by with_unfolding_all rfl) ?_);
      (refine idx_oz (by assumption) (by omega) (by omega) ?_);
      (with_reducible (refine fao_e ?_));
      (rotate_left);
      (with_reducible (refine cnd_f ?_));
      ((with_reducible refine fun (_ : Tmps) => ?_); (try dsimp only [nth]));
      (with_reducible (refine seq_i ?_; refine mv_i ?_; refine mv_i ?_));
      (refine idx_o (by assumption) (by omega) ?_);
      (with_reducible (refine fao_e ?_));
      (refine ldf_d (Mem.ext M (Mem.pre (by assumption))) ⟨hq⟩ (by with_unfolding_all rfl) (by omega) (by with_unfolding_all exact Nat.le_of_ble_eq_true rfl) (by with_unfolding_all rfl) ?_);
      (with_reducible (refine eql_i (fun hc => ?_) (fun hc => ?_); refine cnd_t ?_; refine mv_i ?_; refine mv_i ?_));
      (refine idx_o (by assumption) (by omega) ?_);
      (with_reducible (refine fao_e ?_));
      (refine ldf_d (Mem.ext M (Mem.pre (by assumption))) ⟨hq⟩ (by with_unfolding_all rfl) (by omega) (by with_unfolding_all exact Nat.le_of_ble_eq_true rfl) (by with_unfolding_all rfl) ?_);
      (with_reducible (refine fao ?_));
      (refine sto (by assumption) (q := by infer_instance) (by with_unfolding_all exact Nat.le_of_ble_eq_true rfl) rfl rfl (u := by infer_instance) fun h p m => ?_);
      ((with_reducible refine fun (_ : Tmps) => ?_); (try dsimp only [nth]));
      (with_reducible (refine mv_i ?_; refine mv_i ?_));
      (refine idx_o (by assumption) (by omega) ?_);
      (with_reducible (refine fao_e ?_));
      (refine ldf_d (Mem.ext M (Mem.pre (by assumption))) ⟨hq⟩ (by with_unfolding_all rfl) (by omega) (by with_unfolding_all exact Nat.le_of_ble_eq_true rfl) (by with_unfolding_all rfl) ?_);
      (with_reducible (refine eql_i (fun hc => ?_) (fun hc => ?_); refine cnd_t ?_; refine fao ?_));
      (refine ldo (by assumption) (q := by infer_instance) (by with_unfolding_all rfl) ?_);
      (refine IsSl.vb (by assumption) (by assumption) (by infer_instance) ?_);
      (with_reducible (refine mv_i ?_; refine mv_i ?_));
      (refine idx_o (by assumption) (by omega) ?_);
      (with_reducible (refine fao_e ?_));
      (refine ldf_d (Mem.ext M (Mem.pre (by assumption))) ⟨hq⟩ (by with_unfolding_all rfl) (by omega) (by with_unfolding_all exact Nat.le_of_ble_eq_true rfl) (by with_unfolding_all rfl) ?_);
      (refine vb_n (by with_unfolding_all rfl) ?_);
      (with_reducible (refine fao ?_));
      (refine ldo (by assumption) (q := by infer_instance) (by with_unfolding_all rfl) ?_);
      (refine IsSl.vb (by assumption) (by assumption) (by infer_instance) ?_);
      (with_reducible (refine mv_i ?_; refine mv_i ?_));
      (refine idx_o (by assumption) (by omega) ?_);
      (with_reducible (refine fao_e ?_));
      (refine ldf_d (Mem.ext M (Mem.pre (by assumption))) ⟨hq⟩ (by with_unfolding_all rfl) (by omega) (by with_unfolding_all exact Nat.le_of_ble_eq_true rfl) (by with_unfolding_all rfl) ?_);
      (refine vb_n (by with_unfolding_all rfl) ?_);
      (with_reducible (refine fao ?_));
      (refine ldo (by assumption) (q := by infer_instance) (by with_unfolding_all rfl) ?_);
      (with_reducible (refine vb_l (by assumption) ?_; refine mv_i ?_; refine mv_i ?_));
      (refine idx_o (by assumption) (by omega) ?_);
      (with_reducible (refine fao_e ?_));
      (refine ldf_d (Mem.ext M (Mem.pre (by assumption))) ⟨hq⟩ (by with_unfolding_all rfl) (by omega) (by with_unfolding_all exact Nat.le_of_ble_eq_true rfl) (by with_unfolding_all rfl) ?_);
      (refine vb_n (by with_unfolding_all rfl) ?_);
      (refine idx_dz (by assumption) (by with_unfolding_all rfl) (by omega) (by omega) fun p hp => ?_);
      (with_reducible (refine fa_g (by assumption) fun p hp => ?_));
      (refine ld_g (by assumption) (by with_unfolding_all rfl) ?_);
      (refine vb_n (by with_unfolding_all rfl) ?_);
      (with_reducible (refine fao ?_));
      (refine ldo (by assumption) (q := by infer_instance) (by with_unfolding_all rfl) ?_);
      (with_reducible (refine vb_l (by assumption) ?_; refine mv_i ?_; refine mv_i ?_));
      (refine idx_o (by assumption) (by omega) ?_);
      (with_reducible (refine fao_e ?_));
      (refine ldf_d (Mem.ext M (Mem.pre (by assumption))) ⟨hq⟩ (by with_unfolding_all rfl) (by omega) (by with_unfolding_all exact Nat.le_of_ble_eq_true rfl) (by with_unfolding_all rfl) ?_);
      (refine vb_n (by with_unfolding_all rfl) ?_);
      (refine idx_dz (by assumption) (by with_unfolding_all rfl) (by omega) (by omega) fun p hp => ?_);
      (with_reducible (refine fa_g (by assumption) fun p hp => ?_));
      (refine ld_g (by assumption) (by with_unfolding_all rfl) ?_);
      (refine vb_n (by with_unfolding_all rfl) ?_);
      (refine idx_oz (by assumption) (by omega) (by omega) ?_);
      (with_reducible (refine fao_e ?_));
      (rotate_left);
      (with_reducible (refine cnd_f ?_));
      ((with_reducible refine fun (_ : Tmps) => ?_); (try dsimp only [nth]));
      (with_reducible (refine mv_i ?_; refine inc_i (by omega) ?_; refine mv_i ?_));
      (rotate_left);
      (with_reducible (refine cnd_f ?_));
      ((with_reducible refine fun (_ : Tmps) => ?_); (try dsimp only [nth]));
      (with_reducible (refine mv_i ?_; refine mv_i ?_));
      (refine idx_o (by assumption) (by omega) ?_);
      (with_reducible (refine fao_e ?_));
      (refine ldf_d (Mem.ext M (Mem.pre (by assumption))) ⟨hq⟩ (by with_unfolding_all rfl) (by omega) (by with_unfolding_all exact Nat.le_of_ble_eq_true rfl) (by with_unfolding_all rfl) ?_);
      (with_reducible (refine eql_i (fun hc => ?_) (fun hc => ?_); refine cnd_t ?_; refine fao ?_));
      (refine ldo (by assumption) (q := by infer_instance) (by with_unfolding_all rfl) ?_);
      (refine IsSl.vb (by assumption) (by assumption) (by infer_instance) ?_);
      (with_reducible (refine mv_i ?_; refine mv_i ?_));
      (refine idx_o (by assumption) (by omega) ?_);
      (with_reducible (refine fao_e ?_));
      (refine ldf_d (Mem.ext M (Mem.pre (by assumption))) ⟨hq⟩ (by with_unfolding_all rfl) (by omega) (by with_unfolding_all exact Nat.le_of_ble_eq_true rfl) (by with_unfolding_all rfl) ?_);
      (refine vb_n (by with_unfolding_all rfl) ?_);
      (with_reducible (refine fao ?_));
      (refine ldo (by assumption) (q := by infer_instance) (by with_unfolding_all rfl) ?_);
      (refine IsSl.vb (by assumption) (by assumption) (by infer_instance) ?_);
      (with_reducible (refine mv_i ?_; refine mv_i ?_));
      (refine idx_o (by assumption) (by omega) ?_);
      (with_reducible (refine fao_e ?_));
      (refine ldf_d (Mem.ext M (Mem.pre (by assumption))) ⟨hq⟩ (by with_unfolding_all rfl) (by omega) (by with_unfolding_all exact Nat.le_of_ble_eq_true rfl) (by with_unfolding_all rfl) ?_);
      (refine vb_n (by with_unfolding_all rfl) ?_);
      (with_reducible (refine fao ?_));
      (refine ldo (by assumption) (q := by infer_instance) (by with_unfolding_all rfl) ?_);
      (with_reducible (refine vb_l (by assumption) ?_; refine mv_i ?_; refine mv_i ?_));
      (refine idx_o (by assumption) (by omega) ?_);
      (with_reducible (refine fao_e ?_));
      (refine ldf_d (Mem.ext M (Mem.pre (by assumption))) ⟨hq⟩ (by with_unfolding_all rfl) (by omega) (by with_unfolding_all exact Nat.le_of_ble_eq_true rfl) (by with_unfolding_all rfl) ?_);
      (refine vb_n (by with_unfolding_all rfl) ?_);
      (refine idx_dz (by assumption) (by with_unfolding_all rfl) (by omega) (by omega) fun p hp => ?_);
      (with_reducible (refine fa_g (by assumption) fun p hp => ?_));
      (refine ld_g (by assumption) (by with_unfolding_all rfl) ?_);
      (refine vb_n (by with_unfolding_all rfl) ?_);
      (with_reducible (refine fao ?_));
      (refine ldo (by assumption) (q := by infer_instance) (by with_unfolding_all rfl) ?_);
      (with_reducible (refine vb_l (by assumption) ?_; refine mv_i ?_; refine mv_i ?_));
      (refine idx_o (by assumption) (by omega) ?_);
      (with_reducible (refine fao_e ?_));
      (refine ldf_d (Mem.ext M (Mem.pre (by assumption))) ⟨hq⟩ (by with_unfolding_all rfl) (by omega) (by with_unfolding_all exact Nat.le_of_ble_eq_true rfl) (by with_unfolding_all rfl) ?_);
      (refine vb_n (by with_unfolding_all rfl) ?_);
      (refine idx_dz (by assumption) (by with_unfolding_all rfl) (by omega) (by omega) fun p hp => ?_);
      (with_reducible (refine fa_g (by assumption) fun p hp => ?_));
      (refine ld_g (by assumption) (by with_unfolding_all rfl) ?_);
      (refine vb_n (by with_unfolding_all rfl) ?_);
      (refine idx_oz (by assumption) (by omega) (by omega) ?_);
      (with_reducible (refine fao_e ?_));
      (rotate_left);
      (with_reducible (refine cnd_f ?_));
      ((with_reducible refine fun (_ : Tmps) => ?_); (try dsimp only [nth]));
      (with_reducible (refine mv_i ?_; refine inc_i (by omega) ?_; refine mv_i ?_));
      (rotate_left);
      (with_reducible (refine cnd_f ?_));
      (refine ldo_w (by assumption) (by infer_instance) (by with_unfolding_all rfl) ?_);
      (refine st_w (by assumption) (by infer_instance) (by with_unfolding_all rfl) (by with_unfolding_all rfl) (by first | rfl | exact flat_ones (Flat.flat _)) (by infer_instance) fun h p m => ?_);
      (refine rt_w1 (by assumption) (by infer_instance) (by with_unfolding_all rfl) ?_);
      (with_reducible (refine ret1 ?_));
      (rotate_left))
    all_goals (try (exfalso; omega))
    have hkk : k = l.length := by omega
    have e1 : muts x l k = mutd x l := by rw [hkk]; simp [muts, mutd]
    refine ⟨m.pre, a, d, x.steps.length, by rw [← e1, u1, u2, u3], by rw [← e1, u4], ?_⟩
    rw [← e1]
    exact IsSl.ro hs m (k := 1) rfl (by omega)
end Go.Proofs.Ytomiejfeclefaaa

set_option linter.unusedSimpArgs false
set_option linter.unusedVariables false
set_option linter.unnecessarySimpa false
set_option maxRecDepth 100000
set_option maxHeartbeats 4000000
namespace Go.Proofs.Ytomiejfeclefaaa
open Go.AM
variable {h g : Heap}
def mx2 (a b : Int) : Int := if b > a then b else a
def mx3 (a b c : Int) : Int := if c > mx2 a b then c else mx2 a b
theorem max2_i {K : Value → Heap → Prop} {a b : Int} (hk : K (.int .i64 (mx2 a b)) h) : vK (aMax (.int .i64 a) (.int .i64 b)) h K := vk_i (v := .int .i64 (mx2 a b)) rfl hk
theorem max3_i {K : Value → Heap → Prop} {a b c : Int} (hk : K (.int .i64 (mx3 a b c)) h) : vK (aMax3 (.int .i64 a) (.int .i64 b) (.int .i64 c)) h K := vk_i (v := .int .i64 (mx3 a b c)) rfl hk
/-- What has been looked at. -/
def dn (K S T : Nat) (m : Mut) : Prop := m.kind < K ∨ (m.kind = K ∧ (m.step < S ∨ (m.step = S ∧ m.to < T)))
theorem dn_next {K S T : Nat} (m : Mut) : dn K S (T + 1) m ↔ dn K S T m ∨ m = ⟨K, S, T⟩ := by
  unfold dn
  cases m
  simp only [Mut.mk.injEq]
  omega
theorem dn_lt {K S T : Nat} {m : Mut} (h : dn K S T m) : ltm m ⟨K, S, T⟩ := by
  unfold dn at h
  unfold ltm
  simp only
  omega
theorem add_y {x : Mach} {K S T : Nat} {zs : List Mut} (hp : zs.Pairwise ltm) (hm : ∀ m, m ∈ zs ↔ Rl x m ∧ dn K S T m) (hr : Rl x ⟨K, S, T⟩) : (zs ++ [(⟨K, S, T⟩ : Mut)]).Pairwise ltm ∧ ∀ m, m ∈ zs ++ [(⟨K, S, T⟩ : Mut)] ↔ Rl x m ∧ dn K S (T + 1) m := by
  refine ⟨?_, fun m => ?_⟩
  · rw [List.pairwise_append]
    exact ⟨hp, List.pairwise_singleton _ _, fun a ha b hb => by rw [List.mem_singleton] at hb; subst hb; exact dn_lt ((hm a).mp ha).2⟩
  · rw [List.mem_append, hm, List.mem_singleton, dn_next]
    constructor
    · rintro (h | rfl)
      · exact ⟨h.1, .inl h.2⟩
      · exact ⟨hr, .inr rfl⟩
    · rintro ⟨h1, h2 | h2⟩
      · exact .inl ⟨h1, h2⟩
      · exact .inr h2
theorem add_n {x : Mach} {K S T : Nat} {zs : List Mut} (hm : ∀ m, m ∈ zs ↔ Rl x m ∧ dn K S T m) (hr : ¬ Rl x ⟨K, S, T⟩) : ∀ m, m ∈ zs ↔ Rl x m ∧ dn K S (T + 1) m := by
  intro m
  rw [hm, dn_next]
  constructor
  · exact fun h => ⟨h.1, .inl h.2⟩
  · rintro ⟨h1, h2 | rfl⟩
    · exact ⟨h1, h2⟩
    · exact (hr h1).elim
theorem end_T {x : Mach} {K S T : Nat} (hT : mx3 x.outputs x.states x.steps.length ≤ T) (m : Mut) : (Rl x m ∧ dn K S T m) ↔ (Rl x m ∧ dn K (S + 1) 0 m) := by
  refine and_congr_right fun h => ?_
  have h1 := Rl_le h
  have h2 : m.to < T := by
    unfold mx3 mx2 at hT
    unfold Rl at h
    repeat' split at hT
    all_goals omega
  unfold dn
  omega
theorem end_S {x : Mach} {K S : Nat} (hS : mx2 1 x.steps.length ≤ S) (m : Mut) : (Rl x m ∧ dn K S 0 m) ↔ (Rl x m ∧ dn (K + 1) 0 0 m) := by
  refine and_congr_right fun h => ?_
  have h1 := Rl_le h
  have h2 : 0 ≤ m.step ∧ m.step < S := by
    unfold mx2 at hS
    unfold Rl at h
    repeat' split at hS
    all_goals omega
  unfold dn
  omega
theorem bd15 {n K S T : Nat} (h : n ≤ K * 102400 + S * 320 + T) (hT : T ≤ 320) : n ≤ K * 102400 + (S + 1) * 320 + 0 := by
  rw [Nat.succ_mul, ← Nat.add_assoc, Nat.add_zero]
  exact Nat.le_trans h (Nat.add_le_add_left hT _)
theorem c15 {v : Value} {x : Mach} (s : MacV g v x) (hE : errM x = 0) : DetP Try.prog 15 [v] g fun v' h' => g <+: h' ∧ ∃ b n q zs, v' = .slice b n q ∧ zs.Pairwise ltm ∧ (∀ m, m ∈ zs ↔ Rl x m) ∧ L h' (.slice b n q) zs := by
  refine DetP.freeze ?_
  obtain ⟨tv, rfl, s⟩ := s
  have lt := s.lt
  obtain ⟨b0, q0, rfl, _⟩ := s.shape
  obtain ⟨e3, e4, e5, e6⟩ := errM_ok hE
  have hh := e4
  have hsm := small hE
  obtain ⟨⟨a1, a2⟩, ⟨a3, a4⟩, ⟨a5, a6⟩, a7, a8⟩ := e4
  have hm2 : 1 ≤ mx2 1 x.steps.length ∧ mx2 1 x.steps.length ≤ 320 := by unfold mx2; split <;> omega
  have hm3 : 1 ≤ mx3 x.outputs x.states x.steps.length ∧ mx3 x.outputs x.states x.steps.length ≤ 320 := by
    constructor <;> (unfold mx3 mx2; repeat' split) <;> omega
  have m := Mem.start g
  refine w15 ?_
  unfold n15
  refine box_a m fun ix hx zx p1 m => ?_
  ((with_reducible (refine mv_i ?_; refine mv_i ?_; refine mv_i ?_)))
  refine loop2 4 (fun K a h => ∃ o zs, IsSl a o zs.length ∧ (zs.Pairwise ltm ∧ ∀ m, m ∈ zs ↔ Rl x m ∧ dn K 0 0 m) ∧ zs.length ≤ K * 102400 + 0 * 320 + 0 ∧ Prec hx h ∧ Mem g h [⟨o, flat zs, 3⟩, ⟨some ix, [.int .i64 x.states, .int .i64 x.inputs, .int .i64 x.outputs, .int .i64 x.start, .slice b0 x.steps.length q0], zx⟩]) ⟨none, [], IsSl.nil, ⟨List.Pairwise.nil, fun m => ?_⟩, by simp, ⟨Stab.refl _⟩, m.nil 3⟩ ?_
  · constructor
    · intro h; cases h
    · rintro ⟨h1, h2⟩; exfalso; unfold Rl at h1; unfold dn at h2; simp at h2; omega
  rintro K a h2 _ hK ⟨o, zs, hs, hm, hzl, p2, m⟩
  ((with_reducible (refine mv_i ?_; refine lss_i (fun hc => ?_) (fun hc => ?_); refine cnd_t ?_; refine mv_i ?_));
      (rotate_left);
      (with_reducible (refine cnd_f ?_; refine mv_i ?_; refine mv_i ?_; refine ret1 ?_));
      (rotate_left))
  · refine loop2 (mx2 1 x.steps.length).toNat (fun S a h => ∃ o zs, IsSl a o zs.length ∧ (zs.Pairwise ltm ∧ ∀ m, m ∈ zs ↔ Rl x m ∧ dn K S 0 m) ∧ zs.length ≤ K * 102400 + S * 320 + 0 ∧ Prec hx h ∧ Mem g h [⟨o, flat zs, 3⟩, ⟨some ix, [.int .i64 x.states, .int .i64 x.inputs, .int .i64 x.outputs, .int .i64 x.start, .slice b0 x.steps.length q0], zx⟩]) ⟨o, zs, hs, hm, hzl, ⟨Stb.st⟩, m⟩ ?_
    rintro S a h3 _ hS ⟨o, zs, hs, hm, hzl, p3, m⟩
    ((with_reducible (refine mv_i ?_; refine fao ?_));
        (refine ldo (by assumption) (q := by infer_instance) (by with_unfolding_all rfl) ?_);
        (with_reducible (refine len_g (by assumption) ?_; refine max2_i ?_; refine lss_i (fun hc => ?_) (fun hc => ?_); refine cnd_t ?_; refine mv_i ?_));
        (rotate_left);
        (with_reducible (refine cnd_f ?_; refine mv_i ?_; refine inc_i (by omega) ?_; refine mv_i ?_));
        (rotate_left))
    · refine loop2 (mx3 x.outputs x.states x.steps.length).toNat (fun T a h => ∃ o zs, IsSl a o zs.length ∧ (zs.Pairwise ltm ∧ ∀ m, m ∈ zs ↔ Rl x m ∧ dn K S T m) ∧ zs.length ≤ K * 102400 + S * 320 + T ∧ Prec hx h ∧ Mem g h [⟨o, flat zs, 3⟩, ⟨some ix, [.int .i64 x.states, .int .i64 x.inputs, .int .i64 x.outputs, .int .i64 x.start, .slice b0 x.steps.length q0], zx⟩]) ⟨o, zs, hs, hm, hzl, ⟨Stb.st⟩, m⟩ ?_
      rintro T a h4 _ hT ⟨o, zs, hs, hm, hzl, p4, m⟩
      ((with_reducible (refine mv_i ?_; refine fao ?_));
          (refine ldo (by assumption) (q := by infer_instance) (by with_unfolding_all rfl) ?_);
          (with_reducible (refine fao ?_));
          (refine ldo (by assumption) (q := by infer_instance) (by with_unfolding_all rfl) ?_);
          (with_reducible (refine fao ?_));
          (refine ldo (by assumption) (q := by infer_instance) (by with_unfolding_all rfl) ?_);
          (with_reducible (refine len_g (by assumption) ?_; refine max3_i ?_; refine lss_i (fun hc => ?_) (fun hc => ?_); refine cnd_t ?_));
          (rotate_left);
          (with_reducible (refine cnd_f ?_; refine mv_i ?_; refine inc_i (by omega) ?_; refine mv_i ?_));
          (rotate_left))
      · refine seq_J (fun xs h => ∃ a, xs = [a] ∧ ∃ o zs, IsSl a o zs.length ∧ (zs.Pairwise ltm ∧ ∀ m, m ∈ zs ↔ Rl x m ∧ dn K S (T + 1) m) ∧ zs.length ≤ K * 102400 + S * 320 + (T + 1) ∧ Prec hx h ∧ Mem g h [⟨o, flat zs, 3⟩, ⟨some ix, [.int .i64 x.states, .int .i64 x.inputs, .int .i64 x.outputs, .int .i64 x.start, .slice b0 x.steps.length q0], zx⟩]) ?_ ?_
        · rintro _ h5 ⟨a5, rfl, rest⟩
          (((with_reducible refine fun (_ : Tmps) => ?_); (try dsimp only [nth]));
              (with_reducible (refine mv_i ?_; refine inc_i (by omega) ?_; refine mv_i ?_)))
          exact next2 (by omega) rest
        · intro k' hk'
          ((with_reducible (refine mv_i ?_; refine mv_i ?_; refine mv_i ?_));
              (refine vk_i (bd34_012 _ _ _) ?_);
              (with_reducible (refine alloc_z (by assumption) fun i h z p m => ?_));
              (refine st_w (by assumption) (by infer_instance) (by with_unfolding_all rfl) (by with_unfolding_all rfl) (by first | rfl | exact flat_ones (Flat.flat _)) (by infer_instance) fun h p m => ?_);
              (refine ldo_w (by assumption) (by infer_instance) (by with_unfolding_all rfl) ?_);
              (refine ldo_w (by assumption) (by infer_instance) (by with_unfolding_all rfl) ?_);
              (refine bs_g (bs27_1 _ _) (by assumption) fun i h p m => ?_))
          refine call_r (Runs.lent (c21 (l := [(⟨K, S, T⟩ : Mut)]) ⟨_, rfl, s.lent⟩ ((IsSl.some1 (n := 1)).lent m (by infer_instance) (Nat.one_le_two_pow)) hh)) ?_
          unfold mk2
          have hri := real_iff x ⟨K, S, T⟩
          ((with_reducible (refine mv_i ?_; refine ex2_0 ?_; refine ex2_1 ?_; refine mv_i ?_; refine mv_i ?_; refine mv_i ?_; refine eql_i (fun hc => ?_) (fun hc => ?_); refine mv_i ?_; refine gd_tt ?_));
              (refine ldo_w (by assumption) (by infer_instance) (by with_unfolding_all rfl) ?_);
              (refine vb_mac (by assumption) ?_);
              (with_reducible (refine gd_tt ?_));
              (refine ldo_w (by assumption) (by infer_instance) (by with_unfolding_all rfl) ?_);
              (with_reducible (refine vb_f ?_; refine gd_tt ?_));
              (refine bs_g (bs27_1 _ _) (by assumption) fun i h p m => ?_);
              (with_reducible (refine gd_tt ?_));
              (rotate_left);
              (with_reducible (refine mv_i ?_; refine gd_ft ?_; refine gd_ft ?_; refine gd_ft ?_; refine gd_ft ?_; refine gd_ft ?_; refine gd_ft ?_; refine gd_ft ?_; refine pick_f ?_; refine cnd_f ?_));
              (rotate_left))
          · refine calld_d (c24m (l := [(⟨K, S, T⟩ : Mut)]) (kk := 0) m rfl ⟨_, rfl, s.up⟩ (IsSl.some1 (n := 1)) (Nat.one_le_two_pow) (by omega) (mutE_ok hc).2) m fun v5 h5 p5 p5' m ⟨b5, q5, n5, e5, hn5, s5⟩ => ?_
            subst e5
            refine new_p p5 ?_
            ((with_reducible (refine gd_tt ?_));
                (refine ldo_w (by assumption) (by infer_instance) (by with_unfolding_all rfl) ?_);
                (refine vb_mac (by assumption) ?_);
                (with_reducible (refine gd_tt ?_)))
            refine calld_r (c23 (a := mutd x [(⟨K, S, T⟩ : Mut)]) (b := x) ⟨_, rfl, s5.up⟩ ⟨_, rfl, s.up⟩) ?_
            ((with_reducible (refine new_n ?_; refine gd_tt ?_; refine not_d (fun hb => ?_) (fun hb => ?_); refine pick_t ?_; refine cnd_f ?_));
                (rotate_left);
                (with_reducible (refine pick_t ?_; refine cnd_t ?_; refine mv_i ?_));
                (refine ldo_w (by assumption) (by infer_instance) (by with_unfolding_all rfl) ?_);
                (refine bs_g (bs27_1 _ _) (by assumption) fun i h p m => ?_);
                (rotate_left))
            · exact hk' _ _ ⟨a, rfl, o, zs, hs, ⟨hm.1, add_n hm.2 fun q => (hri.mpr q).2 (by assumption)⟩, by omega, ⟨Stb.st⟩, m.tail.tail.tail⟩
            · refine app_snoc (a := (⟨K, S, T⟩ : Mut)) (k2 := 0) (j := 0) m hs (by infer_instance) ⟨rfl⟩ rfl ⟨by omega, by omega⟩ fun i3 h7 p7 m => ?_
              simp only [List.set_cons_succ, List.set_cons_zero] at m
              ((with_reducible (refine mv_i ?_)))
              exact hk' _ _ ⟨_, rfl, some i3, zs ++ [(⟨K, S, T⟩ : Mut)], by rw [List.length_append]; exact IsSl.some0, add_y hm.1 hm.2 (hri.mp ⟨by assumption, by assumption⟩), by rw [List.length_append]; simp only [List.length_singleton]; omega, ⟨Stb.st⟩, m.tail.tail.tail.tail⟩
          · exact hk' _ _ ⟨a, rfl, o, zs, hs, ⟨hm.1, add_n hm.2 fun q => (by assumption : ¬ (mutE x [(⟨K, S, T⟩ : Mut)]).2 = 0) (hri.mpr q).1⟩, by omega, ⟨Stb.st⟩, m.tail.tail⟩
      · have hT3 : T ≤ 320 := by omega
        have hbd := bd15 hzl hT3
        have hmx : mx3 x.outputs x.states x.steps.length ≤ T := by omega
        have hm2' : ∀ m, m ∈ zs ↔ Rl x m ∧ dn K (S + 1) 0 m := fun m => (hm.2 m).trans (end_T hmx m)
        exact next2 (by omega) ⟨o, zs, hs, ⟨hm.1, hm2'⟩, hbd, ⟨Stb.st⟩, m⟩
    · refine next2 (by omega) ⟨o, zs, hs, ⟨hm.1, fun m => by rw [hm.2, end_S (by omega)]⟩, by omega, ⟨Stb.st⟩, m⟩
  · have hKK : K = 4 := by omega
    subst hKK
    obtain ⟨b3, c3, rfl⟩ := hs.isS
    refine ⟨m.pre, b3, _, c3, zs, rfl, hm.1, fun m => ?_, IsSl.ro hs m (k := 0) rfl (by omega)⟩
    rw [hm.2]
    exact ⟨fun h => h.1, fun h => ⟨h, .inl (by unfold Rl at h; omega)⟩⟩
end Go.Proofs.Ytomiejfeclefaaa

set_option linter.unusedSimpArgs false
set_option linter.unusedVariables false
set_option linter.unnecessarySimpa false
set_option maxRecDepth 100000
set_option maxHeartbeats 4000000
namespace Go.Proofs.Ytomiejfeclefaaa
open Go.AM
variable {h g : Heap}
theorem eq34 (a b : Mut) : eqSt Try.prog 34 (Flat.cells a).toArray (Flat.cells b).toArray = cond (a.kind == b.kind) (cond (a.step == b.step) (cond (a.to == b.to) (some true) (some false)) (some false)) (some false) := by kernel_rfl
theorem eq34' (a b : Mut) : eqSt Try.prog 34 (Flat.cells a).toArray (Flat.cells b).toArray = some (decide (a = b)) := by
  rw [eq34]
  by_cases e : a = b
  · subst e; simp
  · rw [decide_eq_false e]
    cases a; cases b
    simp only [Mut.mk.injEq] at e
    simp only [Bool.cond_eq_ite, beq_iff_eq]
    repeat' split
    all_goals first
      | rfl
      | (exfalso; simp_all; done)
theorem mune_i {K : Value → Heap → Prop} {a b : Mut} (h1 : a = b → K (.bool false) g) (h2 : ¬ a = b → K (.bool true) g) : vK (aBin Try.prog .neq 34 (fv a) (fv b)) g K := by
  refine vk_i (v := .bool (!decide (a = b))) (by show (eqSt Try.prog 34 (Flat.cells a).toArray (Flat.cells b).toArray).map (fun r => Value.bool !r) = _; rw [eq34']; rfl) ?_
  by_cases e : a = b
  · subst e; simpa using h1 rfl
  · rw [decide_eq_false e]; exact h2 e
theorem c13n {v : Value} {x : Mach} (s : MacV g v x) (hE : ¬ errM x = 0) : DetP Try.prog 13 [v] g fun v' h' => g <+: h' ∧ v' = .tuple #[.slice none 0 0, .int .i64 (errM x)] := by
  obtain ⟨tv, rfl, s⟩ := s
  obtain ⟨b0, q0, rfl, _⟩ := s.shape
  have m := Mem.start g
  refine w13 ?_
  unfold n13
  refine box_a m fun ix hx0 zx p1 m => ?_
  ((with_reducible (refine mv_i ?_; refine mv_i ?_));
      (refine ldo_w (by assumption) (by infer_instance) (by with_unfolding_all rfl) ?_);
      (refine call_r (c43 ⟨_, by with_unfolding_all rfl, L.up (by assumption)⟩) ?_);
      (with_reducible (refine mv_i ?_; refine mv_i ?_; refine neq_n (by first | assumption | decide) ?_; refine cnd_t ?_; refine mv_i ?_; refine mv_i ?_; refine mv_i ?_; refine ret2 ?_)))
  exact ⟨m.pre, rfl⟩
theorem c3 {v : Value} {x : Mach} (s : MacV g v x) (hb : x.steps.length ≤ 1048576) : DetP Try.prog 3 [v] g fun v' _ => v' = .bool true := by
  obtain ⟨tv, rfl, s⟩ := s
  obtain ⟨b0, q0, rfl, _⟩ := s.shape
  have m := Mem.start g
  refine w3 ?_
  unfold n3
  by_cases hE : errM x = 0
  · have h12 := (errM_ok hE).2.2.2
    have C13 := fun {h : Heap} {v : Value} (s : MacV h v x) => c13 (g := h) s hE
    have C15 := fun {h : Heap} {v : Value} (s : MacV h v x) => c15 (g := h) s hE
    ((with_reducible (refine box_a (by assumption) fun i h z p m => ?_; refine mv_i ?_));
        (refine call_r c11 ?_);
        (with_reducible (refine not_t ?_; refine cnd_f ?_));
        (refine ldo_w (by assumption) (by infer_instance) (by with_unfolding_all rfl) ?_);
        (refine call_r (c12 ⟨_, by with_unfolding_all rfl, L.up (by assumption)⟩) ?_);
        (with_reducible (refine eql_h (by first | assumption | decide) ?_; refine mv_i ?_; refine gd_tt ?_; refine fao ?_; refine gd_tt ?_));
        (refine ldo (by assumption) (q := by infer_instance) (by with_unfolding_all rfl) ?_);
        (with_reducible (refine gd_tt ?_; refine gtr_i (fun hc => ?_) (fun hc => ?_); refine pick_t ?_; refine cnd_t ?_; refine mv_i ?_; refine ret1 ?_));
        (rotate_left);
        (with_reducible (refine pick_t ?_; refine cnd_f ?_));
        (refine ldo_w (by assumption) (by infer_instance) (by with_unfolding_all rfl) ?_);
        (rotate_left))
    all_goals (try (exfalso; omega))
    refine call_d (c14 ⟨_, rfl, s.up⟩ hb) m fun v1 h1 p1 p2 m ⟨b1, q1, n1, e1, hn1, s1⟩ => ?_
    subst e1
    skip
    refine call_d (C13 ⟨_, rfl, s1.up⟩) m fun v2 h2 p3 p4 m ⟨b2, n2, q2, ys, e2, hy1, hy2, s2⟩ => ?_
    subst e2
    ((with_reducible (refine mv_i ?_; refine ex2_0 ?_; refine ex2_1 ?_; refine mv_i ?_; refine mv_i ?_));
        (refine ldo_w (by assumption) (by infer_instance) (by with_unfolding_all rfl) ?_);
        (refine call_r (c12 ⟨_, by with_unfolding_all rfl, L.up (by assumption)⟩) ?_);
        (with_reducible (refine mv_i ?_; refine mv_i ?_; refine neq_h (by first | assumption | decide) ?_; refine cnd_f ?_));
        (refine ldo_w (by assumption) (by infer_instance) (by with_unfolding_all rfl) ?_))
    refine call_d (C15 ⟨_, rfl, s.up⟩) m fun v3 h3 p5 p6 m ⟨b3, n3, q3, zs, e3, hz1, hz2, s3⟩ => ?_
    subst e3
    have hyz := srtM_eq hy1 hz1 fun m => by rw [hy2, hz2]
    rw [hyz] at s2
    clear hyz hy1 hy2 hz1 hz2
    have lt := s3.lt
    ((with_reducible (refine mv_i ?_; refine mv_i ?_; refine neq_h (by first | assumption | decide) ?_; refine mv_i ?_; refine gd_ff ?_; refine mv_i ?_; refine gd_ff ?_; refine len_g (by assumption) ?_; refine gd_ff ?_; refine mv_i ?_; refine gd_ff ?_; refine len_g (by assumption) ?_; refine gd_ff ?_; refine neq_i (fun hc => ?_) (fun hc => ?_); refine pick_f ?_; refine cnd_f ?_; refine mv_i ?_));
        (rotate_left);
        (with_reducible (refine pick_f ?_; refine cnd_t ?_; refine mv_i ?_; refine ret1 ?_));
        (rotate_left))
    · refine loop1 zs.length (fun k h => Prec h3 h) ⟨Stab.refl _⟩ ?_
      rintro k h4 _ hk p7
      ((with_reducible (refine mv_i ?_; refine mv_i ?_; refine len_g (by assumption) ?_; refine lss_i (fun hc => ?_) (fun hc => ?_); refine cnd_t ?_; refine mv_i ?_; refine mv_i ?_));
          (refine idx_d (by assumption) (by with_unfolding_all rfl) (by omega) fun p hp => ?_);
          (refine ldr_w (by assumption) (by with_unfolding_all rfl) ?_);
          (with_reducible (refine vb_f ?_; refine mv_i ?_; refine mv_i ?_));
          (refine idx_d (by assumption) (by with_unfolding_all rfl) (by omega) fun p hp => ?_);
          (refine ldr_w (by assumption) (by with_unfolding_all rfl) ?_);
          (with_reducible (refine vb_f ?_; refine mune_i (fun hc => ?_) (fun hc => ?_); refine cnd_f ?_; refine mv_i ?_; refine inc_i (by omega) ?_; refine mv_i ?_));
          (rotate_left);
          (with_reducible (refine cnd_t ?_; refine mv_i ?_; refine ret1 ?_));
          (rotate_left);
          (with_reducible (refine cnd_f ?_; refine mv_i ?_; refine ret1 ?_));
          (rotate_left))
      · exact next1 (by omega) ⟨Stb.st⟩
      · exact (hc rfl).elim
      · rfl
    · exact (hc rfl).elim
  · have C13 := fun {h : Heap} {v : Value} (s : MacV h v x) => c13n (g := h) s hE
    ((with_reducible (refine box_a (by assumption) fun i h z p m => ?_; refine mv_i ?_));
        (refine call_r c11 ?_);
        (with_reducible (refine not_t ?_; refine cnd_f ?_));
        (refine ldo_w (by assumption) (by infer_instance) (by with_unfolding_all rfl) ?_);
        (refine call_r (c12 ⟨_, by with_unfolding_all rfl, L.up (by assumption)⟩) ?_);
        (with_reducible (refine eql_n (by first | assumption | decide) ?_; refine mv_i ?_; refine gd_ft ?_; refine gd_ft ?_; refine gd_ft ?_; refine pick_f ?_; refine cnd_f ?_));
        (refine ldo_w (by assumption) (by infer_instance) (by with_unfolding_all rfl) ?_))
    all_goals (try (exfalso; contradiction))
    refine call_d (c14 ⟨_, rfl, s.up⟩ hb) m fun v1 h1 p1 p2 m ⟨b1, q1, n1, e1, hn1, s1⟩ => ?_
    subst e1
    skip
    refine call_d (C13 ⟨_, rfl, s1.up⟩) m fun v2 h2 p3 p4 m e2 => ?_
    subst e2
    ((with_reducible (refine mv_i ?_; refine ex2_0 ?_; refine ex2_1 ?_; refine mv_i ?_; refine mv_i ?_));
        (refine ldo_w (by assumption) (by infer_instance) (by with_unfolding_all rfl) ?_);
        (refine call_r (c12 ⟨_, by with_unfolding_all rfl, L.up (by assumption)⟩) ?_);
        (with_reducible (refine mv_i ?_; refine mv_i ?_; refine neq_n (by first | assumption | decide) ?_; refine cnd_t ?_; refine mv_i ?_; refine mv_i ?_; refine eql_i (fun hc => ?_) (fun hc => ?_); refine mv_i ?_; refine gd_tt ?_; refine mv_i ?_; refine gd_tt ?_; refine len_s ?_; refine gd_tt ?_; refine eql_h (by first | assumption | decide) ?_; refine pick_t ?_; refine mv_i ?_; refine ret1 ?_));
        (rotate_left);
        (with_reducible (refine mv_i ?_; refine gd_ft ?_; refine gd_ft ?_; refine gd_ft ?_; refine pick_f ?_; refine mv_i ?_; refine ret1 ?_));
        (rotate_left))
    · rfl
    · exact (hc rfl).elim
end Go.Proofs.Ytomiejfeclefaaa
