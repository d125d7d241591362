import Derived.Test.YtalnnkpdpjmmkaaPc
set_option linter.unusedSimpArgs false
set_option linter.unusedVariables false
set_option linter.unnecessarySimpa false
set_option maxRecDepth 100000
set_option maxHeartbeats 4000000
namespace Go.Proofs.Ytalnnkpdpjmmkaa
open Go.AM
variable {g : Heap}
theorem c27 {x y : Value} {xs ys : List ByteArray} (s : L g x xs) (t : L g y ys) : Runs Try.prog 27 [x, y] g (.bool (decide (xs = ys))) g := by
  have lt := s.lt
  have lt2 := t.lt
  refine DetP.runs (w27 ?_)
  unfold n27
  ((with_reducible (refine mv_i ?_; refine mv_i ?_; refine len_g (by assumption) ?_; refine mv_i ?_; refine len_g (by assumption) ?_; refine neq_i (fun hc => ?_) (fun hc => ?_); refine cnd_f ?_; refine mv_i ?_));
      (rotate_left);
      (with_reducible (refine cnd_t ?_; refine mv_i ?_; refine ret1 ?_));
      (rotate_left))
  · refine loop1 xs.length (fun k h2 => g = h2 ∧ ∀ j, j < k → gt xs j = gt ys j) ⟨rfl, fun j hj => by omega⟩ ?_
    rintro k _ _ hk ⟨rfl, hJ⟩
    ((with_reducible (refine mv_i ?_; refine mv_i ?_; refine len_g (by assumption) ?_; refine lss_i (fun hc => ?_) (fun hc => ?_); refine cnd_t ?_; refine mv_i ?_; refine mv_i ?_));
        (refine idx_d (by assumption) (by with_unfolding_all rfl) (by omega) fun p hp => ?_);
        (refine ld_g (by assumption) (by with_unfolding_all rfl) ?_);
        (refine vb_n (by with_unfolding_all rfl) ?_);
        (with_reducible (refine mv_i ?_; refine mv_i ?_));
        (refine idx_d (by assumption) (by with_unfolding_all rfl) (by omega) fun p hp => ?_);
        (refine ld_g (by assumption) (by with_unfolding_all rfl) ?_);
        (refine vb_n (by with_unfolding_all rfl) ?_);
        (with_reducible (refine sne_s (fun hc => ?_) (fun hc => ?_); refine cnd_f ?_; refine mv_i ?_; refine inc_i (by omega) ?_; refine mv_i ?_));
        (rotate_left);
        (with_reducible (refine cnd_t ?_; refine mv_i ?_; refine ret1 ?_));
        (rotate_left);
        (with_reducible (refine cnd_f ?_; refine mv_i ?_; refine ret1 ?_));
        (rotate_left))
    · refine next1 (by omega) ⟨rfl, fun j hj => ?_⟩
      by_cases q : j = k
      · subst q; assumption
      · exact hJ j (by omega)
    · refine ⟨?_, rfl⟩
      rw [decide_eq_false]
      rintro rfl
      exact hc rfl
    · refine ⟨?_, rfl⟩
      rw [decide_eq_true]
      apply List.ext_getElem (by omega)
      intro j h1 h2
      rw [gt_at h1, gt_at h2]
      exact hJ j (by omega)
  · exact ⟨by rw [decide_eq_false]; rintro rfl; exact hc rfl, rfl⟩
def hasExp (o : Int) (t : Tim) : Bool := decide (t.owner = o) && t.expired
def exps (o : Int) (l : List Tim) (k : Nat) : List ByteArray := ((l.take k).filter (hasExp o)).map Tim.name
theorem exps_len (o : Int) (l : List Tim) (k : Nat) : (exps o l k).length ≤ k := by
  unfold exps
  rw [List.length_map]
  exact Nat.le_trans (List.length_filter_le _ _) (by simp; omega)
theorem exps_yes {o : Int} {l : List Tim} {k : Nat} (hk : k < l.length) (h : hasExp o (gt l k) = true) : exps o l (k + 1) = exps o l k ++ [(gt l k).name] := by
  unfold exps
  rw [take_gd Df.d hk, List.filter_append, List.map_append]
  show _ ++ List.map Tim.name (List.filter (hasExp o) [gt l k]) = _
  simp [h]
theorem exps_no {o : Int} {l : List Tim} {k : Nat} (hk : k < l.length) (h : hasExp o (gt l k) = false) : exps o l (k + 1) = exps o l k := by
  unfold exps
  rw [take_gd Df.d hk, List.filter_append, List.map_append]
  show _ ++ List.map Tim.name (List.filter (hasExp o) [gt l k]) = _
  simp [h]
theorem c28 {v : Value} {c : Clk} (s : ClkV g v c) (hl : c.timers.length ≤ 27) (o : Int) : DetP Try.prog 28 [v, .int .i64 o] g fun v' h' => g <+: h' ∧ L h' v' (exps o c.timers c.timers.length) := by
  refine DetP.freeze ?_
  obtain ⟨x, rfl, s⟩ := s
  have m := Mem.start g
  refine w28 ?_
  unfold n28
  refine box_a m fun i1 h1 z1 p1 m => ?_
  ((with_reducible (refine mv_i ?_; refine mv_i ?_; refine mv_i ?_)))
  refine loop2 c.timers.length (fun k v h5 => Prec h1 h5 ∧ ∃ o2, IsSl v o2 (exps o c.timers k).length ∧ Mem g h5 [⟨o2, flat (exps o c.timers k), 1⟩, ⟨some i1, [.int .i64 c.now, x], z1⟩]) ⟨⟨Stab.refl _⟩, none, IsSl.nil, m.nil 1⟩ ?_
  rintro k v h5 _ hk ⟨p5, o2, hv, m⟩
  have hol := exps_len o c.timers k
  obtain ⟨a, d, rfl⟩ := hv.isS
  ((with_reducible (refine mv_i ?_; refine fao ?_));
      (refine ldo (by assumption) (q := by infer_instance) (by with_unfolding_all rfl) ?_);
      (with_reducible (refine len_g (by assumption) ?_; refine lss_i (fun hc => ?_) (fun hc => ?_); refine cnd_t ?_));
      (rotate_left);
      (with_reducible (refine cnd_f ?_; refine mv_i ?_; refine mv_i ?_; refine ret1 ?_));
      (rotate_left))
  rotate_left
  · have hkk : k = c.timers.length := by omega
    subst hkk
    exact ⟨m.pre, IsSl.ro hv m (k := 0) rfl (by omega)⟩
  refine seq_J (fun xs h6 => ∃ v o2, xs = [v] ∧ Prec h1 h6 ∧ IsSl v o2 (exps o c.timers (k + 1)).length ∧ Mem g h6 [⟨o2, flat (exps o c.timers (k + 1)), 1⟩, ⟨some i1, [.int .i64 c.now, x], z1⟩]) ?_ ?_
  · rintro _ h6 ⟨v, o3, rfl, p6, hv, m⟩
    obtain ⟨a, d, rfl⟩ := hv.isS
    (((with_reducible refine fun (_ : Tmps) => ?_); (try dsimp only [nth]));
        (with_reducible (refine mv_i ?_; refine inc_i (by omega) ?_; refine mv_i ?_)))
    exact next2 (by omega) ⟨p6, o3, hv, m⟩
  · intro k' hk'
    ((with_reducible (refine fao ?_));
        (refine ldo (by assumption) (q := by infer_instance) (by with_unfolding_all rfl) ?_);
        (with_reducible (refine mv_i ?_));
        (refine idx_d (by assumption) (by with_unfolding_all rfl) (by omega) fun p hp => ?_);
        (with_reducible (refine fa_g (by assumption) fun p hp => ?_));
        (refine ld_g (by assumption) (by with_unfolding_all rfl) ?_);
        (with_reducible (refine mv_i ?_; refine eql_i (fun hc => ?_) (fun hc => ?_); refine mv_i ?_; refine gd_tt ?_; refine fao ?_; refine gd_tt ?_));
        (refine ldo (by assumption) (q := by infer_instance) (by with_unfolding_all rfl) ?_);
        (with_reducible (refine gd_tt ?_; refine mv_i ?_; refine gd_tt ?_));
        (refine idx_d (by assumption) (by with_unfolding_all rfl) (by omega) fun p hp => ?_);
        (with_reducible (refine gd_tt ?_; refine fa_g (by assumption) fun p hp => ?_; refine gd_tt ?_));
        (refine ld_g (by assumption) (by with_unfolding_all rfl) ?_);
        (with_reducible (refine pick_t ?_; refine cnd_b (fun hb => ?_) (fun hb => ?_); refine mv_i ?_; refine fao ?_));
        (refine ldo (by assumption) (q := by infer_instance) (by with_unfolding_all rfl) ?_);
        (with_reducible (refine mv_i ?_));
        (refine idx_d (by assumption) (by with_unfolding_all rfl) (by omega) fun p hp => ?_);
        (with_reducible (refine fa_g (by assumption) fun p hp => ?_));
        (refine ld_g (by assumption) (by with_unfolding_all rfl) ?_);
        (refine bs_g (bs46_1 _ _) (by assumption) fun i h p m => ?_);
        (rotate_left);
        (rotate_left);
        (with_reducible (refine mv_i ?_; refine gd_ft ?_; refine gd_ft ?_; refine gd_ft ?_; refine gd_ft ?_; refine gd_ft ?_; refine gd_ft ?_; refine pick_f ?_; refine cnd_f ?_));
        (rotate_left))
    · have hd : hasExp o (gt c.timers k) = true := by simp [hasExp, hc, hb]
      refine app_o m hv (by infer_instance) (by rw [flat_length]; rfl) (src_own m (q := by infer_instance) (n := 1) rfl (by decide) (by decide) rfl) ⟨by omega, by omega⟩ fun i h p m => ?_
      simp only [List.set_cons_succ, List.set_cons_zero] at m
      ((with_reducible (refine mv_i ?_)))
      refine hk' _ _ ⟨_, some i, rfl, ⟨Stb.st⟩, ?_, ?_⟩
      · rw [exps_yes (by omega) hd, List.length_append]; exact IsSl.some0
      · rw [exps_yes (by omega) hd, flat_snoc]; exact m.tail
    all_goals
      have hd : hasExp o (gt c.timers k) = false := by simp [hasExp, *]
      exact hk' _ _ ⟨_, o2, rfl, ⟨Stb.st⟩, by rw [exps_no (by omega) hd]; exact hv, by rw [exps_no (by omega) hd]; exact m⟩
theorem c23 [GM g] {v : Value} {c : Clk} (s : ClkV g v c) (f : few c) (o : Int) : DetP Try.prog 23 [v, .int .i64 o] g fun v' h' => g <+: h' ∧
    ∃ y, v' = .tuple #[y, .int .i64 (orOf [(chk c).2, ownE o])] ∧ L h' y (if orOf [(chk c).2, ownE o] ≠ 0 then [] else exps o c.timers c.timers.length) := by
  refine DetP.freeze ?_
  obtain ⟨x, rfl, s⟩ := s
  have hl := f.1
  have m := Mem.start g
  refine w23 ?_
  unfold n23
  refine box_a m fun i1 h1 z1 p1 m => ?_
  ((with_reducible (refine mv_i ?_; refine mv_i ?_));
      (refine ldo_w (by assumption) (by infer_instance) (by with_unfolding_all rfl) ?_);
      (refine call_r (c48 ⟨_, by with_unfolding_all rfl, L.up (by assumption)⟩ (by assumption)) ?_);
      (with_reducible (refine mv_i ?_));
      (refine call_r (c43 _) ?_);
      (refine bs_g (bs88_2 _ _ _) (by assumption) fun i h p m => ?_);
      (refine call_r (c42 (own_ints (xs := [_, _]) (by assumption) (q := by infer_instance) rfl rfl (by decide))) ?_);
      (with_reducible (refine mv_i ?_; refine mv_i ?_; refine neq_i (fun hc => ?_) (fun hc => ?_); refine cnd_f ?_; refine mv_i ?_; refine fao ?_));
      (refine ldo (by assumption) (q := by infer_instance) (by with_unfolding_all rfl) ?_);
      (with_reducible (refine len_g (by assumption) ?_; refine mv_i ?_));
      (rotate_left);
      (with_reducible (refine cnd_t ?_; refine mv_i ?_; refine mv_i ?_; refine mv_i ?_; refine ret2 ?_));
      (rotate_left))
  · rw [if_neg (by simpa using hc), hc]
    refine loop2 c.timers.length (fun k v h5 => Prec h h5 ∧ ∃ o2, IsSl v o2 (exps o c.timers k).length ∧ Mem g h5 [⟨o2, flat (exps o c.timers k), 1⟩]) ⟨⟨Stab.refl _⟩, none, IsSl.nil, m.tail.tail.nil 1⟩ ?_
    rintro k v h5 _ hk ⟨p5, o2, hv, m⟩
    have hol := exps_len o c.timers k
    obtain ⟨a, d, rfl⟩ := hv.isS
    ((with_reducible (refine lss_i (fun hc => ?_) (fun hc => ?_); refine cnd_t ?_));
        (rotate_left);
        (with_reducible (refine cnd_f ?_; refine mv_i ?_; refine mv_i ?_; refine mv_i ?_; refine ret2 ?_));
        (rotate_left))
    rotate_left
    · have hkk : k = c.timers.length := by omega
      subst hkk
      exact ⟨m.pre, _, rfl, IsSl.ro hv m (k := 0) rfl (by omega)⟩
    refine seq_J (fun xs h6 => ∃ v o2, xs = [v] ∧ Prec h h6 ∧ IsSl v o2 (exps o c.timers (k + 1)).length ∧ Mem g h6 [⟨o2, flat (exps o c.timers (k + 1)), 1⟩]) ?_ ?_
    · rintro _ h6 ⟨v, o3, rfl, p6, hv, m⟩
      obtain ⟨a, d, rfl⟩ := hv.isS
      (((with_reducible refine fun (_ : Tmps) => ?_); (try dsimp only [nth]));
          (with_reducible (refine inc_i (by omega) ?_; refine mv_i ?_)))
      exact next2 (by omega) ⟨p6, o3, hv, m⟩
    · intro k' hk'
      ((refine idx_d (by assumption) (by with_unfolding_all rfl) (by omega) fun p hp => ?_);
          (refine ldr_w (by assumption) (by with_unfolding_all rfl) ?_);
          (with_reducible (refine alloc_z (by assumption) fun i h z p m => ?_));
          (refine st_w (by assumption) (by infer_instance) (by with_unfolding_all rfl) (by with_unfolding_all rfl) (by first | rfl | exact flat_ones (Flat.flat _)) (by infer_instance) fun h p m => ?_);
          (with_reducible (refine fao ?_));
          (refine ldo (by assumption) (q := by infer_instance) (by with_unfolding_all rfl) ?_);
          (with_reducible (refine mv_i ?_; refine eql_i (fun hc => ?_) (fun hc => ?_); refine mv_i ?_; refine gd_tt ?_; refine fao ?_; refine gd_tt ?_));
          (refine ldo (by assumption) (q := by infer_instance) (by with_unfolding_all rfl) ?_);
          (with_reducible (refine pick_t ?_; refine cnd_b (fun hb => ?_) (fun hb => ?_); refine mv_i ?_; refine fao ?_));
          (refine ldo (by assumption) (q := by infer_instance) (by with_unfolding_all rfl) ?_);
          (refine bs_g (bs46_1 _ _) (by assumption) fun i h p m => ?_);
          (rotate_left);
          (rotate_left);
          (with_reducible (refine mv_i ?_; refine gd_ft ?_; refine gd_ft ?_; refine pick_f ?_; refine cnd_f ?_));
          (rotate_left))
      · have hd : hasExp o (gt c.timers k) = true := by simp [hasExp, hc, hb]
        refine app_o m hv (by infer_instance) (by rw [flat_length]; rfl) (src_own m (q := by infer_instance) (n := 1) rfl (by decide) (by decide) rfl) ⟨by omega, by omega⟩ fun i h p m => ?_
        simp only [List.set_cons_succ, List.set_cons_zero] at m
        ((with_reducible (refine mv_i ?_)))
        refine hk' _ _ ⟨_, some i, rfl, ⟨Stb.st⟩, ?_, ?_⟩
        · rw [exps_yes (by omega) hd, List.length_append]; exact IsSl.some0
        · rw [exps_yes (by omega) hd, flat_snoc]; exact m.tail.tail
      all_goals
        have hd : hasExp o (gt c.timers k) = false := by simp [hasExp, *]
        exact hk' _ _ ⟨_, o2, rfl, ⟨Stb.st⟩, by rw [exps_no (by omega) hd]; exact hv, by rw [exps_no (by omega) hd]; exact m.tail⟩
  · rw [if_pos hc]
    exact ⟨m.pre, _, rfl, L.nil _⟩
/-! ### taken, by the reference -/
theorem max_p {K : Value → Heap → Prop} {h : Heap} {k : IntKind} {a : Int} (ha : 0 ≤ a) (hk : K (.int k a) h) : vK (aMax (.int k a) (.int k 0)) h K := vk_i (v := .int k a) (by simp [aMax]; omega) hk
theorem bd39_02 (a1 : Int) (o2 : Option Addr) (no2 co2 : Nat) (s : ByteArray) : aBuild Try.prog 39 [(0, (.agg #[(.int .i64 a1), (.slice o2 no2 co2)])), (2, (.string s))] = some (.agg #[(.int .i64 a1), (.slice o2 no2 co2), (.slice none 0 0), (.string s), (.int .i64 0)]) := by kernel_rfl

theorem max_i {K : Value → Heap → Prop} {h : Heap} {k : IntKind} {a b : Int} (hk : K (.int k (if b > a then b else a)) h) : vK (aMax (.int k a) (.int k b)) h K := vk_i (by simp [aMax]) hk
noncomputable def takC (c : Clk) (o : Int) (n : ByteArray) : Clk := if takE c o n ≠ 0 then ⟨0, []⟩ else ⟨c.now, c.timers.set (tkAt o n c.timers c.timers.length).toNat (idle (gt c.timers (tkAt o n c.timers c.timers.length).toNat))⟩
noncomputable def takN (c : Clk) (o : Int) (n : ByteArray) : ByteArray := if takE c o n ≠ 0 then ⟨#[]⟩ else (gt c.timers (tkAt o n c.timers c.timers.length).toNat).name
theorem c24' [GM g] {v : Value} {c : Clk} (s : ClkV g v c) (f : few c) (o : Int) (n : ByteArray) (hn : n.size ≤ 60) : DetP Try.prog 24 [v, .int .i64 o, .string n] g fun v' h' => g <+: h' ∧
    ∃ b q n1, v' = .tuple #[.agg #[.int .i64 (takC c o n).now, .slice b n1 q], .string (takN c o n), .int .i64 (takE c o n)] ∧ n1 = (takC c o n).timers.length ∧ L h' (.slice b n1 q) (takC c o n).timers := by
  obtain ⟨v', h', e1, e2, x, e3, s1⟩ := c24 s f o n hn
  obtain ⟨b, q, rfl, _⟩ := s1.shape
  exact ⟨v', h', e1, e2, b, q, _, e3, rfl, s1⟩
theorem c25 {v : Value} {c : Clk} (s : ClkV g v c) (hl : c.timers.length ≤ 27) (h0 : (chk c).2 = 0) (o : Int) (n : ByteArray) : DetP Try.prog 25 [v, .int .i64 o, .string n] g fun v' h' => g <+: h' ∧
    ∃ b q n1, v' = .agg #[.int .i64 (takC c o n).now, .slice b n1 q, .slice none 0 0, .string (takN c o n), .int .i64 (takE c o n)] ∧ n1 = (takC c o n).timers.length ∧ L h' (.slice b n1 q) (takC c o n).timers := by
  refine DetP.freeze ?_
  obtain ⟨x, rfl, s⟩ := s
  have m := Mem.start g
  have hnr := namR_any h0 o n
  refine w25 ?_
  unfold n25
  refine box_a m fun i1 h1 z1 p1 m => ?_
  refine alloc_z m fun i2 h2 z2 p2 m => ?_
  ((refine ldo_w (by assumption) (by infer_instance) (by with_unfolding_all rfl) ?_);
      (with_reducible (refine mv_i ?_; refine mv_i ?_));
      (refine vk_i (bd44_01 _ _) ?_);
      (refine call_r (c53 ⟨_, by with_unfolding_all rfl, L.up (by assumption)⟩ _ _) ?_);
      (with_reducible (refine mv_i ?_; refine mv_i ?_; refine neq_i (fun hc => ?_) (fun hc => ?_); refine cnd_f ?_; refine mv_i ?_; refine mv_i ?_));
      (rotate_left);
      (with_reducible (refine cnd_t ?_; refine mv_i ?_));
      (refine vk_i (bd39_3 _) ?_);
      (refine st_w (by assumption) (by infer_instance) (by with_unfolding_all rfl) (by with_unfolding_all rfl) (by first | rfl | exact flat_ones (Flat.flat _)) (by infer_instance) fun h p m => ?_);
      (refine rt_w1 (by assumption) (by infer_instance) (by with_unfolding_all rfl) ?_);
      (with_reducible (refine ret1 ?_));
      (rotate_left))
  · have hA : anyE c o n = 0 := by rw [← hnr]; exact hc
    refine loop2 c.timers.length (fun k v h3 => Prec h2 h3 ∧ Mem g h3 [⟨some i2, [.int .i64 0, .slice none 0 0, .slice none 0 0, .string ⟨#[]⟩, .int .i64 0], z2⟩, ⟨some i1, [.int .i64 c.now, x], z1⟩] ∧ v = .int .i64 (tkAt o n c.timers k)) ⟨⟨Stab.refl h2⟩, m, rfl⟩ ?_
    rintro k _ h3 _ hk ⟨p3, m, rfl⟩
    have hb2 := tkAt_lt o n c.timers k
    ((with_reducible (refine mv_i ?_; refine fao ?_));
        (refine ldo (by assumption) (q := by infer_instance) (by with_unfolding_all rfl) ?_);
        (with_reducible (refine len_g (by assumption) ?_; refine lss_i (fun hc => ?_) (fun hc => ?_); refine cnd_t ?_; refine seq_i ?_; refine fao ?_));
        (refine ldo (by assumption) (q := by infer_instance) (by with_unfolding_all rfl) ?_);
        (with_reducible (refine mv_i ?_));
        (refine idx_d (by assumption) (by with_unfolding_all rfl) (by omega) fun p hp => ?_);
        (refine ldr_w (by assumption) (by with_unfolding_all rfl) ?_);
        (with_reducible (refine alloc_z (by assumption) fun i h z p m => ?_));
        (refine st_w (by assumption) (by infer_instance) (by with_unfolding_all rfl) (by with_unfolding_all rfl) (by first | rfl | exact flat_ones (Flat.flat _)) (by infer_instance) fun h p m => ?_);
        (with_reducible (refine fao ?_));
        (refine ldo (by assumption) (q := by infer_instance) (by with_unfolding_all rfl) ?_);
        (refine vb_n (by with_unfolding_all rfl) ?_);
        (with_reducible (refine mv_i ?_; refine eql_i (fun hc => ?_) (fun hc => ?_); refine mv_i ?_; refine gd_tt ?_; refine fao ?_; refine gd_tt ?_));
        (refine ldo (by assumption) (q := by infer_instance) (by with_unfolding_all rfl) ?_);
        (refine vb_n (by with_unfolding_all rfl) ?_);
        (with_reducible (refine pick_t ?_; refine mv_i ?_; refine gd_st (fun hb => ?_) (fun hb => ?_); refine mv_i ?_; refine gd_ht (by assumption) ?_; refine seq_s (fun hc => ?_) (fun hc => ?_); refine gd_ht (by assumption) ?_; refine mv_i ?_; refine gd_tf ?_; refine gd_tf ?_; refine gd_tf ?_; refine gd_tf ?_; refine gd_ht (by assumption) ?_; refine pick_t ?_; refine pick_h (by assumption) ?_; refine mv_i ?_; refine gd_tt ?_; refine mv_i ?_; refine gd_tt ?_; refine eql_i (fun hc => ?_) (fun hc => ?_); refine gd_tt ?_; refine mv_i ?_; refine gd_tf ?_; refine gd_tf ?_; refine gd_tf ?_; refine gd_tf ?_; refine gd_tf ?_; refine gd_tf ?_; refine gd_tf ?_; refine gd_tf ?_; refine gd_tf ?_; refine gd_tf ?_; refine gd_tt ?_; refine pick_t ?_; refine pick_t ?_; refine cnd_t ?_; refine mv_i ?_; refine mv_i ?_));
        ((with_reducible refine fun (_ : Tmps) => ?_); (try dsimp only [nth]));
        (with_reducible (refine mv_i ?_; refine inc_i (by omega) ?_; refine mv_i ?_));
        (rotate_left);
        (with_reducible (refine gd_tt ?_; refine mv_i ?_; refine gd_ff ?_; refine fao ?_; refine gd_ff ?_));
        (refine ldo (by assumption) (q := by infer_instance) (by with_unfolding_all rfl) ?_);
        (refine vb_n (by with_unfolding_all rfl) ?_);
        (with_reducible (refine gd_ff ?_; refine fao ?_; refine gd_ff ?_));
        (refine ldo (by assumption) (q := by infer_instance) (by with_unfolding_all rfl) ?_);
        (with_reducible (refine vb_l (by assumption) ?_; refine gd_ff ?_; refine mv_i ?_; refine gd_ff ?_));
        (refine max_p (by omega) ?_);
        (with_reducible (refine gd_ff ?_));
        (refine idx_dz (by assumption) (by with_unfolding_all rfl) (by omega) (by omega) fun p hp => ?_);
        (with_reducible (refine gd_ff ?_; refine fa_g (by assumption) fun p hp => ?_; refine gd_ff ?_));
        (refine ld_g (by assumption) (by with_unfolding_all rfl) ?_);
        (refine vb_n (by with_unfolding_all rfl) ?_);
        (with_reducible (refine gd_ff ?_; refine lss_i (fun hc => ?_) (fun hc => ?_); refine gd_tt ?_; refine pick_f ?_; refine pick_t ?_; refine cnd_t ?_; refine mv_i ?_; refine mv_i ?_));
        ((with_reducible refine fun (_ : Tmps) => ?_); (try dsimp only [nth]));
        (with_reducible (refine mv_i ?_; refine inc_i (by omega) ?_; refine mv_i ?_));
        (rotate_left);
        (with_reducible (refine gd_tt ?_; refine pick_f ?_; refine pick_t ?_; refine cnd_f ?_));
        ((with_reducible refine fun (_ : Tmps) => ?_); (try dsimp only [nth]));
        (with_reducible (refine mv_i ?_; refine inc_i (by omega) ?_; refine mv_i ?_));
        (rotate_left);
        (with_reducible (refine gd_ht (by assumption) ?_; refine mv_i ?_; refine gd_ff ?_; refine fao ?_; refine gd_ff ?_));
        (refine ldo (by assumption) (q := by infer_instance) (by with_unfolding_all rfl) ?_);
        (refine vb_n (by with_unfolding_all rfl) ?_);
        (with_reducible (refine gd_ff ?_; refine mv_i ?_; refine gd_ff ?_; refine seq_s (fun hc => ?_) (fun hc => ?_); refine gd_ht (by assumption) ?_; refine pick_f ?_; refine pick_h (by assumption) ?_; refine mv_i ?_; refine gd_tt ?_; refine mv_i ?_; refine gd_tt ?_; refine eql_i (fun hc => ?_) (fun hc => ?_); refine gd_tt ?_; refine mv_i ?_; refine gd_tf ?_; refine gd_tf ?_; refine gd_tf ?_; refine gd_tf ?_; refine gd_tf ?_; refine gd_tf ?_; refine gd_tf ?_; refine gd_tf ?_; refine gd_tf ?_; refine gd_tf ?_; refine gd_tt ?_; refine pick_t ?_; refine pick_t ?_; refine cnd_t ?_; refine mv_i ?_; refine mv_i ?_));
        ((with_reducible refine fun (_ : Tmps) => ?_); (try dsimp only [nth]));
        (with_reducible (refine mv_i ?_; refine inc_i (by omega) ?_; refine mv_i ?_));
        (rotate_left);
        (with_reducible (refine gd_tt ?_; refine mv_i ?_; refine gd_ff ?_; refine fao ?_; refine gd_ff ?_));
        (refine ldo (by assumption) (q := by infer_instance) (by with_unfolding_all rfl) ?_);
        (refine vb_n (by with_unfolding_all rfl) ?_);
        (with_reducible (refine gd_ff ?_; refine fao ?_; refine gd_ff ?_));
        (refine ldo (by assumption) (q := by infer_instance) (by with_unfolding_all rfl) ?_);
        (with_reducible (refine vb_l (by assumption) ?_; refine gd_ff ?_; refine mv_i ?_; refine gd_ff ?_));
        (refine max_p (by omega) ?_);
        (with_reducible (refine gd_ff ?_));
        (refine idx_dz (by assumption) (by with_unfolding_all rfl) (by omega) (by omega) fun p hp => ?_);
        (with_reducible (refine gd_ff ?_; refine fa_g (by assumption) fun p hp => ?_; refine gd_ff ?_));
        (refine ld_g (by assumption) (by with_unfolding_all rfl) ?_);
        (refine vb_n (by with_unfolding_all rfl) ?_);
        (with_reducible (refine gd_ff ?_; refine lss_i (fun hc => ?_) (fun hc => ?_); refine gd_tt ?_; refine pick_f ?_; refine pick_t ?_; refine cnd_t ?_; refine mv_i ?_; refine mv_i ?_));
        ((with_reducible refine fun (_ : Tmps) => ?_); (try dsimp only [nth]));
        (with_reducible (refine mv_i ?_; refine inc_i (by omega) ?_; refine mv_i ?_));
        (rotate_left);
        (with_reducible (refine gd_tt ?_; refine pick_f ?_; refine pick_t ?_; refine cnd_f ?_));
        ((with_reducible refine fun (_ : Tmps) => ?_); (try dsimp only [nth]));
        (with_reducible (refine mv_i ?_; refine inc_i (by omega) ?_; refine mv_i ?_));
        (rotate_left);
        (with_reducible (refine gd_ht (by assumption) ?_; refine pick_f ?_; refine pick_h (by assumption) ?_; refine mv_i ?_; refine gd_ft ?_; refine gd_ft ?_; refine gd_ft ?_; refine gd_u ?_; refine gd_u ?_; refine gd_u ?_; refine gd_u ?_; refine gd_u ?_; refine gd_u ?_; refine gd_u ?_; refine gd_u ?_; refine gd_u ?_; refine gd_u ?_; refine gd_ft ?_; refine pick_f ?_; refine cnd_f ?_));
        ((with_reducible refine fun (_ : Tmps) => ?_); (try dsimp only [nth]));
        (with_reducible (refine mv_i ?_; refine inc_i (by omega) ?_; refine mv_i ?_));
        (rotate_left);
        (with_reducible (refine gd_nt (by assumption) ?_; refine gd_nt (by assumption) ?_; refine gd_u ?_; refine gd_u ?_; refine gd_u ?_; refine gd_u ?_; refine gd_nt (by assumption) ?_; refine pick_n (by assumption) ?_; refine mv_i ?_; refine gd_ft ?_; refine gd_ft ?_; refine gd_ft ?_; refine gd_u ?_; refine gd_u ?_; refine gd_u ?_; refine gd_u ?_; refine gd_u ?_; refine gd_u ?_; refine gd_u ?_; refine gd_u ?_; refine gd_u ?_; refine gd_u ?_; refine gd_ft ?_; refine pick_f ?_; refine cnd_f ?_));
        ((with_reducible refine fun (_ : Tmps) => ?_); (try dsimp only [nth]));
        (with_reducible (refine mv_i ?_; refine inc_i (by omega) ?_; refine mv_i ?_));
        (rotate_left);
        (with_reducible (refine mv_i ?_; refine gd_ft ?_; refine gd_ft ?_; refine pick_f ?_; refine mv_i ?_; refine gd_ft ?_; refine gd_ft ?_; refine gd_ft ?_; refine gd_u ?_; refine gd_u ?_; refine gd_u ?_; refine gd_u ?_; refine gd_ft ?_; refine pick_f ?_; refine mv_i ?_; refine gd_ft ?_; refine gd_ft ?_; refine gd_ft ?_; refine gd_u ?_; refine gd_u ?_; refine gd_u ?_; refine gd_u ?_; refine gd_u ?_; refine gd_u ?_; refine gd_u ?_; refine gd_u ?_; refine gd_u ?_; refine gd_u ?_; refine gd_ft ?_; refine pick_f ?_; refine cnd_f ?_));
        ((with_reducible refine fun (_ : Tmps) => ?_); (try dsimp only [nth]));
        (with_reducible (refine mv_i ?_; refine inc_i (by omega) ?_; refine mv_i ?_));
        (rotate_left);
        (with_reducible (refine cnd_f ?_; refine mv_i ?_; refine eql_i (fun hc => ?_) (fun hc => ?_); refine cnd_t ?_));
        (refine call_r (c51 _) ?_);
        (refine st_w (by assumption) (by infer_instance) (by with_unfolding_all rfl) (by with_unfolding_all rfl) (by first | rfl | exact flat_ones (Flat.flat _)) (by infer_instance) fun h p m => ?_);
        (refine rt_w1 (by assumption) (by infer_instance) (by with_unfolding_all rfl) ?_);
        (with_reducible (refine ret1 ?_));
        (rotate_left);
        (with_reducible (refine cnd_f ?_));
        (refine ldo_w (by assumption) (by infer_instance) (by with_unfolding_all rfl) ?_);
        (rotate_left))
    all_goals first
      | (refine next2 (by omega) ⟨⟨Stb.st⟩, ?_, ?_⟩
         · first | exact m | exact m.tail
         · first
             | rw [tk_yes (by assumption) (by assumption) (by first | exact .inl (by assumption) | exact .inr (by assumption)) (by first | (left; omega) | exact .inr (by assumption))]
             | (rw [tk_no]
                rintro ⟨⟨a, b, d⟩, e⟩
                first
                  | contradiction
                  | (rcases d with d | d <;> contradiction)
                  | (rcases e with e | e
                     · omega
                     · contradiction)
                  | (simp_all; done)))
      | skip
    · have e : takE c o n = 23 := by
        have hkk : k = c.timers.length := by omega
        subst hkk
        rw [takE, if_neg (by simpa using hA), if_pos (by omega)]
      have e2 : takC c o n = ⟨0, []⟩ := by rw [takC, if_pos (by rw [e]; decide)]
      have e3 : takN c o n = ⟨#[]⟩ := by rw [takN, if_pos (by rw [e]; decide)]
      rw [e3, e2, e]
      exact ⟨m.pre, _, _, _, rfl, rfl, L.nil _⟩
    · have hkk : k = c.timers.length := by omega
      subst hkk
      have e : takE c o n = 0 := by
        rw [takE, if_neg (by simpa using hA), if_neg (by omega)]
      rw [takN, takC, e]
      simp only [ne_eq, not_true, if_false]
      obtain ⟨q, hq⟩ : ∃ q : Nat, tkAt o n c.timers c.timers.length = (q : Int) := ⟨(tkAt o n c.timers c.timers.length).toNat, by omega⟩
      rw [hq] at hb2 ⊢
      have hql : q < c.timers.length := by omega
      rw [Int.toNat_natCast]
      refine call_d (c13o ⟨_, rfl, s.up⟩ (by omega)) m fun y h4 p4 p5 _ ⟨y, o2, ev, hs, hnn⟩ => ?_
      subst ev
      have m := hnn _ _ m
      obtain ⟨a, d, rfl⟩ := hs.isS
      ((with_reducible (refine alloc_z (by assumption) fun i h z p m => ?_));
          (refine st_w (by assumption) (by infer_instance) (by with_unfolding_all rfl) (by with_unfolding_all rfl) (by first | rfl | exact flat_ones (Flat.flat _)) (by infer_instance) fun h p m => ?_);
          (with_reducible (refine fao ?_));
          (refine ldo (by assumption) (q := by infer_instance) (by with_unfolding_all rfl) ?_);
          (refine IsSl.vb (by assumption) (by assumption) (by infer_instance) ?_);
          (with_reducible (refine mv_i ?_; refine fao ?_));
          (refine ldo (by assumption) (q := by infer_instance) (by with_unfolding_all rfl) ?_);
          (with_reducible (refine vb_l (by assumption) ?_; refine mv_i ?_));
          (refine idx_d (by assumption) (by with_unfolding_all rfl) (by omega) fun p hp => ?_);
          (refine ldr_w (by assumption) (by with_unfolding_all rfl) ?_);
          (with_reducible (refine vb_f ?_));
          (refine calld_r (c54 _) ?_);
          (with_reducible (refine new_n ?_));
          (refine idx_o (by assumption) (by omega) ?_);
          (refine stw_o (by assumption) (by infer_instance) (by with_unfolding_all rfl) (by omega) (by infer_instance) fun h p m => ?_);
          (with_reducible (refine ⟨trivial, ?_⟩));
          (refine ldo_w (by assumption) (by infer_instance) (by with_unfolding_all rfl) ?_);
          (refine vb_ao rfl (by assumption) (by assumption) (by infer_instance) ?_);
          (with_reducible (refine fao ?_));
          (refine ldo (by assumption) (q := by infer_instance) (by with_unfolding_all rfl) ?_);
          (with_reducible (refine vb_l (by assumption) ?_; refine mv_i ?_));
          (refine idx_d (by assumption) (by with_unfolding_all rfl) (by omega) fun p hp => ?_);
          (with_reducible (refine fa_g (by assumption) fun p hp => ?_));
          (refine ld_g (by assumption) (by with_unfolding_all rfl) ?_);
          (refine vb_n (by with_unfolding_all rfl) ?_);
          (refine vk_i (bd39_02 _ _ _ _ _) ?_);
          (refine st_w (by assumption) (by infer_instance) (by with_unfolding_all rfl) (by with_unfolding_all rfl) (by first | rfl | exact flat_ones (Flat.flat _)) (by infer_instance) fun h p m => ?_);
          (with_reducible (refine ⟨trivial, ?_⟩));
          (refine rt_w1 (by assumption) (by infer_instance) (by with_unfolding_all rfl) ?_);
          (with_reducible (refine ret1 ?_)))
      refine ⟨m.pre, _, _, _, rfl, by simp, ?_⟩
      exact IsSl.ro (xs := c.timers.set q (idle (gt c.timers q))) (by simpa using hs) m (k := 1) rfl (by simp; omega)
  · have hA : anyE c o n ≠ 0 := by rw [← hnr]; exact hc
    have e : takE c o n = anyE c o n := by rw [takE, if_pos hA]
    have e2 : takC c o n = ⟨0, []⟩ := by rw [takC, if_pos (by rw [e]; exact hA)]
    have e3 : takN c o n = ⟨#[]⟩ := by rw [takN, if_pos (by rw [e]; exact hA)]
    rw [e3, e2, e, hnr]
    exact ⟨m.pre, _, _, _, rfl, rfl, L.nil _⟩
theorem err_tak {c : Clk} (h0 : ¬ (chk c).2 = 0) (o : Int) (n : ByteArray) : takE c o n = (chk c).2 ∧ takC c o n = ⟨0, []⟩ ∧ takN c o n = ⟨#[]⟩ ∧ orOf [(chk c).2, ownE o] = (chk c).2 := by
  have h2 := (err_all h0 o n 0).2.1
  have h3 : takE c o n = (chk c).2 := by rw [takE, h2, if_pos h0]
  exact ⟨h3, by rw [takC, if_pos (by rw [h3]; exact h0)], by rw [takN, if_pos (by rw [h3]; exact h0)], by rw [orOf_cons, if_neg h0]⟩
theorem ownE_in (o : Int) : (0 ≤ o ∧ o ≤ 11 → ownE o = 0) ∧ (¬ (0 ≤ o ∧ o ≤ 11) → ownE o = 3) := by
  unfold ownE
  exact ⟨fun q => if_pos q, fun q => if_neg q⟩
theorem c23e [GM g] {v : Value} {c : Clk} (s : ClkV g v c) (f : few c) (o : Int) {e : Int} {l : List ByteArray} (he : orOf [(chk c).2, ownE o] = e) (hl : (if e ≠ 0 then [] else exps o c.timers c.timers.length) = l) : DetP Try.prog 23 [v, .int .i64 o] g fun v' h' => g <+: h' ∧
    ∃ b q n, v' = .tuple #[.slice b n q, .int .i64 e] ∧ n = l.length ∧ L h' (.slice b n q) l := by
  subst he hl
  obtain ⟨v', h', e1, e2, y, e3, s1⟩ := c23 s f o
  obtain ⟨b, q, rfl, _⟩ := s1.shape
  exact ⟨v', h', e1, e2, b, q, _, e3, rfl, s1⟩
open Classical in
theorem c6 [GM g] {v : Value} {c : Clk} (s : ClkV g v c) (hb : c.timers.length ≤ 1048576) (o : Int) (n : ByteArray) : DetP Try.prog 6 [v, .int .i64 o, .string n] g fun v' _ => v' = .bool true := by
  obtain ⟨x, rfl, s⟩ := s
  have m := Mem.start g
  refine w6 ?_
  unfold n6
  ((with_reducible (refine box_a (by assumption) fun i h z p m => ?_; refine mv_i ?_));
      (refine call_r c10 ?_);
      (with_reducible (refine not_t ?_; refine cnd_f ?_));
      (refine ldo_w (by assumption) (by infer_instance) (by with_unfolding_all rfl) ?_))
  refine call_r (c11 ⟨_, rfl, s.up⟩) ?_
  by_cases f : few c
  rotate_left
  · rw [decide_eq_false f]
    ((with_reducible (refine not_f ?_; refine mv_i ?_; refine gd_tf ?_; refine gd_tf ?_; refine gd_tf ?_; refine pick_t ?_; refine cnd_t ?_; refine mv_i ?_; refine ret1 ?_)))
    rfl
  rw [decide_eq_true f]
  by_cases hn : n.size ≤ 60
  rotate_left
  · ((with_reducible (refine not_t ?_; refine mv_i ?_; refine gd_ff ?_; refine mv_i ?_; refine gd_ff ?_; refine slen_i ?_; refine gd_ff ?_; refine gtr_i (fun hc => ?_) (fun hc => ?_); refine pick_f ?_; refine cnd_t ?_; refine mv_i ?_; refine ret1 ?_));
      (rotate_left);
      (with_reducible (refine pick_f ?_; refine cnd_f ?_));
      (refine ldo_w (by assumption) (by infer_instance) (by with_unfolding_all rfl) ?_);
      (rotate_left))
    all_goals first
      | rfl
      | (exfalso; omega)
  · have hg : ¬ 60 < (n.size : Int) := by omega
    ((with_reducible (refine not_t ?_; refine mv_i ?_; refine gd_ff ?_; refine mv_i ?_; refine gd_ff ?_; refine slen_i ?_; refine gd_ff ?_; refine gtr_i (fun hc => ?_) (fun hc => ?_); refine pick_f ?_; refine cnd_t ?_; refine mv_i ?_; refine ret1 ?_));
        (rotate_left);
        (with_reducible (refine pick_f ?_; refine cnd_f ?_));
        (refine ldo_w (by assumption) (by infer_instance) (by with_unfolding_all rfl) ?_);
        (rotate_left))
    · exfalso; omega
    by_cases hE : (chk c).2 = 0
    · by_cases hr : 0 ≤ o ∧ o ≤ 11
      · have hO : orOf [(chk c).2, ownE o] = 0 := by rw [hE, (ownE_in o).1 hr]; rfl
        have hL : (if (0 : Int) ≠ 0 then [] else exps o c.timers c.timers.length) = exps o c.timers c.timers.length := rfl
        have hr2 : decide (0 ≤ o ∧ o ≤ 11) = true := decide_eq_true hr
        skip
        refine call_d (c13 ⟨_, rfl, s.up⟩ hb) m fun v1 h1 p1 p2 m ⟨y1, e1, t1⟩ => ?_
        subst e1
        obtain ⟨b1, q1, rfl, _⟩ := t1.shape
        ((with_reducible (refine mv_i ?_)))
        refine call_d (c23e ⟨_, rfl, t1⟩ f o hO hL) m fun v1 h1 p1 p2 m ⟨b2, q2, n2, e2, hn2, s2⟩ => ?_
        subst e2
        ((with_reducible (refine mv_i ?_; refine ex2_0 ?_; refine ex2_1 ?_; refine mv_i ?_; refine mv_i ?_));
            (refine ldo_w (by assumption) (by infer_instance) (by with_unfolding_all rfl) ?_))
        refine call_d (c13 ⟨_, rfl, s.up⟩ hb) m fun v1 h1 p1 p2 m ⟨y1, e1, t1⟩ => ?_
        subst e1
        obtain ⟨b1, q1, rfl, _⟩ := t1.shape
        ((with_reducible (refine mv_i ?_; refine mv_i ?_)))
        refine call_d (c24' ⟨_, rfl, t1.up⟩ f o n hn) m fun v1 h1 p1 p2 m ⟨b3, q3, n3, e3, hn3, s3⟩ => ?_
        subst e3
        ((with_reducible (refine mv_i ?_; refine ex3_0 ?_; refine ex3_1 ?_; refine ex3_2 ?_; refine alloc_z (by assumption) fun i h z p m => ?_));
            (refine st_w (by assumption) (by infer_instance) (by with_unfolding_all rfl) (by with_unfolding_all rfl) (by first | rfl | exact flat_ones (Flat.flat _)) (by infer_instance) fun h p m => ?_);
            (with_reducible (refine mv_i ?_; refine mv_i ?_));
            (refine ldo_w (by assumption) (by infer_instance) (by with_unfolding_all rfl) ?_);
            (refine call_r (c17 ⟨_, by with_unfolding_all rfl, L.up (by assumption)⟩ (by assumption)) ?_);
            (with_reducible (refine mv_i ?_; refine mv_i ?_; refine neq_h (by first | assumption | decide) ?_; refine cnd_f ?_));
            (refine ldo_w (by assumption) (by infer_instance) (by with_unfolding_all rfl) ?_);
            (with_reducible (refine mv_i ?_; refine mv_i ?_)))
        refine call_d (c25 ⟨_, rfl, s.up⟩ f.1 hE o n) m fun v1 h1 p1 p2 m ⟨b4, q4, n4, e4, hn4, s4⟩ => ?_
        subst e4
        ((with_reducible (refine alloc_z (by assumption) fun i h z p m => ?_));
            (refine st_w (by assumption) (by infer_instance) (by with_unfolding_all rfl) (by with_unfolding_all rfl) (by first | rfl | exact flat_ones (Flat.flat _)) (by infer_instance) fun h p m => ?_);
            (refine ldo_w (by assumption) (by infer_instance) (by with_unfolding_all rfl) ?_);
            (with_reducible (refine mv_i ?_));
            (refine ldo_w (by assumption) (by infer_instance) (by with_unfolding_all rfl) ?_))
        refine call_r (c18 (n := takN c o n) ⟨_, rfl, s3.up⟩ ⟨_, _, rfl, s4.up, L.nil _⟩) ?_
        rw [decide_eq_true ⟨rfl, rfl, rfl⟩]
        ((with_reducible (refine not_t ?_; refine mv_i ?_; refine gd_ff ?_; refine mv_i ?_; refine gd_ff ?_; refine fao ?_; refine gd_ff ?_));
            (refine ldo (by assumption) (q := by infer_instance) (by with_unfolding_all rfl) ?_);
            (with_reducible (refine gd_ff ?_; refine sne_s (fun hc => ?_) (fun hc => ?_); refine pick_f ?_; refine cnd_f ?_; refine mv_i ?_));
            (refine call_r (c26 _ _ _) ?_);
            (with_reducible (refine not_h (by assumption) ?_; refine cnd_f ?_; refine mv_i ?_; refine eql_h (by first | assumption | decide) ?_; refine mv_i ?_; refine gd_tt ?_; refine mv_i ?_; refine gd_tt ?_));
            (refine ldo_w (by assumption) (by infer_instance) (by with_unfolding_all rfl) ?_);
            (with_reducible (refine gd_tt ?_; refine mv_i ?_; refine gd_tt ?_));
            (rotate_left);
            (with_reducible (refine pick_f ?_; refine cnd_t ?_; refine mv_i ?_; refine ret1 ?_));
            (rotate_left))
        refine call_d (c28 ⟨_, rfl, s.up⟩ f.1 o) m fun v1 h1 p1 p2 m s5 => ?_
        obtain ⟨b5, q5, rfl, _⟩ := s5.shape
        ((with_reducible (refine gd_tt ?_));
            (rotate_left);
            (rotate_left))
        subst hn2
        refine call_r (c27 s2.up s5.up) ?_
        rw [decide_eq_true rfl]
        ((with_reducible (refine pick_t ?_; refine mv_i ?_; refine ret1 ?_));
            (rotate_left);
            (rotate_left))
        · rfl
        · exact absurd rfl hc
      · have hO : orOf [(chk c).2, ownE o] = 3 := by rw [hE, (ownE_in o).2 hr]; rfl
        have hL : (if (3 : Int) ≠ 0 then [] else exps o c.timers c.timers.length) = [] := rfl
        have hr2 : decide (0 ≤ o ∧ o ≤ 11) = false := decide_eq_false hr
        skip
        refine call_d (c13 ⟨_, rfl, s.up⟩ hb) m fun v1 h1 p1 p2 m ⟨y1, e1, t1⟩ => ?_
        subst e1
        obtain ⟨b1, q1, rfl, _⟩ := t1.shape
        ((with_reducible (refine mv_i ?_)))
        refine call_d (c23e ⟨_, rfl, t1⟩ f o hO hL) m fun v1 h1 p1 p2 m ⟨b2, q2, n2, e2, hn2, s2⟩ => ?_
        subst e2
        ((with_reducible (refine mv_i ?_; refine ex2_0 ?_; refine ex2_1 ?_; refine mv_i ?_; refine mv_i ?_));
            (refine ldo_w (by assumption) (by infer_instance) (by with_unfolding_all rfl) ?_))
        refine call_d (c13 ⟨_, rfl, s.up⟩ hb) m fun v1 h1 p1 p2 m ⟨y1, e1, t1⟩ => ?_
        subst e1
        obtain ⟨b1, q1, rfl, _⟩ := t1.shape
        ((with_reducible (refine mv_i ?_; refine mv_i ?_)))
        refine call_d (c24' ⟨_, rfl, t1.up⟩ f o n hn) m fun v1 h1 p1 p2 m ⟨b3, q3, n3, e3, hn3, s3⟩ => ?_
        subst e3
        ((with_reducible (refine mv_i ?_; refine ex3_0 ?_; refine ex3_1 ?_; refine ex3_2 ?_; refine alloc_z (by assumption) fun i h z p m => ?_));
            (refine st_w (by assumption) (by infer_instance) (by with_unfolding_all rfl) (by with_unfolding_all rfl) (by first | rfl | exact flat_ones (Flat.flat _)) (by infer_instance) fun h p m => ?_);
            (with_reducible (refine mv_i ?_; refine mv_i ?_));
            (refine ldo_w (by assumption) (by infer_instance) (by with_unfolding_all rfl) ?_);
            (refine call_r (c17 ⟨_, by with_unfolding_all rfl, L.up (by assumption)⟩ (by assumption)) ?_);
            (with_reducible (refine mv_i ?_; refine mv_i ?_; refine neq_h (by first | assumption | decide) ?_; refine cnd_f ?_));
            (refine ldo_w (by assumption) (by infer_instance) (by with_unfolding_all rfl) ?_);
            (with_reducible (refine mv_i ?_; refine mv_i ?_)))
        refine call_d (c25 ⟨_, rfl, s.up⟩ f.1 hE o n) m fun v1 h1 p1 p2 m ⟨b4, q4, n4, e4, hn4, s4⟩ => ?_
        subst e4
        ((with_reducible (refine alloc_z (by assumption) fun i h z p m => ?_));
            (refine st_w (by assumption) (by infer_instance) (by with_unfolding_all rfl) (by with_unfolding_all rfl) (by first | rfl | exact flat_ones (Flat.flat _)) (by infer_instance) fun h p m => ?_);
            (refine ldo_w (by assumption) (by infer_instance) (by with_unfolding_all rfl) ?_);
            (with_reducible (refine mv_i ?_));
            (refine ldo_w (by assumption) (by infer_instance) (by with_unfolding_all rfl) ?_))
        refine call_r (c18 (n := takN c o n) ⟨_, rfl, s3.up⟩ ⟨_, _, rfl, s4.up, L.nil _⟩) ?_
        rw [decide_eq_true ⟨rfl, rfl, rfl⟩]
        ((with_reducible (refine not_t ?_; refine mv_i ?_; refine gd_ff ?_; refine mv_i ?_; refine gd_ff ?_; refine fao ?_; refine gd_ff ?_));
            (refine ldo (by assumption) (q := by infer_instance) (by with_unfolding_all rfl) ?_);
            (with_reducible (refine gd_ff ?_; refine sne_s (fun hc => ?_) (fun hc => ?_); refine pick_f ?_; refine cnd_f ?_; refine mv_i ?_));
            (refine call_r (c26 _ _ _) ?_);
            (with_reducible (refine not_n (by assumption) ?_; refine cnd_t ?_; refine mv_i ?_; refine eql_h (by first | assumption | decide) ?_; refine mv_i ?_; refine gd_tt ?_; refine mv_i ?_; refine gd_tt ?_; refine len_g (by assumption) ?_; refine gd_tt ?_; refine eql_h (by first | assumption | decide) ?_; refine pick_t ?_; refine mv_i ?_; refine ret1 ?_));
            (rotate_left);
            (with_reducible (refine pick_f ?_; refine cnd_t ?_; refine mv_i ?_; refine ret1 ?_));
            (rotate_left))
        all_goals first
          | rfl
          | (exfalso; simp_all; done)
    · obtain ⟨a1, a2, a3, a4⟩ := err_tak hE o n
      have hO : orOf [(chk c).2, ownE o] = (chk c).2 := a4
      have hL : (if (chk c).2 ≠ 0 then [] else exps o c.timers c.timers.length) = [] := if_pos hE
      skip
      refine call_d (c13 ⟨_, rfl, s.up⟩ hb) m fun v1 h1 p1 p2 m ⟨y1, e1, t1⟩ => ?_
      subst e1
      obtain ⟨b1, q1, rfl, _⟩ := t1.shape
      ((with_reducible (refine mv_i ?_)))
      refine call_d (c23e ⟨_, rfl, t1⟩ f o hO hL) m fun v1 h1 p1 p2 m ⟨b2, q2, n2, e2, hn2, s2⟩ => ?_
      subst e2
      ((with_reducible (refine mv_i ?_; refine ex2_0 ?_; refine ex2_1 ?_; refine mv_i ?_; refine mv_i ?_));
          (refine ldo_w (by assumption) (by infer_instance) (by with_unfolding_all rfl) ?_))
      refine call_d (c13 ⟨_, rfl, s.up⟩ hb) m fun v1 h1 p1 p2 m ⟨y1, e1, t1⟩ => ?_
      subst e1
      obtain ⟨b1, q1, rfl, _⟩ := t1.shape
      ((with_reducible (refine mv_i ?_; refine mv_i ?_)))
      refine call_d (c24' ⟨_, rfl, t1.up⟩ f o n hn) m fun v1 h1 p1 p2 m ⟨b3, q3, n3, e3, hn3, s3⟩ => ?_
      subst e3
      ((with_reducible (refine mv_i ?_; refine ex3_0 ?_; refine ex3_1 ?_; refine ex3_2 ?_; refine alloc_z (by assumption) fun i h z p m => ?_));
          (refine st_w (by assumption) (by infer_instance) (by with_unfolding_all rfl) (by with_unfolding_all rfl) (by first | rfl | exact flat_ones (Flat.flat _)) (by infer_instance) fun h p m => ?_);
          (with_reducible (refine mv_i ?_; refine mv_i ?_));
          (refine ldo_w (by assumption) (by infer_instance) (by with_unfolding_all rfl) ?_);
          (refine call_r (c17 ⟨_, by with_unfolding_all rfl, L.up (by assumption)⟩ (by assumption)) ?_);
          (with_reducible (refine mv_i ?_; refine mv_i ?_; refine neq_n (by first | assumption | decide) ?_; refine cnd_t ?_; refine mv_i ?_; refine mv_i ?_; refine eql_i (fun hc => ?_) (fun hc => ?_); refine mv_i ?_; refine gd_tt ?_; refine mv_i ?_; refine gd_tt ?_; refine len_g (by assumption) ?_; refine gd_tt ?_; refine eql_h (by first | assumption | decide) ?_; refine pick_t ?_; refine mv_i ?_; refine gd_tt ?_));
          (refine ldo_w (by assumption) (by infer_instance) (by with_unfolding_all rfl) ?_);
          (with_reducible (refine gd_tt ?_; refine mv_i ?_; refine gd_tt ?_; refine mv_i ?_; refine gd_tt ?_));
          (refine vk_i (bd39_3 _) ?_);
          (with_reducible (refine gd_tt ?_));
          (rotate_left);
          (with_reducible (refine mv_i ?_; refine gd_ft ?_; refine gd_ft ?_; refine gd_ft ?_; refine pick_f ?_; refine mv_i ?_; refine gd_ft ?_; refine gd_ft ?_; refine gd_ft ?_; refine gd_ft ?_; refine gd_ft ?_; refine pick_f ?_; refine mv_i ?_; refine gd_ft ?_; refine gd_ft ?_; refine pick_f ?_; refine mv_i ?_; refine ret1 ?_));
          (rotate_left))
      · refine call_r (c18 (n := ⟨#[]⟩) (a := ⟨0, []⟩) (b := ⟨0, []⟩) (l := []) ⟨_, by rw [a2], by rw [a2] at s3; exact s3.up⟩ ⟨_, _, rfl, L.nil _, L.nil _⟩) ?_
        rw [a1, decide_eq_true ⟨rfl, rfl, rfl⟩, a3]
        ((with_reducible (refine pick_t ?_; refine mv_i ?_; refine gd_tt ?_; refine mv_i ?_; refine gd_tt ?_; refine seq_s (fun hc => ?_) (fun hc => ?_); refine pick_t ?_; refine mv_i ?_; refine ret1 ?_));
            (rotate_left);
            (with_reducible (refine pick_t ?_; refine mv_i ?_; refine ret1 ?_));
            (rotate_left))
        all_goals first
          | rfl
          | (exfalso; simp_all; done)
      · exfalso; simp_all
end Go.Proofs.Ytalnnkpdpjmmkaa
