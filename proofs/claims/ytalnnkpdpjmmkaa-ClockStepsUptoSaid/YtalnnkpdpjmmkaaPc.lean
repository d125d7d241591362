import Derived.Test.YtalnnkpdpjmmkaaPb
import Derived.Test.YtalnnkpdpjmmkaaAnG
import Derived.Test.YtalnnkpdpjmmkaaBulk
import Derived.Test.YtalnnkpdpjmmkaaChecked
import Derived.WalkKit
import Derived.ProofKit
import Derived.Test.YtalnnkpdpjmmkaaAnH
import Derived.Test.YtalnnkpdpjmmkaaAnE
set_option linter.unusedSimpArgs false
set_option linter.unusedVariables false
set_option maxRecDepth 100000
set_option maxHeartbeats 4000000
namespace Go.Proofs.Ytalnnkpdpjmmkaa
open Go.AM
variable {g : Heap}
/-! ### the clock at a moment -/
def isDue (to : Int) (t : Tim) : Bool := t.running && decide (t.due = to)
def expire (to : Int) (t : Tim) : Tim := if isDue to t = true then { t with running := false, expired := true } else t
def dueIdx (to : Int) (l : List Tim) : List Int := ((List.range l.length).filter fun j => isDue to (gt l j)).map fun j : Nat => (j : Int)
noncomputable def advE (c : Clk) (to : Int) : Int :=
  if (chk c).2 ≠ 0 then (chk c).2 else if ¬ (c.now ≤ to ∧ to ≤ 1099511627776) then 3 else if 0 ≤ nextOf c.timers ∧ nextOf c.timers < to then 14 else 0
def AdvV (h : Heap) (v : Value) (c : Clk) (l : List Int) (e : Int) : Prop := ∃ x y, v = .tuple #[.agg #[.int .i64 c.now, x], y, .int .i64 e] ∧ L h x c.timers ∧ L h y l
theorem expire_set {to : Int} {l : List Tim} {k : Nat} (hk : k < l.length) : ((l.take k).map (expire to) ++ l.drop k).set k (expire to (gt l k)) = (l.take (k + 1)).map (expire to) ++ l.drop (k + 1) := by
  rw [take_gd Df.d hk, List.map_append, List.set_append_right _ _ (by simp; omega)]
  have : k - ((l.take k).map (expire to)).length = 0 := by simp; omega
  rw [this, List.drop_eq_getElem_cons hk]
  rw [List.set_cons_zero]
  simp [gt]
theorem expire_at {to : Int} {l : List Tim} {k : Nat} (hk : k < l.length) : gt ((l.take k).map (expire to) ++ l.drop k) k = gt l k := by
  unfold gt
  rw [List.getD, List.getElem?_append_right (by simp; omega)]
  simp [List.getD]
  congr 2
  omega
theorem dueIdx_snoc {to : Int} {l : List Tim} {k : Nat} : ((List.range (k + 1)).filter fun j => isDue to (gt l j)).map (fun j : Nat => (j : Int)) =
    ((List.range k).filter fun j => isDue to (gt l j)).map (fun j : Nat => (j : Int)) ++ if isDue to (gt l k) = true then [(k : Int)] else [] := by
  rw [List.range_succ, List.filter_append, List.map_append]
  congr 1
  by_cases e : isDue to (gt l k) = true <;> simp [e]
def outs (to : Int) (l : List Tim) (k : Nat) : List Int := ((List.range k).filter fun j => isDue to (gt l j)).map fun j : Nat => (j : Int)
theorem outs_len (to : Int) (l : List Tim) (k : Nat) : (outs to l k).length ≤ k := by
  unfold outs
  rw [List.length_map]
  exact Nat.le_trans (List.length_filter_le _ _) (by simp)
def mids (to : Int) (l : List Tim) (k : Nat) : List Tim := (l.take k).map (expire to) ++ l.drop k
theorem mids_len (to : Int) (l : List Tim) (k : Nat) : (mids to l k).length = l.length := by simp [mids]; omega
theorem mids_at {to : Int} {l : List Tim} {k : Nat} (hk : k < l.length) : gt (mids to l k) k = gt l k := expire_at hk
theorem mids_same {to : Int} {l : List Tim} {k : Nat} (hk : k < l.length) (hd : isDue to (gt l k) = false) : mids to l (k + 1) = mids to l k := by
  have := expire_set (to := to) hk
  unfold mids
  rw [← this]
  have e : expire to (gt l k) = gt l k := by unfold expire; rw [if_neg (by simp [hd])]
  rw [e]
  apply List.ext_getElem (by simp)
  intro j h1 h2
  rw [List.getElem_set]
  split
  · rename_i q; subst q
    rw [gt_at (by simpa using h2), expire_at hk]
  · rfl
theorem mids_due {to : Int} {l : List Tim} {k : Nat} (hk : k < l.length) : mids to l (k + 1) = (mids to l k).set k (expire to (gt l k)) := (expire_set hk).symm
theorem outs_same {to : Int} {l : List Tim} {k : Nat} (hd : isDue to (gt l k) = false) : outs to l (k + 1) = outs to l k := by
  unfold outs; rw [dueIdx_snoc, if_neg (by simp [hd]), List.append_nil]
theorem outs_due {to : Int} {l : List Tim} {k : Nat} (hd : isDue to (gt l k) = true) : outs to l (k + 1) = outs to l k ++ [(k : Int)] := by
  unfold outs; rw [dueIdx_snoc, if_pos hd]
theorem c16 [GM g] {v : Value} {c : Clk} (s : ClkV g v c) (f : few c) (to : Int) : DetP Try.prog 16 [v, .int .i64 to] g fun v' h' => g <+: h' ∧
    AdvV h' v' (if advE c to ≠ 0 then ⟨0, []⟩ else ⟨to, c.timers.map (expire to)⟩) (if advE c to ≠ 0 then [] else dueIdx to c.timers) (advE c to) := by
  refine DetP.freeze ?_
  obtain ⟨x, rfl, s⟩ := s
  have lt := s.lt
  have hl := f.1
  have m := Mem.start g
  refine w16 ?_
  unfold n16
  refine box_a m fun i1 h1 z1 p1 m => ?_
  refine alloc_z m fun i2 h2 z2 p2 m => ?_
  ((with_reducible (refine mv_i ?_; refine mv_i ?_));
      (refine ldo_w (by assumption) (by infer_instance) (by with_unfolding_all rfl) ?_);
      (refine call_r (c48 ⟨_, by with_unfolding_all rfl, L.up (by assumption)⟩ (by assumption)) ?_);
      (with_reducible (refine mv_i ?_)))
  refine seq_J (fun xs h3 => h2 = h3 ∧ xs = [.int .i64 (advE c to)]) ?_ ?_
  · rintro _ _ ⟨rfl, rfl⟩
    generalize hE : advE c to = e
    (((with_reducible refine fun (_ : Tmps) => ?_); dsimp only [nth]);
        (with_reducible (refine mv_i ?_; refine neq_i (fun hc => ?_) (fun hc => ?_); refine cnd_f ?_));
        (refine ldo_w (by assumption) (by infer_instance) (by with_unfolding_all rfl) ?_);
        (rotate_left);
        (with_reducible (refine cnd_t ?_));
        (refine vk_i (bd24_z) ?_);
        (with_reducible (refine mv_i ?_));
        (refine st_w (by assumption) (by infer_instance) (by with_unfolding_all rfl) (by with_unfolding_all rfl) (by first | rfl | exact flat_ones (Flat.flat _)) (by infer_instance) fun h p m => ?_);
        (with_reducible (refine mv_i ?_; refine mv_i ?_));
        (refine rt_w1 (by assumption) (by infer_instance) (by with_unfolding_all rfl) ?_);
        (with_reducible (refine ret3 ?_));
        (rotate_left))
    · subst hc
      simp only [ne_eq, not_true, if_false]
      refine call_d (c50 ⟨_, rfl, s.up⟩ (by omega)) m fun y h3 p3 p4 _ ⟨y, o, ev, hs, hn⟩ => ?_
      subst ev
      have m := hn _ _ m
      obtain ⟨a, d, rfl⟩ := hs.isS
      ((refine st_w (by assumption) (by infer_instance) (by with_unfolding_all rfl) (by with_unfolding_all rfl) (by first | rfl | exact flat_ones (Flat.flat _)) (by infer_instance) fun h p m => ?_);
          (with_reducible (refine mv_i ?_; refine fao ?_));
          (refine sto (by assumption) (q := by infer_instance) (by with_unfolding_all exact Nat.le_of_ble_eq_true rfl) rfl rfl (u := by infer_instance) fun h p m => ?_);
          (with_reducible (refine mv_i ?_; refine fao ?_));
          (refine ldo (by assumption) (q := by infer_instance) (by with_unfolding_all rfl) ?_);
          (with_reducible (refine len_o (by assumption) ?_; refine mv_i ?_)))
      refine loop2 c.timers.length (fun k v h5 => Prec h h5 ∧ ∃ o2, IsSl v o2 (outs to c.timers k).length ∧ Mem g h5 [⟨o2, flat (outs to c.timers k), 1⟩, ⟨o, flat (mids to c.timers k), 6⟩, ⟨some i2, [.int .i64 0, .slice none 0 0], z2⟩, ⟨some i1, [.int .i64 to, .slice a c.timers.length d], z1⟩]) ⟨⟨Stab.refl h⟩, none, IsSl.nil, ?_⟩ ?_
      · have := m.nil 1
        simpa [outs, mids, flat] using this
      rintro k v h5 _ hk ⟨p5, o2, hv, m⟩
      have hml := mids_len to c.timers k
      have hol := outs_len to c.timers k
      have hs0 := hs
      have hs : IsSl (.slice a c.timers.length d) o (mids to c.timers k).length := by rw [hml]; exact hs
      by_cases hkl : k < c.timers.length
      · have hma := mids_at (to := to) hkl
        ((with_reducible (refine lss_i (fun hc => ?_) (fun hc => ?_); refine cnd_t ?_; refine seq_i ?_; refine mv_i ?_; refine mv_i ?_; refine fao ?_));
            (refine ldo (by assumption) (q := by infer_instance) (by with_unfolding_all rfl) ?_);
            (with_reducible (refine mv_i ?_));
            (refine idx_o (by assumption) (by omega) ?_);
            (with_reducible (refine mv_i ?_; refine mv_i ?_; refine nil_i ?_; refine fao_e ?_));
            (refine ldf_d (by assumption) (by infer_instance) (by with_unfolding_all rfl) (by omega) (by with_unfolding_all exact Nat.le_of_ble_eq_true rfl) (by with_unfolding_all rfl) ?_);
            (with_reducible (refine mv_i ?_; refine gd_st (fun hb => ?_) (fun hb => ?_); refine mv_i ?_; refine gd_ht (by assumption) ?_; refine nil_i ?_; refine gd_ht (by assumption) ?_; refine fao_e ?_; refine gd_ht (by assumption) ?_));
            (refine ldf_d (by assumption) (by infer_instance) (by with_unfolding_all rfl) (by omega) (by with_unfolding_all exact Nat.le_of_ble_eq_true rfl) (by with_unfolding_all rfl) ?_);
            (with_reducible (refine gd_ht (by assumption) ?_; refine mv_i ?_; refine gd_ht (by assumption) ?_; refine eql_i (fun hc => ?_) (fun hc => ?_); refine pick_h (by assumption) ?_; refine cnd_t ?_; refine mv_i ?_; refine mv_i ?_; refine nil_i ?_; refine fao_e ?_));
            (rotate_left);
            (with_reducible (refine pick_h (by assumption) ?_; refine cnd_f ?_));
            ((with_reducible refine fun (_ : Tmps) => ?_); dsimp only [nth]);
            (with_reducible (refine inc_i (by omega) ?_; refine mv_i ?_));
            (rotate_left);
            (with_reducible (refine gd_nt (by assumption) ?_; refine gd_nt (by assumption) ?_; refine gd_nt (by assumption) ?_; refine gd_nt (by assumption) ?_; refine gd_nt (by assumption) ?_; refine pick_n (by assumption) ?_; refine cnd_f ?_));
            ((with_reducible refine fun (_ : Tmps) => ?_); dsimp only [nth]);
            (with_reducible (refine inc_i (by omega) ?_; refine mv_i ?_));
            (rotate_left);
            (with_reducible (refine cnd_f ?_));
            (refine ldo_w (by assumption) (by infer_instance) (by with_unfolding_all rfl) ?_);
            (with_reducible (refine mv_i ?_));
            (refine st_w (by assumption) (by infer_instance) (by with_unfolding_all rfl) (by with_unfolding_all rfl) (by first | rfl | exact flat_ones (Flat.flat _)) (by infer_instance) fun h p m => ?_);
            (with_reducible (refine mv_i ?_; refine mv_i ?_));
            (refine rt_w1 (by assumption) (by infer_instance) (by with_unfolding_all rfl) ?_);
            (with_reducible (refine ret3 ?_));
            (rotate_left))
        all_goals (try (exfalso; omega))
        · rw [hma] at hb hc
          have hd : isDue to (gt c.timers k) = true := by simp [isDue, hb, hc]
          refine stf_d { gt c.timers k with running := false } m (by infer_instance) rfl (by omega) (by decide) rfl rfl (by rw [hma]; rfl) (by infer_instance) fun h p m => ?_
          ((with_reducible (refine nil_i ?_; refine fao_e ?_)))
          refine stf_d { gt c.timers k with running := false, expired := true } m (by infer_instance) rfl (by simp; omega) (by decide) rfl rfl (by rw [gt_set (by omega)]; rfl) (by infer_instance) fun h p m => ?_
          rw [List.set_set] at m
          ((with_reducible (refine mv_i ?_; refine mv_i ?_));
              (refine bs_g (bs33_1 _ _) (by assumption) fun i h p m => ?_))
          refine app_o m hv (by infer_instance) (by rw [flat_length]; rfl) (src_own m (q := by infer_instance) (n := 1) rfl (by decide) (by decide) rfl) ⟨by omega, by omega⟩ fun i h p m => ?_
          simp only [List.set_cons_succ, List.set_cons_zero] at m
          ((with_reducible (refine mv_i ?_));
              ((with_reducible refine fun (_ : Tmps) => ?_); dsimp only [nth]);
              (with_reducible (refine inc_i (by omega) ?_; refine mv_i ?_)))
          refine next2 hkl ⟨⟨Stb.st⟩, some i, ?_, ?_⟩
          · rw [outs_due hd, List.length_append]; exact IsSl.some0
          · have m := m.tail
            rw [outs_due hd, mids_due hkl, flat_snoc]
            have he : expire to (gt c.timers k) = { gt c.timers k with running := false, expired := true } := by unfold expire; rw [if_pos hd]
            rw [he]
            exact m
        · have hd : isDue to (gt c.timers k) = false := by rw [hma] at hb hc; simp [isDue, hc]
          exact next2 hkl ⟨⟨Stb.st⟩, o2, by rw [outs_same hd]; exact hv, by rw [outs_same hd, mids_same hkl hd]; exact m⟩
        · have hd : isDue to (gt c.timers k) = false := by rw [hma] at hb; simp [isDue, hb]
          exact next2 hkl ⟨⟨Stb.st⟩, o2, by rw [outs_same hd]; exact hv, by rw [outs_same hd, mids_same hkl hd]; exact m⟩
      · ((with_reducible (refine lss_i (fun hc => ?_) (fun hc => ?_); refine cnd_t ?_; refine seq_i ?_; refine mv_i ?_; refine mv_i ?_; refine fao ?_));
          (refine ldo (by assumption) (q := by infer_instance) (by with_unfolding_all rfl) ?_);
          (with_reducible (refine mv_i ?_));
          (refine idx_o (by assumption) (by omega) ?_);
          (with_reducible (refine mv_i ?_; refine mv_i ?_; refine nil_i ?_; refine fao_e ?_));
          (refine ldf_d (by assumption) (by infer_instance) (by with_unfolding_all rfl) (by omega) (by with_unfolding_all exact Nat.le_of_ble_eq_true rfl) (by with_unfolding_all rfl) ?_);
          (with_reducible (refine mv_i ?_; refine gd_st (fun hb => ?_) (fun hb => ?_); refine mv_i ?_; refine gd_ht (by assumption) ?_; refine nil_i ?_; refine gd_ht (by assumption) ?_; refine fao_e ?_; refine gd_ht (by assumption) ?_));
          (refine ldf_d (by assumption) (by infer_instance) (by with_unfolding_all rfl) (by omega) (by with_unfolding_all exact Nat.le_of_ble_eq_true rfl) (by with_unfolding_all rfl) ?_);
          (with_reducible (refine gd_ht (by assumption) ?_; refine mv_i ?_; refine gd_ht (by assumption) ?_; refine eql_i (fun hc => ?_) (fun hc => ?_); refine pick_h (by assumption) ?_; refine cnd_t ?_; refine mv_i ?_; refine mv_i ?_; refine nil_i ?_; refine fao_e ?_));
          (rotate_left);
          (with_reducible (refine pick_h (by assumption) ?_; refine cnd_f ?_));
          ((with_reducible refine fun (_ : Tmps) => ?_); dsimp only [nth]);
          (with_reducible (refine inc_i (by omega) ?_; refine mv_i ?_));
          (rotate_left);
          (with_reducible (refine gd_nt (by assumption) ?_; refine gd_nt (by assumption) ?_; refine gd_nt (by assumption) ?_; refine gd_nt (by assumption) ?_; refine gd_nt (by assumption) ?_; refine pick_n (by assumption) ?_; refine cnd_f ?_));
          ((with_reducible refine fun (_ : Tmps) => ?_); dsimp only [nth]);
          (with_reducible (refine inc_i (by omega) ?_; refine mv_i ?_));
          (rotate_left);
          (with_reducible (refine cnd_f ?_));
          (refine ldo_w (by assumption) (by infer_instance) (by with_unfolding_all rfl) ?_);
          (with_reducible (refine mv_i ?_));
          (refine st_w (by assumption) (by infer_instance) (by with_unfolding_all rfl) (by with_unfolding_all rfl) (by first | rfl | exact flat_ones (Flat.flat _)) (by infer_instance) fun h p m => ?_);
          (with_reducible (refine mv_i ?_; refine mv_i ?_));
          (refine rt_w1 (by assumption) (by infer_instance) (by with_unfolding_all rfl) ?_);
          (with_reducible (refine ret3 ?_));
          (rotate_left))
        all_goals first
          | (exfalso; omega)
          | (have hkk : k = c.timers.length := by omega
             have e1 : mids to c.timers k = c.timers.map (expire to) := by rw [hkk]; simp [mids]
             have e2 : outs to c.timers k = dueIdx to c.timers := by rw [hkk]; rfl
             rw [e1] at m
             rw [e2] at hv m
             refine ⟨m.pre, _, _, rfl, ?_, ?_⟩
             · exact IsSl.ro (xs := c.timers.map (expire to)) (by simpa using hs0) m (k := 1) rfl (by simp; omega)
             · exact IsSl.ro hv m (k := 0) rfl (by rw [← e2]; omega))
    · exact ⟨m.pre, _, _, by rw [if_pos hc], by rw [if_pos hc]; exact L.nil _, by rw [if_pos hc]; exact L.nil _⟩
  · intro k' hk
    ((refine ldo_w (by assumption) (by infer_instance) (by with_unfolding_all rfl) ?_);
        (refine call_r (c49 ⟨_, by with_unfolding_all rfl, L.up (by assumption)⟩) ?_);
        (with_reducible (refine mv_i ?_; refine mv_i ?_; refine neq_i (fun hc => ?_) (fun hc => ?_); refine mv_i ?_; refine cnd_f ?_; refine mv_i ?_; refine fao ?_));
        (refine ldo (by assumption) (q := by infer_instance) (by with_unfolding_all rfl) ?_);
        (refine call_r (c41 _ _ _) ?_);
        (with_reducible (refine not_s (fun hb => ?_) (fun hb => ?_); refine mv_i ?_; refine cnd_f ?_; refine mv_i ?_; refine geq_i (fun hc => ?_) (fun hc => ?_); refine mv_i ?_; refine gd_tt ?_; refine mv_i ?_; refine gd_tt ?_; refine mv_i ?_; refine gd_tt ?_; refine lss_i (fun hc => ?_) (fun hc => ?_); refine pick_t ?_; refine mv_i ?_; refine cnd_t ?_; refine mv_i ?_));
        (rotate_left);
        (with_reducible (refine pick_t ?_; refine mv_i ?_; refine cnd_f ?_));
        (rotate_left);
        (with_reducible (refine mv_i ?_; refine gd_ft ?_; refine gd_ft ?_; refine gd_ft ?_; refine pick_f ?_; refine mv_i ?_; refine cnd_f ?_));
        (rotate_left);
        (with_reducible (refine mv_i ?_; refine cnd_t ?_; refine mv_i ?_));
        (rotate_left);
        (with_reducible (refine mv_i ?_; refine cnd_t ?_));
        (rotate_left))
    all_goals exact hk _ _ ⟨rfl, by first | (simp [advE, *]; done) | (simp_all [advE]; done) | (simp_all [advE]; omega)⟩
end Go.Proofs.Ytalnnkpdpjmmkaa

set_option linter.unusedSimpArgs false
set_option linter.unusedVariables false
set_option maxRecDepth 100000
set_option maxHeartbeats 4000000
namespace Go.Proofs.Ytalnnkpdpjmmkaa
open Go.AM
variable {g : Heap}
theorem idxOf_spec (p : Tim → Bool) : ∀ (l : List Tim), (idxOf p l = -1 ∧ ∀ t ∈ l, p t = false) ∨ ∃ k, k < l.length ∧ idxOf p l = (k : Int) ∧ p (gt l k) = true ∧ ∀ j, j < k → p (gt l j) = false
  | [] => .inl ⟨rfl, fun t ht => by cases ht⟩
  | t :: l => by
    unfold idxOf
    by_cases e : p t = true
    · rw [if_pos e]
      exact .inr ⟨0, by simp, rfl, e, fun j hj => by omega⟩
    · rw [if_neg e]
      rcases idxOf_spec p l with ⟨e1, e2⟩ | ⟨k, h1, h2, h3, h4⟩
      · rw [e1, if_pos (by decide)]
        exact .inl ⟨rfl, fun u hu => by rcases List.mem_cons.mp hu with rfl | hu; simpa using e; exact e2 u hu⟩
      · rw [h2, if_neg (by omega)]
        refine .inr ⟨k + 1, by simpa using h1, by push_cast; rfl, h3, fun j hj => ?_⟩
        cases j with
        | zero => simpa [gt] using e
        | succ j => exact h4 j (by omega)
noncomputable def readV (c : Clk) (o : Int) (n : ByteArray) : Int × Int :=
  if namE c o n ≠ 0 then (0, namE c o n)
  else if (gt c.timers (idxOf (isT o n) c.timers).toNat).running = true then (c.now - (gt c.timers (idxOf (isT o n) c.timers).toNat).since, 0) else (0, 0)
theorem namE_zero {c : Clk} {o : Int} {n : ByteArray} (h0 : namE c o n = 0) : (chk c).2 = 0 ∧ ownE o = 0 ∧ nameE n = 0 ∧ 0 ≤ idxOf (isT o n) c.timers ∧ (idxOf (isT o n) c.timers).toNat < c.timers.length := by
  unfold namE at h0
  by_cases h1 : orOf [(chk c).2, ownE o, nameE n] = 0
  · have hz := orOf_zero.mp h1
    rw [if_neg (by simpa using h1)] at h0
    split at h0
    · cases h0
    · have hs := idxOf_spec (isT o n) c.timers
      refine ⟨hz _ (by simp), hz _ (by simp), hz _ (by simp), by omega, ?_⟩
      rcases hs with ⟨e, _⟩ | ⟨k, e1, e2, _⟩ <;> omega
  · rw [if_pos h1] at h0
    exact absurd h0 h1
theorem stE_zero {now : Int} {t : Tim} (h0 : stE now t = 0) (hr : t.running = true) : 0 ≤ t.since ∧ t.since ≤ now := by
  unfold stE at h0
  split at h0
  · cases h0
  · split at h0
    · simp_all
    · split at h0
      · cases h0
      · rename_i q
        simp only [not_or, Classical.not_not] at q
        exact q.1
theorem chk_zero {c : Clk} (h0 : (chk c).2 = 0) : (0 ≤ c.now ∧ c.now ≤ 1099511627776) ∧ c.timers.length ≤ 24 ∧ ∀ j, j < c.timers.length → tmE c j = 0 := by
  unfold chk at h0
  split at h0
  · cases h0
  · rename_i h1
    split at h0
    · cases h0
    · exact ⟨by simpa using h1, by omega, firstErr_zero h0⟩
theorem tmE_zero {c : Clk} {k : Nat} (h0 : tmE c k = 0) : ownE (gt c.timers k).owner = 0 ∧ nameE (gt c.timers k).name = 0 ∧ (0 < k → less (gt c.timers (k - 1)) (gt c.timers k) = true) ∧ stE c.now (gt c.timers k) = 0 := by
  unfold tmE at h0
  split at h0
  · contradiction
  · split at h0
    · contradiction
    · split at h0
      · cases h0
      · rename_i a b d
        exact ⟨by simpa using a, by simpa using b, fun hk => by simpa [hk] using d, h0⟩
theorem c31 [GM g] {v : Value} {c : Clk} (s : ClkV g v c) (f : few c) (o : Int) (n : ByteArray) (hn : n.size ≤ 60) : Runs Try.prog 31 [v, .int .i64 o, .string n] g (.tuple #[.int .i64 (readV c o n).1, .int .i64 (readV c o n).2]) g := by
  obtain ⟨x, rfl, s⟩ := s
  have m := Mem.start g
  refine DetP.forget rfl ?_
  refine w31 ?_
  unfold n31
  ((with_reducible (refine box_a (by assumption) fun i h z p m => ?_; refine mv_i ?_; refine mv_i ?_));
      (refine ldo_w (by assumption) (by infer_instance) (by with_unfolding_all rfl) ?_);
      (with_reducible (refine mv_i ?_; refine mv_i ?_));
      (refine call_r (c55 ⟨_, by with_unfolding_all rfl, L.up (by assumption)⟩ (by assumption) _ _ (by assumption)) ?_);
      (with_reducible (refine mv_i ?_; refine mv_i ?_; refine neq_i (fun hc => ?_) (fun hc => ?_); refine cnd_f ?_; refine fao ?_));
      (refine ldo (by assumption) (q := by infer_instance) (by with_unfolding_all rfl) ?_);
      (with_reducible (refine vb_l (by assumption) ?_));
      (refine ldo_w (by assumption) (by infer_instance) (by with_unfolding_all rfl) ?_);
      (refine vb_as rfl (by assumption) ?_);
      (with_reducible (refine mv_i ?_; refine mv_i ?_));
      (refine calld_r (c56 ⟨_, by with_unfolding_all rfl, L.up (by assumption)⟩ _ _) ?_);
      (with_reducible (refine new_n ?_));
      (rotate_left);
      (with_reducible (refine cnd_t ?_; refine mv_i ?_; refine mv_i ?_; refine mv_i ?_; refine ret2 ?_));
      (rotate_left))
  · have hz := namE_zero hc
    have hz2 := hz.2.2.2.1
    have hz3 := hz.2.2.2.2
    have hn0 : namE c o n = 0 := hc
    have hnow := (chk_zero hz.1).1
    ((refine idx_dz (by assumption) (by with_unfolding_all rfl) (by omega) (by omega) fun p hp => ?_);
        (refine ldr_w (by assumption) (by with_unfolding_all rfl) ?_);
        (with_reducible (refine vb_f ?_; refine alloc_z (by assumption) fun i h z p m => ?_));
        (refine st_w (by assumption) (by infer_instance) (by with_unfolding_all rfl) (by with_unfolding_all rfl) (by first | rfl | exact flat_ones (Flat.flat _)) (by infer_instance) fun h p m => ?_);
        (with_reducible (refine ⟨trivial, ?_⟩; refine fao ?_));
        (refine ldo (by assumption) (q := by infer_instance) (by with_unfolding_all rfl) ?_);
        (with_reducible (refine cnd_b (fun hb => ?_) (fun hb => ?_); refine fao ?_));
        (refine ldo (by assumption) (q := by infer_instance) (by with_unfolding_all rfl) ?_);
        (with_reducible (refine fao ?_));
        (refine ldo (by assumption) (q := by infer_instance) (by with_unfolding_all rfl) ?_);
        (rotate_left);
        (with_reducible (refine mv_i ?_; refine mv_i ?_; refine ret2 ?_));
        (rotate_left))
    · have hst := stE_zero (tmE_zero ((chk_zero hz.1).2.2 _ hz3)).2.2.2 hb
      refine sub_j (by omega) (by omega) ?_
      ((with_reducible (refine mv_i ?_; refine mv_i ?_; refine ret2 ?_)))
      exact ⟨by simp [readV, *], Mem.pre (by assumption)⟩
    · exact ⟨by simp [readV, *], Mem.pre (by assumption)⟩
  · exact ⟨by rw [readV, if_pos hc], m.pre⟩
end Go.Proofs.Ytalnnkpdpjmmkaa

set_option linter.unusedSimpArgs false
set_option linter.unusedVariables false
set_option maxRecDepth 100000
set_option maxHeartbeats 4000000
namespace Go.Proofs.Ytalnnkpdpjmmkaa
open Go.AM
variable {g : Heap}
def fits (o : Int) (n : ByteArray) (t : Tim) : Prop := t.owner = o ∧ t.expired = true ∧ (n = ⟨#[]⟩ ∨ t.name = n)
open Classical in
/-- The first that is due first. -/
noncomputable def tkAt (o : Int) (n : ByteArray) (l : List Tim) : Nat → Int
  | 0 => -1
  | k + 1 => if fits o n (gt l k) ∧ (tkAt o n l k < 0 ∨ (gt l k).due < (gt l (tkAt o n l k).toNat).due) then (k : Int) else tkAt o n l k
theorem tk_yes {o : Int} {n : ByteArray} {l : List Tim} {k : Nat} (h1 : (gt l k).owner = o) (h2 : (gt l k).expired = true) (h3 : n = ⟨#[]⟩ ∨ (gt l k).name = n) (h4 : tkAt o n l k < 0 ∨ (gt l k).due < (gt l (tkAt o n l k).toNat).due) : tkAt o n l (k + 1) = k := by
  rw [tkAt, if_pos ⟨⟨h1, h2, h3⟩, h4⟩]
theorem tk_no {o : Int} {n : ByteArray} {l : List Tim} {k : Nat} (h : ¬ (fits o n (gt l k) ∧ (tkAt o n l k < 0 ∨ (gt l k).due < (gt l (tkAt o n l k).toNat).due))) : tkAt o n l (k + 1) = tkAt o n l k := by
  rw [tkAt, if_neg h]
theorem tkAt_lt (o : Int) (n : ByteArray) (l : List Tim) : ∀ k, -1 ≤ tkAt o n l k ∧ tkAt o n l k < k
  | 0 => by simp [tkAt]
  | k + 1 => by
    have := tkAt_lt o n l k
    unfold tkAt
    split <;> omega
noncomputable def takE (c : Clk) (o : Int) (n : ByteArray) : Int := if anyE c o n ≠ 0 then anyE c o n else if tkAt o n c.timers c.timers.length < 0 then 23 else 0
def TakV (h : Heap) (v : Value) (c : Clk) (s : ByteArray) (e : Int) : Prop := ∃ x, v = .tuple #[.agg #[.int .i64 c.now, x], .string s, .int .i64 e] ∧ L h x c.timers
theorem c24 [GM g] {v : Value} {c : Clk} (s : ClkV g v c) (f : few c) (o : Int) (n : ByteArray) (hn : n.size ≤ 60) : DetP Try.prog 24 [v, .int .i64 o, .string n] g fun v' h' => g <+: h' ∧
    TakV h' v' (if takE c o n ≠ 0 then ⟨0, []⟩ else ⟨c.now, c.timers.set (tkAt o n c.timers c.timers.length).toNat (idle (gt c.timers (tkAt o n c.timers c.timers.length).toNat))⟩)
      (if takE c o n ≠ 0 then ⟨#[]⟩ else (gt c.timers (tkAt o n c.timers c.timers.length).toNat).name) (takE c o n) := by
  refine DetP.freeze ?_
  obtain ⟨x, rfl, s⟩ := s
  have lt := s.lt
  have hl := f.1
  have m := Mem.start g
  refine w24 ?_
  unfold n24
  refine box_a m fun i1 h1 z1 p1 m => ?_
  refine alloc_z m fun i2 h2 z2 p2 m => ?_
  ((with_reducible (refine mv_i ?_; refine mv_i ?_));
      (refine ldo_w (by assumption) (by infer_instance) (by with_unfolding_all rfl) ?_);
      (with_reducible (refine mv_i ?_; refine mv_i ?_));
      (refine call_r (c52 ⟨_, by with_unfolding_all rfl, L.up (by assumption)⟩ (by assumption) _ _ (by assumption)) ?_);
      (with_reducible (refine mv_i ?_; refine mv_i ?_; refine neq_i (fun hc => ?_) (fun hc => ?_); refine cnd_f ?_; refine mv_i ?_; refine fao ?_));
      (refine ldo (by assumption) (q := by infer_instance) (by with_unfolding_all rfl) ?_);
      (with_reducible (refine len_g (by assumption) ?_; refine mv_i ?_));
      (rotate_left);
      (with_reducible (refine cnd_t ?_));
      (refine vk_i (bd24_z) ?_);
      (with_reducible (refine mv_i ?_));
      (refine st_w (by assumption) (by infer_instance) (by with_unfolding_all rfl) (by with_unfolding_all rfl) (by first | rfl | exact flat_ones (Flat.flat _)) (by infer_instance) fun h p m => ?_);
      (with_reducible (refine mv_i ?_; refine mv_i ?_));
      (refine rt_w1 (by assumption) (by infer_instance) (by with_unfolding_all rfl) ?_);
      (with_reducible (refine ret3 ?_));
      (rotate_left))
  · refine loop2 c.timers.length (fun k v h3 => Prec h2 h3 ∧ Mem g h3 [⟨some i2, [.int .i64 0, .slice none 0 0], z2⟩, ⟨some i1, [.int .i64 c.now, x], z1⟩] ∧ v = .int .i64 (tkAt o n c.timers k)) ⟨⟨Stab.refl h2⟩, m, rfl⟩ ?_
    rintro k _ h3 _ hk ⟨p3, m, rfl⟩
    have hb2 := tkAt_lt o n c.timers k
    ((with_reducible (refine lss_i (fun hc => ?_) (fun hc => ?_); refine cnd_t ?_; refine seq_i ?_; refine mv_i ?_));
        (refine idx_d (by assumption) (by with_unfolding_all rfl) (by omega) fun p hp => ?_);
        (refine ldr_w (by assumption) (by with_unfolding_all rfl) ?_);
        (with_reducible (refine alloc_z (by assumption) fun i h z p m => ?_; refine mv_i ?_));
        (refine st_w (by assumption) (by infer_instance) (by with_unfolding_all rfl) (by with_unfolding_all rfl) (by first | rfl | exact flat_ones (Flat.flat _)) (by infer_instance) fun h p m => ?_);
        (with_reducible (refine fao ?_));
        (refine ldo (by assumption) (q := by infer_instance) (by with_unfolding_all rfl) ?_);
        (refine vb_n (by with_unfolding_all rfl) ?_);
        (with_reducible (refine mv_i ?_; refine eql_i (fun hc => ?_) (fun hc => ?_); refine mv_i ?_; refine gd_tt ?_; refine fao ?_; refine gd_tt ?_));
        (refine ldo (by assumption) (q := by infer_instance) (by with_unfolding_all rfl) ?_);
        (refine vb_n (by with_unfolding_all rfl) ?_);
        (with_reducible (refine pick_t ?_; refine mv_i ?_; refine gd_st (fun hb => ?_) (fun hb => ?_); refine mv_i ?_; refine gd_ht (by assumption) ?_; refine seq_s (fun hc => ?_) (fun hc => ?_); refine gd_ht (by assumption) ?_; refine mv_i ?_; refine gd_tf ?_; refine gd_tf ?_; refine gd_tf ?_; refine gd_tf ?_; refine gd_ht (by assumption) ?_; refine pick_t ?_; refine pick_h (by assumption) ?_; refine mv_i ?_; refine gd_tt ?_; refine mv_i ?_; refine gd_tt ?_; refine lss_i (fun hc => ?_) (fun hc => ?_); refine gd_tt ?_; refine mv_i ?_; refine gd_tf ?_; refine gd_tf ?_; refine gd_tf ?_; refine gd_tf ?_; refine gd_tf ?_; refine gd_tf ?_; refine gd_tf ?_; refine gd_tf ?_; refine gd_tf ?_; refine gd_tt ?_; refine pick_t ?_; refine pick_t ?_; refine cnd_t ?_; refine mv_i ?_; refine mv_i ?_));
        ((with_reducible refine fun (_ : Tmps) => ?_); dsimp only [nth]);
        (with_reducible (refine inc_i (by omega) ?_; refine mv_i ?_));
        (rotate_left);
        (with_reducible (refine gd_tt ?_; refine mv_i ?_; refine gd_ff ?_; refine fao ?_; refine gd_ff ?_));
        (refine ldo (by assumption) (q := by infer_instance) (by with_unfolding_all rfl) ?_);
        (refine vb_n (by with_unfolding_all rfl) ?_);
        (with_reducible (refine gd_ff ?_; refine fao ?_; refine gd_ff ?_));
        (refine ldo (by assumption) (q := by infer_instance) (by with_unfolding_all rfl) ?_);
        (with_reducible (refine vb_l (by assumption) ?_; refine gd_ff ?_; refine mv_i ?_; refine gd_ff ?_));
        (refine idx_dz (by assumption) (by with_unfolding_all rfl) (by omega) (by omega) fun p hp => ?_);
        (with_reducible (refine gd_ff ?_; refine fa_g (by assumption) fun p hp => ?_; refine gd_ff ?_));
        (refine ld_g (by assumption) (by with_unfolding_all rfl) ?_);
        (refine vb_n (by with_unfolding_all rfl) ?_);
        (with_reducible (refine gd_ff ?_; refine lss_i (fun hc => ?_) (fun hc => ?_); refine gd_tt ?_; refine pick_f ?_; refine pick_t ?_; refine cnd_t ?_; refine mv_i ?_; refine mv_i ?_));
        ((with_reducible refine fun (_ : Tmps) => ?_); dsimp only [nth]);
        (with_reducible (refine inc_i (by omega) ?_; refine mv_i ?_));
        (rotate_left);
        (with_reducible (refine gd_tt ?_; refine pick_f ?_; refine pick_t ?_; refine cnd_f ?_));
        ((with_reducible refine fun (_ : Tmps) => ?_); dsimp only [nth]);
        (with_reducible (refine inc_i (by omega) ?_; refine mv_i ?_));
        (rotate_left);
        (with_reducible (refine gd_ht (by assumption) ?_; refine mv_i ?_; refine gd_ff ?_; refine fao ?_; refine gd_ff ?_));
        (refine ldo (by assumption) (q := by infer_instance) (by with_unfolding_all rfl) ?_);
        (refine vb_n (by with_unfolding_all rfl) ?_);
        (with_reducible (refine gd_ff ?_; refine mv_i ?_; refine gd_ff ?_; refine seq_s (fun hc => ?_) (fun hc => ?_); refine gd_ht (by assumption) ?_; refine pick_f ?_; refine pick_h (by assumption) ?_; refine mv_i ?_; refine gd_tt ?_; refine mv_i ?_; refine gd_tt ?_; refine lss_i (fun hc => ?_) (fun hc => ?_); refine gd_tt ?_; refine mv_i ?_; refine gd_tf ?_; refine gd_tf ?_; refine gd_tf ?_; refine gd_tf ?_; refine gd_tf ?_; refine gd_tf ?_; refine gd_tf ?_; refine gd_tf ?_; refine gd_tf ?_; refine gd_tt ?_; refine pick_t ?_; refine pick_t ?_; refine cnd_t ?_; refine mv_i ?_; refine mv_i ?_));
        ((with_reducible refine fun (_ : Tmps) => ?_); dsimp only [nth]);
        (with_reducible (refine inc_i (by omega) ?_; refine mv_i ?_));
        (rotate_left);
        (with_reducible (refine gd_tt ?_; refine mv_i ?_; refine gd_ff ?_; refine fao ?_; refine gd_ff ?_));
        (refine ldo (by assumption) (q := by infer_instance) (by with_unfolding_all rfl) ?_);
        (refine vb_n (by with_unfolding_all rfl) ?_);
        (with_reducible (refine gd_ff ?_; refine fao ?_; refine gd_ff ?_));
        (refine ldo (by assumption) (q := by infer_instance) (by with_unfolding_all rfl) ?_);
        (with_reducible (refine vb_l (by assumption) ?_; refine gd_ff ?_; refine mv_i ?_; refine gd_ff ?_));
        (refine idx_dz (by assumption) (by with_unfolding_all rfl) (by omega) (by omega) fun p hp => ?_);
        (with_reducible (refine gd_ff ?_; refine fa_g (by assumption) fun p hp => ?_; refine gd_ff ?_));
        (refine ld_g (by assumption) (by with_unfolding_all rfl) ?_);
        (refine vb_n (by with_unfolding_all rfl) ?_);
        (with_reducible (refine gd_ff ?_; refine lss_i (fun hc => ?_) (fun hc => ?_); refine gd_tt ?_; refine pick_f ?_; refine pick_t ?_; refine cnd_t ?_; refine mv_i ?_; refine mv_i ?_));
        ((with_reducible refine fun (_ : Tmps) => ?_); dsimp only [nth]);
        (with_reducible (refine inc_i (by omega) ?_; refine mv_i ?_));
        (rotate_left);
        (with_reducible (refine gd_tt ?_; refine pick_f ?_; refine pick_t ?_; refine cnd_f ?_));
        ((with_reducible refine fun (_ : Tmps) => ?_); dsimp only [nth]);
        (with_reducible (refine inc_i (by omega) ?_; refine mv_i ?_));
        (rotate_left);
        (with_reducible (refine gd_ht (by assumption) ?_; refine pick_f ?_; refine pick_h (by assumption) ?_; refine mv_i ?_; refine gd_ft ?_; refine gd_ft ?_; refine gd_ft ?_; refine gd_u ?_; refine gd_u ?_; refine gd_u ?_; refine gd_u ?_; refine gd_u ?_; refine gd_u ?_; refine gd_u ?_; refine gd_u ?_; refine gd_u ?_; refine gd_ft ?_; refine pick_f ?_; refine cnd_f ?_));
        ((with_reducible refine fun (_ : Tmps) => ?_); dsimp only [nth]);
        (with_reducible (refine inc_i (by omega) ?_; refine mv_i ?_));
        (rotate_left);
        (with_reducible (refine gd_nt (by assumption) ?_; refine gd_nt (by assumption) ?_; refine gd_u ?_; refine gd_u ?_; refine gd_u ?_; refine gd_u ?_; refine gd_nt (by assumption) ?_; refine pick_n (by assumption) ?_; refine mv_i ?_; refine gd_ft ?_; refine gd_ft ?_; refine gd_ft ?_; refine gd_u ?_; refine gd_u ?_; refine gd_u ?_; refine gd_u ?_; refine gd_u ?_; refine gd_u ?_; refine gd_u ?_; refine gd_u ?_; refine gd_u ?_; refine gd_ft ?_; refine pick_f ?_; refine cnd_f ?_));
        ((with_reducible refine fun (_ : Tmps) => ?_); dsimp only [nth]);
        (with_reducible (refine inc_i (by omega) ?_; refine mv_i ?_));
        (rotate_left);
        (with_reducible (refine mv_i ?_; refine gd_ft ?_; refine gd_ft ?_; refine pick_f ?_; refine mv_i ?_; refine gd_ft ?_; refine gd_ft ?_; refine gd_ft ?_; refine gd_u ?_; refine gd_u ?_; refine gd_u ?_; refine gd_u ?_; refine gd_ft ?_; refine pick_f ?_; refine mv_i ?_; refine gd_ft ?_; refine gd_ft ?_; refine gd_ft ?_; refine gd_u ?_; refine gd_u ?_; refine gd_u ?_; refine gd_u ?_; refine gd_u ?_; refine gd_u ?_; refine gd_u ?_; refine gd_u ?_; refine gd_u ?_; refine gd_ft ?_; refine pick_f ?_; refine cnd_f ?_));
        ((with_reducible refine fun (_ : Tmps) => ?_); dsimp only [nth]);
        (with_reducible (refine inc_i (by omega) ?_; refine mv_i ?_));
        (rotate_left);
        (with_reducible (refine cnd_f ?_; refine mv_i ?_; refine lss_i (fun hc => ?_) (fun hc => ?_); refine cnd_t ?_));
        (refine vk_i (bd24_z) ?_);
        (refine st_w (by assumption) (by infer_instance) (by with_unfolding_all rfl) (by with_unfolding_all rfl) (by first | rfl | exact flat_ones (Flat.flat _)) (by infer_instance) fun h p m => ?_);
        (with_reducible (refine mv_i ?_; refine mv_i ?_));
        (refine rt_w1 (by assumption) (by infer_instance) (by with_unfolding_all rfl) ?_);
        (with_reducible (refine ret3 ?_));
        (rotate_left);
        (with_reducible (refine cnd_f ?_));
        (refine ldo_w (by assumption) (by infer_instance) (by with_unfolding_all rfl) ?_);
        (rotate_left))
    all_goals first
      | (refine next2 (by omega) ⟨⟨Stb.st⟩, m.tail, ?_⟩
         first
           | rw [tk_yes (by assumption) (by assumption) (by first | exact .inl (by assumption) | exact .inr (by assumption)) (by first | exact .inl (by assumption) | exact .inr (by assumption))]
           | (rw [tk_no]
              rintro ⟨⟨a, b, d⟩, e⟩
              first
                | contradiction
                | (rcases d with d | d <;> contradiction)
                | (rcases e with e | e <;> contradiction)
                | (simp_all; done)))
      | skip
    · have e : takE c o n = 23 := by
        have hkk : k = c.timers.length := by omega
        subst hkk
        simp [takE, *]
      rw [e]
      exact ⟨m.pre, _, rfl, L.nil _⟩
    · have hkk : k = c.timers.length := by omega
      subst hkk
      have e : takE c o n = 0 := by simp [takE, *]
      rw [e]
      simp only [ne_eq, not_true, if_false]
      obtain ⟨q, hq⟩ : ∃ q : Nat, tkAt o n c.timers c.timers.length = (q : Int) := ⟨(tkAt o n c.timers c.timers.length).toNat, by omega⟩
      rw [hq] at hb2 ⊢
      have hql : q < c.timers.length := by omega
      rw [Int.toNat_natCast]
      refine call_d (c50 ⟨_, rfl, s.up⟩ (by omega)) m fun y h4 p4 p5 _ ⟨y, o2, ev, hs, hn⟩ => ?_
      subst ev
      have m := hn _ _ m
      obtain ⟨a, d, rfl⟩ := hs.isS
      ((refine st_w (by assumption) (by infer_instance) (by with_unfolding_all rfl) (by with_unfolding_all rfl) (by first | rfl | exact flat_ones (Flat.flat _)) (by infer_instance) fun h p m => ?_);
          (with_reducible (refine fao ?_));
          (refine ldo (by assumption) (q := by infer_instance) (by with_unfolding_all rfl) ?_);
          (with_reducible (refine mv_i ?_));
          (refine idx_o (by assumption) (by omega) ?_);
          (with_reducible (refine mv_i ?_; refine mv_i ?_; refine mv_i ?_; refine nil_i ?_; refine fao_e ?_));
          (refine ldf_d (by assumption) (by infer_instance) (by with_unfolding_all rfl) (by omega) (by with_unfolding_all exact Nat.le_of_ble_eq_true rfl) (by with_unfolding_all rfl) ?_);
          (refine vb_n (by with_unfolding_all rfl) ?_);
          (with_reducible (refine mv_i ?_; refine nil_i ?_; refine fao_e ?_));
          (refine ldf_d (by assumption) (by infer_instance) (by with_unfolding_all rfl) (by omega) (by with_unfolding_all exact Nat.le_of_ble_eq_true rfl) (by with_unfolding_all rfl) ?_);
          (refine vb_n (by with_unfolding_all rfl) ?_);
          (refine vk_i (bd44_01 _ _) ?_);
          (with_reducible (refine nil_i ?_));
          (refine stw_o (by assumption) (by infer_instance) (by with_unfolding_all rfl) (by omega) (by infer_instance) fun h p m => ?_);
          (with_reducible (refine ⟨trivial, ?_⟩));
          (refine ldo_w (by assumption) (by infer_instance) (by with_unfolding_all rfl) ?_);
          (refine vb_ao rfl (by assumption) (by assumption) (by infer_instance) ?_);
          (with_reducible (refine mv_i ?_; refine nil_i ?_; refine fao_e ?_)))
      refine ldf_d m (by infer_instance) rfl (by simpa using hql) (by decide) (by rw [gt_set hql]; rfl) ?_
      ((refine vb_n (by with_unfolding_all rfl) ?_);
          (refine st_w (by assumption) (by infer_instance) (by with_unfolding_all rfl) (by with_unfolding_all rfl) (by first | rfl | exact flat_ones (Flat.flat _)) (by infer_instance) fun h p m => ?_))
      refine pd_e m (by infer_instance) rfl (by simpa using hql) (by decide) (by rw [gt_set hql]; rfl) ?_
      ((with_reducible (refine ⟨trivial, ?_⟩; refine mv_i ?_; refine mv_i ?_));
          (refine rt_w1 (by assumption) (by infer_instance) (by with_unfolding_all rfl) ?_);
          (with_reducible (refine ret3 ?_)))
      refine ⟨m.pre, _, rfl, ?_⟩
      exact IsSl.ro (xs := c.timers.set q (idle (gt c.timers q))) (by simpa using hs) m (k := 0) rfl (by simp; omega)
  · have e : takE c o n = anyE c o n := by rw [takE, if_pos hc]
    rw [e]
    exact ⟨m.pre, _, by rw [if_pos hc, if_pos hc], by rw [if_pos hc]; exact L.nil _⟩
end Go.Proofs.Ytalnnkpdpjmmkaa

set_option linter.unusedSimpArgs false
set_option linter.unusedVariables false
set_option maxRecDepth 100000
set_option maxHeartbeats 4000000
namespace Go.Proofs.Ytalnnkpdpjmmkaa
open Go.AM
variable {g : Heap}
theorem c21 {x y : Value} {xs ys : List Int} (s : IntS g x xs) (t : IntS g y ys) : Runs Try.prog 21 [x, y] g (.bool (decide (xs = ys))) g := by
  have lt := s.lt
  have lt2 := t.lt
  refine DetP.runs (w21 ?_)
  unfold n21
  ((with_reducible (refine mv_i ?_; refine mv_i ?_; refine leni_t (by assumption) ?_; refine mv_i ?_; refine leni_t (by assumption) ?_; refine neq_i (fun hc => ?_) (fun hc => ?_); refine cnd_f ?_; refine mv_i ?_));
      (rotate_left);
      (with_reducible (refine cnd_t ?_; refine mv_i ?_; refine ret1 ?_));
      (rotate_left))
  · refine loop1 xs.length (fun k h2 => g = h2 ∧ ∀ j, j < k → xs.getD j 0 = ys.getD j 0) ⟨rfl, fun j hj => by omega⟩ ?_
    rintro k _ _ hk ⟨rfl, hJ⟩
    ((with_reducible (refine mv_i ?_; refine mv_i ?_; refine leni_t (by assumption) ?_; refine lss_i (fun hc => ?_) (fun hc => ?_); refine cnd_t ?_; refine mv_i ?_; refine mv_i ?_));
        (refine idxi_t (by assumption) (by omega) ?_);
        (refine ldi_t (by assumption) (by omega) ?_);
        (refine vb_n (by with_unfolding_all rfl) ?_);
        (with_reducible (refine mv_i ?_; refine mv_i ?_));
        (refine idxi_t (by assumption) (by omega) ?_);
        (refine ldi_t (by assumption) (by omega) ?_);
        (refine vb_n (by with_unfolding_all rfl) ?_);
        (with_reducible (refine neq_i (fun hc => ?_) (fun hc => ?_); refine cnd_f ?_; refine mv_i ?_; refine inc_i (by omega) ?_; refine mv_i ?_));
        (rotate_left);
        (with_reducible (refine cnd_t ?_; refine mv_i ?_; refine ret1 ?_));
        (rotate_left);
        (with_reducible (refine cnd_f ?_; refine mv_i ?_; refine ret1 ?_));
        (rotate_left))
    · refine next1 (by omega) ⟨rfl, fun j hj => ?_⟩
      by_cases q : j = k
      · subst q; assumption
      · exact hJ j (by omega)
    · refine ⟨?_, rfl⟩
      rw [decide_eq_false]
      rintro rfl
      exact hc rfl
    · refine ⟨?_, rfl⟩
      rw [decide_eq_true]
      apply List.ext_getElem (by omega)
      intro j h1 h2
      have := hJ j (by omega)
      simpa [List.getD, h1, h2] using this
  · exact ⟨by rw [decide_eq_false]; rintro rfl; exact hc rfl, rfl⟩
def nA : ByteArray := ⟨#[97]⟩
def nB : ByteArray := ⟨#[98]⟩
def tA : Tim := ⟨1, nA, 0, 5, true, false⟩
def tB : Tim := ⟨1, nB, 0, 3, true, false⟩
def two : Clk := ⟨0, [tA, tB]⟩
theorem c40 : DetP Try.prog 40 [] g fun v h' => g <+: h' ∧ ClkV h' v two := by
  refine DetP.freeze ?_
  have m := Mem.start g
  refine w40 ?_
  unfold n40
  ((with_reducible (refine alloc_z (by assumption) fun i h z p m => ?_));
      (refine vk_i (bd44_0134 _ _ _ _) ?_);
      (refine vk_i (bd44_0134 _ _ _ _) ?_);
      (refine bs_g (bs22_2 _ _ _) (by assumption) fun i h p m => ?_);
      (refine vk_i (bd24_1 _ _ _) ?_);
      (refine st_w (by assumption) (by infer_instance) (by with_unfolding_all rfl) (by with_unfolding_all rfl) (by first | rfl | exact flat_ones (Flat.flat _)) (by infer_instance) fun h p m => ?_);
      (refine rt_w1 (by assumption) (by infer_instance) (by with_unfolding_all rfl) ?_);
      (with_reducible (refine ret1 ?_)))
  exact ⟨m.pre, _, rfl, ret_flat (xs := [tA, tB]) (k := 0) m rfl (by decide) (.inr (by decide))⟩
theorem name_a : nameE nA = 0 := by
  unfold nameE
  rw [if_pos]
  exact ⟨by decide, by decide, by decide, by decide, fun i h1 h2 => by have : nA.size = 1 := rfl; omega⟩
theorem name_b : nameE nB = 0 := by
  unfold nameE
  rw [if_pos]
  exact ⟨by decide, by decide, by decide, by decide, fun i h1 h2 => by have : nB.size = 1 := rfl; omega⟩
theorem less_ab (x y : Tim) (h1 : x.owner = 1) (h2 : y.owner = 1) (h3 : x.name = nA) (h4 : y.name = nB) : less x y = true := by
  unfold less
  rw [h1, h2, h3, h4, ByteArray.toList_eq, ByteArray.toList_eq]
  decide
theorem chk_ab {c : Clk} {x y : Tim} (hc : c.timers = [x, y]) (hn : 0 ≤ c.now ∧ c.now ≤ 1099511627776) (h1 : x.owner = 1) (h2 : y.owner = 1) (h3 : x.name = nA) (h4 : y.name = nB) (h5 : stE c.now x = 0) (h6 : stE c.now y = 0) : (chk c).2 = 0 := by
  have e0 : tmE c 0 = 0 := by
    unfold tmE
    rw [hc]
    simp [gt, h1, h3, name_a, ownE, h5]
  have e1 : tmE c 1 = 0 := by
    unfold tmE
    rw [hc]
    simp [gt, h1, h2, h3, h4, name_b, ownE, h6, less_ab x y h1 h2 h3 h4]
  unfold chk
  rw [if_neg (by simpa using hn), hc]
  simp [firstErr, e0, e1]
theorem chk_two : (chk two).2 = 0 := chk_ab (x := tA) (y := tB) rfl (by decide) rfl rfl rfl rfl (by decide) (by decide)
theorem few_two : few two := ⟨by decide, fun t ht => by
  have : t = tA ∨ t = tB := by simpa [two] using ht
  rcases this with rfl | rfl <;> decide⟩
def tB2 : Tim := ⟨1, nB, 0, 3, false, true⟩
def tB3 : Tim := ⟨1, nB, 0, 0, false, false⟩
theorem adv_two : advE two 3 = 0 := by
  unfold advE
  rw [if_neg (by simp [chk_two]), if_neg (by decide), if_neg (by decide)]
theorem exp_two : two.timers.map (expire 3) = [tA, tB2] := by decide
theorem due_two : dueIdx 3 two.timers = [1] := by decide
def cl2 : Clk := ⟨3, [tA, tB2]⟩
def cl3 : Clk := ⟨3, [tA, tB3]⟩
theorem chk_2 : (chk cl2).2 = 0 := chk_ab (x := tA) (y := tB2) rfl (by decide) rfl rfl rfl rfl (by decide) (by decide)
theorem chk_3 : (chk cl3).2 = 0 := chk_ab (x := tA) (y := tB3) rfl (by decide) rfl rfl rfl rfl (by decide) (by decide)
theorem few_2 : few cl2 := ⟨by decide, fun t ht => by
  have : t = tA ∨ t = tB2 := by simpa [cl2] using ht
  rcases this with rfl | rfl <;> decide⟩
theorem few_3 : few cl3 := ⟨by decide, fun t ht => by
  have : t = tA ∨ t = tB3 := by simpa [cl3] using ht
  rcases this with rfl | rfl <;> decide⟩
theorem tk_2 : tkAt 1 ⟨#[]⟩ cl2.timers 2 = 1 := by
  have e1 : tkAt 1 ⟨#[]⟩ cl2.timers 1 = -1 := tk_no (k := 0) fun ⟨⟨_, h, _⟩, _⟩ => by cases h
  exact tk_yes (k := 1) rfl rfl (.inl rfl) (.inl (by rw [e1]; decide))
theorem tak_2 : takE cl2 1 ⟨#[]⟩ = 0 := by
  have z : anyE cl2 1 ⟨#[]⟩ = 0 := by
    unfold anyE
    rw [if_pos rfl, orOf_zero]
    intro x hx
    rcases List.mem_cons.mp hx with rfl | hx
    · exact chk_2
    · rcases List.mem_cons.mp hx with rfl | hx
      · decide
      · cases hx
  unfold takE
  rw [if_neg (by simp [z]), show cl2.timers.length = 2 from rfl, tk_2, if_neg (by decide)]
theorem rd_3 : readV cl3 1 nA = (3, 0) := by
  have z : orOf [(chk cl3).2, ownE 1, nameE nA] = 0 := by
    rw [orOf_zero]
    intro x hx
    rcases List.mem_cons.mp hx with rfl | hx
    · exact chk_3
    · rcases List.mem_cons.mp hx with rfl | hx
      · decide
      · rcases List.mem_cons.mp hx with rfl | hx
        · exact name_a
        · cases hx
  have e : namE cl3 1 nA = 0 := by
    unfold namE
    rw [if_neg (by simp [z]), if_neg (by decide)]
  unfold readV
  rw [if_neg (by simp [e])]
  decide
theorem c10 [GM g] : Runs Try.prog 10 [] g (.bool true) g := by
  have m := Mem.start g
  refine DetP.forget rfl ?_
  refine w10 ?_
  unfold n10
  ((with_reducible (refine mv_i ?_)))
  refine call_d c40 m fun v1 h1 p1 p2 m ⟨x1, e1, s1⟩ => ?_
  subst e1
  skip
  refine call_r (c15 ⟨_, rfl, s1⟩ few_two) ?_
  rw [if_neg (by simp [chk_two]), if_neg (by decide)]
  ((with_reducible (refine mv_i ?_; refine ex2_0 ?_; refine ex2_1 ?_; refine mv_i ?_; refine mv_i ?_)))
  refine call_d c40 m fun v1 h2 p1 p2 m ⟨x2, e1, s2⟩ => ?_
  subst e1
  skip
  refine call_d (c16 ⟨_, rfl, s2⟩ few_two 3) m fun v1 h3 p1 p2 m q => ?_
  rw [adv_two, exp_two, due_two] at q
  simp only [ne_eq, not_true, if_false] at q
  obtain ⟨x3, y3, e1, s3, t3⟩ := q
  subst e1
  obtain ⟨b3, q3, rfl, _⟩ := s3.shape
  ((with_reducible (refine mv_i ?_; refine ex3_0 ?_; refine ex3_1 ?_; refine ex3_2 ?_; refine alloc_z (by assumption) fun i h z p m => ?_));
      (refine st_w (by assumption) (by infer_instance) (by with_unfolding_all rfl) (by with_unfolding_all rfl) (by first | rfl | exact flat_ones (Flat.flat _)) (by infer_instance) fun h p m => ?_);
      (with_reducible (refine mv_i ?_; refine mv_i ?_));
      (refine ldo_w (by assumption) (by infer_instance) (by with_unfolding_all rfl) ?_))
  refine call_d (c24 (c := cl2) ⟨_, rfl, s3.up⟩ few_2 1 ⟨#[]⟩ (by decide)) m fun v1 h4 p1 p2 m q => ?_
  rw [tak_2, show cl2.timers.length = 2 from rfl, tk_2] at q
  simp only [ne_eq, not_true, if_false] at q
  obtain ⟨x4, e1, s4⟩ := q
  subst e1
  have s4 : L h4 x4 cl3.timers := s4
  obtain ⟨b4, q4, rfl, _⟩ := s4.shape
  ((with_reducible (refine mv_i ?_; refine ex3_0 ?_; refine ex3_1 ?_; refine ex3_2 ?_; refine alloc_z (by assumption) fun i h z p m => ?_));
      (refine st_w (by assumption) (by infer_instance) (by with_unfolding_all rfl) (by with_unfolding_all rfl) (by first | rfl | exact flat_ones (Flat.flat _)) (by infer_instance) fun h p m => ?_);
      (with_reducible (refine mv_i ?_; refine mv_i ?_));
      (refine ldo_w (by assumption) (by infer_instance) (by with_unfolding_all rfl) ?_))
  refine call_r (c31 (c := cl3) ⟨_, rfl, s4.up⟩ few_3 1 nA (by decide)) ?_
  rw [rd_3]
  ((with_reducible (refine mv_i ?_; refine ex2_0 ?_; refine ex2_1 ?_; refine mv_i ?_; refine mv_i ?_; refine mv_i ?_; refine eql_h (by first | assumption | decide) ?_; refine mv_i ?_; refine gd_tt ?_; refine mv_i ?_; refine gd_tt ?_; refine eql_h (by first | assumption | decide) ?_; refine pick_t ?_; refine mv_i ?_; refine gd_tt ?_; refine mv_i ?_; refine gd_tt ?_; refine eql_h (by first | assumption | decide) ?_; refine pick_t ?_; refine mv_i ?_; refine gd_tt ?_; refine mv_i ?_; refine gd_tt ?_));
      (refine bs_g (bs33_1 _ _) (by assumption) fun i h p m => ?_);
      (with_reducible (refine gd_tt ?_)))
  refine call_r (c21 (ys := [1]) t3.up.ints (own_ints (xs := [1]) m (q := by infer_instance) rfl rfl (by decide))) ?_
  rw [decide_eq_true rfl]
  ((with_reducible (refine pick_t ?_; refine mv_i ?_; refine gd_tt ?_; refine mv_i ?_; refine gd_tt ?_; refine eql_h (by first | assumption | decide) ?_; refine pick_t ?_; refine mv_i ?_; refine gd_tt ?_; refine mv_i ?_; refine gd_tt ?_; refine seq_s (fun hc => ?_) (fun hc => ?_); refine pick_t ?_; refine mv_i ?_; refine gd_tt ?_; refine mv_i ?_; refine gd_tt ?_; refine eql_h (by first | assumption | decide) ?_; refine pick_t ?_; refine mv_i ?_; refine gd_tt ?_; refine mv_i ?_; refine gd_tt ?_; refine eql_h (by first | assumption | decide) ?_; refine pick_t ?_; refine mv_i ?_; refine ret1 ?_));
      (rotate_left);
      (with_reducible (refine pick_t ?_; refine mv_i ?_; refine gd_ft ?_; refine gd_ft ?_; refine pick_f ?_; refine mv_i ?_; refine gd_ft ?_; refine gd_ft ?_; refine pick_f ?_; refine mv_i ?_; refine ret1 ?_));
      (rotate_left))
  all_goals first
    | exact ⟨rfl, m.pre⟩
    | exact absurd rfl hc
end Go.Proofs.Ytalnnkpdpjmmkaa

set_option linter.unusedSimpArgs false
set_option linter.unusedVariables false
set_option maxRecDepth 100000
set_option maxHeartbeats 4000000
namespace Go.Proofs.Ytalnnkpdpjmmkaa
open Go.AM
variable {g : Heap}
open Classical in
theorem c3 [GM g] {v : Value} {c : Clk} (s : ClkV g v c) (hb : c.timers.length ≤ 1048576) : DetP Try.prog 3 [v] g fun v' _ => v' = .bool true := by
  obtain ⟨x, rfl, s⟩ := s
  have m := Mem.start g
  refine w3 ?_
  unfold n3
  ((with_reducible (refine box_a (by assumption) fun i h z p m => ?_; refine mv_i ?_));
      (refine call_r c10 ?_);
      (with_reducible (refine not_t ?_; refine cnd_f ?_));
      (refine ldo_w (by assumption) (by infer_instance) (by with_unfolding_all rfl) ?_))
  refine call_r (c11 ⟨_, rfl, s.up⟩) ?_
  by_cases f : few c
  · rw [decide_eq_true f]
    ((with_reducible (refine not_t ?_; refine cnd_f ?_));
        (refine ldo_w (by assumption) (by infer_instance) (by with_unfolding_all rfl) ?_))
    refine call_d (c13 ⟨_, rfl, s.up⟩ hb) m fun v1 h1 p1 p2 m ⟨y, e, t⟩ => ?_
    subst e
    skip
    refine call_r (c12 ⟨_, rfl, t⟩ f) ?_
    unfold mk2
    ((with_reducible (refine mv_i ?_; refine ex2_0 ?_; refine ex2_1 ?_; refine mv_i ?_; refine mv_i ?_));
        (refine ldo_w (by assumption) (by infer_instance) (by with_unfolding_all rfl) ?_))
    refine call_r (c14 ⟨_, rfl, s.up⟩ f) ?_
    unfold mk2
    ((with_reducible (refine mv_i ?_; refine ex2_0 ?_; refine ex2_1 ?_; refine mv_i ?_; refine mv_i ?_; refine mv_i ?_; refine mv_i ?_; refine eql_i (fun hc => ?_) (fun hc => ?_); refine mv_i ?_; refine gd_tt ?_; refine mv_i ?_; refine gd_tt ?_; refine mv_i ?_; refine gd_tt ?_; refine eql_i (fun hc => ?_) (fun hc => ?_); refine pick_t ?_; refine mv_i ?_; refine ret1 ?_));
        (rotate_left);
        (with_reducible (refine pick_t ?_; refine mv_i ?_; refine ret1 ?_));
        (rotate_left);
        (with_reducible (refine mv_i ?_; refine gd_ft ?_; refine gd_ft ?_; refine gd_ft ?_; refine pick_f ?_; refine mv_i ?_; refine ret1 ?_));
        (rotate_left))
    all_goals first
      | rfl
      | (exfalso; simp_all; done)
  · rw [decide_eq_false f]
    ((with_reducible (refine not_f ?_; refine cnd_t ?_; refine mv_i ?_; refine ret1 ?_)))
    rfl
end Go.Proofs.Ytalnnkpdpjmmkaa

set_option linter.unusedSimpArgs false
set_option linter.unusedVariables false
set_option linter.unnecessarySimpa false
set_option maxRecDepth 100000
namespace Go.Proofs.Ytalnnkpdpjmmkaa
open Go.AM
open Go.ChangeShapes Go.WideShapes Go.ChangeAt Go.RowKit
theorem laid : laidOutB Try.prog = true := by kernel_rfl
theorem own : ownKnob Try.prog.godebug = none := by kernel_rfl
theorem shaped {W : World} (hs : W.ShapedOpen Try.prog) : Num0 W :=
  num0_of (t := 3) hs (of_decide_eq_true (by kernel_rfl)) (by kernel_rfl) (by kernel_rfl) (by kernel_rfl) Try.underlying3
def dTim {H : Type} : DataW H → Tim | .agg [a, b, c, d, e, f] => ⟨dint a, dstr b, dint c, dint d, dbool e, dbool f⟩ | _ => Df.d
def dClk {H : Type} : DataW H → Clk | .agg [a, b] => ⟨dint a, dlist dTim b⟩ | _ => ⟨0, []⟩
theorem ARd_tim {H : Type} {h : Heap} {cs : List Value} {d : DataW H} (q : ARd Try.prog h 44 cs d) : cs = Flat.cells (dTim d) := by
  obtain ⟨parts, rfl, hl, hp, hf⟩ := q.fields Try.underlying44
  have hl : cs.length = 6 := hl
  obtain ⟨a, b, c, d, e, f, rfl⟩ : ∃ a b c d e f, parts = [a, b, c, d, e, f] := by
    match parts, hp with
    | [a, b, c, d, e, f], _ => exact ⟨a, b, c, d, e, f, rfl⟩
  have g0 : cs[0]? = some (.int .i64 (dint a)) := ARd.f_int (hf 0 _ a rfl rfl) Try.underlying3
  have g1 : cs[1]? = some (.string (dstr b)) := ARd.f_str (hf 1 _ b rfl rfl) Try.underlying9
  have g2 : cs[2]? = some (.int .i64 (dint c)) := ARd.f_int (hf 2 _ c rfl rfl) Try.underlying3
  have g3 : cs[3]? = some (.int .i64 (dint d)) := ARd.f_int (hf 3 _ d rfl rfl) Try.underlying3
  have g4 : cs[4]? = some (.bool (dbool e)) := ARd.f_bool (hf 4 _ e rfl rfl) Try.underlying4
  have g5 : cs[5]? = some (.bool (dbool f)) := ARd.f_bool (hf 5 _ f rfl rfl) Try.underlying4
  refine List.ext_getElem? fun j => ?_
  by_cases hj : j < 6
  · match j, hj with
    | 0, _ => rw [g0]; rfl
    | 1, _ => rw [g1]; rfl
    | 2, _ => rw [g2]; rfl
    | 3, _ => rw [g3]; rfl
    | 4, _ => rw [g4]; rfl
    | 5, _ => rw [g5]; rfl
  · rw [List.getElem?_eq_none (by omega), List.getElem?_eq_none (by rw [Flat.len]; show 6 ≤ j; omega)]
theorem tims_le {H : Type} (d : DataW H) : (dlist dTim d).length ≤ Rows.uptoBulk d := by
  cases d with
  | slice elems spare =>
    have := bulks.length_le elems
    have := bulks.slice_elems elems spare
    simp only [dlist, List.length_map]; omega
  | lit l => simp [dlist]
  | nil => simp [dlist]
  | ptr d => simp [dlist]
  | agg parts => simp [dlist]
  | iface t d => simp [dlist]
  | map entries => simp [dlist]
  | held h => simp [dlist]
theorem ints_le {H : Type} (d : DataW H) : (dlist AM.dint d).length ≤ Rows.uptoBulk d := by
  cases d with
  | slice elems spare =>
    have := bulks.length_le elems
    have := bulks.slice_elems elems spare
    simp only [dlist, List.length_map]; omega
  | lit l => simp [dlist]
  | nil => simp [dlist]
  | ptr d => simp [dlist]
  | agg parts => simp [dlist]
  | iface t d => simp [dlist]
  | map entries => simp [dlist]
  | held h => simp [dlist]
theorem clk_le {H : Type} (d : DataW H) : (dClk d).timers.length ≤ Rows.uptoBulk d := by
  unfold dClk
  split
  · rename_i a b
    have := tims_le b
    simp only [Rows.uptoBulk, Rows.uptoBulkAll]
    omega
  · simp
theorem ARd_clk {H : Type} {h : Heap} {cs : List Value} {d : DataW H} (q : ARd Try.prog h 24 cs d) (hb : (dClk d).timers.length ≤ 2 ^ 50) : ClkV h (absV Try.prog 24 cs) (dClk d) := by
  obtain ⟨parts, rfl, hl, hp, hf⟩ := q.fields Try.underlying24
  have hl : cs.length = 2 := hl
  obtain ⟨a, b, rfl⟩ : ∃ a b, parts = [a, b] := by
    match parts, hp with
    | [a, b], _ => exact ⟨a, b, rfl⟩
  have g0 : cs[0]? = some (.int .i64 (dint a)) := ARd.f_int (hf 0 _ a rfl rfl) Try.underlying3
  obtain ⟨o, l, c, e, s⟩ := ARd.list dTim (hf 1 _ b rfl rfl) Try.underlying22 (by kernel_rfl) (fun cs d r => ARd_tim r) hb
  have g1 : cs[1]? = some (.slice o l c) := drop_one e
  refine ⟨_, ?_, s⟩
  simp only [absV, Try.underlying24]
  congr 1
  have : cs = [.int .i64 (dint a), .slice o l c] := by
    refine List.ext_getElem? fun j => ?_
    by_cases hj : j < 2
    · match j, hj with
      | 0, _ => rw [g0]; rfl
      | 1, _ => rw [g1]; rfl
    · rw [List.getElem?_eq_none (by omega), List.getElem?_eq_none (by simp; omega)]
  rw [this]; rfl
end Go.Proofs.Ytalnnkpdpjmmkaa

set_option linter.unusedSimpArgs false
set_option linter.unusedVariables false
set_option linter.unnecessarySimpa false
set_option maxRecDepth 100000
set_option maxHeartbeats 4000000
namespace Go.Proofs.Ytalnnkpdpjmmkaa
open Go.AM
variable {g : Heap}
noncomputable def adrE (c : Clk) (to : Int) : Int := if ¬ (c.now ≤ to ∧ to ≤ 1099511627776) then 3 else if nextR c.timers ≠ -1 ∧ nextR c.timers < to then 14 else 0
theorem c20 {v : Value} {c : Clk} (s : ClkV g v c) (hl : c.timers.length ≤ 27) (to : Int) : DetP Try.prog 20 [v, .int .i64 to] g fun v' h' => g <+: h' ∧
    ResV h' v' (if adrE c to ≠ 0 then ⟨0, []⟩ else ⟨to, c.timers.map (expire to)⟩) (if adrE c to ≠ 0 then [] else dueIdx to c.timers) ⟨#[]⟩ (adrE c to) := by
  refine DetP.freeze ?_
  obtain ⟨x, rfl, s⟩ := s
  have lt := s.lt
  have m := Mem.start g
  refine w20 ?_
  unfold n20
  refine box_a m fun i1 h1 z1 p1 m => ?_
  refine alloc_z m fun i2 h2 z2 p2 m => ?_
  ((with_reducible (refine mv_i ?_; refine fao ?_));
      (refine ldo (by assumption) (q := by infer_instance) (by with_unfolding_all rfl) ?_);
      (refine call_r (c26 _ _ _) ?_);
      (with_reducible (refine not_s (fun hb => ?_) (fun hb => ?_); refine cnd_f ?_));
      (refine ldo_w (by assumption) (by infer_instance) (by with_unfolding_all rfl) ?_);
      (refine call_r (c19 ⟨_, by with_unfolding_all rfl, L.up (by assumption)⟩) ?_);
      (with_reducible (refine mv_i ?_; refine mv_i ?_; refine neq_i (fun hc => ?_) (fun hc => ?_); refine mv_i ?_; refine gd_ft ?_; refine gd_ft ?_; refine gd_ft ?_; refine pick_f ?_; refine cnd_f ?_));
      (refine ldo_w (by assumption) (by infer_instance) (by with_unfolding_all rfl) ?_);
      (rotate_left);
      (with_reducible (refine mv_i ?_; refine gd_tt ?_; refine mv_i ?_; refine gd_tt ?_; refine mv_i ?_; refine gd_tt ?_; refine lss_i (fun hc => ?_) (fun hc => ?_); refine pick_t ?_; refine cnd_t ?_));
      (refine call_r (c51 _) ?_);
      (refine st_w (by assumption) (by infer_instance) (by with_unfolding_all rfl) (by with_unfolding_all rfl) (by first | rfl | exact flat_ones (Flat.flat _)) (by infer_instance) fun h p m => ?_);
      (refine rt_w1 (by assumption) (by infer_instance) (by with_unfolding_all rfl) ?_);
      (with_reducible (refine ret1 ?_));
      (rotate_left);
      (with_reducible (refine pick_t ?_; refine cnd_f ?_));
      (refine ldo_w (by assumption) (by infer_instance) (by with_unfolding_all rfl) ?_);
      (rotate_left);
      (with_reducible (refine cnd_t ?_));
      (refine call_r (c51 _) ?_);
      (refine st_w (by assumption) (by infer_instance) (by with_unfolding_all rfl) (by with_unfolding_all rfl) (by first | rfl | exact flat_ones (Flat.flat _)) (by infer_instance) fun h p m => ?_);
      (refine rt_w1 (by assumption) (by infer_instance) (by with_unfolding_all rfl) ?_);
      (with_reducible (refine ret1 ?_));
      (rotate_left))
  all_goals first
    | (have hE : adrE c to = 14 := by unfold adrE; rw [if_neg (by simpa using hb), if_pos ⟨by assumption, by assumption⟩]
       rw [hE]
       exact ⟨m.pre, _, _, rfl, L.nil _, L.nil _⟩)
    | (have hE : adrE c to = 3 := by unfold adrE; rw [if_pos (by simpa using hb)]
       rw [hE]
       exact ⟨m.pre, _, _, rfl, L.nil _, L.nil _⟩)
    | skip
  all_goals
    have hE : adrE c to = 0 := by
      unfold adrE
      rw [if_neg (by simpa using hb), if_neg]
      rintro ⟨q1, q2⟩
      contradiction
    rw [hE]
    simp only [ne_eq, not_true, if_false]
    refine call_d (c13o ⟨_, rfl, s.up⟩ (by omega)) m fun y h3 p3 p4 _ ⟨y, o, ev, hs, hn⟩ => ?_
    subst ev
    have m := hn _ _ m
    obtain ⟨a, d, rfl⟩ := hs.isS
    (repeat' first|(refine call_r (c51 _) ?_)|(refine calld_r (c51 _) ?_)|(refine call_r (c19 ⟨_, by with_unfolding_all rfl, L.up (by assumption)⟩) ?_)|(refine call_r (c49 ⟨_, by with_unfolding_all rfl, L.up (by assumption)⟩) ?_)|(refine calld_r (c49 ⟨_, by with_unfolding_all rfl, L.up (by assumption)⟩) ?_)|(refine call_r (c42 (own_ints (xs := [_, _, _]) (by assumption) (q := by infer_instance) rfl rfl (by decide))) ?_)|(refine calld_r (c42 (own_ints (xs := [_, _, _]) (by assumption) (q := by infer_instance) rfl rfl (by decide))) ?_)|(refine call_r (c44 _ (by assumption)) ?_)|(refine calld_r (c44 _ (by assumption)) ?_)|(refine call_r (c48 ⟨_, by with_unfolding_all rfl, L.up (by assumption)⟩ (by assumption)) ?_)|(refine calld_r (c48 ⟨_, by with_unfolding_all rfl, L.up (by assumption)⟩ (by assumption)) ?_)|(refine call_r (c56 ⟨_, by with_unfolding_all rfl, L.up (by assumption)⟩ _ _) ?_)|(refine call_r (c57 ⟨_, by with_unfolding_all rfl, L.up (by assumption)⟩ _ _) ?_)|(refine calld_r (c57 ⟨_, by with_unfolding_all rfl, L.up (by assumption)⟩ _ _) ?_)|(with_reducible refine tne_i (fun hc => ?_) (fun hc => ?_))|(with_reducible refine snil_i (fun hn => ?_) (fun hn => ?_))|(refine vk_i (bd24_01 _ _ _ _) ?_)|(refine vk_i (bd39_0 _ _ _ _) ?_)|(refine vk_i (bd39_3 _) ?_)|(refine vk_i (bd44_01 _ _) ?_)|(refine vk_i (bd24_z) ?_)|(refine vk_i (bd44_01234 _ _ _ _ _) ?_)|(refine vk_i (bd24_0 _) ?_)|(refine vk_i (bd44_0134 _ _ _ _) ?_)|(refine vk_i (bd24_1 _ _ _) ?_)|(refine bs_g (bs88_2 _ _ _) (by assumption) fun i h p m => ?_)|(refine bs_g (bs22_0 _) (by assumption) fun i h p m => ?_)|(refine bs_g (bs33_1 _ _) (by assumption) fun i h p m => ?_)|(refine bs_g (bs46_1 _ _) (by assumption) fun i h p m => ?_)|(refine bs_g (bs33_2 _ _ _) (by assumption) fun i h p m => ?_)|(refine bs_g (bs88_3 _ _ _ _) (by assumption) fun i h p m => ?_)|(refine bs_g (bs22_1 _ _) (by assumption) fun i h p m => ?_)|(refine bs_g (bs22_2 _ _ _) (by assumption) fun i h p m => ?_)|(refine call_r (c44 _ (few_at (by assumption) _)) ?_)|(refine calld_r (c44 _ (few_at (by assumption) _)) ?_)|(refine call_r (c47 ⟨_, by with_unfolding_all rfl, L.up (by assumption)⟩ (by assumption) (by omega)) ?_)|(with_reducible refine mulc_i (by simp [R64]) ?_)|(refine call_r (c64 _ _) ?_)|(refine calld_r (c64 _ _) ?_)|(refine call_r (c45 _ _) ?_)|(refine calld_r (c45 _ _) ?_)|(refine call_r (c46 _ _) ?_)|(refine calld_r (c46 _ _) ?_)|(refine call_r (c43 _) ?_)|(refine calld_r (c43 _) ?_)|(refine call_r (c62 _) ?_)|(refine calld_r (c62 _) ?_)|(refine call_r (c63 _) ?_)|(refine calld_r (c63 _) ?_)|(refine call_r (c44 _ (by omega)) ?_)|(refine calld_r (c44 _ (by omega)) ?_)|(refine call_r (c42 (own_ints (xs := [_, _]) (by assumption) (q := by infer_instance) rfl rfl (by decide))) ?_)|(refine calld_r (c42 (own_ints (xs := [_, _]) (by assumption) (q := by infer_instance) rfl rfl (by decide))) ?_)|(refine call_r (c70 (own_ints (xs := [_, _]) (by assumption) (q := by infer_instance) rfl rfl (by decide))) ?_)|(refine calld_r (c70 (own_ints (xs := [_, _]) (by assumption) (q := by infer_instance) rfl rfl (by decide))) ?_)|(refine call_r (c71 _ _) ?_)|(refine calld_r (c71 _ _) ?_)|(refine call_r (c72 _ _) ?_)|(refine calld_r (c72 _ _) ?_)|(refine bs_g (bs88_2 _ _ _) (by assumption) fun i h p m => ?_)|(refine bs_g (bs88_3 _ _ _ _) (by assumption) fun i h p m => ?_)|(refine bs_g (bs33_2 _ _ _) (by assumption) fun i h p m => ?_)|(refine call_r (c83 _) ?_)|(refine calld_r (c83 _) ?_)|(refine call_r (c86 _) ?_)|(refine calld_r (c86 _) ?_)|(refine call_r (c87 _) ?_)|(refine calld_r (c87 _) ?_)|(refine call_r (c88 _) ?_)|(refine calld_r (c88 _) ?_)|(refine schr_0 (by omega) ?_)|(refine schr_n (by omega) ?_)|(refine schr_z (by omega) (by omega) ?_)|(refine call_r (c65 _) ?_)|(refine calld_r (c65 _) ?_)|(refine call_r (c41 _ _ _) ?_)|(refine calld_r (c41 _ _ _) ?_)|(refine call_r (c26 _ _ _) ?_)|(refine calld_r (c26 _ _ _) ?_)|(refine call_r (c73 _) ?_)|(refine calld_r (c73 _) ?_)|(refine rt_w1 (by assumption) (by infer_instance) (by with_unfolding_all rfl) ?_)|(refine rt_w2 (by assumption) (by infer_instance) (by with_unfolding_all rfl) ?_)|(refine rt_11 (by assumption) (by infer_instance) (by with_unfolding_all rfl) ?_)|(refine rt_12 (by assumption) (by infer_instance) (by with_unfolding_all rfl) ?_)|(with_reducible refine len_o (by assumption) ?_)|(with_reducible refine mv_i ?_)|(with_reducible refine nil_i ?_)|(with_reducible refine ex2_0 ?_)|(with_reducible refine ex2_1 ?_)|(with_reducible refine ex3_0 ?_)|(with_reducible refine ex3_1 ?_)|(with_reducible refine ex3_2 ?_)|(with_reducible refine pick_t ?_)|(with_reducible refine pick_f ?_)|(with_reducible refine not_t ?_)|(with_reducible refine not_f ?_)|(with_reducible refine gd_tt ?_)|(with_reducible refine gd_ff ?_)|(with_reducible refine gd_tf ?_)|(with_reducible refine gd_ft ?_)|(with_reducible refine gd_u ?_)|(with_reducible refine cnd_t ?_)|(with_reducible refine cnd_f ?_)|(with_reducible refine gd_ht (by assumption) ?_)|(with_reducible refine gd_hf (by assumption) ?_)|(with_reducible refine gd_nt (by assumption) ?_)|(with_reducible refine gd_nf (by assumption) ?_)|(with_reducible refine cnd_h (by assumption) ?_)|(with_reducible refine cnd_n (by assumption) ?_)|(with_reducible refine pick_h (by assumption) ?_)|(with_reducible refine pick_n (by assumption) ?_)|(with_reducible refine not_h (by assumption) ?_)|(with_reducible refine not_n (by assumption) ?_)|(with_reducible refine gd_st (fun hb => ?_) (fun hb => ?_))|(with_reducible refine gd_sf (fun hb => ?_) (fun hb => ?_))|(with_reducible refine cnd_b (fun hb => ?_) (fun hb => ?_))|(with_reducible refine not_s (fun hb => ?_) (fun hb => ?_))|(with_reducible refine eql_h (by first | assumption | decide) ?_)|(with_reducible refine eql_n (by first | assumption | decide) ?_)|(with_reducible refine neq_h (by first | assumption | decide) ?_)|(with_reducible refine neq_n (by first | assumption | decide) ?_)|(with_reducible refine lss_i (fun hc => ?_) (fun hc => ?_))|(with_reducible refine leq_i (fun hc => ?_) (fun hc => ?_))|(with_reducible refine gtr_i (fun hc => ?_) (fun hc => ?_))|(with_reducible refine geq_i (fun hc => ?_) (fun hc => ?_))|(with_reducible refine eql_i (fun hc => ?_) (fun hc => ?_))|(with_reducible refine neq_i (fun hc => ?_) (fun hc => ?_))|(with_reducible refine seq_s (fun hc => ?_) (fun hc => ?_))|(with_reducible refine sne_s (fun hc => ?_) (fun hc => ?_))|(with_reducible refine sls_i ?_)|(with_reducible refine pick_s (fun hb => ?_) (fun hb => ?_))|(with_reducible refine len_g (by assumption) ?_)|(with_reducible refine slen_i ?_)|(with_reducible refine len_s ?_)|(with_reducible refine sidx_0 (by omega) ?_)|(refine idx_d (by assumption) (by with_unfolding_all rfl) (by omega) fun p hp => ?_)|(refine idx_dp (by assumption) (by with_unfolding_all rfl) (by omega) (by omega) fun p hp => ?_)|(refine idx_dz (by assumption) (by with_unfolding_all rfl) (by omega) (by omega) fun p hp => ?_)|(refine idx_f (by assumption) (by with_unfolding_all rfl) (by omega) fun p hp => ?_)|(refine idx_fz (by assumption) (by with_unfolding_all rfl) (by omega) (by omega) fun p hp => ?_)|(with_reducible refine fa_g (by assumption) fun p hp => ?_)|(refine ld_g (by assumption) (by with_unfolding_all rfl) ?_)|(refine ldr_w (by assumption) (by with_unfolding_all rfl) ?_)|(refine ldr_g (by assumption) (by with_unfolding_all rfl) (by with_unfolding_all exact Nat.le_refl _) ?_)|(with_reducible refine fao_e ?_)|(with_reducible refine fao ?_)|(refine ldo (by assumption) (q := by infer_instance) (by with_unfolding_all rfl) ?_)|(refine ldo_w (by assumption) (by infer_instance) (by with_unfolding_all rfl) ?_)|(refine ldor (by assumption) (q := by infer_instance) (by with_unfolding_all rfl) (by with_unfolding_all exact Nat.le_refl _) ?_)|(with_reducible refine box_a (by assumption) fun i h z p m => ?_)|(with_reducible refine alloc_z (by assumption) fun i h z p m => ?_)|(refine box_1 (by assumption) (by with_unfolding_all rfl) fun i h z p m => ?_)|(refine sto (by assumption) (q := by infer_instance) (by with_unfolding_all exact Nat.le_of_ble_eq_true rfl) rfl rfl (u := by infer_instance) fun h p m => ?_)|(refine st_w (by assumption) (by infer_instance) (by with_unfolding_all rfl) (by with_unfolding_all rfl) (by first | rfl | exact flat_ones (Flat.flat _)) (by infer_instance) fun h p m => ?_)|(with_reducible refine new_n ?_)|(refine pd_c (by assumption) (by infer_instance) (by with_unfolding_all rfl) ?_)|(with_reducible refine new_p (by assumption) ?_)|(with_reducible refine vb_f ?_)|(refine vb_n (by with_unfolding_all rfl) ?_)|(with_reducible refine vb_l (by assumption) ?_)|(refine pd_o (by assumption) (by infer_instance) (by with_unfolding_all rfl) ?_)|(with_reducible refine ⟨trivial, ?_⟩)|(refine fld_g (by with_unfolding_all rfl) ?_)|(with_reducible refine leni_t (by assumption) ?_)|(refine idxi_t (by assumption) (by omega) ?_)|(refine ldi_t (by assumption) (by omega) ?_)|(with_reducible refine inc_i (by omega) ?_)|(with_reducible refine ret1 ?_)|(with_reducible refine ret2 ?_)|(with_reducible refine ret3 ?_)|(with_reducible refine ret0 ?_)|(with_reducible refine seq_i ?_)|((with_reducible refine fun (_ : Tmps) => ?_); (try dsimp only [nth]))|(with_reducible refine sub_j (by omega) (by omega) ?_)|(with_reducible refine add_j (by omega) (by omega) ?_)|(refine vb_as rfl (by assumption) ?_)|(refine vb_ao rfl (by assumption) (by assumption) (by infer_instance) ?_)|(refine IsSl.vb (by assumption) (by assumption) (by infer_instance) ?_)|(refine idx_o (by assumption) (by omega) ?_)|(refine idx_oz (by assumption) (by omega) (by omega) ?_)|(refine ldf_d (by assumption) (by infer_instance) (by with_unfolding_all rfl) (by omega) (by with_unfolding_all exact Nat.le_of_ble_eq_true rfl) (by with_unfolding_all rfl) ?_)|(refine ldw_d (by assumption) (by infer_instance) (by with_unfolding_all rfl) (by omega) ?_)|(refine stw_o (by assumption) (by infer_instance) (by with_unfolding_all rfl) (by omega) (by infer_instance) fun h p m => ?_))
    refine loop1 c.timers.length (fun k h5 => Prec h h5 ∧ ∃ o2 y2, IsSl y2 o2 (outs to c.timers k).length ∧ Mem g h5 [⟨o2, flat (outs to c.timers k), 1⟩, ⟨some i, [.int .i64 to, .slice a c.timers.length d, y2, .string ⟨#[]⟩, .int .i64 0], z⟩, ⟨o, flat (mids to c.timers k), 6⟩, ⟨some i2, [.int .i64 0, .slice none 0 0, .slice none 0 0, .string ⟨#[]⟩, .int .i64 0], z2⟩, ⟨some i1, [.int .i64 c.now, x], z1⟩]) ⟨⟨Stab.refl h⟩, none, _, IsSl.nil, ?_⟩ ?_
    · have := m.nil 1
      simpa [outs, mids, flat] using this
    rintro k h5 _ hk ⟨p5, o2, y2, hv, m⟩
    obtain ⟨a2, d2, rfl⟩ := hv.isS
    have hml := mids_len to c.timers k
    have hol := outs_len to c.timers k
    have hs0 := hs
    have hs : IsSl (.slice a c.timers.length d) o (mids to c.timers k).length := by rw [hml]; exact hs
    (repeat' first|(refine call_r (c51 _) ?_)|(refine calld_r (c51 _) ?_)|(refine call_r (c19 ⟨_, by with_unfolding_all rfl, L.up (by assumption)⟩) ?_)|(refine call_r (c49 ⟨_, by with_unfolding_all rfl, L.up (by assumption)⟩) ?_)|(refine calld_r (c49 ⟨_, by with_unfolding_all rfl, L.up (by assumption)⟩) ?_)|(refine call_r (c42 (own_ints (xs := [_, _, _]) (by assumption) (q := by infer_instance) rfl rfl (by decide))) ?_)|(refine calld_r (c42 (own_ints (xs := [_, _, _]) (by assumption) (q := by infer_instance) rfl rfl (by decide))) ?_)|(refine call_r (c44 _ (by assumption)) ?_)|(refine calld_r (c44 _ (by assumption)) ?_)|(refine call_r (c48 ⟨_, by with_unfolding_all rfl, L.up (by assumption)⟩ (by assumption)) ?_)|(refine calld_r (c48 ⟨_, by with_unfolding_all rfl, L.up (by assumption)⟩ (by assumption)) ?_)|(refine call_r (c56 ⟨_, by with_unfolding_all rfl, L.up (by assumption)⟩ _ _) ?_)|(refine call_r (c57 ⟨_, by with_unfolding_all rfl, L.up (by assumption)⟩ _ _) ?_)|(refine calld_r (c57 ⟨_, by with_unfolding_all rfl, L.up (by assumption)⟩ _ _) ?_)|(with_reducible refine tne_i (fun hc => ?_) (fun hc => ?_))|(with_reducible refine snil_i (fun hn => ?_) (fun hn => ?_))|(refine vk_i (bd24_01 _ _ _ _) ?_)|(refine vk_i (bd39_0 _ _ _ _) ?_)|(refine vk_i (bd39_3 _) ?_)|(refine vk_i (bd44_01 _ _) ?_)|(refine vk_i (bd24_z) ?_)|(refine vk_i (bd44_01234 _ _ _ _ _) ?_)|(refine vk_i (bd24_0 _) ?_)|(refine vk_i (bd44_0134 _ _ _ _) ?_)|(refine vk_i (bd24_1 _ _ _) ?_)|(refine bs_g (bs88_2 _ _ _) (by assumption) fun i h p m => ?_)|(refine bs_g (bs22_0 _) (by assumption) fun i h p m => ?_)|(refine bs_g (bs33_1 _ _) (by assumption) fun i h p m => ?_)|(refine bs_g (bs46_1 _ _) (by assumption) fun i h p m => ?_)|(refine bs_g (bs33_2 _ _ _) (by assumption) fun i h p m => ?_)|(refine bs_g (bs88_3 _ _ _ _) (by assumption) fun i h p m => ?_)|(refine bs_g (bs22_1 _ _) (by assumption) fun i h p m => ?_)|(refine bs_g (bs22_2 _ _ _) (by assumption) fun i h p m => ?_)|(refine call_r (c44 _ (few_at (by assumption) _)) ?_)|(refine calld_r (c44 _ (few_at (by assumption) _)) ?_)|(refine call_r (c47 ⟨_, by with_unfolding_all rfl, L.up (by assumption)⟩ (by assumption) (by omega)) ?_)|(with_reducible refine mulc_i (by simp [R64]) ?_)|(refine call_r (c64 _ _) ?_)|(refine calld_r (c64 _ _) ?_)|(refine call_r (c45 _ _) ?_)|(refine calld_r (c45 _ _) ?_)|(refine call_r (c46 _ _) ?_)|(refine calld_r (c46 _ _) ?_)|(refine call_r (c43 _) ?_)|(refine calld_r (c43 _) ?_)|(refine call_r (c62 _) ?_)|(refine calld_r (c62 _) ?_)|(refine call_r (c63 _) ?_)|(refine calld_r (c63 _) ?_)|(refine call_r (c44 _ (by omega)) ?_)|(refine calld_r (c44 _ (by omega)) ?_)|(refine call_r (c42 (own_ints (xs := [_, _]) (by assumption) (q := by infer_instance) rfl rfl (by decide))) ?_)|(refine calld_r (c42 (own_ints (xs := [_, _]) (by assumption) (q := by infer_instance) rfl rfl (by decide))) ?_)|(refine call_r (c70 (own_ints (xs := [_, _]) (by assumption) (q := by infer_instance) rfl rfl (by decide))) ?_)|(refine calld_r (c70 (own_ints (xs := [_, _]) (by assumption) (q := by infer_instance) rfl rfl (by decide))) ?_)|(refine call_r (c71 _ _) ?_)|(refine calld_r (c71 _ _) ?_)|(refine call_r (c72 _ _) ?_)|(refine calld_r (c72 _ _) ?_)|(refine bs_g (bs88_2 _ _ _) (by assumption) fun i h p m => ?_)|(refine bs_g (bs88_3 _ _ _ _) (by assumption) fun i h p m => ?_)|(refine bs_g (bs33_2 _ _ _) (by assumption) fun i h p m => ?_)|(refine call_r (c83 _) ?_)|(refine calld_r (c83 _) ?_)|(refine call_r (c86 _) ?_)|(refine calld_r (c86 _) ?_)|(refine call_r (c87 _) ?_)|(refine calld_r (c87 _) ?_)|(refine call_r (c88 _) ?_)|(refine calld_r (c88 _) ?_)|(refine schr_0 (by omega) ?_)|(refine schr_n (by omega) ?_)|(refine schr_z (by omega) (by omega) ?_)|(refine call_r (c65 _) ?_)|(refine calld_r (c65 _) ?_)|(refine call_r (c41 _ _ _) ?_)|(refine calld_r (c41 _ _ _) ?_)|(refine call_r (c26 _ _ _) ?_)|(refine calld_r (c26 _ _ _) ?_)|(refine call_r (c73 _) ?_)|(refine calld_r (c73 _) ?_)|(refine rt_w1 (by assumption) (by infer_instance) (by with_unfolding_all rfl) ?_)|(refine rt_w2 (by assumption) (by infer_instance) (by with_unfolding_all rfl) ?_)|(refine rt_11 (by assumption) (by infer_instance) (by with_unfolding_all rfl) ?_)|(refine rt_12 (by assumption) (by infer_instance) (by with_unfolding_all rfl) ?_)|(with_reducible refine len_o (by assumption) ?_)|(with_reducible refine mv_i ?_)|(with_reducible refine nil_i ?_)|(with_reducible refine ex2_0 ?_)|(with_reducible refine ex2_1 ?_)|(with_reducible refine ex3_0 ?_)|(with_reducible refine ex3_1 ?_)|(with_reducible refine ex3_2 ?_)|(with_reducible refine pick_t ?_)|(with_reducible refine pick_f ?_)|(with_reducible refine not_t ?_)|(with_reducible refine not_f ?_)|(with_reducible refine gd_tt ?_)|(with_reducible refine gd_ff ?_)|(with_reducible refine gd_tf ?_)|(with_reducible refine gd_ft ?_)|(with_reducible refine gd_u ?_)|(with_reducible refine cnd_t ?_)|(with_reducible refine cnd_f ?_)|(with_reducible refine gd_ht (by assumption) ?_)|(with_reducible refine gd_hf (by assumption) ?_)|(with_reducible refine gd_nt (by assumption) ?_)|(with_reducible refine gd_nf (by assumption) ?_)|(with_reducible refine cnd_h (by assumption) ?_)|(with_reducible refine cnd_n (by assumption) ?_)|(with_reducible refine pick_h (by assumption) ?_)|(with_reducible refine pick_n (by assumption) ?_)|(with_reducible refine not_h (by assumption) ?_)|(with_reducible refine not_n (by assumption) ?_)|(with_reducible refine gd_st (fun hb => ?_) (fun hb => ?_))|(with_reducible refine gd_sf (fun hb => ?_) (fun hb => ?_))|(with_reducible refine cnd_b (fun hb => ?_) (fun hb => ?_))|(with_reducible refine not_s (fun hb => ?_) (fun hb => ?_))|(with_reducible refine eql_h (by first | assumption | decide) ?_)|(with_reducible refine eql_n (by first | assumption | decide) ?_)|(with_reducible refine neq_h (by first | assumption | decide) ?_)|(with_reducible refine neq_n (by first | assumption | decide) ?_)|(with_reducible refine lss_i (fun hc => ?_) (fun hc => ?_))|(with_reducible refine leq_i (fun hc => ?_) (fun hc => ?_))|(with_reducible refine gtr_i (fun hc => ?_) (fun hc => ?_))|(with_reducible refine geq_i (fun hc => ?_) (fun hc => ?_))|(with_reducible refine eql_i (fun hc => ?_) (fun hc => ?_))|(with_reducible refine neq_i (fun hc => ?_) (fun hc => ?_))|(with_reducible refine seq_s (fun hc => ?_) (fun hc => ?_))|(with_reducible refine sne_s (fun hc => ?_) (fun hc => ?_))|(with_reducible refine sls_i ?_)|(with_reducible refine pick_s (fun hb => ?_) (fun hb => ?_))|(with_reducible refine len_g (by assumption) ?_)|(with_reducible refine slen_i ?_)|(with_reducible refine len_s ?_)|(with_reducible refine sidx_0 (by omega) ?_)|(refine idx_d (by assumption) (by with_unfolding_all rfl) (by omega) fun p hp => ?_)|(refine idx_dp (by assumption) (by with_unfolding_all rfl) (by omega) (by omega) fun p hp => ?_)|(refine idx_dz (by assumption) (by with_unfolding_all rfl) (by omega) (by omega) fun p hp => ?_)|(refine idx_f (by assumption) (by with_unfolding_all rfl) (by omega) fun p hp => ?_)|(refine idx_fz (by assumption) (by with_unfolding_all rfl) (by omega) (by omega) fun p hp => ?_)|(with_reducible refine fa_g (by assumption) fun p hp => ?_)|(refine ld_g (by assumption) (by with_unfolding_all rfl) ?_)|(refine ldr_w (by assumption) (by with_unfolding_all rfl) ?_)|(refine ldr_g (by assumption) (by with_unfolding_all rfl) (by with_unfolding_all exact Nat.le_refl _) ?_)|(with_reducible refine fao_e ?_)|(with_reducible refine fao ?_)|(refine ldo (by assumption) (q := by infer_instance) (by with_unfolding_all rfl) ?_)|(refine ldo_w (by assumption) (by infer_instance) (by with_unfolding_all rfl) ?_)|(refine ldor (by assumption) (q := by infer_instance) (by with_unfolding_all rfl) (by with_unfolding_all exact Nat.le_refl _) ?_)|(with_reducible refine box_a (by assumption) fun i h z p m => ?_)|(with_reducible refine alloc_z (by assumption) fun i h z p m => ?_)|(refine box_1 (by assumption) (by with_unfolding_all rfl) fun i h z p m => ?_)|(refine sto (by assumption) (q := by infer_instance) (by with_unfolding_all exact Nat.le_of_ble_eq_true rfl) rfl rfl (u := by infer_instance) fun h p m => ?_)|(refine st_w (by assumption) (by infer_instance) (by with_unfolding_all rfl) (by with_unfolding_all rfl) (by first | rfl | exact flat_ones (Flat.flat _)) (by infer_instance) fun h p m => ?_)|(with_reducible refine new_n ?_)|(refine pd_c (by assumption) (by infer_instance) (by with_unfolding_all rfl) ?_)|(with_reducible refine new_p (by assumption) ?_)|(with_reducible refine vb_f ?_)|(refine vb_n (by with_unfolding_all rfl) ?_)|(with_reducible refine vb_l (by assumption) ?_)|(refine pd_o (by assumption) (by infer_instance) (by with_unfolding_all rfl) ?_)|(with_reducible refine ⟨trivial, ?_⟩)|(refine fld_g (by with_unfolding_all rfl) ?_)|(with_reducible refine leni_t (by assumption) ?_)|(refine idxi_t (by assumption) (by omega) ?_)|(refine ldi_t (by assumption) (by omega) ?_)|(with_reducible refine inc_i (by omega) ?_)|(with_reducible refine ret1 ?_)|(with_reducible refine ret2 ?_)|(with_reducible refine ret3 ?_)|(with_reducible refine ret0 ?_)|(with_reducible refine seq_i ?_)|((with_reducible refine fun (_ : Tmps) => ?_); (try dsimp only [nth]))|(with_reducible refine sub_j (by omega) (by omega) ?_)|(with_reducible refine add_j (by omega) (by omega) ?_)|(refine vb_as rfl (by assumption) ?_)|(refine vb_ao rfl (by assumption) (by assumption) (by infer_instance) ?_)|(refine IsSl.vb (by assumption) (by assumption) (by infer_instance) ?_)|(refine idx_o (by assumption) (by omega) ?_)|(refine idx_oz (by assumption) (by omega) (by omega) ?_)|(refine ldf_d (by assumption) (by infer_instance) (by with_unfolding_all rfl) (by omega) (by with_unfolding_all exact Nat.le_of_ble_eq_true rfl) (by with_unfolding_all rfl) ?_)|(refine ldw_d (by assumption) (by infer_instance) (by with_unfolding_all rfl) (by omega) ?_)|(refine stw_o (by assumption) (by infer_instance) (by with_unfolding_all rfl) (by omega) (by infer_instance) fun h p m => ?_))
    all_goals first
      | (refine ⟨m.pre, _, _, rfl, ?_, ?_⟩
         · have hkk : k = c.timers.length := by omega
           have e1 : mids to c.timers k = c.timers.map (expire to) := by rw [hkk]; simp [mids]
           rw [e1] at m
           exact IsSl.ro (xs := c.timers.map (expire to)) (by simpa using hs0) m (k := 2) rfl (by simp; omega)
         · have hkk : k = c.timers.length := by omega
           have e2 : outs to c.timers k = dueIdx to c.timers := by rw [hkk]; rfl
           have := IsSl.ro hv m (k := 0) rfl (by omega)
           rw [← e2]
           exact this)
      | (have hd : isDue to (gt c.timers k) = false := by simp [isDue, *]
         exact next1 (by omega) ⟨⟨Stb.st⟩, o2, _, by rw [outs_same hd]; exact hv, by rw [outs_same hd, mids_same (by omega) hd]; exact m⟩)
      | skip
    all_goals
      have hkl : k < c.timers.length := by omega
      have hma := mids_at (to := to) hkl
      have hd : isDue to (gt c.timers k) = true := by simp [isDue, hb, hc]
      refine stf_d { gt c.timers k with running := false } m (by infer_instance) rfl (by omega) (by decide) rfl rfl (by rw [hma]; rfl) (by infer_instance) fun h p m => ?_
      (repeat' first|(refine call_r (c51 _) ?_)|(refine calld_r (c51 _) ?_)|(refine call_r (c19 ⟨_, by with_unfolding_all rfl, L.up (by assumption)⟩) ?_)|(refine call_r (c49 ⟨_, by with_unfolding_all rfl, L.up (by assumption)⟩) ?_)|(refine calld_r (c49 ⟨_, by with_unfolding_all rfl, L.up (by assumption)⟩) ?_)|(refine call_r (c42 (own_ints (xs := [_, _, _]) (by assumption) (q := by infer_instance) rfl rfl (by decide))) ?_)|(refine calld_r (c42 (own_ints (xs := [_, _, _]) (by assumption) (q := by infer_instance) rfl rfl (by decide))) ?_)|(refine call_r (c44 _ (by assumption)) ?_)|(refine calld_r (c44 _ (by assumption)) ?_)|(refine call_r (c48 ⟨_, by with_unfolding_all rfl, L.up (by assumption)⟩ (by assumption)) ?_)|(refine calld_r (c48 ⟨_, by with_unfolding_all rfl, L.up (by assumption)⟩ (by assumption)) ?_)|(refine call_r (c56 ⟨_, by with_unfolding_all rfl, L.up (by assumption)⟩ _ _) ?_)|(refine call_r (c57 ⟨_, by with_unfolding_all rfl, L.up (by assumption)⟩ _ _) ?_)|(refine calld_r (c57 ⟨_, by with_unfolding_all rfl, L.up (by assumption)⟩ _ _) ?_)|(with_reducible refine tne_i (fun hc => ?_) (fun hc => ?_))|(with_reducible refine snil_i (fun hn => ?_) (fun hn => ?_))|(refine vk_i (bd24_01 _ _ _ _) ?_)|(refine vk_i (bd39_0 _ _ _ _) ?_)|(refine vk_i (bd39_3 _) ?_)|(refine vk_i (bd44_01 _ _) ?_)|(refine vk_i (bd24_z) ?_)|(refine vk_i (bd44_01234 _ _ _ _ _) ?_)|(refine vk_i (bd24_0 _) ?_)|(refine vk_i (bd44_0134 _ _ _ _) ?_)|(refine vk_i (bd24_1 _ _ _) ?_)|(refine bs_g (bs88_2 _ _ _) (by assumption) fun i h p m => ?_)|(refine bs_g (bs22_0 _) (by assumption) fun i h p m => ?_)|(refine bs_g (bs33_1 _ _) (by assumption) fun i h p m => ?_)|(refine bs_g (bs46_1 _ _) (by assumption) fun i h p m => ?_)|(refine bs_g (bs33_2 _ _ _) (by assumption) fun i h p m => ?_)|(refine bs_g (bs88_3 _ _ _ _) (by assumption) fun i h p m => ?_)|(refine bs_g (bs22_1 _ _) (by assumption) fun i h p m => ?_)|(refine bs_g (bs22_2 _ _ _) (by assumption) fun i h p m => ?_)|(refine call_r (c44 _ (few_at (by assumption) _)) ?_)|(refine calld_r (c44 _ (few_at (by assumption) _)) ?_)|(refine call_r (c47 ⟨_, by with_unfolding_all rfl, L.up (by assumption)⟩ (by assumption) (by omega)) ?_)|(with_reducible refine mulc_i (by simp [R64]) ?_)|(refine call_r (c64 _ _) ?_)|(refine calld_r (c64 _ _) ?_)|(refine call_r (c45 _ _) ?_)|(refine calld_r (c45 _ _) ?_)|(refine call_r (c46 _ _) ?_)|(refine calld_r (c46 _ _) ?_)|(refine call_r (c43 _) ?_)|(refine calld_r (c43 _) ?_)|(refine call_r (c62 _) ?_)|(refine calld_r (c62 _) ?_)|(refine call_r (c63 _) ?_)|(refine calld_r (c63 _) ?_)|(refine call_r (c44 _ (by omega)) ?_)|(refine calld_r (c44 _ (by omega)) ?_)|(refine call_r (c42 (own_ints (xs := [_, _]) (by assumption) (q := by infer_instance) rfl rfl (by decide))) ?_)|(refine calld_r (c42 (own_ints (xs := [_, _]) (by assumption) (q := by infer_instance) rfl rfl (by decide))) ?_)|(refine call_r (c70 (own_ints (xs := [_, _]) (by assumption) (q := by infer_instance) rfl rfl (by decide))) ?_)|(refine calld_r (c70 (own_ints (xs := [_, _]) (by assumption) (q := by infer_instance) rfl rfl (by decide))) ?_)|(refine call_r (c71 _ _) ?_)|(refine calld_r (c71 _ _) ?_)|(refine call_r (c72 _ _) ?_)|(refine calld_r (c72 _ _) ?_)|(refine bs_g (bs88_2 _ _ _) (by assumption) fun i h p m => ?_)|(refine bs_g (bs88_3 _ _ _ _) (by assumption) fun i h p m => ?_)|(refine bs_g (bs33_2 _ _ _) (by assumption) fun i h p m => ?_)|(refine call_r (c83 _) ?_)|(refine calld_r (c83 _) ?_)|(refine call_r (c86 _) ?_)|(refine calld_r (c86 _) ?_)|(refine call_r (c87 _) ?_)|(refine calld_r (c87 _) ?_)|(refine call_r (c88 _) ?_)|(refine calld_r (c88 _) ?_)|(refine schr_0 (by omega) ?_)|(refine schr_n (by omega) ?_)|(refine schr_z (by omega) (by omega) ?_)|(refine call_r (c65 _) ?_)|(refine calld_r (c65 _) ?_)|(refine call_r (c41 _ _ _) ?_)|(refine calld_r (c41 _ _ _) ?_)|(refine call_r (c26 _ _ _) ?_)|(refine calld_r (c26 _ _ _) ?_)|(refine call_r (c73 _) ?_)|(refine calld_r (c73 _) ?_)|(refine rt_w1 (by assumption) (by infer_instance) (by with_unfolding_all rfl) ?_)|(refine rt_w2 (by assumption) (by infer_instance) (by with_unfolding_all rfl) ?_)|(refine rt_11 (by assumption) (by infer_instance) (by with_unfolding_all rfl) ?_)|(refine rt_12 (by assumption) (by infer_instance) (by with_unfolding_all rfl) ?_)|(with_reducible refine len_o (by assumption) ?_)|(with_reducible refine mv_i ?_)|(with_reducible refine nil_i ?_)|(with_reducible refine ex2_0 ?_)|(with_reducible refine ex2_1 ?_)|(with_reducible refine ex3_0 ?_)|(with_reducible refine ex3_1 ?_)|(with_reducible refine ex3_2 ?_)|(with_reducible refine pick_t ?_)|(with_reducible refine pick_f ?_)|(with_reducible refine not_t ?_)|(with_reducible refine not_f ?_)|(with_reducible refine gd_tt ?_)|(with_reducible refine gd_ff ?_)|(with_reducible refine gd_tf ?_)|(with_reducible refine gd_ft ?_)|(with_reducible refine gd_u ?_)|(with_reducible refine cnd_t ?_)|(with_reducible refine cnd_f ?_)|(with_reducible refine gd_ht (by assumption) ?_)|(with_reducible refine gd_hf (by assumption) ?_)|(with_reducible refine gd_nt (by assumption) ?_)|(with_reducible refine gd_nf (by assumption) ?_)|(with_reducible refine cnd_h (by assumption) ?_)|(with_reducible refine cnd_n (by assumption) ?_)|(with_reducible refine pick_h (by assumption) ?_)|(with_reducible refine pick_n (by assumption) ?_)|(with_reducible refine not_h (by assumption) ?_)|(with_reducible refine not_n (by assumption) ?_)|(with_reducible refine gd_st (fun hb => ?_) (fun hb => ?_))|(with_reducible refine gd_sf (fun hb => ?_) (fun hb => ?_))|(with_reducible refine cnd_b (fun hb => ?_) (fun hb => ?_))|(with_reducible refine not_s (fun hb => ?_) (fun hb => ?_))|(with_reducible refine eql_h (by first | assumption | decide) ?_)|(with_reducible refine eql_n (by first | assumption | decide) ?_)|(with_reducible refine neq_h (by first | assumption | decide) ?_)|(with_reducible refine neq_n (by first | assumption | decide) ?_)|(with_reducible refine lss_i (fun hc => ?_) (fun hc => ?_))|(with_reducible refine leq_i (fun hc => ?_) (fun hc => ?_))|(with_reducible refine gtr_i (fun hc => ?_) (fun hc => ?_))|(with_reducible refine geq_i (fun hc => ?_) (fun hc => ?_))|(with_reducible refine eql_i (fun hc => ?_) (fun hc => ?_))|(with_reducible refine neq_i (fun hc => ?_) (fun hc => ?_))|(with_reducible refine seq_s (fun hc => ?_) (fun hc => ?_))|(with_reducible refine sne_s (fun hc => ?_) (fun hc => ?_))|(with_reducible refine sls_i ?_)|(with_reducible refine pick_s (fun hb => ?_) (fun hb => ?_))|(with_reducible refine len_g (by assumption) ?_)|(with_reducible refine slen_i ?_)|(with_reducible refine len_s ?_)|(with_reducible refine sidx_0 (by omega) ?_)|(refine idx_d (by assumption) (by with_unfolding_all rfl) (by omega) fun p hp => ?_)|(refine idx_dp (by assumption) (by with_unfolding_all rfl) (by omega) (by omega) fun p hp => ?_)|(refine idx_dz (by assumption) (by with_unfolding_all rfl) (by omega) (by omega) fun p hp => ?_)|(refine idx_f (by assumption) (by with_unfolding_all rfl) (by omega) fun p hp => ?_)|(refine idx_fz (by assumption) (by with_unfolding_all rfl) (by omega) (by omega) fun p hp => ?_)|(with_reducible refine fa_g (by assumption) fun p hp => ?_)|(refine ld_g (by assumption) (by with_unfolding_all rfl) ?_)|(refine ldr_w (by assumption) (by with_unfolding_all rfl) ?_)|(refine ldr_g (by assumption) (by with_unfolding_all rfl) (by with_unfolding_all exact Nat.le_refl _) ?_)|(with_reducible refine fao_e ?_)|(with_reducible refine fao ?_)|(refine ldo (by assumption) (q := by infer_instance) (by with_unfolding_all rfl) ?_)|(refine ldo_w (by assumption) (by infer_instance) (by with_unfolding_all rfl) ?_)|(refine ldor (by assumption) (q := by infer_instance) (by with_unfolding_all rfl) (by with_unfolding_all exact Nat.le_refl _) ?_)|(with_reducible refine box_a (by assumption) fun i h z p m => ?_)|(with_reducible refine alloc_z (by assumption) fun i h z p m => ?_)|(refine box_1 (by assumption) (by with_unfolding_all rfl) fun i h z p m => ?_)|(refine sto (by assumption) (q := by infer_instance) (by with_unfolding_all exact Nat.le_of_ble_eq_true rfl) rfl rfl (u := by infer_instance) fun h p m => ?_)|(refine st_w (by assumption) (by infer_instance) (by with_unfolding_all rfl) (by with_unfolding_all rfl) (by first | rfl | exact flat_ones (Flat.flat _)) (by infer_instance) fun h p m => ?_)|(with_reducible refine new_n ?_)|(refine pd_c (by assumption) (by infer_instance) (by with_unfolding_all rfl) ?_)|(with_reducible refine new_p (by assumption) ?_)|(with_reducible refine vb_f ?_)|(refine vb_n (by with_unfolding_all rfl) ?_)|(with_reducible refine vb_l (by assumption) ?_)|(refine pd_o (by assumption) (by infer_instance) (by with_unfolding_all rfl) ?_)|(with_reducible refine ⟨trivial, ?_⟩)|(refine fld_g (by with_unfolding_all rfl) ?_)|(with_reducible refine leni_t (by assumption) ?_)|(refine idxi_t (by assumption) (by omega) ?_)|(refine ldi_t (by assumption) (by omega) ?_)|(with_reducible refine inc_i (by omega) ?_)|(with_reducible refine ret1 ?_)|(with_reducible refine ret2 ?_)|(with_reducible refine ret3 ?_)|(with_reducible refine ret0 ?_)|(with_reducible refine seq_i ?_)|((with_reducible refine fun (_ : Tmps) => ?_); (try dsimp only [nth]))|(with_reducible refine sub_j (by omega) (by omega) ?_)|(with_reducible refine add_j (by omega) (by omega) ?_)|(refine vb_as rfl (by assumption) ?_)|(refine vb_ao rfl (by assumption) (by assumption) (by infer_instance) ?_)|(refine IsSl.vb (by assumption) (by assumption) (by infer_instance) ?_)|(refine idx_o (by assumption) (by omega) ?_)|(refine idx_oz (by assumption) (by omega) (by omega) ?_)|(refine ldf_d (by assumption) (by infer_instance) (by with_unfolding_all rfl) (by omega) (by with_unfolding_all exact Nat.le_of_ble_eq_true rfl) (by with_unfolding_all rfl) ?_)|(refine ldw_d (by assumption) (by infer_instance) (by with_unfolding_all rfl) (by omega) ?_)|(refine stw_o (by assumption) (by infer_instance) (by with_unfolding_all rfl) (by omega) (by infer_instance) fun h p m => ?_))
      refine stf_d { gt c.timers k with running := false, expired := true } m (by infer_instance) rfl (by simp; omega) (by decide) rfl rfl (by rw [gt_set (by omega)]; rfl) (by infer_instance) fun h p m => ?_
      rw [List.set_set] at m
      (repeat' first|(refine call_r (c51 _) ?_)|(refine calld_r (c51 _) ?_)|(refine call_r (c19 ⟨_, by with_unfolding_all rfl, L.up (by assumption)⟩) ?_)|(refine call_r (c49 ⟨_, by with_unfolding_all rfl, L.up (by assumption)⟩) ?_)|(refine calld_r (c49 ⟨_, by with_unfolding_all rfl, L.up (by assumption)⟩) ?_)|(refine call_r (c42 (own_ints (xs := [_, _, _]) (by assumption) (q := by infer_instance) rfl rfl (by decide))) ?_)|(refine calld_r (c42 (own_ints (xs := [_, _, _]) (by assumption) (q := by infer_instance) rfl rfl (by decide))) ?_)|(refine call_r (c44 _ (by assumption)) ?_)|(refine calld_r (c44 _ (by assumption)) ?_)|(refine call_r (c48 ⟨_, by with_unfolding_all rfl, L.up (by assumption)⟩ (by assumption)) ?_)|(refine calld_r (c48 ⟨_, by with_unfolding_all rfl, L.up (by assumption)⟩ (by assumption)) ?_)|(refine call_r (c56 ⟨_, by with_unfolding_all rfl, L.up (by assumption)⟩ _ _) ?_)|(refine call_r (c57 ⟨_, by with_unfolding_all rfl, L.up (by assumption)⟩ _ _) ?_)|(refine calld_r (c57 ⟨_, by with_unfolding_all rfl, L.up (by assumption)⟩ _ _) ?_)|(with_reducible refine tne_i (fun hc => ?_) (fun hc => ?_))|(with_reducible refine snil_i (fun hn => ?_) (fun hn => ?_))|(refine vk_i (bd24_01 _ _ _ _) ?_)|(refine vk_i (bd39_0 _ _ _ _) ?_)|(refine vk_i (bd39_3 _) ?_)|(refine vk_i (bd44_01 _ _) ?_)|(refine vk_i (bd24_z) ?_)|(refine vk_i (bd44_01234 _ _ _ _ _) ?_)|(refine vk_i (bd24_0 _) ?_)|(refine vk_i (bd44_0134 _ _ _ _) ?_)|(refine vk_i (bd24_1 _ _ _) ?_)|(refine bs_g (bs88_2 _ _ _) (by assumption) fun i h p m => ?_)|(refine bs_g (bs22_0 _) (by assumption) fun i h p m => ?_)|(refine bs_g (bs33_1 _ _) (by assumption) fun i h p m => ?_)|(refine bs_g (bs46_1 _ _) (by assumption) fun i h p m => ?_)|(refine bs_g (bs33_2 _ _ _) (by assumption) fun i h p m => ?_)|(refine bs_g (bs88_3 _ _ _ _) (by assumption) fun i h p m => ?_)|(refine bs_g (bs22_1 _ _) (by assumption) fun i h p m => ?_)|(refine bs_g (bs22_2 _ _ _) (by assumption) fun i h p m => ?_)|(refine call_r (c44 _ (few_at (by assumption) _)) ?_)|(refine calld_r (c44 _ (few_at (by assumption) _)) ?_)|(refine call_r (c47 ⟨_, by with_unfolding_all rfl, L.up (by assumption)⟩ (by assumption) (by omega)) ?_)|(with_reducible refine mulc_i (by simp [R64]) ?_)|(refine call_r (c64 _ _) ?_)|(refine calld_r (c64 _ _) ?_)|(refine call_r (c45 _ _) ?_)|(refine calld_r (c45 _ _) ?_)|(refine call_r (c46 _ _) ?_)|(refine calld_r (c46 _ _) ?_)|(refine call_r (c43 _) ?_)|(refine calld_r (c43 _) ?_)|(refine call_r (c62 _) ?_)|(refine calld_r (c62 _) ?_)|(refine call_r (c63 _) ?_)|(refine calld_r (c63 _) ?_)|(refine call_r (c44 _ (by omega)) ?_)|(refine calld_r (c44 _ (by omega)) ?_)|(refine call_r (c42 (own_ints (xs := [_, _]) (by assumption) (q := by infer_instance) rfl rfl (by decide))) ?_)|(refine calld_r (c42 (own_ints (xs := [_, _]) (by assumption) (q := by infer_instance) rfl rfl (by decide))) ?_)|(refine call_r (c70 (own_ints (xs := [_, _]) (by assumption) (q := by infer_instance) rfl rfl (by decide))) ?_)|(refine calld_r (c70 (own_ints (xs := [_, _]) (by assumption) (q := by infer_instance) rfl rfl (by decide))) ?_)|(refine call_r (c71 _ _) ?_)|(refine calld_r (c71 _ _) ?_)|(refine call_r (c72 _ _) ?_)|(refine calld_r (c72 _ _) ?_)|(refine bs_g (bs88_2 _ _ _) (by assumption) fun i h p m => ?_)|(refine bs_g (bs88_3 _ _ _ _) (by assumption) fun i h p m => ?_)|(refine bs_g (bs33_2 _ _ _) (by assumption) fun i h p m => ?_)|(refine call_r (c83 _) ?_)|(refine calld_r (c83 _) ?_)|(refine call_r (c86 _) ?_)|(refine calld_r (c86 _) ?_)|(refine call_r (c87 _) ?_)|(refine calld_r (c87 _) ?_)|(refine call_r (c88 _) ?_)|(refine calld_r (c88 _) ?_)|(refine schr_0 (by omega) ?_)|(refine schr_n (by omega) ?_)|(refine schr_z (by omega) (by omega) ?_)|(refine call_r (c65 _) ?_)|(refine calld_r (c65 _) ?_)|(refine call_r (c41 _ _ _) ?_)|(refine calld_r (c41 _ _ _) ?_)|(refine call_r (c26 _ _ _) ?_)|(refine calld_r (c26 _ _ _) ?_)|(refine call_r (c73 _) ?_)|(refine calld_r (c73 _) ?_)|(refine rt_w1 (by assumption) (by infer_instance) (by with_unfolding_all rfl) ?_)|(refine rt_w2 (by assumption) (by infer_instance) (by with_unfolding_all rfl) ?_)|(refine rt_11 (by assumption) (by infer_instance) (by with_unfolding_all rfl) ?_)|(refine rt_12 (by assumption) (by infer_instance) (by with_unfolding_all rfl) ?_)|(with_reducible refine len_o (by assumption) ?_)|(with_reducible refine mv_i ?_)|(with_reducible refine nil_i ?_)|(with_reducible refine ex2_0 ?_)|(with_reducible refine ex2_1 ?_)|(with_reducible refine ex3_0 ?_)|(with_reducible refine ex3_1 ?_)|(with_reducible refine ex3_2 ?_)|(with_reducible refine pick_t ?_)|(with_reducible refine pick_f ?_)|(with_reducible refine not_t ?_)|(with_reducible refine not_f ?_)|(with_reducible refine gd_tt ?_)|(with_reducible refine gd_ff ?_)|(with_reducible refine gd_tf ?_)|(with_reducible refine gd_ft ?_)|(with_reducible refine gd_u ?_)|(with_reducible refine cnd_t ?_)|(with_reducible refine cnd_f ?_)|(with_reducible refine gd_ht (by assumption) ?_)|(with_reducible refine gd_hf (by assumption) ?_)|(with_reducible refine gd_nt (by assumption) ?_)|(with_reducible refine gd_nf (by assumption) ?_)|(with_reducible refine cnd_h (by assumption) ?_)|(with_reducible refine cnd_n (by assumption) ?_)|(with_reducible refine pick_h (by assumption) ?_)|(with_reducible refine pick_n (by assumption) ?_)|(with_reducible refine not_h (by assumption) ?_)|(with_reducible refine not_n (by assumption) ?_)|(with_reducible refine gd_st (fun hb => ?_) (fun hb => ?_))|(with_reducible refine gd_sf (fun hb => ?_) (fun hb => ?_))|(with_reducible refine cnd_b (fun hb => ?_) (fun hb => ?_))|(with_reducible refine not_s (fun hb => ?_) (fun hb => ?_))|(with_reducible refine eql_h (by first | assumption | decide) ?_)|(with_reducible refine eql_n (by first | assumption | decide) ?_)|(with_reducible refine neq_h (by first | assumption | decide) ?_)|(with_reducible refine neq_n (by first | assumption | decide) ?_)|(with_reducible refine lss_i (fun hc => ?_) (fun hc => ?_))|(with_reducible refine leq_i (fun hc => ?_) (fun hc => ?_))|(with_reducible refine gtr_i (fun hc => ?_) (fun hc => ?_))|(with_reducible refine geq_i (fun hc => ?_) (fun hc => ?_))|(with_reducible refine eql_i (fun hc => ?_) (fun hc => ?_))|(with_reducible refine neq_i (fun hc => ?_) (fun hc => ?_))|(with_reducible refine seq_s (fun hc => ?_) (fun hc => ?_))|(with_reducible refine sne_s (fun hc => ?_) (fun hc => ?_))|(with_reducible refine sls_i ?_)|(with_reducible refine pick_s (fun hb => ?_) (fun hb => ?_))|(with_reducible refine len_g (by assumption) ?_)|(with_reducible refine slen_i ?_)|(with_reducible refine len_s ?_)|(with_reducible refine sidx_0 (by omega) ?_)|(refine idx_d (by assumption) (by with_unfolding_all rfl) (by omega) fun p hp => ?_)|(refine idx_dp (by assumption) (by with_unfolding_all rfl) (by omega) (by omega) fun p hp => ?_)|(refine idx_dz (by assumption) (by with_unfolding_all rfl) (by omega) (by omega) fun p hp => ?_)|(refine idx_f (by assumption) (by with_unfolding_all rfl) (by omega) fun p hp => ?_)|(refine idx_fz (by assumption) (by with_unfolding_all rfl) (by omega) (by omega) fun p hp => ?_)|(with_reducible refine fa_g (by assumption) fun p hp => ?_)|(refine ld_g (by assumption) (by with_unfolding_all rfl) ?_)|(refine ldr_w (by assumption) (by with_unfolding_all rfl) ?_)|(refine ldr_g (by assumption) (by with_unfolding_all rfl) (by with_unfolding_all exact Nat.le_refl _) ?_)|(with_reducible refine fao_e ?_)|(with_reducible refine fao ?_)|(refine ldo (by assumption) (q := by infer_instance) (by with_unfolding_all rfl) ?_)|(refine ldo_w (by assumption) (by infer_instance) (by with_unfolding_all rfl) ?_)|(refine ldor (by assumption) (q := by infer_instance) (by with_unfolding_all rfl) (by with_unfolding_all exact Nat.le_refl _) ?_)|(with_reducible refine box_a (by assumption) fun i h z p m => ?_)|(with_reducible refine alloc_z (by assumption) fun i h z p m => ?_)|(refine box_1 (by assumption) (by with_unfolding_all rfl) fun i h z p m => ?_)|(refine sto (by assumption) (q := by infer_instance) (by with_unfolding_all exact Nat.le_of_ble_eq_true rfl) rfl rfl (u := by infer_instance) fun h p m => ?_)|(refine st_w (by assumption) (by infer_instance) (by with_unfolding_all rfl) (by with_unfolding_all rfl) (by first | rfl | exact flat_ones (Flat.flat _)) (by infer_instance) fun h p m => ?_)|(with_reducible refine new_n ?_)|(refine pd_c (by assumption) (by infer_instance) (by with_unfolding_all rfl) ?_)|(with_reducible refine new_p (by assumption) ?_)|(with_reducible refine vb_f ?_)|(refine vb_n (by with_unfolding_all rfl) ?_)|(with_reducible refine vb_l (by assumption) ?_)|(refine pd_o (by assumption) (by infer_instance) (by with_unfolding_all rfl) ?_)|(with_reducible refine ⟨trivial, ?_⟩)|(refine fld_g (by with_unfolding_all rfl) ?_)|(with_reducible refine leni_t (by assumption) ?_)|(refine idxi_t (by assumption) (by omega) ?_)|(refine ldi_t (by assumption) (by omega) ?_)|(with_reducible refine inc_i (by omega) ?_)|(with_reducible refine ret1 ?_)|(with_reducible refine ret2 ?_)|(with_reducible refine ret3 ?_)|(with_reducible refine ret0 ?_)|(with_reducible refine seq_i ?_)|((with_reducible refine fun (_ : Tmps) => ?_); (try dsimp only [nth]))|(with_reducible refine sub_j (by omega) (by omega) ?_)|(with_reducible refine add_j (by omega) (by omega) ?_)|(refine vb_as rfl (by assumption) ?_)|(refine vb_ao rfl (by assumption) (by assumption) (by infer_instance) ?_)|(refine IsSl.vb (by assumption) (by assumption) (by infer_instance) ?_)|(refine idx_o (by assumption) (by omega) ?_)|(refine idx_oz (by assumption) (by omega) (by omega) ?_)|(refine ldf_d (by assumption) (by infer_instance) (by with_unfolding_all rfl) (by omega) (by with_unfolding_all exact Nat.le_of_ble_eq_true rfl) (by with_unfolding_all rfl) ?_)|(refine ldw_d (by assumption) (by infer_instance) (by with_unfolding_all rfl) (by omega) ?_)|(refine stw_o (by assumption) (by infer_instance) (by with_unfolding_all rfl) (by omega) (by infer_instance) fun h p m => ?_))
      refine app_o m hv (by infer_instance) (by rw [flat_length]; rfl) (src_own m (q := by infer_instance) (n := 1) rfl (by decide) (by decide) rfl) ⟨by omega, by omega⟩ fun i h p m => ?_
      simp only [List.set_cons_succ, List.set_cons_zero] at m
      (repeat' first|(refine call_r (c51 _) ?_)|(refine calld_r (c51 _) ?_)|(refine call_r (c19 ⟨_, by with_unfolding_all rfl, L.up (by assumption)⟩) ?_)|(refine call_r (c49 ⟨_, by with_unfolding_all rfl, L.up (by assumption)⟩) ?_)|(refine calld_r (c49 ⟨_, by with_unfolding_all rfl, L.up (by assumption)⟩) ?_)|(refine call_r (c42 (own_ints (xs := [_, _, _]) (by assumption) (q := by infer_instance) rfl rfl (by decide))) ?_)|(refine calld_r (c42 (own_ints (xs := [_, _, _]) (by assumption) (q := by infer_instance) rfl rfl (by decide))) ?_)|(refine call_r (c44 _ (by assumption)) ?_)|(refine calld_r (c44 _ (by assumption)) ?_)|(refine call_r (c48 ⟨_, by with_unfolding_all rfl, L.up (by assumption)⟩ (by assumption)) ?_)|(refine calld_r (c48 ⟨_, by with_unfolding_all rfl, L.up (by assumption)⟩ (by assumption)) ?_)|(refine call_r (c56 ⟨_, by with_unfolding_all rfl, L.up (by assumption)⟩ _ _) ?_)|(refine call_r (c57 ⟨_, by with_unfolding_all rfl, L.up (by assumption)⟩ _ _) ?_)|(refine calld_r (c57 ⟨_, by with_unfolding_all rfl, L.up (by assumption)⟩ _ _) ?_)|(with_reducible refine tne_i (fun hc => ?_) (fun hc => ?_))|(with_reducible refine snil_i (fun hn => ?_) (fun hn => ?_))|(refine vk_i (bd24_01 _ _ _ _) ?_)|(refine vk_i (bd39_0 _ _ _ _) ?_)|(refine vk_i (bd39_3 _) ?_)|(refine vk_i (bd44_01 _ _) ?_)|(refine vk_i (bd24_z) ?_)|(refine vk_i (bd44_01234 _ _ _ _ _) ?_)|(refine vk_i (bd24_0 _) ?_)|(refine vk_i (bd44_0134 _ _ _ _) ?_)|(refine vk_i (bd24_1 _ _ _) ?_)|(refine bs_g (bs88_2 _ _ _) (by assumption) fun i h p m => ?_)|(refine bs_g (bs22_0 _) (by assumption) fun i h p m => ?_)|(refine bs_g (bs33_1 _ _) (by assumption) fun i h p m => ?_)|(refine bs_g (bs46_1 _ _) (by assumption) fun i h p m => ?_)|(refine bs_g (bs33_2 _ _ _) (by assumption) fun i h p m => ?_)|(refine bs_g (bs88_3 _ _ _ _) (by assumption) fun i h p m => ?_)|(refine bs_g (bs22_1 _ _) (by assumption) fun i h p m => ?_)|(refine bs_g (bs22_2 _ _ _) (by assumption) fun i h p m => ?_)|(refine call_r (c44 _ (few_at (by assumption) _)) ?_)|(refine calld_r (c44 _ (few_at (by assumption) _)) ?_)|(refine call_r (c47 ⟨_, by with_unfolding_all rfl, L.up (by assumption)⟩ (by assumption) (by omega)) ?_)|(with_reducible refine mulc_i (by simp [R64]) ?_)|(refine call_r (c64 _ _) ?_)|(refine calld_r (c64 _ _) ?_)|(refine call_r (c45 _ _) ?_)|(refine calld_r (c45 _ _) ?_)|(refine call_r (c46 _ _) ?_)|(refine calld_r (c46 _ _) ?_)|(refine call_r (c43 _) ?_)|(refine calld_r (c43 _) ?_)|(refine call_r (c62 _) ?_)|(refine calld_r (c62 _) ?_)|(refine call_r (c63 _) ?_)|(refine calld_r (c63 _) ?_)|(refine call_r (c44 _ (by omega)) ?_)|(refine calld_r (c44 _ (by omega)) ?_)|(refine call_r (c42 (own_ints (xs := [_, _]) (by assumption) (q := by infer_instance) rfl rfl (by decide))) ?_)|(refine calld_r (c42 (own_ints (xs := [_, _]) (by assumption) (q := by infer_instance) rfl rfl (by decide))) ?_)|(refine call_r (c70 (own_ints (xs := [_, _]) (by assumption) (q := by infer_instance) rfl rfl (by decide))) ?_)|(refine calld_r (c70 (own_ints (xs := [_, _]) (by assumption) (q := by infer_instance) rfl rfl (by decide))) ?_)|(refine call_r (c71 _ _) ?_)|(refine calld_r (c71 _ _) ?_)|(refine call_r (c72 _ _) ?_)|(refine calld_r (c72 _ _) ?_)|(refine bs_g (bs88_2 _ _ _) (by assumption) fun i h p m => ?_)|(refine bs_g (bs88_3 _ _ _ _) (by assumption) fun i h p m => ?_)|(refine bs_g (bs33_2 _ _ _) (by assumption) fun i h p m => ?_)|(refine call_r (c83 _) ?_)|(refine calld_r (c83 _) ?_)|(refine call_r (c86 _) ?_)|(refine calld_r (c86 _) ?_)|(refine call_r (c87 _) ?_)|(refine calld_r (c87 _) ?_)|(refine call_r (c88 _) ?_)|(refine calld_r (c88 _) ?_)|(refine schr_0 (by omega) ?_)|(refine schr_n (by omega) ?_)|(refine schr_z (by omega) (by omega) ?_)|(refine call_r (c65 _) ?_)|(refine calld_r (c65 _) ?_)|(refine call_r (c41 _ _ _) ?_)|(refine calld_r (c41 _ _ _) ?_)|(refine call_r (c26 _ _ _) ?_)|(refine calld_r (c26 _ _ _) ?_)|(refine call_r (c73 _) ?_)|(refine calld_r (c73 _) ?_)|(refine rt_w1 (by assumption) (by infer_instance) (by with_unfolding_all rfl) ?_)|(refine rt_w2 (by assumption) (by infer_instance) (by with_unfolding_all rfl) ?_)|(refine rt_11 (by assumption) (by infer_instance) (by with_unfolding_all rfl) ?_)|(refine rt_12 (by assumption) (by infer_instance) (by with_unfolding_all rfl) ?_)|(with_reducible refine len_o (by assumption) ?_)|(with_reducible refine mv_i ?_)|(with_reducible refine nil_i ?_)|(with_reducible refine ex2_0 ?_)|(with_reducible refine ex2_1 ?_)|(with_reducible refine ex3_0 ?_)|(with_reducible refine ex3_1 ?_)|(with_reducible refine ex3_2 ?_)|(with_reducible refine pick_t ?_)|(with_reducible refine pick_f ?_)|(with_reducible refine not_t ?_)|(with_reducible refine not_f ?_)|(with_reducible refine gd_tt ?_)|(with_reducible refine gd_ff ?_)|(with_reducible refine gd_tf ?_)|(with_reducible refine gd_ft ?_)|(with_reducible refine gd_u ?_)|(with_reducible refine cnd_t ?_)|(with_reducible refine cnd_f ?_)|(with_reducible refine gd_ht (by assumption) ?_)|(with_reducible refine gd_hf (by assumption) ?_)|(with_reducible refine gd_nt (by assumption) ?_)|(with_reducible refine gd_nf (by assumption) ?_)|(with_reducible refine cnd_h (by assumption) ?_)|(with_reducible refine cnd_n (by assumption) ?_)|(with_reducible refine pick_h (by assumption) ?_)|(with_reducible refine pick_n (by assumption) ?_)|(with_reducible refine not_h (by assumption) ?_)|(with_reducible refine not_n (by assumption) ?_)|(with_reducible refine gd_st (fun hb => ?_) (fun hb => ?_))|(with_reducible refine gd_sf (fun hb => ?_) (fun hb => ?_))|(with_reducible refine cnd_b (fun hb => ?_) (fun hb => ?_))|(with_reducible refine not_s (fun hb => ?_) (fun hb => ?_))|(with_reducible refine eql_h (by first | assumption | decide) ?_)|(with_reducible refine eql_n (by first | assumption | decide) ?_)|(with_reducible refine neq_h (by first | assumption | decide) ?_)|(with_reducible refine neq_n (by first | assumption | decide) ?_)|(with_reducible refine lss_i (fun hc => ?_) (fun hc => ?_))|(with_reducible refine leq_i (fun hc => ?_) (fun hc => ?_))|(with_reducible refine gtr_i (fun hc => ?_) (fun hc => ?_))|(with_reducible refine geq_i (fun hc => ?_) (fun hc => ?_))|(with_reducible refine eql_i (fun hc => ?_) (fun hc => ?_))|(with_reducible refine neq_i (fun hc => ?_) (fun hc => ?_))|(with_reducible refine seq_s (fun hc => ?_) (fun hc => ?_))|(with_reducible refine sne_s (fun hc => ?_) (fun hc => ?_))|(with_reducible refine sls_i ?_)|(with_reducible refine pick_s (fun hb => ?_) (fun hb => ?_))|(with_reducible refine len_g (by assumption) ?_)|(with_reducible refine slen_i ?_)|(with_reducible refine len_s ?_)|(with_reducible refine sidx_0 (by omega) ?_)|(refine idx_d (by assumption) (by with_unfolding_all rfl) (by omega) fun p hp => ?_)|(refine idx_dp (by assumption) (by with_unfolding_all rfl) (by omega) (by omega) fun p hp => ?_)|(refine idx_dz (by assumption) (by with_unfolding_all rfl) (by omega) (by omega) fun p hp => ?_)|(refine idx_f (by assumption) (by with_unfolding_all rfl) (by omega) fun p hp => ?_)|(refine idx_fz (by assumption) (by with_unfolding_all rfl) (by omega) (by omega) fun p hp => ?_)|(with_reducible refine fa_g (by assumption) fun p hp => ?_)|(refine ld_g (by assumption) (by with_unfolding_all rfl) ?_)|(refine ldr_w (by assumption) (by with_unfolding_all rfl) ?_)|(refine ldr_g (by assumption) (by with_unfolding_all rfl) (by with_unfolding_all exact Nat.le_refl _) ?_)|(with_reducible refine fao_e ?_)|(with_reducible refine fao ?_)|(refine ldo (by assumption) (q := by infer_instance) (by with_unfolding_all rfl) ?_)|(refine ldo_w (by assumption) (by infer_instance) (by with_unfolding_all rfl) ?_)|(refine ldor (by assumption) (q := by infer_instance) (by with_unfolding_all rfl) (by with_unfolding_all exact Nat.le_refl _) ?_)|(with_reducible refine box_a (by assumption) fun i h z p m => ?_)|(with_reducible refine alloc_z (by assumption) fun i h z p m => ?_)|(refine box_1 (by assumption) (by with_unfolding_all rfl) fun i h z p m => ?_)|(refine sto (by assumption) (q := by infer_instance) (by with_unfolding_all exact Nat.le_of_ble_eq_true rfl) rfl rfl (u := by infer_instance) fun h p m => ?_)|(refine st_w (by assumption) (by infer_instance) (by with_unfolding_all rfl) (by with_unfolding_all rfl) (by first | rfl | exact flat_ones (Flat.flat _)) (by infer_instance) fun h p m => ?_)|(with_reducible refine new_n ?_)|(refine pd_c (by assumption) (by infer_instance) (by with_unfolding_all rfl) ?_)|(with_reducible refine new_p (by assumption) ?_)|(with_reducible refine vb_f ?_)|(refine vb_n (by with_unfolding_all rfl) ?_)|(with_reducible refine vb_l (by assumption) ?_)|(refine pd_o (by assumption) (by infer_instance) (by with_unfolding_all rfl) ?_)|(with_reducible refine ⟨trivial, ?_⟩)|(refine fld_g (by with_unfolding_all rfl) ?_)|(with_reducible refine leni_t (by assumption) ?_)|(refine idxi_t (by assumption) (by omega) ?_)|(refine ldi_t (by assumption) (by omega) ?_)|(with_reducible refine inc_i (by omega) ?_)|(with_reducible refine ret1 ?_)|(with_reducible refine ret2 ?_)|(with_reducible refine ret3 ?_)|(with_reducible refine ret0 ?_)|(with_reducible refine seq_i ?_)|((with_reducible refine fun (_ : Tmps) => ?_); (try dsimp only [nth]))|(with_reducible refine sub_j (by omega) (by omega) ?_)|(with_reducible refine add_j (by omega) (by omega) ?_)|(refine vb_as rfl (by assumption) ?_)|(refine vb_ao rfl (by assumption) (by assumption) (by infer_instance) ?_)|(refine IsSl.vb (by assumption) (by assumption) (by infer_instance) ?_)|(refine idx_o (by assumption) (by omega) ?_)|(refine idx_oz (by assumption) (by omega) (by omega) ?_)|(refine ldf_d (by assumption) (by infer_instance) (by with_unfolding_all rfl) (by omega) (by with_unfolding_all exact Nat.le_of_ble_eq_true rfl) (by with_unfolding_all rfl) ?_)|(refine ldw_d (by assumption) (by infer_instance) (by with_unfolding_all rfl) (by omega) ?_)|(refine stw_o (by assumption) (by infer_instance) (by with_unfolding_all rfl) (by omega) (by infer_instance) fun h p m => ?_))
      refine next1 hkl ⟨⟨Stb.st⟩, some i, .slice (some ⟨i, 0, none⟩) ((outs to c.timers k).length + 1) 0, ?_, ?_⟩
      rotate_left
      · have m := m.tail
        rw [outs_due hd, mids_due hkl, flat_snoc]
        have he : expire to (gt c.timers k) = { gt c.timers k with running := false, expired := true } := by unfold expire; rw [if_pos hd]
        rw [he]
        exact m
      · rw [outs_due hd, List.length_append]; exact IsSl.some0
end Go.Proofs.Ytalnnkpdpjmmkaa

set_option linter.unusedSimpArgs false
set_option linter.unusedVariables false
set_option linter.unnecessarySimpa false
set_option maxRecDepth 100000
set_option maxHeartbeats 4000000
namespace Go.Proofs.Ytalnnkpdpjmmkaa
open Go.AM
variable {g : Heap}
theorem next_eq {l : List Tim} (hl : ∀ t ∈ l, t.running = true → 0 ≤ t.due) : nextR l = nextOf l ∧ -1 ≤ nextOf l := by
  have key : ∀ (l : List Tim) (n : Int), (∀ t ∈ l, t.running = true → 0 ≤ t.due) → -1 ≤ n →
      l.foldl (fun n t => if t.running = true ∧ (n = -1 ∨ t.due < n) then t.due else n) n = l.foldl (fun n t => if t.running = true ∧ (n < 0 ∨ t.due < n) then t.due else n) n ∧
      -1 ≤ l.foldl (fun n t => if t.running = true ∧ (n < 0 ∨ t.due < n) then t.due else n) n := by
    intro l
    induction l with
    | nil => intro n _ hn; exact ⟨rfl, hn⟩
    | cons t l ih =>
      intro n hl hn
      simp only [List.foldl_cons]
      have h1 := hl t (by simp)
      have e : (if t.running = true ∧ (n = -1 ∨ t.due < n) then t.due else n) = (if t.running = true ∧ (n < 0 ∨ t.due < n) then t.due else n) := by
        have : (n = -1 ∨ t.due < n) ↔ (n < 0 ∨ t.due < n) := by omega
        simp only [this]
      rw [e]
      refine ih _ (fun u hu => hl u (by simp [hu])) ?_
      split
      · rename_i q; have := h1 q.1; omega
      · exact hn
  exact key l (-1) hl (by omega)
theorem stE_due {now : Int} {t : Tim} (h0 : stE now t = 0) (hr : t.running = true) : now ≤ t.due ∧ t.due ≤ 1099511627776 ∧ t.expired = false := by
  unfold stE at h0
  split at h0
  · cases h0
  · split at h0
    · simp_all
    · split at h0
      · cases h0
      · rename_i q1 q2 q
        simp only [not_or, Classical.not_not] at q
        refine ⟨?_, q.2.1.2, ?_⟩
        · have := q.2.2.1; simp only [hr, true_and] at this; omega
        · cases he : t.expired with
          | false => rfl
          | true => exact absurd ⟨hr, he⟩ q1
theorem chk_tim {c : Clk} (h0 : (chk c).2 = 0) {t : Tim} (ht : t ∈ c.timers) : stE c.now t = 0 := by
  obtain ⟨j, hj, e⟩ := mem_gd Df.d ht
  have := (tmE_zero ((chk_zero h0).2.2 j hj)).2.2.2
  rw [← e]; exact this
theorem chk_next {c : Clk} (h0 : (chk c).2 = 0) : nextR c.timers = nextOf c.timers ∧ -1 ≤ nextOf c.timers :=
  next_eq fun t ht hr => by have := (stE_due (chk_tim h0 ht) hr).1; have := (chk_zero h0).1; omega
theorem adr_adv {c : Clk} (h0 : (chk c).2 = 0) (to : Int) : advE c to = adrE c to := by
  have := chk_next h0
  unfold advE adrE
  rw [if_neg (by simpa using h0), this.1]
  have : (0 ≤ nextOf c.timers ∧ nextOf c.timers < to) ↔ (nextOf c.timers ≠ -1 ∧ nextOf c.timers < to) := by omega
  simp only [this]
/-- What a clock is at a moment, and what has expired. -/
noncomputable def advC (c : Clk) (to : Int) : Clk := if advE c to ≠ 0 then ⟨0, []⟩ else ⟨to, c.timers.map (expire to)⟩
noncomputable def advL (c : Clk) (to : Int) : List Int := if advE c to ≠ 0 then [] else dueIdx to c.timers
theorem c16' [GM g] {v : Value} {c : Clk} (s : ClkV g v c) (f : few c) (to : Int) : DetP Try.prog 16 [v, .int .i64 to] g fun v' h' => g <+: h' ∧
    ∃ b q n y, v' = .tuple #[.agg #[.int .i64 (advC c to).now, .slice b n q], y, .int .i64 (advE c to)] ∧ n = (advC c to).timers.length ∧ L h' (.slice b n q) (advC c to).timers ∧ L h' y (advL c to) := by
  obtain ⟨v', h', e1, e2, x, y, e3, s1, s2⟩ := c16 s f to
  obtain ⟨b, q, rfl, _⟩ := s1.shape
  exact ⟨v', h', e1, e2, b, q, _, y, e3, rfl, s1, s2⟩
theorem c20' {v : Value} {c : Clk} (s : ClkV g v c) (hl : c.timers.length ≤ 27) (h0 : (chk c).2 = 0) (to : Int) : DetP Try.prog 20 [v, .int .i64 to] g fun v' h' => g <+: h' ∧
    ∃ b q n y, v' = .agg #[.int .i64 (advC c to).now, .slice b n q, y, .string ⟨#[]⟩, .int .i64 (advE c to)] ∧ n = (advC c to).timers.length ∧ L h' (.slice b n q) (advC c to).timers ∧ L h' y (advL c to) := by
  obtain ⟨v', h', e1, e2, x, y, e3, s1, s2⟩ := c20 s hl to
  rw [← adr_adv h0 to] at e3 s1 s2
  obtain ⟨b, q, rfl, _⟩ := s1.shape
  exact ⟨v', h', e1, e2, b, q, _, y, e3, rfl, s1, s2⟩
open Classical in
theorem c4 [GM g] {v : Value} {c : Clk} (s : ClkV g v c) (hb : c.timers.length ≤ 1048576) (to : Int) : DetP Try.prog 4 [v, .int .i64 to] g fun v' _ => v' = .bool true := by
  obtain ⟨x, rfl, s⟩ := s
  have m := Mem.start g
  refine w4 ?_
  unfold n4
  ((with_reducible (refine box_a (by assumption) fun i h z p m => ?_; refine mv_i ?_));
      (refine call_r c10 ?_);
      (with_reducible (refine not_t ?_; refine cnd_f ?_));
      (refine ldo_w (by assumption) (by infer_instance) (by with_unfolding_all rfl) ?_))
  refine call_r (c11 ⟨_, rfl, s.up⟩) ?_
  by_cases f : few c
  · rw [decide_eq_true f]
    ((with_reducible (refine not_t ?_; refine cnd_f ?_));
        (refine ldo_w (by assumption) (by infer_instance) (by with_unfolding_all rfl) ?_))
    refine call_d (c13 ⟨_, rfl, s.up⟩ hb) m fun v1 h1 p1 p2 m ⟨y1, e1, t1⟩ => ?_
    subst e1
    have C15 := c15 ⟨_, rfl, t1⟩ f
    by_cases hE : (chk c).2 = 0
    · rw [if_neg (by simpa using hE)] at C15
      obtain ⟨hnr, hn1⟩ := chk_next hE
      by_cases hN : nextOf c.timers < 0
      · rw [if_pos hN] at C15
        have hN' : nextR c.timers = -1 := by omega
        skip
        refine call_r C15 ?_
        ((with_reducible (refine mv_i ?_; refine ex2_0 ?_; refine ex2_1 ?_; refine mv_i ?_; refine mv_i ?_));
            (refine ldo_w (by assumption) (by infer_instance) (by with_unfolding_all rfl) ?_))
        refine call_d (c13 ⟨_, rfl, s.up⟩ hb) m fun v2 h2 p3 p4 m ⟨y2, e2, t2⟩ => ?_
        subst e2
        ((with_reducible (refine mv_i ?_)))
        refine call_d (c16' ⟨_, rfl, t2⟩ f to) m fun v3 h3 p5 p6 m ⟨b3, q3, n3, z3, e3, hn3, s3, t3⟩ => ?_
        subst e3
        ((with_reducible (refine mv_i ?_; refine ex3_0 ?_; refine ex3_1 ?_; refine ex3_2 ?_; refine alloc_z (by assumption) fun i h z p m => ?_));
            (refine st_w (by assumption) (by infer_instance) (by with_unfolding_all rfl) (by with_unfolding_all rfl) (by first | rfl | exact flat_ones (Flat.flat _)) (by infer_instance) fun h p m => ?_);
            (with_reducible (refine mv_i ?_; refine mv_i ?_));
            (refine ldo_w (by assumption) (by infer_instance) (by with_unfolding_all rfl) ?_))
        refine call_r (c17 ⟨_, rfl, s.up⟩ f) ?_
        rw [hE]
        have HN := hN'
        ((with_reducible (refine mv_i ?_; refine mv_i ?_; refine neq_h (by first | assumption | decide) ?_; refine cnd_f ?_));
            (refine ldo_w (by assumption) (by infer_instance) (by with_unfolding_all rfl) ?_);
            (refine call_r (c19 ⟨_, by with_unfolding_all rfl, L.up (by assumption)⟩) ?_);
            (with_reducible (refine mv_i ?_; refine mv_i ?_; refine eql_h (by first | assumption | decide) ?_; refine mv_i ?_; refine gd_tt ?_; refine mv_i ?_; refine gd_tt ?_; refine neq_h (by first | assumption | decide) ?_; refine gd_tt ?_; refine mv_i ?_; refine gd_ff ?_; refine mv_i ?_; refine gd_ff ?_; refine neq_h (by first | assumption | decide) ?_; refine gd_tt ?_; refine pick_f ?_; refine pick_t ?_; refine mv_i ?_; refine gd_ff ?_; refine mv_i ?_; refine gd_ff ?_; refine neq_h (by first | assumption | decide) ?_; refine gd_ff ?_; refine mv_i ?_; refine gd_ft ?_; refine gd_ft ?_; refine gd_ft ?_; refine gd_u ?_; refine gd_u ?_; refine gd_u ?_; refine gd_ft ?_; refine gd_ff ?_; refine pick_f ?_; refine pick_f ?_; refine cnd_f ?_));
            (refine ldo_w (by assumption) (by infer_instance) (by with_unfolding_all rfl) ?_);
            (with_reducible (refine mv_i ?_)))
        all_goals (try (exfalso; omega))
        refine call_d (c20' ⟨_, rfl, s.up⟩ f.1 hE to) m fun v4 h4 p7 p8 m ⟨b4, q4, n4, z4, e4, hn4, s4, t4⟩ => ?_
        subst e4
        obtain ⟨b4, q4, rfl, _⟩ := t4.shape
        ((with_reducible (refine alloc_z (by assumption) fun i h z p m => ?_));
            (refine st_w (by assumption) (by infer_instance) (by with_unfolding_all rfl) (by with_unfolding_all rfl) (by first | rfl | exact flat_ones (Flat.flat _)) (by infer_instance) fun h p m => ?_);
            (refine ldo_w (by assumption) (by infer_instance) (by with_unfolding_all rfl) ?_);
            (with_reducible (refine mv_i ?_));
            (refine ldo_w (by assumption) (by infer_instance) (by with_unfolding_all rfl) ?_))
        refine call_r (c18 (n := ⟨#[]⟩) ⟨_, rfl, s3.up⟩ ⟨_, _, rfl, s4.up, t4.up⟩) ?_
        rw [decide_eq_true ⟨rfl, rfl, rfl⟩]
        ((with_reducible (refine mv_i ?_; refine gd_tt ?_; refine mv_i ?_; refine gd_tt ?_; refine fao ?_; refine gd_tt ?_));
            (refine ldo (by assumption) (q := by infer_instance) (by with_unfolding_all rfl) ?_);
            (with_reducible (refine gd_tt ?_)))
        refine call_r (c21 t3.up.ints t4.up.ints) ?_
        rw [decide_eq_true rfl]
        ((with_reducible (refine pick_t ?_; refine mv_i ?_; refine ret1 ?_)))
        rfl
      · rw [if_neg hN] at C15
        skip
        refine call_r C15 ?_
        ((with_reducible (refine mv_i ?_; refine ex2_0 ?_; refine ex2_1 ?_; refine mv_i ?_; refine mv_i ?_));
            (refine ldo_w (by assumption) (by infer_instance) (by with_unfolding_all rfl) ?_))
        refine call_d (c13 ⟨_, rfl, s.up⟩ hb) m fun v2 h2 p3 p4 m ⟨y2, e2, t2⟩ => ?_
        subst e2
        ((with_reducible (refine mv_i ?_)))
        refine call_d (c16' ⟨_, rfl, t2⟩ f to) m fun v3 h3 p5 p6 m ⟨b3, q3, n3, z3, e3, hn3, s3, t3⟩ => ?_
        subst e3
        ((with_reducible (refine mv_i ?_; refine ex3_0 ?_; refine ex3_1 ?_; refine ex3_2 ?_; refine alloc_z (by assumption) fun i h z p m => ?_));
            (refine st_w (by assumption) (by infer_instance) (by with_unfolding_all rfl) (by with_unfolding_all rfl) (by first | rfl | exact flat_ones (Flat.flat _)) (by infer_instance) fun h p m => ?_);
            (with_reducible (refine mv_i ?_; refine mv_i ?_));
            (refine ldo_w (by assumption) (by infer_instance) (by with_unfolding_all rfl) ?_))
        refine call_r (c17 ⟨_, rfl, s.up⟩ f) ?_
        rw [hE]
        have HN := hnr.symm
        have HN3 : ¬ nextR c.timers = -1 := by omega
        have HN4 : ¬ nextOf c.timers = -1 := by omega
        ((with_reducible (refine mv_i ?_; refine mv_i ?_; refine neq_h (by first | assumption | decide) ?_; refine cnd_f ?_));
            (refine ldo_w (by assumption) (by infer_instance) (by with_unfolding_all rfl) ?_);
            (refine call_r (c19 ⟨_, by with_unfolding_all rfl, L.up (by assumption)⟩) ?_);
            (with_reducible (refine mv_i ?_; refine mv_i ?_; refine eql_n (by first | assumption | decide) ?_; refine mv_i ?_; refine gd_ft ?_; refine gd_ft ?_; refine gd_ft ?_; refine gd_u ?_; refine gd_u ?_; refine gd_ft ?_; refine pick_f ?_; refine mv_i ?_; refine gd_ff ?_; refine mv_i ?_; refine gd_ff ?_; refine neq_n (by first | assumption | decide) ?_; refine gd_ff ?_; refine mv_i ?_; refine gd_tt ?_; refine mv_i ?_; refine gd_tt ?_; refine neq_h (by first | assumption | decide) ?_; refine gd_tt ?_; refine mv_i ?_; refine gd_ff ?_; refine mv_i ?_; refine gd_ff ?_; refine mv_i ?_; refine gd_ff ?_; refine neq_h (by first | assumption | decide) ?_; refine gd_tt ?_; refine pick_f ?_; refine gd_ff ?_; refine pick_t ?_; refine pick_f ?_; refine cnd_f ?_));
            (refine ldo_w (by assumption) (by infer_instance) (by with_unfolding_all rfl) ?_);
            (with_reducible (refine mv_i ?_)))
        all_goals (try (exfalso; omega))
        refine call_d (c20' ⟨_, rfl, s.up⟩ f.1 hE to) m fun v4 h4 p7 p8 m ⟨b4, q4, n4, z4, e4, hn4, s4, t4⟩ => ?_
        subst e4
        obtain ⟨b4, q4, rfl, _⟩ := t4.shape
        ((with_reducible (refine alloc_z (by assumption) fun i h z p m => ?_));
            (refine st_w (by assumption) (by infer_instance) (by with_unfolding_all rfl) (by with_unfolding_all rfl) (by first | rfl | exact flat_ones (Flat.flat _)) (by infer_instance) fun h p m => ?_);
            (refine ldo_w (by assumption) (by infer_instance) (by with_unfolding_all rfl) ?_);
            (with_reducible (refine mv_i ?_));
            (refine ldo_w (by assumption) (by infer_instance) (by with_unfolding_all rfl) ?_))
        refine call_r (c18 (n := ⟨#[]⟩) ⟨_, rfl, s3.up⟩ ⟨_, _, rfl, s4.up, t4.up⟩) ?_
        rw [decide_eq_true ⟨rfl, rfl, rfl⟩]
        ((with_reducible (refine mv_i ?_; refine gd_tt ?_; refine mv_i ?_; refine gd_tt ?_; refine fao ?_; refine gd_tt ?_));
            (refine ldo (by assumption) (q := by infer_instance) (by with_unfolding_all rfl) ?_);
            (with_reducible (refine gd_tt ?_)))
        refine call_r (c21 t3.up.ints t4.up.ints) ?_
        rw [decide_eq_true rfl]
        ((with_reducible (refine pick_t ?_; refine mv_i ?_; refine ret1 ?_)))
        rfl
    · rw [if_pos hE] at C15
      skip
      refine call_r C15 ?_
      ((with_reducible (refine mv_i ?_; refine ex2_0 ?_; refine ex2_1 ?_; refine mv_i ?_; refine mv_i ?_));
          (refine ldo_w (by assumption) (by infer_instance) (by with_unfolding_all rfl) ?_))
      refine call_d (c13 ⟨_, rfl, s.up⟩ hb) m fun v2 h2 p3 p4 m ⟨y2, e2, t2⟩ => ?_
      subst e2
      ((with_reducible (refine mv_i ?_)))
      refine call_d (c16' ⟨_, rfl, t2⟩ f to) m fun v3 h3 p5 p6 m ⟨b3, q3, n3, z3, e3, hn3, s3, t3⟩ => ?_
      subst e3
      ((with_reducible (refine mv_i ?_; refine ex3_0 ?_; refine ex3_1 ?_; refine ex3_2 ?_; refine alloc_z (by assumption) fun i h z p m => ?_));
          (refine st_w (by assumption) (by infer_instance) (by with_unfolding_all rfl) (by with_unfolding_all rfl) (by first | rfl | exact flat_ones (Flat.flat _)) (by infer_instance) fun h p m => ?_);
          (with_reducible (refine mv_i ?_; refine mv_i ?_));
          (refine ldo_w (by assumption) (by infer_instance) (by with_unfolding_all rfl) ?_))
      refine call_r (c17 ⟨_, rfl, s.up⟩ f) ?_
      have hA : advE c to = (chk c).2 := by rw [advE, if_pos hE]
      have hC : advC c to = ⟨0, []⟩ := by rw [advC, if_pos (by rw [hA]; exact hE)]
      have hL : advL c to = [] := by rw [advL, if_pos (by rw [hA]; exact hE)]
      rw [hC] at s3
      rw [hL] at t3
      ((with_reducible (refine mv_i ?_; refine mv_i ?_; refine neq_n (by first | assumption | decide) ?_; refine cnd_t ?_; refine mv_i ?_; refine eql_h (by first | assumption | decide) ?_; refine mv_i ?_; refine gd_tt ?_; refine mv_i ?_; refine gd_tt ?_; refine mv_i ?_; refine gd_tt ?_; refine eql_i (fun hc => ?_) (fun hc => ?_); refine pick_t ?_; refine mv_i ?_; refine gd_tt ?_));
          (refine ldo_w (by assumption) (by infer_instance) (by with_unfolding_all rfl) ?_);
          (with_reducible (refine gd_tt ?_; refine mv_i ?_; refine gd_tt ?_; refine mv_i ?_; refine gd_tt ?_));
          (refine vk_i (bd39_3 _) ?_);
          (with_reducible (refine gd_tt ?_));
          (rotate_left);
          (with_reducible (refine pick_t ?_; refine mv_i ?_; refine gd_ft ?_; refine gd_ft ?_; refine gd_ft ?_; refine gd_ft ?_; refine gd_ft ?_; refine pick_f ?_; refine mv_i ?_; refine gd_ft ?_; refine gd_ft ?_; refine gd_ft ?_; refine pick_f ?_; refine mv_i ?_; refine ret1 ?_));
          (rotate_left))
      refine call_r (c18 (n := ⟨#[]⟩) (a := ⟨0, []⟩) (b := ⟨0, []⟩) (l := []) ⟨_, by rw [hC], s3.up⟩ ⟨_, _, rfl, L.nil _, L.nil _⟩) ?_
      rw [hA, decide_eq_true ⟨rfl, rfl, rfl⟩]
      ((with_reducible (refine pick_t ?_; refine mv_i ?_; refine gd_tt ?_; refine mv_i ?_; refine gd_tt ?_; refine len_g (by assumption) ?_; refine gd_tt ?_; refine eql_h (by first | assumption | decide) ?_; refine pick_t ?_; refine mv_i ?_; refine ret1 ?_));
          (rotate_left);
          (rotate_left))
      all_goals first
        | rfl
        | (exfalso; simp_all; done)
  · rw [decide_eq_false f]
    ((with_reducible (refine not_f ?_; refine cnd_t ?_; refine mv_i ?_; refine ret1 ?_)))
    rfl
end Go.Proofs.Ytalnnkpdpjmmkaa

set_option linter.unusedSimpArgs false
set_option linter.unusedVariables false
set_option linter.unnecessarySimpa false
set_option maxRecDepth 100000
set_option maxHeartbeats 4000000
namespace Go.Proofs.Ytalnnkpdpjmmkaa
open Go.AM
variable {g : Heap}
/-! ### valid clocks -/
theorem tmE_of {c : Clk} {k : Nat} (h1 : ownE (gt c.timers k).owner = 0) (h2 : nameE (gt c.timers k).name = 0) (h3 : 0 < k → less (gt c.timers (k - 1)) (gt c.timers k) = true) (h4 : stE c.now (gt c.timers k) = 0) : tmE c k = 0 := by
  unfold tmE
  rw [if_neg (by simpa using h1), if_neg (by simpa using h2), if_neg, h4]
  rintro ⟨q1, q2⟩
  rw [h3 q1] at q2; cases q2
theorem chk_of {c : Clk} (h1 : 0 ≤ c.now ∧ c.now ≤ 1099511627776) (h2 : c.timers.length ≤ 24) (h3 : ∀ j, j < c.timers.length → tmE c j = 0) : (chk c).2 = 0 := by
  unfold chk
  rw [if_neg (by simpa using h1), if_neg (by omega), firstErr_no h3]
/-- Timers with the same owners and names, in other states. -/
theorem chk_keep {c : Clk} {now : Int} {l : List Tim} (h0 : (chk c).2 = 0) (hn : 0 ≤ now ∧ now ≤ 1099511627776) (hl : l.length = c.timers.length)
    (hs : ∀ j, j < c.timers.length → (gt l j).owner = (gt c.timers j).owner ∧ (gt l j).name = (gt c.timers j).name ∧ stE now (gt l j) = 0) : (chk ⟨now, l⟩).2 = 0 := by
  obtain ⟨z1, z2, z3⟩ := chk_zero h0
  refine chk_of hn (by simp only; omega) fun j hj => ?_
  simp only [hl] at hj
  obtain ⟨a1, a2, a3, a4⟩ := tmE_zero (z3 j hj)
  obtain ⟨s1, s2, s3⟩ := hs j hj
  refine tmE_of (by simp only [s1]; exact a1) (by simp only [s2]; exact a2) (fun hk => ?_) s3
  obtain ⟨t1, t2, _⟩ := hs (j - 1) (by omega)
  have := a3 hk
  unfold less at this ⊢
  simp only [s1, s2, t1, t2]
  exact this
theorem few_keep {c : Clk} {now : Int} {l : List Tim} (f : few c) (hl : l.length = c.timers.length) (hs : ∀ j, j < c.timers.length → (gt l j).name = (gt c.timers j).name) : few ⟨now, l⟩ := by
  rw [few_iff] at f ⊢
  exact ⟨by simp only; omega, fun j hj => by simp only [hl] at hj; simp only [hs j hj]; exact f.2 j hj⟩
theorem gt_map {to : Int} {l : List Tim} {k : Nat} (hk : k < l.length) : gt (l.map (expire to)) k = expire to (gt l k) := by
  rw [← gt_at (by simpa using hk), ← gt_at hk]; simp
theorem stE_adv {now to : Int} {t : Tim} (h0 : stE now t = 0) (h1 : now ≤ to) (h2 : to ≤ 1099511627776) (h3 : t.running = true → to ≤ t.due) : stE to (expire to t) = 0 := by
  obtain ⟨ow, nm, since, due, running, expired⟩ := t
  unfold stE at h0
  unfold expire isDue
  simp only [Bool.and_eq_true, decide_eq_true_eq] at *
  cases running <;> cases expired <;> simp_all [stE] <;> (try split) <;> (try simp_all) <;> (try omega)
/-! ### the next moment of a valid clock -/
theorem nextOf_spec (l : List Tim) (hl : ∀ t ∈ l, t.running = true → 0 ≤ t.due) : (nextOf l = -1 ∧ ∀ t ∈ l, t.running = false) ∨ (0 ≤ nextOf l ∧ (∃ t ∈ l, t.running = true ∧ t.due = nextOf l) ∧ ∀ t ∈ l, t.running = true → nextOf l ≤ t.due) := by
  have key : ∀ k, k ≤ l.length → (nextOf (l.take k) = -1 ∧ ∀ t ∈ l.take k, t.running = false) ∨ (0 ≤ nextOf (l.take k) ∧ (∃ t ∈ l.take k, t.running = true ∧ t.due = nextOf (l.take k)) ∧ ∀ t ∈ l.take k, t.running = true → nextOf (l.take k) ≤ t.due) := by
    intro k
    induction k with
    | zero => intro _; exact .inl ⟨rfl, fun t ht => by simp at ht⟩
    | succ k ih =>
      intro hk
      have ih := ih (by omega)
      have hk' : k < l.length := by omega
      have hm : gt l k ∈ l := gd_mem _ hk'
      have hd := hl _ hm
      rw [nextOf_snoc hk', take_gd Df.d hk']
      show (_ ∧ ∀ t ∈ l.take k ++ [gt l k], _) ∨ (_ ∧ (∃ t ∈ l.take k ++ [gt l k], _) ∧ ∀ t ∈ l.take k ++ [gt l k], _)
      simp only [List.mem_append, List.mem_singleton]
      by_cases hr : (gt l k).running = true
      · have hd := hd hr
        by_cases hc : nextOf (l.take k) < 0 ∨ (gt l k).due < nextOf (l.take k)
        · rw [if_pos ⟨hr, hc⟩]
          refine .inr ⟨hd, ⟨_, .inr rfl, hr, rfl⟩, ?_⟩
          rintro t (ht | rfl) h2
          · rcases ih with ⟨e, h3⟩ | ⟨e, _, h3⟩
            · rw [h3 t ht] at h2; cases h2
            · have := h3 t ht h2; omega
          · omega
        · rw [if_neg (by rintro ⟨_, q⟩; exact hc q)]
          rcases ih with ⟨e, h3⟩ | ⟨e, ⟨u, hu, hu2⟩, h3⟩
          · omega
          · refine .inr ⟨e, ⟨u, .inl hu, hu2⟩, ?_⟩
            rintro t (ht | rfl) h2
            · exact h3 t ht h2
            · omega
      · rw [if_neg (by rintro ⟨q, _⟩; exact hr q)]
        have hr : (gt l k).running = false := by simpa using hr
        rcases ih with ⟨e, h3⟩ | ⟨e, ⟨u, hu, hu2⟩, h3⟩
        · refine .inl ⟨e, ?_⟩
          rintro t (ht | rfl)
          · exact h3 t ht
          · exact hr
        · refine .inr ⟨e, ⟨u, .inl hu, hu2⟩, ?_⟩
          rintro t (ht | rfl) h2
          · exact h3 t ht h2
          · rw [hr] at h2; cases h2
  have := key l.length (Nat.le_refl _)
  rwa [List.take_of_length_le (Nat.le_refl _)] at this
theorem chk_due {c : Clk} (h0 : (chk c).2 = 0) : ∀ t ∈ c.timers, t.running = true → c.now ≤ t.due ∧ t.due ≤ 1099511627776 ∧ t.expired = false := fun t ht hr => stE_due (chk_tim h0 ht) hr
theorem next_spec {c : Clk} (h0 : (chk c).2 = 0) : (nextOf c.timers = -1 ∧ ∀ t ∈ c.timers, t.running = false) ∨ (c.now ≤ nextOf c.timers ∧ 0 ≤ nextOf c.timers ∧ nextOf c.timers ≤ 1099511627776 ∧ (∃ t ∈ c.timers, t.running = true ∧ t.due = nextOf c.timers) ∧ ∀ t ∈ c.timers, t.running = true → nextOf c.timers ≤ t.due) := by
  have hn := (chk_zero h0).1
  rcases nextOf_spec c.timers (fun t ht hr => by have := chk_due h0 t ht hr; omega) with h | ⟨h1, ⟨u, hu, hu2, hu3⟩, h3⟩
  · exact .inl h
  · have := chk_due h0 u hu hu2
    exact .inr ⟨by omega, h1, by omega, ⟨u, hu, hu2, hu3⟩, h3⟩
/-- What may be reached in one step. -/
theorem adv_ok {c : Clk} {to : Int} (h0 : (chk c).2 = 0) (he : advE c to = 0) : c.now ≤ to ∧ to ≤ 1099511627776 ∧ (∀ t ∈ c.timers, t.running = true → to ≤ t.due) ∧ advC c to = ⟨to, c.timers.map (expire to)⟩ ∧ advL c to = dueIdx to c.timers := by
  have h1 : advC c to = ⟨to, c.timers.map (expire to)⟩ := by rw [advC, if_neg (by simpa using he)]
  have h2 : advL c to = dueIdx to c.timers := by rw [advL, if_neg (by simpa using he)]
  unfold advE at he
  rw [if_neg (by simpa using h0)] at he
  split at he
  · cases he
  · rename_i q
    simp only [Classical.not_not] at q
    split at he
    · cases he
    · rename_i q2
      refine ⟨q.1, q.2, ?_, h1, h2⟩
      intro t ht hr
      rcases next_spec h0 with ⟨e, h3⟩ | ⟨_, e, _, _, h3⟩
      · rw [h3 t ht] at hr; cases hr
      · have := h3 t ht hr; omega
theorem chk_adv {c : Clk} {to : Int} (h0 : (chk c).2 = 0) (he : advE c to = 0) : (chk ⟨to, c.timers.map (expire to)⟩).2 = 0 := by
  obtain ⟨h1, h2, h3, _⟩ := adv_ok h0 he
  have hn := (chk_zero h0).1
  refine chk_keep h0 ⟨by omega, h2⟩ (by simp) fun j hj => ?_
  rw [gt_map hj]
  refine ⟨?_, ?_, stE_adv (chk_tim h0 (gd_mem _ hj)) h1 h2 (h3 _ (gd_mem _ hj))⟩ <;> (unfold expire; split <;> rfl)
theorem few_adv {c : Clk} {to : Int} (f : few c) : few ⟨to, c.timers.map (expire to)⟩ :=
  few_keep f (by simp) fun j hj => by rw [gt_map hj]; unfold expire; split <;> rfl
def runs (l : List Tim) : Nat := l.countP (fun t => t.running)
end Go.Proofs.Ytalnnkpdpjmmkaa

set_option linter.unusedSimpArgs false
set_option linter.unusedVariables false
set_option linter.unnecessarySimpa false
set_option maxRecDepth 100000
set_option maxHeartbeats 4000000
namespace Go.Proofs.Ytalnnkpdpjmmkaa
open Go.AM
variable {g : Heap}
theorem pd_p {h1 h : Heap} {t n : Nat} {cs : List Value} {x : Value} {R Q : Prop} [T : RwT Try.prog t n] [S : Stb h1 h] (p : Pt h1 x cs 0) (hz : cs.length = n) (hr : R ∧ Q) : (((aLoad Try.prog t x h).map (·, h)) = some (.agg cs.toArray, h) ∧ R) ∧ Q := by
  refine ⟨⟨?_, hr.1⟩, hr.2⟩
  have := ldr_w (T := T) (h := h) (K := fun v g => v = .agg cs.toArray ∧ g = h) p hz ⟨rfl, rfl⟩
  obtain ⟨this⟩ := this
  split at this
  · rename_i v e; rw [e, this.1]; rfl
  · exact this.elim
theorem bne_t {K : Value → Heap → Prop} {h : Heap} {a b : Bool} (e : a = b) (hk : K (.bool false) h) : vK (aBin Try.prog .neq 4 (.bool a) (.bool b)) h K := by
  subst e
  exact vk_i (v := .bool false) (by cases a <;> simp [aBin, Try.underlying4]) hk
theorem bne_n {K : Value → Heap → Prop} {h : Heap} {a b : Bool} (e : a ≠ b) (hk : K (.bool true) h) : vK (aBin Try.prog .neq 4 (.bool a) (.bool b)) h K :=
  vk_i (v := .bool true) (by cases a <;> cases b <;> simp [aBin, Try.underlying4] at e ⊢) hk
end Go.Proofs.Ytalnnkpdpjmmkaa

set_option linter.unusedSimpArgs false
set_option linter.unusedVariables false
set_option linter.unnecessarySimpa false
set_option maxRecDepth 100000
set_option maxHeartbeats 4000000
namespace Go.Proofs.Ytalnnkpdpjmmkaa
open Go.AM
variable {g : Heap}
/-- A clock and an error. -/
def CeV (h : Heap) (v : Value) (c : Clk) (e : Int) : Prop := ∃ b q n, v = .tuple #[.agg #[.int .i64 c.now, .slice b n q], .int .i64 e] ∧ n = c.timers.length ∧ L h (.slice b n q) c.timers
def at_ (c : Clk) (o : Int) (n : ByteArray) : Nat := (idxOf (isT o n) c.timers).toNat
theorem at_spec {c : Clk} {o : Int} {n : ByteArray} (h0 : 0 ≤ idxOf (isT o n) c.timers) : idxOf (isT o n) c.timers = (at_ c o n : Int) ∧ at_ c o n < c.timers.length ∧ (gt c.timers (at_ c o n)).owner = o ∧ (gt c.timers (at_ c o n)).name = n := by
  have e : idxOf (isT o n) c.timers = (at_ c o n : Int) := by unfold at_; omega
  rcases idxOf_spec (isT o n) c.timers with ⟨e1, _⟩ | ⟨k, h1, h2, h3, _⟩
  · omega
  · have : at_ c o n = k := by omega
    rw [this] at e ⊢
    have h3 : (gt c.timers k).owner = o ∧ (gt c.timers k).name = n := by simpa [isT] using h3
    exact ⟨e, h1, h3⟩
noncomputable def startE (c : Clk) (o : Int) (n : ByteArray) (d : Int) : Int :=
  if namE c o n ≠ 0 then namE c o n else if ¬ (0 ≤ d ∧ d ≤ 1099511627776) then 3 else if 1099511627776 - c.now < d then 25 else 0
def startT (now d : Int) (t : Tim) : Tim := { t with since := now, due := now + d, running := true, expired := false }
def started (c : Clk) (o : Int) (n : ByteArray) (d : Int) : Clk := ⟨c.now, c.timers.set (at_ c o n) (startT c.now d (gt c.timers (at_ c o n)))⟩
theorem c29 [GM g] {v : Value} {c : Clk} (s : ClkV g v c) (f : few c) (t : Tim) (ht : t.name.size ≤ 60) (d : Int) : DetP Try.prog 29 [v, fv t, .int .i64 d] g fun v' h' => g <+: h' ∧
    CeV h' v' (if startE c t.owner t.name d ≠ 0 then ⟨0, []⟩ else started c t.owner t.name d) (startE c t.owner t.name d) := by
  refine DetP.freeze ?_
  obtain ⟨x, rfl, s⟩ := s
  have hl := f.1
  have m := Mem.start g
  refine w29 ?_
  unfold n29
  refine box_a m fun i1 h1 z1 p1 m => ?_
  refine box_a m fun i2 h2 z2 p2 m => ?_
  refine alloc_z m fun i3 h3 z3 p3 m => ?_
  ((with_reducible (refine mv_i ?_));
      (refine ldo_w (by assumption) (by infer_instance) (by with_unfolding_all rfl) ?_);
      (with_reducible (refine fao ?_));
      (refine ldo (by assumption) (q := by infer_instance) (by with_unfolding_all rfl) ?_);
      (with_reducible (refine fao ?_));
      (refine ldo (by assumption) (q := by infer_instance) (by with_unfolding_all rfl) ?_);
      (refine call_r (c55 ⟨_, by with_unfolding_all rfl, L.up (by assumption)⟩ (by assumption) _ _ (by assumption)) ?_);
      (with_reducible (refine mv_i ?_)))
  refine seq_J (fun xs h4 => h3 = h4 ∧ xs = [.int .i64 (startE c t.owner t.name d)]) ?_ ?_
  · rintro _ _ ⟨rfl, rfl⟩
    by_cases hE : startE c t.owner t.name d = 0
    · have hnam : namE c t.owner t.name = 0 := by
        unfold startE at hE
        split at hE
        · contradiction
        · rename_i q; simpa using q
      obtain ⟨z1', z2', z3', z4', z5'⟩ := namE_zero hnam
      obtain ⟨a1, a2, a3, a4⟩ := at_spec z4'
      have hd : (0 ≤ d ∧ d ≤ 1099511627776) ∧ d ≤ 1099511627776 - c.now := by
        unfold startE at hE
        rw [if_neg (by simpa using hnam)] at hE
        split at hE
        · cases hE
        · split at hE
          · cases hE
          · rename_i q1 q2; exact ⟨by simpa using q1, by omega⟩
      have hnow := (chk_zero z1').1
      simp only [hE, ne_eq, not_true, if_false]
      (((with_reducible refine fun (_ : Tmps) => ?_); (try dsimp only [nth]));
          (with_reducible (refine mv_i ?_; refine neq_h (by first | assumption | decide) ?_; refine cnd_f ?_));
          (refine ldo_w (by assumption) (by infer_instance) (by with_unfolding_all rfl) ?_))
      refine call_d (c50 ⟨_, rfl, s.up⟩ (by omega)) m fun y h3 p3 p4 _ ⟨y, o, ev, hs, hn⟩ => ?_
      subst ev
      have m := hn _ _ m
      obtain ⟨a, dd, rfl⟩ := hs.isS
      ((refine st_w (by assumption) (by infer_instance) (by with_unfolding_all rfl) (by with_unfolding_all rfl) (by first | rfl | exact flat_ones (Flat.flat _)) (by infer_instance) fun h p m => ?_);
          (with_reducible (refine fao ?_));
          (refine ldo (by assumption) (q := by infer_instance) (by with_unfolding_all rfl) ?_);
          (refine IsSl.vb (by assumption) (by assumption) (by infer_instance) ?_);
          (refine ldo_w (by assumption) (by infer_instance) (by with_unfolding_all rfl) ?_);
          (refine vb_ao rfl (by assumption) (by assumption) (by infer_instance) ?_);
          (with_reducible (refine fao ?_));
          (refine ldo (by assumption) (q := by infer_instance) (by with_unfolding_all rfl) ?_);
          (refine vb_n (by with_unfolding_all rfl) ?_);
          (with_reducible (refine fao ?_));
          (refine ldo (by assumption) (q := by infer_instance) (by with_unfolding_all rfl) ?_);
          (refine vb_n (by with_unfolding_all rfl) ?_))
      refine calld_r (Runs.lent (c56 (c := c) ⟨_, by with_unfolding_all rfl, hs.lent m (by infer_instance) (by omega)⟩ _ _)) ?_
      rw [a1]
      ((with_reducible (refine new_n ?_));
          (refine idx_o (by assumption) (by omega) ?_);
          (with_reducible (refine mv_i ?_; refine mv_i ?_; refine mv_i ?_; refine mv_i ?_; refine mv_i ?_; refine fao ?_));
          (refine ldo (by assumption) (q := by infer_instance) (by with_unfolding_all rfl) ?_);
          (refine vb_n (by with_unfolding_all rfl) ?_);
          (with_reducible (refine fao ?_));
          (refine ldo (by assumption) (q := by infer_instance) (by with_unfolding_all rfl) ?_);
          (refine vb_n (by with_unfolding_all rfl) ?_);
          (with_reducible (refine mv_i ?_; refine add_j (by omega) (by omega) ?_; refine nil_i ?_; refine fao_e ?_)))
      refine stf_d { gt c.timers (at_ c t.owner t.name) with since := c.now } m (by infer_instance) rfl a2 (by decide) rfl rfl rfl (by infer_instance) fun h p m => ?_
      ((refine pd_c (by assumption) (by infer_instance) (by with_unfolding_all rfl) ?_);
          (with_reducible (refine ⟨trivial, ?_⟩; refine nil_i ?_; refine fao_e ?_)))
      refine stf_d { gt c.timers (at_ c t.owner t.name) with since := c.now, due := c.now + d } m (by infer_instance) rfl (by simpa using a2) (by decide) rfl rfl (by rw [gt_set a2]; rfl) (by infer_instance) fun h p m => ?_
      rw [List.set_set] at m
      ((with_reducible (refine ⟨trivial, ?_⟩; refine nil_i ?_; refine fao_e ?_)))
      refine stf_d { gt c.timers (at_ c t.owner t.name) with since := c.now, due := c.now + d, running := true } m (by infer_instance) rfl (by simpa using a2) (by decide) rfl rfl (by rw [gt_set a2]; rfl) (by infer_instance) fun h p m => ?_
      rw [List.set_set] at m
      ((with_reducible (refine ⟨trivial, ?_⟩; refine nil_i ?_; refine fao_e ?_)))
      refine stf_d { gt c.timers (at_ c t.owner t.name) with since := c.now, due := c.now + d, running := true, expired := false } m (by infer_instance) rfl (by simpa using a2) (by decide) rfl rfl (by rw [gt_set a2]; rfl) (by infer_instance) fun h p m => ?_
      rw [List.set_set] at m
      ((with_reducible (refine ⟨trivial, ?_⟩));
          (refine ldo_w (by assumption) (by infer_instance) (by with_unfolding_all rfl) ?_);
          (refine st_w (by assumption) (by infer_instance) (by with_unfolding_all rfl) (by with_unfolding_all rfl) (by first | rfl | exact flat_ones (Flat.flat _)) (by infer_instance) fun h p m => ?_);
          (with_reducible (refine mv_i ?_));
          (refine rt_w1 (by assumption) (by infer_instance) (by with_unfolding_all rfl) ?_);
          (with_reducible (refine ret2 ?_)))
      refine ⟨m.pre, _, _, _, rfl, by simp [started], ?_⟩
      exact IsSl.ro (xs := (started c t.owner t.name d).timers) (by simpa [started] using hs) m (k := 0) rfl (by simp [started]; omega)
    · rw [if_pos hE]
      (((with_reducible refine fun (_ : Tmps) => ?_); (try dsimp only [nth]));
          (with_reducible (refine mv_i ?_; refine neq_n (by first | assumption | decide) ?_; refine cnd_t ?_));
          (refine vk_i (bd24_z) ?_);
          (with_reducible (refine mv_i ?_));
          (refine st_w (by assumption) (by infer_instance) (by with_unfolding_all rfl) (by with_unfolding_all rfl) (by first | rfl | exact flat_ones (Flat.flat _)) (by infer_instance) fun h p m => ?_);
          (with_reducible (refine mv_i ?_));
          (refine rt_w1 (by assumption) (by infer_instance) (by with_unfolding_all rfl) ?_);
          (with_reducible (refine ret2 ?_)))
      exact ⟨m.pre, _, _, _, rfl, rfl, L.nil _⟩
  · intro k' hk
    by_cases hnam : namE c t.owner t.name = 0
    · have hnow := (chk_zero (namE_zero hnam).1).1
      ((with_reducible (refine mv_i ?_; refine neq_h (by first | assumption | decide) ?_; refine mv_i ?_; refine cnd_f ?_; refine mv_i ?_));
          (refine call_r (c41 _ _ _) ?_);
          (with_reducible (refine not_s (fun hb => ?_) (fun hb => ?_); refine mv_i ?_; refine cnd_f ?_; refine mv_i ?_; refine fao ?_));
          (refine ldo (by assumption) (q := by infer_instance) (by with_unfolding_all rfl) ?_);
          (with_reducible (refine sub_j (by omega) (by omega) ?_; refine gtr_i (fun hc => ?_) (fun hc => ?_); refine mv_i ?_; refine cnd_t ?_; refine mv_i ?_));
          (rotate_left);
          (with_reducible (refine mv_i ?_; refine cnd_f ?_));
          (rotate_left);
          (with_reducible (refine mv_i ?_; refine cnd_t ?_; refine mv_i ?_));
          (rotate_left))
      all_goals exact hk _ _ ⟨rfl, by simp_all [startE]; try omega⟩
    · ((with_reducible (refine mv_i ?_; refine neq_n (by first | assumption | decide) ?_; refine mv_i ?_; refine cnd_t ?_)))
      all_goals exact hk _ _ ⟨rfl, by simp_all [startE]⟩
end Go.Proofs.Ytalnnkpdpjmmkaa

set_option linter.unusedSimpArgs false
set_option linter.unusedVariables false
set_option linter.unnecessarySimpa false
set_option maxRecDepth 100000
set_option maxHeartbeats 4000000
namespace Go.Proofs.Ytalnnkpdpjmmkaa
open Go.AM
variable {g : Heap}
noncomputable def startC (c : Clk) (o : Int) (n : ByteArray) (d : Int) : Clk := if startE c o n d ≠ 0 then ⟨0, []⟩ else started c o n d
theorem startC_ok {c : Clk} {o : Int} {n : ByteArray} {d : Int} (h : startE c o n d = 0) : startC c o n d = started c o n d := by rw [startC, if_neg (by simpa using h)]
theorem c29' [GM g] {v : Value} {c : Clk} (s : ClkV g v c) (f : few c) (t : Tim) (ht : t.name.size ≤ 60) (d : Int) : DetP Try.prog 29 [v, fv t, .int .i64 d] g fun v' h' => g <+: h' ∧ CeV h' v' (startC c t.owner t.name d) (startE c t.owner t.name d) := c29 s f t ht d
/-! ### stopped -/
open Classical in
noncomputable def stopT (o : Int) (n : ByteArray) (t : Tim) : Tim := if t.owner = o ∧ (n = ⟨#[]⟩ ∨ t.name = n) then idle t else t
noncomputable def stopped (c : Clk) (o : Int) (n : ByteArray) : Clk := ⟨c.now, c.timers.map (stopT o n)⟩
noncomputable def stopC (c : Clk) (o : Int) (n : ByteArray) : Clk := if anyE c o n ≠ 0 then ⟨0, []⟩ else stopped c o n
theorem stopC_err {c : Clk} {o : Int} {n : ByteArray} (h : anyE c o n ≠ 0) : stopC c o n = ⟨0, []⟩ := by rw [stopC, if_pos h]
theorem stopC_ok {c : Clk} {o : Int} {n : ByteArray} (h : anyE c o n = 0) : stopC c o n = stopped c o n := by rw [stopC, if_neg (by simpa using h)]
/-- So many done. -/
noncomputable def midS (o : Int) (n : ByteArray) (l : List Tim) (k : Nat) : List Tim := (l.take k).map (stopT o n) ++ l.drop k
theorem midS_len {o : Int} {n : ByteArray} {l : List Tim} {k : Nat} : (midS o n l k).length = l.length := by simp [midS]; omega
theorem midS_at {o : Int} {n : ByteArray} {l : List Tim} {k : Nat} (hk : k < l.length) : gt (midS o n l k) k = gt l k := by
  unfold gt midS
  rw [List.getD, List.getElem?_append_right (by simp; omega)]
  simp [List.getD]
  congr 2
  omega
theorem midS_next {o : Int} {n : ByteArray} {l : List Tim} {k : Nat} (hk : k < l.length) : midS o n l (k + 1) = (midS o n l k).set k (stopT o n (gt l k)) := by
  unfold midS
  rw [take_gd Df.d hk, List.map_append, List.set_append_right _ _ (by simp; omega)]
  have : k - ((l.take k).map (stopT o n)).length = 0 := by simp; omega
  rw [this, List.drop_eq_getElem_cons hk, List.set_cons_zero]
  simp [gt]
theorem midS_same {o : Int} {n : ByteArray} {l : List Tim} {k : Nat} (hk : k < l.length) (hn : ¬ ((gt l k).owner = o ∧ (n = ⟨#[]⟩ ∨ (gt l k).name = n))) : midS o n l (k + 1) = midS o n l k := by
  rw [midS_next hk]
  have e : stopT o n (gt l k) = gt l k := by rw [stopT, if_neg hn]
  rw [e]
  apply List.ext_getElem (by simp)
  intro j h1 h2
  rw [List.getElem_set]
  split
  · rename_i q; subst q
    rw [gt_at (by simpa using h2), midS_at hk]
  · rfl
theorem midS_stop {o : Int} {n : ByteArray} {l : List Tim} {k : Nat} (hk : k < l.length) (hn : (gt l k).owner = o ∧ (n = ⟨#[]⟩ ∨ (gt l k).name = n)) : midS o n l (k + 1) = (midS o n l k).set k (idle (gt l k)) := by
  rw [midS_next hk, stopT, if_pos hn]
theorem c30 [GM g] {v : Value} {c : Clk} (s : ClkV g v c) (f : few c) (o : Int) (n : ByteArray) (hn : n.size ≤ 60) : DetP Try.prog 30 [v, .int .i64 o, .string n] g fun v' h' => g <+: h' ∧ CeV h' v' (stopC c o n) (anyE c o n) := by
  refine DetP.freeze ?_
  obtain ⟨x, rfl, s⟩ := s
  have hl := f.1
  have m := Mem.start g
  refine w30 ?_
  unfold n30
  refine box_a m fun i1 h1 z1 p1 m => ?_
  refine alloc_z m fun i2 h2 z2 p2 m => ?_
  ((with_reducible (refine mv_i ?_));
      (refine ldo_w (by assumption) (by infer_instance) (by with_unfolding_all rfl) ?_);
      (with_reducible (refine mv_i ?_; refine mv_i ?_));
      (refine call_r (c52 ⟨_, by with_unfolding_all rfl, L.up (by assumption)⟩ (by assumption) _ _ (by assumption)) ?_);
      (with_reducible (refine mv_i ?_; refine mv_i ?_; refine neq_i (fun hc => ?_) (fun hc => ?_); refine cnd_f ?_));
      (refine ldo_w (by assumption) (by infer_instance) (by with_unfolding_all rfl) ?_);
      (rotate_left);
      (with_reducible (refine cnd_t ?_));
      (refine vk_i (bd24_z) ?_);
      (with_reducible (refine mv_i ?_));
      (refine st_w (by assumption) (by infer_instance) (by with_unfolding_all rfl) (by with_unfolding_all rfl) (by first | rfl | exact flat_ones (Flat.flat _)) (by infer_instance) fun h p m => ?_);
      (with_reducible (refine mv_i ?_));
      (refine rt_w1 (by assumption) (by infer_instance) (by with_unfolding_all rfl) ?_);
      (with_reducible (refine ret2 ?_));
      (rotate_left))
  · have hA : anyE c o n = 0 := hc
    rw [hA, stopC_ok hA]
    refine call_d (c50 ⟨_, rfl, s.up⟩ (by omega)) m fun y h3 p3 p4 _ ⟨y, o2, ev, hs, hnn⟩ => ?_
    subst ev
    have m := hnn _ _ m
    obtain ⟨a, dd, rfl⟩ := hs.isS
    ((refine st_w (by assumption) (by infer_instance) (by with_unfolding_all rfl) (by with_unfolding_all rfl) (by first | rfl | exact flat_ones (Flat.flat _)) (by infer_instance) fun h p m => ?_);
        (with_reducible (refine fao ?_));
        (refine ldo (by assumption) (q := by infer_instance) (by with_unfolding_all rfl) ?_);
        (with_reducible (refine len_o (by assumption) ?_; refine mv_i ?_)))
    refine loop1 c.timers.length (fun k h5 => Prec h h5 ∧ Mem g h5 [⟨o2, flat (midS o n c.timers k), 6⟩, ⟨some i2, [.int .i64 0, .slice none 0 0], z2⟩, ⟨some i1, [.int .i64 c.now, .slice a c.timers.length dd], z1⟩]) ⟨⟨Stab.refl h⟩, by simpa [midS] using m⟩ ?_
    rintro k h5 _ hk ⟨p5, m⟩
    have hml := midS_len (o := o) (n := n) (l := c.timers) (k := k)
    have hs0 := hs
    have hs : IsSl (.slice a c.timers.length dd) o2 (midS o n c.timers k).length := by rw [hml]; exact hs
    by_cases hkl : k < c.timers.length
    · have hma := midS_at (o := o) (n := n) hkl
      ((with_reducible (refine lss_i (fun hc => ?_) (fun hc => ?_); refine cnd_t ?_));
          (rotate_left);
          (with_reducible (refine cnd_f ?_));
          (refine ldo_w (by assumption) (by infer_instance) (by with_unfolding_all rfl) ?_);
          (refine st_w (by assumption) (by infer_instance) (by with_unfolding_all rfl) (by with_unfolding_all rfl) (by first | rfl | exact flat_ones (Flat.flat _)) (by infer_instance) fun h p m => ?_);
          (with_reducible (refine mv_i ?_));
          (refine rt_w1 (by assumption) (by infer_instance) (by with_unfolding_all rfl) ?_);
          (with_reducible (refine ret2 ?_));
          (rotate_left))
      · refine seq_J (fun xs h6 => xs = [] ∧ Prec h h6 ∧ Mem g h6 [⟨o2, flat (midS o n c.timers (k + 1)), 6⟩, ⟨some i2, [.int .i64 0, .slice none 0 0], z2⟩, ⟨some i1, [.int .i64 c.now, .slice a c.timers.length dd], z1⟩]) ?_ ?_
        · rintro _ h6 ⟨rfl, p6, m⟩
          (((with_reducible refine fun (_ : Tmps) => ?_); (try dsimp only [nth]));
              (with_reducible (refine inc_i (by omega) ?_; refine mv_i ?_)))
          exact next1 (by omega) ⟨p6, m⟩
        · intro k' hk'
          ((with_reducible (refine mv_i ?_));
              (refine idx_o (by assumption) (by omega) ?_);
              (refine ldw_d (by assumption) (by infer_instance) (by with_unfolding_all rfl) (by omega) ?_);
              (with_reducible (refine alloc_z (by assumption) fun i h z p m => ?_; refine mv_i ?_));
              (refine st_w (by assumption) (by infer_instance) (by with_unfolding_all rfl) (by with_unfolding_all rfl) (by first | rfl | exact flat_ones (Flat.flat _)) (by infer_instance) fun h p m => ?_);
              (with_reducible (refine fao ?_));
              (refine ldo (by assumption) (q := by infer_instance) (by with_unfolding_all rfl) ?_);
              (with_reducible (refine mv_i ?_; refine eql_i (fun hc => ?_) (fun hc => ?_); refine mv_i ?_; refine gd_tt ?_; refine mv_i ?_; refine gd_tt ?_; refine seq_s (fun hc => ?_) (fun hc => ?_); refine gd_tt ?_; refine mv_i ?_; refine gd_tf ?_; refine gd_tf ?_; refine gd_tf ?_; refine gd_tf ?_; refine gd_tt ?_; refine pick_t ?_; refine pick_t ?_; refine cnd_t ?_; refine fao ?_));
              (refine ldo (by assumption) (q := by infer_instance) (by with_unfolding_all rfl) ?_);
              (with_reducible (refine mv_i ?_; refine fao ?_));
              (refine ldo (by assumption) (q := by infer_instance) (by with_unfolding_all rfl) ?_);
              (with_reducible (refine fao ?_));
              (refine ldo (by assumption) (q := by infer_instance) (by with_unfolding_all rfl) ?_);
              (refine vk_i (bd44_01 _ _) ?_);
              (refine idx_o (by assumption) (by omega) ?_);
              (refine stw_o (by assumption) (by infer_instance) (by with_unfolding_all rfl) (by omega) (by infer_instance) fun h p m => ?_);
              (rotate_left);
              (with_reducible (refine gd_tt ?_; refine mv_i ?_; refine gd_ff ?_; refine fao ?_; refine gd_ff ?_));
              (refine ldo (by assumption) (q := by infer_instance) (by with_unfolding_all rfl) ?_);
              (with_reducible (refine gd_ff ?_; refine mv_i ?_; refine gd_ff ?_; refine seq_s (fun hc => ?_) (fun hc => ?_); refine gd_tt ?_; refine pick_f ?_; refine pick_t ?_; refine cnd_t ?_; refine fao ?_));
              (refine ldo (by assumption) (q := by infer_instance) (by with_unfolding_all rfl) ?_);
              (with_reducible (refine mv_i ?_; refine fao ?_));
              (refine ldo (by assumption) (q := by infer_instance) (by with_unfolding_all rfl) ?_);
              (with_reducible (refine fao ?_));
              (refine ldo (by assumption) (q := by infer_instance) (by with_unfolding_all rfl) ?_);
              (refine vk_i (bd44_01 _ _) ?_);
              (refine idx_o (by assumption) (by omega) ?_);
              (refine stw_o (by assumption) (by infer_instance) (by with_unfolding_all rfl) (by omega) (by infer_instance) fun h p m => ?_);
              (rotate_left);
              (with_reducible (refine gd_tt ?_; refine pick_f ?_; refine pick_t ?_; refine cnd_f ?_));
              (rotate_left);
              (with_reducible (refine mv_i ?_; refine gd_ft ?_; refine gd_ft ?_; refine gd_ft ?_; refine gd_u ?_; refine gd_u ?_; refine gd_u ?_; refine gd_u ?_; refine gd_ft ?_; refine pick_f ?_; refine cnd_f ?_));
              (rotate_left))
          all_goals simp only [hma] at *
          all_goals first
            | exact hk' _ _ ⟨rfl, ⟨Stb.st⟩, by rw [midS_stop hkl ⟨by assumption, .inl (by assumption)⟩]; exact m.tail⟩
            | exact hk' _ _ ⟨rfl, ⟨Stb.st⟩, by rw [midS_stop hkl ⟨by assumption, .inr (by assumption)⟩]; exact m.tail⟩
            | exact hk' _ _ ⟨rfl, ⟨Stb.st⟩, by rw [midS_same hkl (by rintro ⟨q1, q2 | q2⟩ <;> contradiction)]; exact m.tail⟩
      · exfalso; omega
    · ((with_reducible (refine lss_i (fun hc => ?_) (fun hc => ?_); refine cnd_t ?_; refine seq_i ?_; refine mv_i ?_));
        (refine idx_o (by assumption) (by omega) ?_);
        (refine ldw_d (by assumption) (by infer_instance) (by with_unfolding_all rfl) (by omega) ?_);
        (with_reducible (refine alloc_z (by assumption) fun i h z p m => ?_; refine mv_i ?_));
        (refine st_w (by assumption) (by infer_instance) (by with_unfolding_all rfl) (by with_unfolding_all rfl) (by first | rfl | exact flat_ones (Flat.flat _)) (by infer_instance) fun h p m => ?_);
        (with_reducible (refine fao ?_));
        (refine ldo (by assumption) (q := by infer_instance) (by with_unfolding_all rfl) ?_);
        (with_reducible (refine mv_i ?_; refine eql_i (fun hc => ?_) (fun hc => ?_); refine mv_i ?_; refine gd_tt ?_; refine mv_i ?_; refine gd_tt ?_; refine seq_s (fun hc => ?_) (fun hc => ?_); refine gd_tt ?_; refine mv_i ?_; refine gd_tf ?_; refine gd_tf ?_; refine gd_tf ?_; refine gd_tf ?_; refine gd_tt ?_; refine pick_t ?_; refine pick_t ?_; refine cnd_t ?_; refine fao ?_));
        (refine ldo (by assumption) (q := by infer_instance) (by with_unfolding_all rfl) ?_);
        (with_reducible (refine mv_i ?_; refine fao ?_));
        (refine ldo (by assumption) (q := by infer_instance) (by with_unfolding_all rfl) ?_);
        (with_reducible (refine fao ?_));
        (refine ldo (by assumption) (q := by infer_instance) (by with_unfolding_all rfl) ?_);
        (refine vk_i (bd44_01 _ _) ?_);
        (refine idx_o (by assumption) (by omega) ?_);
        (refine stw_o (by assumption) (by infer_instance) (by with_unfolding_all rfl) (by omega) (by infer_instance) fun h p m => ?_);
        ((with_reducible refine fun (_ : Tmps) => ?_); (try dsimp only [nth]));
        (with_reducible (refine inc_i (by omega) ?_; refine mv_i ?_));
        (rotate_left);
        (with_reducible (refine gd_tt ?_; refine mv_i ?_; refine gd_ff ?_; refine fao ?_; refine gd_ff ?_));
        (refine ldo (by assumption) (q := by infer_instance) (by with_unfolding_all rfl) ?_);
        (with_reducible (refine gd_ff ?_; refine mv_i ?_; refine gd_ff ?_; refine seq_s (fun hc => ?_) (fun hc => ?_); refine gd_tt ?_; refine pick_f ?_; refine pick_t ?_; refine cnd_t ?_; refine fao ?_));
        (refine ldo (by assumption) (q := by infer_instance) (by with_unfolding_all rfl) ?_);
        (with_reducible (refine mv_i ?_; refine fao ?_));
        (refine ldo (by assumption) (q := by infer_instance) (by with_unfolding_all rfl) ?_);
        (with_reducible (refine fao ?_));
        (refine ldo (by assumption) (q := by infer_instance) (by with_unfolding_all rfl) ?_);
        (refine vk_i (bd44_01 _ _) ?_);
        (refine idx_o (by assumption) (by omega) ?_);
        (refine stw_o (by assumption) (by infer_instance) (by with_unfolding_all rfl) (by omega) (by infer_instance) fun h p m => ?_);
        ((with_reducible refine fun (_ : Tmps) => ?_); (try dsimp only [nth]));
        (with_reducible (refine inc_i (by omega) ?_; refine mv_i ?_));
        (rotate_left);
        (with_reducible (refine gd_tt ?_; refine pick_f ?_; refine pick_t ?_; refine cnd_f ?_));
        ((with_reducible refine fun (_ : Tmps) => ?_); (try dsimp only [nth]));
        (with_reducible (refine inc_i (by omega) ?_; refine mv_i ?_));
        (rotate_left);
        (with_reducible (refine mv_i ?_; refine gd_ft ?_; refine gd_ft ?_; refine gd_ft ?_; refine gd_u ?_; refine gd_u ?_; refine gd_u ?_; refine gd_u ?_; refine gd_ft ?_; refine pick_f ?_; refine cnd_f ?_));
        ((with_reducible refine fun (_ : Tmps) => ?_); (try dsimp only [nth]));
        (with_reducible (refine inc_i (by omega) ?_; refine mv_i ?_));
        (rotate_left);
        (with_reducible (refine cnd_f ?_));
        (refine ldo_w (by assumption) (by infer_instance) (by with_unfolding_all rfl) ?_);
        (refine st_w (by assumption) (by infer_instance) (by with_unfolding_all rfl) (by with_unfolding_all rfl) (by first | rfl | exact flat_ones (Flat.flat _)) (by infer_instance) fun h p m => ?_);
        (with_reducible (refine mv_i ?_));
        (refine rt_w1 (by assumption) (by infer_instance) (by with_unfolding_all rfl) ?_);
        (with_reducible (refine ret2 ?_));
        (rotate_left))
      all_goals (try (exfalso; omega))
      have hkk : k = c.timers.length := by omega
      have e1 : midS o n c.timers k = (stopped c o n).timers := by rw [hkk]; simp [midS, stopped]
      rw [e1] at m
      refine ⟨m.pre, _, _, _, rfl, by simp [stopped], ?_⟩
      exact IsSl.ro (xs := (stopped c o n).timers) (by simpa [stopped] using hs0) m (k := 0) rfl (by simp [stopped]; omega)
  · rw [stopC_err hc]
    exact ⟨m.pre, _, _, _, rfl, rfl, L.nil _⟩
end Go.Proofs.Ytalnnkpdpjmmkaa

set_option linter.unusedSimpArgs false
set_option linter.unusedVariables false
set_option linter.unnecessarySimpa false
set_option maxRecDepth 100000
set_option maxHeartbeats 4000000
namespace Go.Proofs.Ytalnnkpdpjmmkaa
open Go.AM
variable {g : Heap}
end Go.Proofs.Ytalnnkpdpjmmkaa



set_option linter.unusedSimpArgs false
set_option linter.unusedVariables false
set_option linter.unnecessarySimpa false
set_option maxRecDepth 100000
set_option maxHeartbeats 4000000
namespace Go.Proofs.Ytalnnkpdpjmmkaa
open Go.AM
variable {g : Heap}
/-! ### texts in order, once more -/
theorem bl_irr : ∀ l : List UInt8, Op.bytesLess l l = false
  | [] => rfl
  | a :: l => by simp [Op.bytesLess, bl_irr l]
theorem bl_trans : ∀ a b c : List UInt8, Op.bytesLess a b = true → Op.bytesLess b c = true → Op.bytesLess a c = true
  | [], [], _, h1, _ => by simp [Op.bytesLess] at h1
  | [], _ :: _, [], _, h2 => by simp [Op.bytesLess] at h2
  | [], _ :: _, _ :: _, _, _ => by simp [Op.bytesLess]
  | _ :: _, [], _, h1, _ => by simp [Op.bytesLess] at h1
  | _ :: _, _ :: _, [], _, h2 => by simp [Op.bytesLess] at h2
  | a :: la, b :: lb, c :: lc, h1, h2 => by
    simp only [Op.bytesLess, Bool.or_eq_true, decide_eq_true_eq, Bool.and_eq_true, beq_iff_eq] at h1 h2 ⊢
    rcases h1 with h1 | ⟨rfl, h1⟩
    · rcases h2 with h2 | ⟨rfl, h2⟩
      · exact .inl (UInt8.lt_trans h1 h2)
      · exact .inl h1
    · rcases h2 with h2 | ⟨rfl, h2⟩
      · exact .inl h2
      · exact .inr ⟨rfl, bl_trans la lb lc h1 h2⟩
theorem less_trans {a b c : Tim} (h1 : less a b = true) (h2 : less b c = true) : less a c = true := by
  unfold less at *
  simp only [decide_eq_true_eq] at *
  rcases h1 with h1 | ⟨e1, h1⟩
  · rcases h2 with h2 | ⟨e2, h2⟩
    · left; omega
    · left; omega
  · rcases h2 with h2 | ⟨e2, h2⟩
    · left; omega
    · exact .inr ⟨by omega, bl_trans _ _ _ h1 h2⟩
theorem less_ne {a b : Tim} (h1 : less a b = true) : ¬ (a.owner = b.owner ∧ a.name = b.name) := by
  rintro ⟨e1, e2⟩
  unfold less at h1
  rw [e1, e2, bl_irr] at h1
  simp at h1
theorem chk_less {c : Clk} (h0 : (chk c).2 = 0) : ∀ j, 0 < j → j < c.timers.length → less (gt c.timers 0) (gt c.timers j) = true := by
  intro j hj hl
  induction j with
  | zero => omega
  | succ j ih =>
    have h1 := (tmE_zero ((chk_zero h0).2.2 (j + 1) hl)).2.2.1 hj
    rw [Nat.add_sub_cancel] at h1
    rcases Nat.eq_zero_or_pos j with e | e
    · subst e; exact h1
    · exact less_trans (ih e (by omega)) h1
theorem name_pos {s : ByteArray} (h : nameE s = 0) : s ≠ ⟨#[]⟩ ∧ s.size ≤ 60 := by
  unfold nameE at h
  split at h
  · rename_i q
    refine ⟨?_, by have := q.2.1; omega⟩
    rintro rfl
    exact absurd q.1 (by decide)
  · cases h
/-! ### two steps -/
theorem few_advC {c : Clk} (f : few c) (to : Int) : few (advC c to) := by
  unfold advC
  split
  · exact ⟨by decide, fun t ht => by cases ht⟩
  · exact few_adv f
theorem chk_nil : (chk ⟨0, []⟩).2 = 0 := by
  refine chk_of (by decide) (by decide) fun j hj => ?_
  simp at hj
theorem chk_advC {c : Clk} (h0 : (chk c).2 = 0) (to : Int) : (chk (advC c to)).2 = 0 := by
  by_cases he : advE c to = 0
  · rw [(adv_ok h0 he).2.2.2.1]; exact chk_adv h0 he
  · rw [advC, if_pos he]; exact chk_nil
theorem two_adv {c : Clk} {a b : Int} (h0 : (chk c).2 = 0) (h1 : advE c a = 0) (h2 : advE (advC c a) b = 0) : advC (advC c a) b = ⟨b, (c.timers.map (expire a)).map (expire b)⟩ ∧ ∀ t ∈ c.timers,
    (t.running = true ∧ t.due ≤ b → t.expired = false ∧ expire b (expire a t) = { t with running := false, expired := true }) ∧ (¬ (t.running = true ∧ t.due ≤ b) → expire b (expire a t) = t) := by
  have h3 := chk_advC h0 a
  obtain ⟨p1, p2, p3, p4, p5⟩ := adv_ok h0 h1
  obtain ⟨q1, q2, q3, q4, q5⟩ := adv_ok h3 h2
  rw [p4] at q1 q3 q4
  simp only at q1 q3 q4
  refine ⟨by rw [p4, q4], fun t ht => ?_⟩
  have r1 := p3 t ht
  have r2 := q3 (expire a t) (List.mem_map_of_mem ht)
  have r3 := chk_due h0 t ht
  by_cases hr : t.running = true
  · have r1 := r1 hr
    by_cases ha : t.due = a
    · have e1 : expire a t = { t with running := false, expired := true } := by rw [expire, if_pos (by simp [isDue, hr, ha])]
      have e2 : expire b (expire a t) = { t with running := false, expired := true } := by rw [e1, expire, if_neg (by simp [isDue])]
      exact ⟨fun _ => ⟨(r3 hr).2.2, e2⟩, fun q => absurd ⟨hr, by omega⟩ q⟩
    · have e1 : expire a t = t := by rw [expire, if_neg (by simp [isDue, hr, ha])]
      rw [e1] at r2 ⊢
      have r2 := r2 hr
      by_cases hb : t.due = b
      · exact ⟨fun _ => ⟨(r3 hr).2.2, by rw [expire, if_pos (by simp [isDue, hr, hb])]⟩, fun q => absurd ⟨hr, by omega⟩ q⟩
      · exact ⟨fun q => by omega, fun _ => by rw [expire, if_neg (by simp [isDue, hr, hb])]⟩
  · have hr' : t.running = false := by simpa using hr
    have e1 : expire a t = t := by rw [expire, if_neg (by simp [isDue, hr'])]
    exact ⟨fun q => absurd q.1 hr, fun _ => by rw [e1, expire, if_neg (by simp [isDue, hr'])]⟩
/-! ### two timers -/
theorem at_first {c : Clk} (hl : 0 < c.timers.length) : idxOf (isT (gt c.timers 0).owner (gt c.timers 0).name) c.timers = 0 ∧ at_ c (gt c.timers 0).owner (gt c.timers 0).name = 0 := by
  have := idxOf_at (p := isT (gt c.timers 0).owner (gt c.timers 0).name) (l := c.timers) (k := 0) (fun j hj => by omega) hl (by simp [isT])
  exact ⟨this, by unfold at_; rw [this]; rfl⟩
theorem at_some {c : Clk} {k : Nat} (hk : k < c.timers.length) : 0 ≤ idxOf (isT (gt c.timers k).owner (gt c.timers k).name) c.timers := by
  rcases idxOf_spec (isT (gt c.timers k).owner (gt c.timers k).name) c.timers with ⟨_, e⟩ | ⟨j, _, e, _⟩
  · have := e _ (gd_mem Df.d hk)
    rw [show c.timers.getD k Df.d = gt c.timers k from rfl] at this
    simp [isT] at this
  · omega
theorem namE_at {c : Clk} (h0 : (chk c).2 = 0) {k : Nat} (hk : k < c.timers.length) : namE c (gt c.timers k).owner (gt c.timers k).name = 0 := by
  obtain ⟨a1, a2, _, _⟩ := tmE_zero ((chk_zero h0).2.2 k hk)
  have := at_some hk
  unfold namE
  rw [h0, orOf_cons, orOf_cons, orOf_cons, orOf_nil, a1, a2]
  simp
  omega
theorem anyE_at {c : Clk} (h0 : (chk c).2 = 0) {k : Nat} (hk : k < c.timers.length) : anyE c (gt c.timers k).owner (gt c.timers k).name = 0 := by
  rw [anyE, if_neg (name_pos (tmE_zero ((chk_zero h0).2.2 k hk)).2.1).1]
  exact namE_at h0 hk
theorem gt_mapS {o : Int} {n : ByteArray} {l : List Tim} {k : Nat} (hk : k < l.length) : gt (l.map (stopT o n)) k = stopT o n (gt l k) := by
  rw [← gt_at (by simpa using hk), ← gt_at hk]; simp
theorem stopT_on (o : Int) (n : ByteArray) (t : Tim) : (stopT o n t).owner = t.owner ∧ (stopT o n t).name = t.name := by
  unfold stopT
  split <;> exact ⟨rfl, rfl⟩
theorem stE_idle (now : Int) (t : Tim) : stE now (idle t) = 0 := by simp [stE, idle]
theorem chk_stopped {c : Clk} (h0 : (chk c).2 = 0) (o : Int) (n : ByteArray) : (chk (stopped c o n)).2 = 0 := by
  refine chk_keep h0 (chk_zero h0).1 (by simp) fun j hj => ?_
  rw [gt_mapS hj]
  refine ⟨(stopT_on _ _ _).1, (stopT_on _ _ _).2, ?_⟩
  unfold stopT
  split
  · exact stE_idle _ _
  · exact chk_tim h0 (gd_mem _ hj)
theorem few_stopped {c : Clk} (f : few c) (o : Int) (n : ByteArray) : few (stopped c o n) :=
  few_keep f (by simp) fun j hj => by rw [gt_mapS hj]; exact (stopT_on _ _ _).2
theorem gt_setn {l : List Tim} {j k : Nat} {a : Tim} (h : k ≠ j) : gt (l.set k a) j = gt l j := by
  unfold gt
  rw [List.getD_eq_getElem?_getD, List.getD_eq_getElem?_getD, List.getElem?_set, if_neg h]
theorem start_gt {c : Clk} {o : Int} {n : ByteArray} {d : Int} (j : Nat) : (gt (started c o n d).timers j).owner = (gt c.timers j).owner ∧ (gt (started c o n d).timers j).name = (gt c.timers j).name := by
  unfold started
  simp only
  by_cases hj : at_ c o n = j
  · by_cases hl : j < c.timers.length
    · rw [hj, gt_set hl]; exact ⟨rfl, rfl⟩
    · rw [List.set_eq_of_length_le (by omega)]; exact ⟨rfl, rfl⟩
  · rw [gt_setn hj]; exact ⟨rfl, rfl⟩
theorem few_started {c : Clk} (f : few c) (o : Int) (n : ByteArray) (d : Int) : few (started c o n d) :=
  few_keep f (by simp) fun j hj => (start_gt j).2
theorem chk_started {c : Clk} (h0 : (chk c).2 = 0) {o : Int} {n : ByteArray} {d : Int} (h1 : 0 ≤ d ∧ c.now + d ≤ 1099511627776) : (chk (started c o n d)).2 = 0 := by
  have hn := (chk_zero h0).1
  refine chk_keep h0 hn (by simp) fun j hj => ⟨(start_gt j).1, (start_gt j).2, ?_⟩
  by_cases hjj : at_ c o n = j
  · rw [hjj, gt_set hj]
    simp [stE, startT]
    omega
  · rw [gt_setn hjj]
    exact chk_tim h0 (gd_mem _ hj)
/-- Started and stopped, in either order. -/
theorem both_ways {c : Clk} (h0 : (chk c).2 = 0) {k : Nat} (hk0 : 0 < k) (hk : k < c.timers.length) {d : Int} (hd : 0 ≤ d ∧ d ≤ 1099511627776) :
    anyE c (gt c.timers k).owner (gt c.timers k).name = 0 ∧
    startE (stopped c (gt c.timers k).owner (gt c.timers k).name) (gt c.timers 0).owner (gt c.timers 0).name d = startE c (gt c.timers 0).owner (gt c.timers 0).name d ∧
    (startE c (gt c.timers 0).owner (gt c.timers 0).name d = 0 → anyE (started c (gt c.timers 0).owner (gt c.timers 0).name d) (gt c.timers k).owner (gt c.timers k).name = 0 ∧
      (stopped (started c (gt c.timers 0).owner (gt c.timers 0).name d) (gt c.timers k).owner (gt c.timers k).name).timers =
        (started (stopped c (gt c.timers k).owner (gt c.timers k).name) (gt c.timers 0).owner (gt c.timers 0).name d).timers) := by
  have hne := less_ne (chk_less h0 k hk0 hk)
  have hnm := (name_pos (tmE_zero ((chk_zero h0).2.2 k hk)).2.1).1
  have hst : ∀ t : Tim, t.owner = (gt c.timers 0).owner → t.name = (gt c.timers 0).name → stopT (gt c.timers k).owner (gt c.timers k).name t = t := by
    intro t e1 e2
    rw [stopT, if_neg]
    rintro ⟨q1, q2 | q2⟩
    · exact hnm q2
    · exact hne ⟨by rw [← e1]; exact q1, by rw [← e2]; exact q2⟩
  have hS := chk_stopped h0 (gt c.timers k).owner (gt c.timers k).name
  have g0 : gt (stopped c (gt c.timers k).owner (gt c.timers k).name).timers 0 = gt c.timers 0 := by
    show gt (c.timers.map _) 0 = _
    rw [gt_mapS (by omega)]
    exact hst _ rfl rfl
  have n1 := namE_at h0 (show 0 < c.timers.length by omega)
  have n2 := namE_at hS (k := 0) (by show 0 < (c.timers.map _).length; simp; omega)
  rw [g0] at n2
  refine ⟨anyE_at h0 hk, ?_, fun hs => ?_⟩
  · unfold startE
    rw [n1, n2]
    rfl
  · have hd2 : c.now + d ≤ 1099511627776 := by
      unfold startE at hs
      rw [n1] at hs
      simp only [ne_eq, not_true, if_false] at hs
      split at hs
      · cases hs
      · split at hs
        · cases hs
        · omega
    have h2 := chk_started h0 (o := (gt c.timers 0).owner) (n := (gt c.timers 0).name) (d := d) ⟨hd.1, hd2⟩
    have h3 := anyE_at h2 (k := k) (by simpa [started] using hk)
    rw [(start_gt k).1, (start_gt k).2] at h3
    refine ⟨h3, ?_⟩
    have a1 := (at_first (c := c) (by omega)).2
    have a2 := (at_first (c := stopped c (gt c.timers k).owner (gt c.timers k).name) (by show 0 < (c.timers.map _).length; simp; omega)).2
    rw [g0] at a2
    show (List.set c.timers _ _).map _ = List.set (c.timers.map _) _ _
    rw [a1, a2, g0, List.map_set]
    congr 1
    exact hst _ rfl rfl
end Go.Proofs.Ytalnnkpdpjmmkaa

set_option linter.unusedSimpArgs false
set_option linter.unusedVariables false
set_option linter.unnecessarySimpa false
set_option maxRecDepth 100000
set_option maxHeartbeats 4000000
namespace Go.Proofs.Ytalnnkpdpjmmkaa
open Go.AM
variable {g : Heap}
theorem few_startC {c : Clk} (f : few c) (o : Int) (n : ByteArray) (d : Int) : few (startC c o n d) := by
  unfold startC
  split
  · exact ⟨by decide, fun t ht => by cases ht⟩
  · exact few_started f o n d
theorem few_stopC {c : Clk} (f : few c) (o : Int) (n : ByteArray) : few (stopC c o n) := by
  unfold stopC
  split
  · exact ⟨by decide, fun t ht => by cases ht⟩
  · exact few_stopped f o n
open Classical in
theorem c8 [GM g] {v w : Value} {c : Clk} {l : List Int} (s : ClkV g v c) (sl : L g w l) (hb : c.timers.length ≤ 1048576) : DetP Try.prog 8 [v, w] g fun v' _ => v' = .bool true := by
  obtain ⟨x, rfl, s⟩ := s
  have m := Mem.start g
  refine w8 ?_
  unfold n8
  refine box_a m fun i0 h0 z0 p0 m => ?_
  ((with_reducible (refine mv_i ?_));
      (refine call_r c10 ?_);
      (with_reducible (refine not_t ?_; refine cnd_f ?_));
      (refine ldo_w (by assumption) (by infer_instance) (by with_unfolding_all rfl) ?_))
  refine call_r (c11 ⟨_, rfl, s.up⟩) ?_
  by_cases f : few c
  rotate_left
  · rw [decide_eq_false f]
    ((with_reducible (refine not_f ?_; refine mv_i ?_; refine gd_tf ?_; refine gd_tf ?_; refine gd_tf ?_; refine pick_t ?_; refine mv_i ?_; refine gd_tf ?_; refine gd_tf ?_; refine gd_tf ?_; refine pick_t ?_; refine cnd_t ?_; refine mv_i ?_; refine ret1 ?_)))
    rfl
  rw [decide_eq_true f]
  by_cases hE : (chk c).2 = 0
  rotate_left
  · ((with_reducible (refine not_t ?_; refine mv_i ?_; refine gd_ff ?_));
      (refine ldo_w (by assumption) (by infer_instance) (by with_unfolding_all rfl) ?_);
      (with_reducible (refine gd_ff ?_));
      (refine call_r (c17 ⟨_, by with_unfolding_all rfl, L.up (by assumption)⟩ (by assumption)) ?_);
      (with_reducible (refine gd_ff ?_; refine neq_n (by first | assumption | decide) ?_; refine pick_f ?_; refine mv_i ?_; refine gd_tf ?_; refine gd_tf ?_; refine gd_tf ?_; refine pick_t ?_; refine cnd_t ?_; refine mv_i ?_; refine ret1 ?_)))
    rfl
  by_cases hl : l.length = 3
  rotate_left
  · have hl' : ¬ (l.length : Int) = 3 := by omega
    ((with_reducible (refine not_t ?_; refine mv_i ?_; refine gd_ff ?_));
        (refine ldo_w (by assumption) (by infer_instance) (by with_unfolding_all rfl) ?_);
        (with_reducible (refine gd_ff ?_));
        (refine call_r (c17 ⟨_, by with_unfolding_all rfl, L.up (by assumption)⟩ (by assumption)) ?_);
        (with_reducible (refine gd_ff ?_; refine neq_h (by first | assumption | decide) ?_; refine pick_f ?_; refine mv_i ?_; refine gd_ff ?_; refine mv_i ?_; refine gd_ff ?_; refine len_g (by assumption) ?_; refine gd_ff ?_; refine neq_n (by first | assumption | decide) ?_; refine pick_f ?_; refine cnd_t ?_; refine mv_i ?_; refine ret1 ?_)))
    rfl
  obtain ⟨l0, l1, l2, rfl⟩ : ∃ a b c, l = [a, b, c] := by
    match l, hl with
    | [a, b, c], _ => exact ⟨a, b, c, rfl⟩
  have hl3 : (([l0, l1, l2] : List Int).length : Int) = 3 := rfl
  ((with_reducible (refine not_t ?_; refine mv_i ?_; refine gd_ff ?_));
      (refine ldo_w (by assumption) (by infer_instance) (by with_unfolding_all rfl) ?_);
      (with_reducible (refine gd_ff ?_));
      (refine call_r (c17 ⟨_, by with_unfolding_all rfl, L.up (by assumption)⟩ (by assumption)) ?_);
      (with_reducible (refine gd_ff ?_; refine neq_h (by first | assumption | decide) ?_; refine pick_f ?_; refine mv_i ?_; refine gd_ff ?_; refine mv_i ?_; refine gd_ff ?_; refine len_g (by assumption) ?_; refine gd_ff ?_; refine neq_h (by first | assumption | decide) ?_; refine pick_f ?_; refine cnd_f ?_));
      (refine ldo_w (by assumption) (by infer_instance) (by with_unfolding_all rfl) ?_);
      (refine vb_as rfl (by assumption) ?_))
  refine calld_d (c13 ⟨_, rfl, s.up⟩ hb) m fun v1 h1 p1 p2 m ⟨y1, e1, t1⟩ => ?_
  subst e1
  obtain ⟨b1, q1, rfl, _⟩ := t1.shape
  refine new_p p1 ?_
  ((with_reducible (refine mv_i ?_));
      (refine idx_dz (by assumption) (by with_unfolding_all rfl) (by omega) (by omega) fun p hp => ?_);
      (refine ld_g (by assumption) (by with_unfolding_all rfl) ?_);
      (refine vb_n (by with_unfolding_all rfl) ?_))
  refine calld_d (c16' ⟨_, rfl, t1⟩ f l0) m fun v3 h3 p3 p4 m ⟨b3, q3, n3, z3, e3, hn3, s3, t3⟩ => ?_
  subst e3
  refine new_p p3 ?_
  have f3 := few_advC f l0
  have k3 := chk_advC hE l0
  have f3l := f3.1
  ((with_reducible (refine mv_i ?_; refine ex3_0 ?_; refine ex3_1 ?_; refine ex3_2 ?_; refine alloc_z (by assumption) fun i h z p m => ?_));
      (refine st_w (by assumption) (by infer_instance) (by with_unfolding_all rfl) (by with_unfolding_all rfl) (by first | rfl | exact flat_ones (Flat.flat _)) (by infer_instance) fun h p m => ?_);
      (with_reducible (refine ⟨trivial, ?_⟩; refine mv_i ?_; refine mv_i ?_));
      (refine ldo_w (by assumption) (by infer_instance) (by with_unfolding_all rfl) ?_);
      (refine vb_as rfl (by assumption) ?_))
  refine calld_d (c13 (c := advC c l0) ⟨_, rfl, s3.up⟩ (by omega)) m fun v4 h4 p5 p6 m ⟨y4, e4, t4⟩ => ?_
  subst e4
  obtain ⟨b4, q4, rfl, _⟩ := t4.shape
  refine new_p p5 ?_
  ((with_reducible (refine mv_i ?_));
      (refine idx_dz (by assumption) (by with_unfolding_all rfl) (by omega) (by omega) fun p hp => ?_);
      (refine ld_g (by assumption) (by with_unfolding_all rfl) ?_);
      (refine vb_n (by with_unfolding_all rfl) ?_))
  refine calld_d (c16' ⟨_, rfl, t4⟩ f3 l1) m fun v5 h5 p7 p8 m ⟨b5, q5, n5, z5, e5, hn5, s5, t5⟩ => ?_
  subst e5
  refine new_p p7 ?_
  refine mv_i ?_
  ((with_reducible (refine ex3_0 ?_; refine ex3_1 ?_; refine ex3_2 ?_; refine alloc_z (by assumption) fun i h z p m => ?_));
      (refine st_w (by assumption) (by infer_instance) (by with_unfolding_all rfl) (by with_unfolding_all rfl) (by first | rfl | exact flat_ones (Flat.flat _)) (by infer_instance) fun h p m => ?_);
      (with_reducible (refine ⟨trivial, ?_⟩; refine mv_i ?_; refine mv_i ?_)))
  refine seq_J (fun xs h6 => xs = [] ∧ Prec h h6 ∧ Mem g h6 [⟨some i0, [.int .i64 c.now, x], z0⟩]) ?_ ?_
  rotate_left
  · intro k' hk'
    by_cases he : advE c l0 = 0 ∧ advE (advC c l0) l1 = 0
    rotate_left
    · ((with_reducible (refine mv_i ?_; refine eql_i (fun hc => ?_) (fun hc => ?_); refine mv_i ?_; refine gd_tt ?_; refine mv_i ?_; refine gd_tt ?_; refine eql_i (fun hc => ?_) (fun hc => ?_); refine pick_t ?_; refine cnd_t ?_; refine fao ?_));
        (refine ldo (by assumption) (q := by infer_instance) (by with_unfolding_all rfl) ?_);
        (refine vb_n (by with_unfolding_all rfl) ?_);
        (with_reducible (refine mv_i ?_));
        (refine idx_d (by assumption) (by with_unfolding_all rfl) (by omega) fun p hp => ?_);
        (refine ld_g (by assumption) (by with_unfolding_all rfl) ?_);
        (refine vb_n (by with_unfolding_all rfl) ?_);
        (with_reducible (refine neq_i (fun hc => ?_) (fun hc => ?_); refine mv_i ?_; refine gd_ff ?_; refine fao ?_; refine gd_ff ?_));
        (refine ldo (by assumption) (q := by infer_instance) (by with_unfolding_all rfl) ?_);
        (with_reducible (refine vb_l (by assumption) ?_; refine gd_ff ?_; refine len_g (by assumption) ?_; refine gd_ff ?_; refine fao ?_; refine gd_ff ?_));
        (refine ldo (by assumption) (q := by infer_instance) (by with_unfolding_all rfl) ?_);
        (with_reducible (refine vb_l (by assumption) ?_; refine gd_ff ?_; refine len_g (by assumption) ?_; refine gd_ff ?_; refine neq_i (fun hc => ?_) (fun hc => ?_); refine pick_f ?_; refine cnd_f ?_; refine mv_i ?_));
        (rotate_left);
        (with_reducible (refine pick_f ?_; refine cnd_t ?_; refine mv_i ?_; refine ret1 ?_));
        (rotate_left);
        (with_reducible (refine mv_i ?_; refine gd_tf ?_; refine gd_tf ?_; refine gd_tf ?_; refine gd_tf ?_; refine gd_tf ?_; refine gd_tf ?_; refine gd_tf ?_; refine pick_t ?_; refine cnd_t ?_; refine mv_i ?_; refine ret1 ?_));
        (rotate_left);
        (with_reducible (refine pick_t ?_; refine cnd_f ?_));
        (rotate_left);
        (with_reducible (refine mv_i ?_; refine gd_ft ?_; refine gd_ft ?_; refine pick_f ?_; refine cnd_f ?_));
        (rotate_left))
      all_goals first
        | exact hk' _ _ ⟨rfl, ⟨Stb.st⟩, m.tail.tail⟩
        | exact (he ⟨by assumption, by assumption⟩).elim
    · obtain ⟨he1, he2⟩ := he
      obtain ⟨hA, hT⟩ := two_adv hE he1 he2
      simp only [hA] at m s5 hn5
      have hlm : ((c.timers.map (expire l0)).map (expire l1)).length = c.timers.length := by simp
      have hq1 : l1 = gt [l0, l1, l2] (Int.toNat 1) := rfl
      ((with_reducible (refine mv_i ?_; refine eql_h (by first | assumption | decide) ?_; refine mv_i ?_; refine gd_tt ?_; refine mv_i ?_; refine gd_tt ?_; refine eql_h (by first | assumption | decide) ?_; refine pick_t ?_; refine cnd_t ?_; refine fao ?_));
          (refine ldo (by assumption) (q := by infer_instance) (by with_unfolding_all rfl) ?_);
          (refine vb_n (by with_unfolding_all rfl) ?_);
          (with_reducible (refine mv_i ?_));
          (refine idx_dz (by assumption) (by with_unfolding_all rfl) (by omega) (by omega) fun p hp => ?_);
          (refine ld_g (by assumption) (by with_unfolding_all rfl) ?_);
          (refine vb_n (by with_unfolding_all rfl) ?_);
          (with_reducible (refine neq_h (by first | assumption | decide) ?_; refine mv_i ?_; refine gd_ff ?_; refine fao ?_; refine gd_ff ?_));
          (refine ldo (by assumption) (q := by infer_instance) (by with_unfolding_all rfl) ?_);
          (with_reducible (refine vb_l (by assumption) ?_; refine gd_ff ?_; refine len_g (by assumption) ?_; refine gd_ff ?_; refine fao ?_; refine gd_ff ?_));
          (refine ldo (by assumption) (q := by infer_instance) (by with_unfolding_all rfl) ?_);
          (with_reducible (refine vb_l (by assumption) ?_; refine gd_ff ?_; refine len_g (by assumption) ?_; refine gd_ff ?_; refine neq_i (fun hc => ?_) (fun hc => ?_); refine pick_f ?_; refine cnd_f ?_; refine mv_i ?_));
          (rotate_left);
          (with_reducible (refine pick_f ?_; refine cnd_t ?_; refine mv_i ?_; refine ret1 ?_));
          (rotate_left))
      all_goals (try (exfalso; omega))
      all_goals (try (exact absurd rfl hc))
      refine loop1 c.timers.length (fun j h5 => Prec h h5 ∧ Mem g h5 [⟨some i, [.int .i64 l1, .slice b5 n5 q5], z⟩, ⟨some i0, [.int .i64 c.now, x], z0⟩]) ⟨⟨Stab.refl _⟩, ?_⟩ ?_
      · exact m.sub ((List.sublist_cons_self _ _).cons_cons _)
      rintro j h6 _ hj ⟨p12, m⟩
      by_cases hjl : j < c.timers.length
      · have hgt : gt ((c.timers.map (expire l0)).map (expire l1)) j = expire l1 (expire l0 (gt c.timers j)) := by rw [gt_map (by simpa using hjl), gt_map hjl]
        obtain ⟨hT1, hT2⟩ := hT _ (gd_mem Df.d hjl)
        rw [show c.timers.getD j Df.d = gt c.timers j from rfl] at hT1 hT2
        by_cases hd : (gt c.timers j).running = true ∧ (gt c.timers j).due ≤ l1
        · obtain ⟨hd3, hx⟩ := hT1 hd
          obtain ⟨hd1, hd2⟩ := hd
          rw [hx] at hgt
          have hle : (gt c.timers j).due ≤ gt [l0, l1, l2] (Int.toNat 1) := hd2
          ((with_reducible (refine mv_i ?_; refine fao ?_));
              (refine ldo (by assumption) (q := by infer_instance) (by with_unfolding_all rfl) ?_);
              (with_reducible (refine len_g (by assumption) ?_; refine lss_i (fun hc => ?_) (fun hc => ?_); refine cnd_t ?_; refine fao ?_));
              (refine ldo (by assumption) (q := by infer_instance) (by with_unfolding_all rfl) ?_);
              (with_reducible (refine vb_l (by assumption) ?_; refine mv_i ?_));
              (refine idx_d (by assumption) (by with_unfolding_all rfl) (by omega) fun p hp => ?_);
              (refine ldr_w (by assumption) (by with_unfolding_all rfl) ?_);
              (with_reducible (refine vb_f ?_; refine fao ?_));
              (refine ldo (by assumption) (q := by infer_instance) (by with_unfolding_all rfl) ?_);
              (with_reducible (refine vb_l (by assumption) ?_; refine mv_i ?_));
              (refine idx_d (by assumption) (by with_unfolding_all rfl) (by omega) fun p hp => ?_);
              (refine ldr_w (by assumption) (by with_unfolding_all rfl) ?_);
              (with_reducible (refine vb_f ?_; refine alloc_z (by assumption) fun i h z p m => ?_; refine alloc_z (by assumption) fun i h z p m => ?_));
              (refine st_w (by assumption) (by infer_instance) (by with_unfolding_all rfl) (by with_unfolding_all rfl) (by first | rfl | exact flat_ones (Flat.flat _)) (by infer_instance) fun h p m => ?_);
              (refine pd_p (by assumption) (by with_unfolding_all rfl) ?_);
              (refine pd_c (by assumption) (by infer_instance) (by with_unfolding_all rfl) ?_);
              (with_reducible (refine ⟨trivial, ?_⟩));
              (refine st_w (by assumption) (by infer_instance) (by with_unfolding_all rfl) (by with_unfolding_all rfl) (by first | rfl | exact flat_ones (Flat.flat _)) (by infer_instance) fun h p m => ?_);
              (with_reducible (refine ⟨trivial, ?_⟩; refine fao ?_));
              (refine ldo (by assumption) (q := by infer_instance) (by with_unfolding_all rfl) ?_);
              (refine vb_n (by with_unfolding_all rfl) ?_);
              (with_reducible (refine mv_i ?_; refine gd_ht (by assumption) ?_; refine fao ?_; refine gd_ht (by assumption) ?_));
              (refine ldo (by assumption) (q := by infer_instance) (by with_unfolding_all rfl) ?_);
              (refine vb_n (by with_unfolding_all rfl) ?_);
              (with_reducible (refine gd_ht (by assumption) ?_; refine mv_i ?_; refine gd_ht (by assumption) ?_));
              (refine idx_dz (by assumption) (by with_unfolding_all rfl) (by omega) (by omega) fun p hp => ?_);
              (with_reducible (refine gd_ht (by assumption) ?_));
              (refine ld_g (by assumption) (by with_unfolding_all rfl) ?_);
              (refine vb_n (by with_unfolding_all rfl) ?_);
              (with_reducible (refine gd_ht (by assumption) ?_; refine leq_i (fun hc => ?_) (fun hc => ?_); refine pick_h (by assumption) ?_; refine mv_i ?_; refine mv_i ?_; refine fao ?_));
              (refine ldo (by assumption) (q := by infer_instance) (by with_unfolding_all rfl) ?_);
              (with_reducible (refine mv_i ?_; refine gd_st (fun hb => ?_) (fun hb => ?_); refine fao ?_; refine gd_ht (by assumption) ?_));
              (refine ldo (by assumption) (q := by infer_instance) (by with_unfolding_all rfl) ?_);
              (with_reducible (refine gd_ht (by assumption) ?_; refine not_n (by assumption) ?_; refine pick_h (by assumption) ?_));
              (refine bne_t rfl ?_);
              (with_reducible (refine mv_i ?_; refine gd_ff ?_; refine mv_i ?_; refine gd_ff ?_; refine not_t ?_; refine gd_ff ?_; refine mv_i ?_; refine gd_ft ?_; refine gd_ft ?_; refine gd_ft ?_; refine gd_ff ?_; refine pick_f ?_; refine pick_f ?_; refine cnd_f ?_; refine mv_i ?_; refine inc_i (by omega) ?_; refine mv_i ?_));
              (rotate_left);
              (with_reducible (refine gd_nt (by assumption) ?_; refine gd_nt (by assumption) ?_; refine pick_n (by assumption) ?_));
              (refine bne_n (by decide) ?_);
              (with_reducible (refine mv_i ?_; refine gd_tf ?_; refine gd_tf ?_; refine gd_tf ?_; refine gd_u ?_; refine gd_u ?_; refine gd_u ?_; refine gd_tf ?_; refine pick_t ?_; refine cnd_t ?_; refine mv_i ?_; refine ret1 ?_));
              (rotate_left);
              (with_reducible (refine pick_h (by assumption) ?_; refine mv_i ?_; refine mv_i ?_; refine fao ?_));
              (refine ldo (by assumption) (q := by infer_instance) (by with_unfolding_all rfl) ?_);
              (with_reducible (refine mv_i ?_; refine gd_st (fun hb => ?_) (fun hb => ?_); refine fao ?_; refine gd_ht (by assumption) ?_));
              (refine ldo (by assumption) (q := by infer_instance) (by with_unfolding_all rfl) ?_);
              (with_reducible (refine gd_ht (by assumption) ?_; refine not_n (by assumption) ?_; refine pick_h (by assumption) ?_));
              (refine bne_n (by decide) ?_);
              (with_reducible (refine mv_i ?_; refine gd_tf ?_; refine gd_tf ?_; refine gd_tf ?_; refine gd_u ?_; refine gd_u ?_; refine gd_u ?_; refine gd_tf ?_; refine pick_t ?_; refine cnd_t ?_; refine mv_i ?_; refine ret1 ?_));
              (rotate_left);
              (with_reducible (refine gd_nt (by assumption) ?_; refine gd_nt (by assumption) ?_; refine pick_n (by assumption) ?_));
              (refine bne_t rfl ?_);
              (with_reducible (refine mv_i ?_; refine gd_ff ?_; refine mv_i ?_; refine gd_ff ?_; refine not_f ?_; refine gd_ff ?_; refine mv_i ?_; refine gd_tt ?_));
              (refine ldo_w (by assumption) (by infer_instance) (by with_unfolding_all rfl) ?_);
              (with_reducible (refine gd_tt ?_));
              (refine ldo_w (by assumption) (by infer_instance) (by with_unfolding_all rfl) ?_);
              (with_reducible (refine gd_tt ?_; refine tne_i (fun hc => ?_) (fun hc => ?_); refine gd_ff ?_; refine pick_t ?_; refine pick_f ?_; refine cnd_f ?_; refine mv_i ?_; refine inc_i (by omega) ?_; refine mv_i ?_));
              (rotate_left);
              (with_reducible (refine gd_ff ?_; refine pick_t ?_; refine pick_f ?_; refine cnd_t ?_; refine mv_i ?_; refine ret1 ?_));
              (rotate_left);
              (with_reducible (refine cnd_f ?_));
              (rotate_left))
          all_goals first
            | (exfalso; omega)
            | (rw [hgt] at hb; cases hb; done)
            | exact next1 (by omega) ⟨⟨Stb.st⟩, m.tail.tail⟩
        · have hx := hT2 hd
          rw [hx] at hgt
          have hle : (gt c.timers j).running = true → ¬ (gt c.timers j).due ≤ gt [l0, l1, l2] (Int.toNat 1) := fun q1 q2 => hd ⟨q1, q2⟩
          ((with_reducible (refine mv_i ?_; refine fao ?_));
              (refine ldo (by assumption) (q := by infer_instance) (by with_unfolding_all rfl) ?_);
              (with_reducible (refine len_g (by assumption) ?_; refine lss_i (fun hc => ?_) (fun hc => ?_); refine cnd_t ?_; refine fao ?_));
              (refine ldo (by assumption) (q := by infer_instance) (by with_unfolding_all rfl) ?_);
              (with_reducible (refine vb_l (by assumption) ?_; refine mv_i ?_));
              (refine idx_d (by assumption) (by with_unfolding_all rfl) (by omega) fun p hp => ?_);
              (refine ldr_w (by assumption) (by with_unfolding_all rfl) ?_);
              (with_reducible (refine vb_f ?_; refine fao ?_));
              (refine ldo (by assumption) (q := by infer_instance) (by with_unfolding_all rfl) ?_);
              (with_reducible (refine vb_l (by assumption) ?_; refine mv_i ?_));
              (refine idx_d (by assumption) (by with_unfolding_all rfl) (by omega) fun p hp => ?_);
              (refine ldr_w (by assumption) (by with_unfolding_all rfl) ?_);
              (with_reducible (refine vb_f ?_; refine alloc_z (by assumption) fun i h z p m => ?_; refine alloc_z (by assumption) fun i h z p m => ?_));
              (refine st_w (by assumption) (by infer_instance) (by with_unfolding_all rfl) (by with_unfolding_all rfl) (by first | rfl | exact flat_ones (Flat.flat _)) (by infer_instance) fun h p m => ?_);
              (refine pd_p (by assumption) (by with_unfolding_all rfl) ?_);
              (refine pd_c (by assumption) (by infer_instance) (by with_unfolding_all rfl) ?_);
              (with_reducible (refine ⟨trivial, ?_⟩));
              (refine st_w (by assumption) (by infer_instance) (by with_unfolding_all rfl) (by with_unfolding_all rfl) (by first | rfl | exact flat_ones (Flat.flat _)) (by infer_instance) fun h p m => ?_);
              (with_reducible (refine ⟨trivial, ?_⟩; refine fao ?_));
              (refine ldo (by assumption) (q := by infer_instance) (by with_unfolding_all rfl) ?_);
              (refine vb_n (by with_unfolding_all rfl) ?_);
              (with_reducible (refine mv_i ?_; refine gd_st (fun hb => ?_) (fun hb => ?_); refine fao ?_; refine gd_ht (by assumption) ?_));
              (refine ldo (by assumption) (q := by infer_instance) (by with_unfolding_all rfl) ?_);
              (refine vb_n (by with_unfolding_all rfl) ?_);
              (with_reducible (refine gd_ht (by assumption) ?_; refine mv_i ?_; refine gd_ht (by assumption) ?_));
              (refine idx_dz (by assumption) (by with_unfolding_all rfl) (by omega) (by omega) fun p hp => ?_);
              (with_reducible (refine gd_ht (by assumption) ?_));
              (refine ld_g (by assumption) (by with_unfolding_all rfl) ?_);
              (refine vb_n (by with_unfolding_all rfl) ?_);
              (with_reducible (refine gd_ht (by assumption) ?_; refine leq_i (fun hc => ?_) (fun hc => ?_); refine pick_h (by assumption) ?_; refine mv_i ?_; refine mv_i ?_; refine fao ?_));
              (refine ldo (by assumption) (q := by infer_instance) (by with_unfolding_all rfl) ?_);
              (with_reducible (refine mv_i ?_; refine gd_st (fun hb => ?_) (fun hb => ?_); refine fao ?_; refine gd_ht (by assumption) ?_));
              (refine ldo (by assumption) (q := by infer_instance) (by with_unfolding_all rfl) ?_);
              (with_reducible (refine gd_ht (by assumption) ?_; refine not_s (fun hb => ?_) (fun hb => ?_); refine pick_h (by assumption) ?_));
              (refine bne_n (by decide) ?_);
              (with_reducible (refine mv_i ?_; refine gd_tf ?_; refine gd_tf ?_; refine gd_tf ?_; refine gd_u ?_; refine gd_u ?_; refine gd_u ?_; refine gd_tf ?_; refine pick_t ?_; refine cnd_t ?_; refine mv_i ?_; refine ret1 ?_));
              (rotate_left);
              (with_reducible (refine pick_h (by assumption) ?_));
              (refine bne_t rfl ?_);
              (with_reducible (refine mv_i ?_; refine gd_ff ?_; refine mv_i ?_; refine gd_ff ?_; refine not_t ?_; refine gd_ff ?_; refine mv_i ?_; refine gd_ft ?_; refine gd_ft ?_; refine gd_ft ?_; refine gd_ff ?_; refine pick_f ?_; refine pick_f ?_; refine cnd_f ?_; refine mv_i ?_; refine inc_i (by omega) ?_; refine mv_i ?_));
              (rotate_left);
              (with_reducible (refine gd_nt (by assumption) ?_; refine gd_nt (by assumption) ?_; refine pick_n (by assumption) ?_));
              (refine bne_n (by decide) ?_);
              (with_reducible (refine mv_i ?_; refine gd_tf ?_; refine gd_tf ?_; refine gd_tf ?_; refine gd_u ?_; refine gd_u ?_; refine gd_u ?_; refine gd_tf ?_; refine pick_t ?_; refine cnd_t ?_; refine mv_i ?_; refine ret1 ?_));
              (rotate_left);
              (with_reducible (refine pick_h (by assumption) ?_; refine mv_i ?_; refine mv_i ?_; refine fao ?_));
              (refine ldo (by assumption) (q := by infer_instance) (by with_unfolding_all rfl) ?_);
              (with_reducible (refine mv_i ?_; refine gd_st (fun hb => ?_) (fun hb => ?_); refine fao ?_; refine gd_ht (by assumption) ?_));
              (refine ldo (by assumption) (q := by infer_instance) (by with_unfolding_all rfl) ?_);
              (with_reducible (refine gd_ht (by assumption) ?_; refine not_s (fun hb => ?_) (fun hb => ?_); refine pick_h (by assumption) ?_));
              (refine bne_t rfl ?_);
              (with_reducible (refine mv_i ?_; refine gd_ff ?_; refine mv_i ?_; refine gd_ff ?_; refine not_f ?_; refine gd_ff ?_; refine mv_i ?_; refine gd_tt ?_));
              (refine ldo_w (by assumption) (by infer_instance) (by with_unfolding_all rfl) ?_);
              (with_reducible (refine gd_tt ?_));
              (refine ldo_w (by assumption) (by infer_instance) (by with_unfolding_all rfl) ?_);
              (with_reducible (refine gd_tt ?_; refine tne_i (fun hc => ?_) (fun hc => ?_); refine gd_ff ?_; refine pick_t ?_; refine pick_f ?_; refine cnd_f ?_; refine mv_i ?_; refine inc_i (by omega) ?_; refine mv_i ?_));
              (rotate_left);
              (with_reducible (refine gd_ff ?_; refine pick_t ?_; refine pick_f ?_; refine cnd_t ?_; refine mv_i ?_; refine ret1 ?_));
              (rotate_left);
              (with_reducible (refine pick_h (by assumption) ?_));
              (refine bne_n (by decide) ?_);
              (with_reducible (refine mv_i ?_; refine gd_tf ?_; refine gd_tf ?_; refine gd_tf ?_; refine gd_u ?_; refine gd_u ?_; refine gd_u ?_; refine gd_tf ?_; refine pick_t ?_; refine cnd_t ?_; refine mv_i ?_; refine ret1 ?_));
              (rotate_left);
              (with_reducible (refine gd_nt (by assumption) ?_; refine gd_nt (by assumption) ?_; refine pick_n (by assumption) ?_));
              (refine bne_t rfl ?_);
              (with_reducible (refine mv_i ?_; refine gd_ff ?_; refine mv_i ?_; refine gd_ff ?_; refine not_f ?_; refine gd_ff ?_; refine mv_i ?_; refine gd_tt ?_));
              (refine ldo_w (by assumption) (by infer_instance) (by with_unfolding_all rfl) ?_);
              (with_reducible (refine gd_tt ?_));
              (refine ldo_w (by assumption) (by infer_instance) (by with_unfolding_all rfl) ?_);
              (with_reducible (refine gd_tt ?_; refine tne_i (fun hc => ?_) (fun hc => ?_); refine gd_ff ?_; refine pick_t ?_; refine pick_f ?_; refine cnd_f ?_; refine mv_i ?_; refine inc_i (by omega) ?_; refine mv_i ?_));
              (rotate_left);
              (with_reducible (refine gd_ff ?_; refine pick_t ?_; refine pick_f ?_; refine cnd_t ?_; refine mv_i ?_; refine ret1 ?_));
              (rotate_left);
              (with_reducible (refine gd_nt (by assumption) ?_; refine gd_nt (by assumption) ?_; refine gd_nt (by assumption) ?_; refine gd_nt (by assumption) ?_; refine gd_nt (by assumption) ?_; refine pick_n (by assumption) ?_; refine mv_i ?_; refine mv_i ?_; refine fao ?_));
              (refine ldo (by assumption) (q := by infer_instance) (by with_unfolding_all rfl) ?_);
              (with_reducible (refine mv_i ?_; refine gd_st (fun hb => ?_) (fun hb => ?_); refine fao ?_; refine gd_ht (by assumption) ?_));
              (refine ldo (by assumption) (q := by infer_instance) (by with_unfolding_all rfl) ?_);
              (with_reducible (refine gd_ht (by assumption) ?_; refine not_s (fun hb => ?_) (fun hb => ?_); refine pick_h (by assumption) ?_));
              (refine bne_t rfl ?_);
              (with_reducible (refine mv_i ?_; refine gd_ff ?_; refine mv_i ?_; refine gd_ff ?_; refine not_f ?_; refine gd_ff ?_; refine mv_i ?_; refine gd_tt ?_));
              (refine ldo_w (by assumption) (by infer_instance) (by with_unfolding_all rfl) ?_);
              (with_reducible (refine gd_tt ?_));
              (refine ldo_w (by assumption) (by infer_instance) (by with_unfolding_all rfl) ?_);
              (with_reducible (refine gd_tt ?_; refine tne_i (fun hc => ?_) (fun hc => ?_); refine gd_ff ?_; refine pick_t ?_; refine pick_f ?_; refine cnd_f ?_; refine mv_i ?_; refine inc_i (by omega) ?_; refine mv_i ?_));
              (rotate_left);
              (with_reducible (refine gd_ff ?_; refine pick_t ?_; refine pick_f ?_; refine cnd_t ?_; refine mv_i ?_; refine ret1 ?_));
              (rotate_left);
              (with_reducible (refine pick_h (by assumption) ?_));
              (refine bne_n (by decide) ?_);
              (with_reducible (refine mv_i ?_; refine gd_tf ?_; refine gd_tf ?_; refine gd_tf ?_; refine gd_u ?_; refine gd_u ?_; refine gd_u ?_; refine gd_tf ?_; refine pick_t ?_; refine cnd_t ?_; refine mv_i ?_; refine ret1 ?_));
              (rotate_left);
              (with_reducible (refine gd_nt (by assumption) ?_; refine gd_nt (by assumption) ?_; refine pick_n (by assumption) ?_));
              (refine bne_t rfl ?_);
              (with_reducible (refine mv_i ?_; refine gd_ff ?_; refine mv_i ?_; refine gd_ff ?_; refine not_f ?_; refine gd_ff ?_; refine mv_i ?_; refine gd_tt ?_));
              (refine ldo_w (by assumption) (by infer_instance) (by with_unfolding_all rfl) ?_);
              (with_reducible (refine gd_tt ?_));
              (refine ldo_w (by assumption) (by infer_instance) (by with_unfolding_all rfl) ?_);
              (with_reducible (refine gd_tt ?_; refine tne_i (fun hc => ?_) (fun hc => ?_); refine gd_ff ?_; refine pick_t ?_; refine pick_f ?_; refine cnd_f ?_; refine mv_i ?_; refine inc_i (by omega) ?_; refine mv_i ?_));
              (rotate_left);
              (with_reducible (refine gd_ff ?_; refine pick_t ?_; refine pick_f ?_; refine cnd_t ?_; refine mv_i ?_; refine ret1 ?_));
              (rotate_left);
              (with_reducible (refine cnd_f ?_));
              (rotate_left))
          all_goals first
            | (exfalso; omega)
            | (exfalso; exact hle (by assumption) (by assumption))
            | (exfalso; rw [hgt] at hc; exact hc rfl)
            | (exfalso; rw [hgt] at hb; first | exact Bool.noConfusion (hb.symm.trans (by assumption)) | exact Bool.noConfusion (Eq.trans (Eq.symm (by assumption)) hb))
            | (exfalso
               have q1 : (gt ((c.timers.map (expire l0)).map (expire l1)) j).expired = true := by assumption
               have q2 : (gt c.timers j).expired = false := by assumption
               rw [hgt] at q1
               exact Bool.noConfusion (q1.symm.trans q2))
            | (exfalso
               have q1 : (gt ((c.timers.map (expire l0)).map (expire l1)) j).expired = false := by assumption
               have q2 : (gt c.timers j).expired = true := by assumption
               rw [hgt] at q1
               exact Bool.noConfusion (q1.symm.trans q2))
            | (refine next1 (by omega) ⟨⟨Stb.st⟩, ?_⟩; exact m.tail.tail)
      · ((with_reducible (refine mv_i ?_; refine fao ?_));
          (refine ldo (by assumption) (q := by infer_instance) (by with_unfolding_all rfl) ?_);
          (with_reducible (refine len_g (by assumption) ?_; refine lss_i (fun hc => ?_) (fun hc => ?_); refine cnd_t ?_; refine fao ?_));
          (refine ldo (by assumption) (q := by infer_instance) (by with_unfolding_all rfl) ?_);
          (with_reducible (refine vb_l (by assumption) ?_; refine mv_i ?_));
          (refine idx_d (by assumption) (by with_unfolding_all rfl) (by omega) fun p hp => ?_);
          (refine ldr_w (by assumption) (by with_unfolding_all rfl) ?_);
          (with_reducible (refine vb_f ?_; refine fao ?_));
          (refine ldo (by assumption) (q := by infer_instance) (by with_unfolding_all rfl) ?_);
          (with_reducible (refine vb_l (by assumption) ?_; refine mv_i ?_));
          (refine idx_d (by assumption) (by with_unfolding_all rfl) (by omega) fun p hp => ?_);
          (refine ldr_w (by assumption) (by with_unfolding_all rfl) ?_);
          (with_reducible (refine vb_f ?_; refine alloc_z (by assumption) fun i h z p m => ?_; refine alloc_z (by assumption) fun i h z p m => ?_));
          (refine st_w (by assumption) (by infer_instance) (by with_unfolding_all rfl) (by with_unfolding_all rfl) (by first | rfl | exact flat_ones (Flat.flat _)) (by infer_instance) fun h p m => ?_);
          (refine pd_p (by assumption) (by with_unfolding_all rfl) ?_);
          (refine pd_c (by assumption) (by infer_instance) (by with_unfolding_all rfl) ?_);
          (with_reducible (refine ⟨trivial, ?_⟩));
          (refine st_w (by assumption) (by infer_instance) (by with_unfolding_all rfl) (by with_unfolding_all rfl) (by first | rfl | exact flat_ones (Flat.flat _)) (by infer_instance) fun h p m => ?_);
          (with_reducible (refine ⟨trivial, ?_⟩; refine fao ?_));
          (refine ldo (by assumption) (q := by infer_instance) (by with_unfolding_all rfl) ?_);
          (refine vb_n (by with_unfolding_all rfl) ?_);
          (with_reducible (refine mv_i ?_; refine gd_st (fun hb => ?_) (fun hb => ?_); refine fao ?_; refine gd_ht (by assumption) ?_));
          (refine ldo (by assumption) (q := by infer_instance) (by with_unfolding_all rfl) ?_);
          (refine vb_n (by with_unfolding_all rfl) ?_);
          (with_reducible (refine gd_ht (by assumption) ?_; refine mv_i ?_; refine gd_ht (by assumption) ?_));
          (refine idx_d (by assumption) (by with_unfolding_all rfl) (by omega) fun p hp => ?_);
          (with_reducible (refine gd_ht (by assumption) ?_));
          (refine ld_g (by assumption) (by with_unfolding_all rfl) ?_);
          (refine vb_n (by with_unfolding_all rfl) ?_);
          (with_reducible (refine gd_ht (by assumption) ?_; refine leq_i (fun hc => ?_) (fun hc => ?_); refine pick_h (by assumption) ?_; refine mv_i ?_; refine mv_i ?_; refine fao ?_));
          (refine ldo (by assumption) (q := by infer_instance) (by with_unfolding_all rfl) ?_);
          (with_reducible (refine mv_i ?_; refine gd_st (fun hb => ?_) (fun hb => ?_); refine fao ?_; refine gd_ht (by assumption) ?_));
          (refine ldo (by assumption) (q := by infer_instance) (by with_unfolding_all rfl) ?_);
          (with_reducible (refine gd_ht (by assumption) ?_; refine not_s (fun hb => ?_) (fun hb => ?_); refine pick_h (by assumption) ?_));
          (refine bne_n (by decide) ?_);
          (with_reducible (refine mv_i ?_; refine gd_tf ?_; refine gd_tf ?_; refine gd_tf ?_; refine gd_u ?_; refine gd_u ?_; refine gd_u ?_; refine gd_tf ?_; refine pick_t ?_; refine cnd_t ?_; refine mv_i ?_; refine ret1 ?_));
          (rotate_left);
          (with_reducible (refine pick_h (by assumption) ?_));
          (refine bne_t rfl ?_);
          (with_reducible (refine mv_i ?_; refine gd_ff ?_; refine mv_i ?_; refine gd_ff ?_; refine not_t ?_; refine gd_ff ?_; refine mv_i ?_; refine gd_ft ?_; refine gd_ft ?_; refine gd_ft ?_; refine gd_ff ?_; refine pick_f ?_; refine pick_f ?_; refine cnd_f ?_; refine mv_i ?_; refine inc_i (by omega) ?_; refine mv_i ?_));
          (rotate_left);
          (with_reducible (refine gd_nt (by assumption) ?_; refine gd_nt (by assumption) ?_; refine pick_n (by assumption) ?_));
          (refine bne_n (by decide) ?_);
          (with_reducible (refine mv_i ?_; refine gd_tf ?_; refine gd_tf ?_; refine gd_tf ?_; refine gd_u ?_; refine gd_u ?_; refine gd_u ?_; refine gd_tf ?_; refine pick_t ?_; refine cnd_t ?_; refine mv_i ?_; refine ret1 ?_));
          (rotate_left);
          (with_reducible (refine pick_h (by assumption) ?_; refine mv_i ?_; refine mv_i ?_; refine fao ?_));
          (refine ldo (by assumption) (q := by infer_instance) (by with_unfolding_all rfl) ?_);
          (with_reducible (refine mv_i ?_; refine gd_st (fun hb => ?_) (fun hb => ?_); refine fao ?_; refine gd_ht (by assumption) ?_));
          (refine ldo (by assumption) (q := by infer_instance) (by with_unfolding_all rfl) ?_);
          (with_reducible (refine gd_ht (by assumption) ?_; refine not_s (fun hb => ?_) (fun hb => ?_); refine pick_h (by assumption) ?_));
          (refine bne_t rfl ?_);
          (with_reducible (refine mv_i ?_; refine gd_ff ?_; refine mv_i ?_; refine gd_ff ?_; refine not_f ?_; refine gd_ff ?_; refine mv_i ?_; refine gd_tt ?_));
          (refine ldo_w (by assumption) (by infer_instance) (by with_unfolding_all rfl) ?_);
          (with_reducible (refine gd_tt ?_));
          (refine ldo_w (by assumption) (by infer_instance) (by with_unfolding_all rfl) ?_);
          (with_reducible (refine gd_tt ?_; refine tne_i (fun hc => ?_) (fun hc => ?_); refine gd_ff ?_; refine pick_t ?_; refine pick_f ?_; refine cnd_f ?_; refine mv_i ?_; refine inc_i (by omega) ?_; refine mv_i ?_));
          (rotate_left);
          (with_reducible (refine gd_ff ?_; refine pick_t ?_; refine pick_f ?_; refine cnd_t ?_; refine mv_i ?_; refine ret1 ?_));
          (rotate_left);
          (with_reducible (refine pick_h (by assumption) ?_));
          (refine bne_n (by decide) ?_);
          (with_reducible (refine mv_i ?_; refine gd_tf ?_; refine gd_tf ?_; refine gd_tf ?_; refine gd_u ?_; refine gd_u ?_; refine gd_u ?_; refine gd_tf ?_; refine pick_t ?_; refine cnd_t ?_; refine mv_i ?_; refine ret1 ?_));
          (rotate_left);
          (with_reducible (refine gd_nt (by assumption) ?_; refine gd_nt (by assumption) ?_; refine pick_n (by assumption) ?_));
          (refine bne_t rfl ?_);
          (with_reducible (refine mv_i ?_; refine gd_ff ?_; refine mv_i ?_; refine gd_ff ?_; refine not_f ?_; refine gd_ff ?_; refine mv_i ?_; refine gd_tt ?_));
          (refine ldo_w (by assumption) (by infer_instance) (by with_unfolding_all rfl) ?_);
          (with_reducible (refine gd_tt ?_));
          (refine ldo_w (by assumption) (by infer_instance) (by with_unfolding_all rfl) ?_);
          (with_reducible (refine gd_tt ?_; refine tne_i (fun hc => ?_) (fun hc => ?_); refine gd_ff ?_; refine pick_t ?_; refine pick_f ?_; refine cnd_f ?_; refine mv_i ?_; refine inc_i (by omega) ?_; refine mv_i ?_));
          (rotate_left);
          (with_reducible (refine gd_ff ?_; refine pick_t ?_; refine pick_f ?_; refine cnd_t ?_; refine mv_i ?_; refine ret1 ?_));
          (rotate_left);
          (with_reducible (refine gd_nt (by assumption) ?_; refine gd_nt (by assumption) ?_; refine gd_nt (by assumption) ?_; refine gd_nt (by assumption) ?_; refine gd_nt (by assumption) ?_; refine pick_n (by assumption) ?_; refine mv_i ?_; refine mv_i ?_; refine fao ?_));
          (refine ldo (by assumption) (q := by infer_instance) (by with_unfolding_all rfl) ?_);
          (with_reducible (refine mv_i ?_; refine gd_st (fun hb => ?_) (fun hb => ?_); refine fao ?_; refine gd_ht (by assumption) ?_));
          (refine ldo (by assumption) (q := by infer_instance) (by with_unfolding_all rfl) ?_);
          (with_reducible (refine gd_ht (by assumption) ?_; refine not_s (fun hb => ?_) (fun hb => ?_); refine pick_h (by assumption) ?_));
          (refine bne_t rfl ?_);
          (with_reducible (refine mv_i ?_; refine gd_ff ?_; refine mv_i ?_; refine gd_ff ?_; refine not_f ?_; refine gd_ff ?_; refine mv_i ?_; refine gd_tt ?_));
          (refine ldo_w (by assumption) (by infer_instance) (by with_unfolding_all rfl) ?_);
          (with_reducible (refine gd_tt ?_));
          (refine ldo_w (by assumption) (by infer_instance) (by with_unfolding_all rfl) ?_);
          (with_reducible (refine gd_tt ?_; refine tne_i (fun hc => ?_) (fun hc => ?_); refine gd_ff ?_; refine pick_t ?_; refine pick_f ?_; refine cnd_f ?_; refine mv_i ?_; refine inc_i (by omega) ?_; refine mv_i ?_));
          (rotate_left);
          (with_reducible (refine gd_ff ?_; refine pick_t ?_; refine pick_f ?_; refine cnd_t ?_; refine mv_i ?_; refine ret1 ?_));
          (rotate_left);
          (with_reducible (refine pick_h (by assumption) ?_));
          (refine bne_n (by decide) ?_);
          (with_reducible (refine mv_i ?_; refine gd_tf ?_; refine gd_tf ?_; refine gd_tf ?_; refine gd_u ?_; refine gd_u ?_; refine gd_u ?_; refine gd_tf ?_; refine pick_t ?_; refine cnd_t ?_; refine mv_i ?_; refine ret1 ?_));
          (rotate_left);
          (with_reducible (refine gd_nt (by assumption) ?_; refine gd_nt (by assumption) ?_; refine pick_n (by assumption) ?_));
          (refine bne_t rfl ?_);
          (with_reducible (refine mv_i ?_; refine gd_ff ?_; refine mv_i ?_; refine gd_ff ?_; refine not_f ?_; refine gd_ff ?_; refine mv_i ?_; refine gd_tt ?_));
          (refine ldo_w (by assumption) (by infer_instance) (by with_unfolding_all rfl) ?_);
          (with_reducible (refine gd_tt ?_));
          (refine ldo_w (by assumption) (by infer_instance) (by with_unfolding_all rfl) ?_);
          (with_reducible (refine gd_tt ?_; refine tne_i (fun hc => ?_) (fun hc => ?_); refine gd_ff ?_; refine pick_t ?_; refine pick_f ?_; refine cnd_f ?_; refine mv_i ?_; refine inc_i (by omega) ?_; refine mv_i ?_));
          (rotate_left);
          (with_reducible (refine gd_ff ?_; refine pick_t ?_; refine pick_f ?_; refine cnd_t ?_; refine mv_i ?_; refine ret1 ?_));
          (rotate_left);
          (with_reducible (refine cnd_f ?_));
          (rotate_left))
        all_goals first
          | (exfalso; omega)
          | exact hk' _ _ ⟨rfl, ⟨Stb.st⟩, m.tail⟩
  · rintro _ h6 ⟨rfl, p6, m⟩
    by_cases hk1 : 2 ≤ c.timers.length
    rotate_left
    · (((with_reducible refine fun (_ : Tmps) => ?_); (try dsimp only [nth]));
        (with_reducible (refine fao ?_));
        (refine ldo (by assumption) (q := by infer_instance) (by with_unfolding_all rfl) ?_);
        (with_reducible (refine len_g (by assumption) ?_; refine lss_i (fun hc => ?_) (fun hc => ?_); refine mv_i ?_; refine gd_tf ?_; refine gd_tf ?_; refine gd_tf ?_; refine gd_tf ?_; refine gd_tf ?_; refine pick_t ?_; refine cnd_t ?_; refine mv_i ?_; refine ret1 ?_));
        (rotate_left);
        (with_reducible (refine mv_i ?_; refine gd_ff ?_; refine mv_i ?_; refine gd_ff ?_));
        (refine idx_d (by assumption) (by with_unfolding_all rfl) (by omega) fun p hp => ?_);
        (with_reducible (refine gd_ff ?_));
        (refine ld_g (by assumption) (by with_unfolding_all rfl) ?_);
        (with_reducible (refine gd_ff ?_));
        (refine call_r (c26 _ _ _) ?_);
        (with_reducible (refine gd_ff ?_; refine not_s (fun hb => ?_) (fun hb => ?_); refine pick_f ?_; refine cnd_f ?_; refine fao ?_));
        (refine ldo (by assumption) (q := by infer_instance) (by with_unfolding_all rfl) ?_);
        (with_reducible (refine vb_l (by assumption) ?_));
        (refine idx_d (by assumption) (by with_unfolding_all rfl) (by omega) fun p hp => ?_);
        (refine ldr_w (by assumption) (by with_unfolding_all rfl) ?_);
        (with_reducible (refine vb_f ?_; refine fao ?_));
        (refine ldo (by assumption) (q := by infer_instance) (by with_unfolding_all rfl) ?_);
        (with_reducible (refine vb_l (by assumption) ?_; refine fao ?_));
        (refine ldo (by assumption) (q := by infer_instance) (by with_unfolding_all rfl) ?_);
        (with_reducible (refine vb_l (by assumption) ?_; refine len_g (by assumption) ?_; refine sub_j (by omega) (by omega) ?_));
        (refine idx_dp (by assumption) (by with_unfolding_all rfl) (by omega) (by omega) fun p hp => ?_);
        (refine ldr_w (by assumption) (by with_unfolding_all rfl) ?_);
        (with_reducible (refine vb_f ?_; refine alloc_z (by assumption) fun i h z p m => ?_; refine alloc_z (by assumption) fun i h z p m => ?_));
        (refine st_w (by assumption) (by infer_instance) (by with_unfolding_all rfl) (by with_unfolding_all rfl) (by first | rfl | exact flat_ones (Flat.flat _)) (by infer_instance) fun h p m => ?_);
        (refine pd_p (by assumption) (by with_unfolding_all rfl) ?_);
        (refine pd_c (by assumption) (by infer_instance) (by with_unfolding_all rfl) ?_);
        (refine pd_c (by assumption) (by infer_instance) (by with_unfolding_all rfl) ?_);
        (with_reducible (refine ⟨trivial, ?_⟩));
        (refine st_w (by assumption) (by infer_instance) (by with_unfolding_all rfl) (by with_unfolding_all rfl) (by first | rfl | exact flat_ones (Flat.flat _)) (by infer_instance) fun h p m => ?_);
        (with_reducible (refine ⟨trivial, ?_⟩));
        (refine ldo_w (by assumption) (by infer_instance) (by with_unfolding_all rfl) ?_);
        (refine vb_as rfl (by assumption) ?_);
        (rotate_left);
        (with_reducible (refine pick_f ?_; refine cnd_t ?_; refine mv_i ?_; refine ret1 ?_));
        (rotate_left))
      all_goals first
        | rfl
        | (exfalso; omega)
    by_cases hk2 : 0 ≤ l2 ∧ l2 ≤ 1099511627776
    rotate_left
    · have hr : decide (0 ≤ gt [l0, l1, l2] (Int.toNat 2) ∧ gt [l0, l1, l2] (Int.toNat 2) ≤ 1099511627776) = false := decide_eq_false hk2
      (((with_reducible refine fun (_ : Tmps) => ?_); (try dsimp only [nth]));
          (with_reducible (refine fao ?_));
          (refine ldo (by assumption) (q := by infer_instance) (by with_unfolding_all rfl) ?_);
          (with_reducible (refine len_g (by assumption) ?_; refine lss_i (fun hc => ?_) (fun hc => ?_); refine mv_i ?_; refine gd_tf ?_; refine gd_tf ?_; refine gd_tf ?_; refine gd_tf ?_; refine gd_tf ?_; refine pick_t ?_; refine cnd_t ?_; refine mv_i ?_; refine ret1 ?_));
          (rotate_left);
          (with_reducible (refine mv_i ?_; refine gd_ff ?_; refine mv_i ?_; refine gd_ff ?_));
          (refine idx_dz (by assumption) (by with_unfolding_all rfl) (by omega) (by omega) fun p hp => ?_);
          (with_reducible (refine gd_ff ?_));
          (refine ld_g (by assumption) (by with_unfolding_all rfl) ?_);
          (with_reducible (refine gd_ff ?_));
          (refine call_r (c26 _ _ _) ?_);
          (with_reducible (refine gd_ff ?_; refine not_n (by assumption) ?_; refine pick_f ?_; refine cnd_t ?_; refine mv_i ?_; refine ret1 ?_));
          (rotate_left))
      all_goals rfl
    have hr : decide (0 ≤ gt [l0, l1, l2] (Int.toNat 2) ∧ gt [l0, l1, l2] (Int.toNat 2) ≤ 1099511627776) = true := decide_eq_true hk2
    have hcl := f.1
    clear s3 t3 t4 s5 t5 hn3 hn5
    (((with_reducible refine fun (_ : Tmps) => ?_); (try dsimp only [nth]));
        (with_reducible (refine fao ?_));
        (refine ldo (by assumption) (q := by infer_instance) (by with_unfolding_all rfl) ?_);
        (with_reducible (refine len_g (by assumption) ?_; refine lss_i (fun hc => ?_) (fun hc => ?_); refine mv_i ?_; refine gd_tf ?_; refine gd_tf ?_; refine gd_tf ?_; refine gd_tf ?_; refine gd_tf ?_; refine pick_t ?_; refine cnd_t ?_; refine mv_i ?_; refine ret1 ?_));
        (rotate_left);
        (with_reducible (refine mv_i ?_; refine gd_ff ?_; refine mv_i ?_; refine gd_ff ?_));
        (refine idx_dz (by assumption) (by with_unfolding_all rfl) (by omega) (by omega) fun p hp => ?_);
        (with_reducible (refine gd_ff ?_));
        (refine ld_g (by assumption) (by with_unfolding_all rfl) ?_);
        (with_reducible (refine gd_ff ?_));
        (refine call_r (c26 _ _ _) ?_);
        (with_reducible (refine gd_ff ?_; refine not_h (by assumption) ?_; refine pick_f ?_; refine cnd_f ?_; refine fao ?_));
        (refine ldo (by assumption) (q := by infer_instance) (by with_unfolding_all rfl) ?_);
        (with_reducible (refine vb_l (by assumption) ?_));
        (refine idx_dz (by assumption) (by with_unfolding_all rfl) (by omega) (by omega) fun p hp => ?_);
        (refine ldr_w (by assumption) (by with_unfolding_all rfl) ?_);
        (with_reducible (refine vb_f ?_; refine fao ?_));
        (refine ldo (by assumption) (q := by infer_instance) (by with_unfolding_all rfl) ?_);
        (with_reducible (refine vb_l (by assumption) ?_; refine fao ?_));
        (refine ldo (by assumption) (q := by infer_instance) (by with_unfolding_all rfl) ?_);
        (with_reducible (refine vb_l (by assumption) ?_; refine len_g (by assumption) ?_; refine sub_j (by omega) (by omega) ?_));
        (refine idx_dp (by assumption) (by with_unfolding_all rfl) (by omega) (by omega) fun p hp => ?_);
        (refine ldr_w (by assumption) (by with_unfolding_all rfl) ?_);
        (with_reducible (refine vb_f ?_; refine alloc_z (by assumption) fun i h z p m => ?_; refine alloc_z (by assumption) fun i h z p m => ?_));
        (refine st_w (by assumption) (by infer_instance) (by with_unfolding_all rfl) (by with_unfolding_all rfl) (by first | rfl | exact flat_ones (Flat.flat _)) (by infer_instance) fun h p m => ?_);
        (refine pd_p (by assumption) (by with_unfolding_all rfl) ?_);
        (refine pd_c (by assumption) (by infer_instance) (by with_unfolding_all rfl) ?_);
        (refine pd_c (by assumption) (by infer_instance) (by with_unfolding_all rfl) ?_);
        (with_reducible (refine ⟨trivial, ?_⟩));
        (refine st_w (by assumption) (by infer_instance) (by with_unfolding_all rfl) (by with_unfolding_all rfl) (by first | rfl | exact flat_ones (Flat.flat _)) (by infer_instance) fun h p m => ?_);
        (with_reducible (refine ⟨trivial, ?_⟩));
        (refine ldo_w (by assumption) (by infer_instance) (by with_unfolding_all rfl) ?_);
        (refine vb_as rfl (by assumption) ?_);
        (rotate_left))
    · rfl
    refine calld_d (c13 ⟨_, rfl, s.up⟩ hb) m fun v1 h1 p1 p2 m ⟨y1, e1, t1⟩ => ?_
    subst e1
    obtain ⟨b1, q1, rfl, _⟩ := t1.shape
    refine new_p p1 ?_
    ((refine ldo_w (by assumption) (by infer_instance) (by with_unfolding_all rfl) ?_);
        (with_reducible (refine vb_f ?_; refine mv_i ?_));
        (refine idx_dz (by assumption) (by with_unfolding_all rfl) (by omega) (by omega) fun p hp => ?_);
        (refine ld_g (by assumption) (by with_unfolding_all rfl) ?_);
        (refine vb_n (by with_unfolding_all rfl) ?_))
    refine calld_d (c29' ⟨_, rfl, t1.up⟩ f (gt c.timers 0) (few_at f _) l2) m fun v3 h3 p3 p4 m ⟨b3, q3, n3, e3, hn3, s3⟩ => ?_
    subst e3
    refine new_p p3 ?_
    have f3 := few_startC f (gt c.timers 0).owner (gt c.timers 0).name l2
    have f3l := f3.1
    ((with_reducible (refine mv_i ?_; refine ex2_0 ?_; refine ex2_1 ?_; refine alloc_z (by assumption) fun i h z p m => ?_));
        (refine st_w (by assumption) (by infer_instance) (by with_unfolding_all rfl) (by with_unfolding_all rfl) (by first | rfl | exact flat_ones (Flat.flat _)) (by infer_instance) fun h p m => ?_);
        (with_reducible (refine ⟨trivial, ?_⟩; refine mv_i ?_));
        (refine ldo_w (by assumption) (by infer_instance) (by with_unfolding_all rfl) ?_);
        (refine vb_as rfl (by assumption) ?_))
    refine calld_d (c13 (c := startC c (gt c.timers 0).owner (gt c.timers 0).name l2) ⟨_, rfl, s3.up⟩ (by omega)) m fun v4 h4 p5 p6 m ⟨y4, e4, t4⟩ => ?_
    subst e4
    obtain ⟨b4, q4, rfl, _⟩ := t4.shape
    refine new_p p5 ?_
    ((with_reducible (refine fao ?_));
        (refine ldo (by assumption) (q := by infer_instance) (by with_unfolding_all rfl) ?_);
        (refine vb_n (by with_unfolding_all rfl) ?_);
        (with_reducible (refine fao ?_));
        (refine ldo (by assumption) (q := by infer_instance) (by with_unfolding_all rfl) ?_);
        (refine vb_n (by with_unfolding_all rfl) ?_))
    refine calld_d (c30 ⟨_, rfl, t4.up⟩ f3 (gt c.timers (c.timers.length - 1)).owner (gt c.timers (c.timers.length - 1)).name (few_at f _)) m fun v5 h5 p7 p8 m ⟨b5, q5, n5, e5, hn5, s5⟩ => ?_
    subst e5
    refine new_p p7 ?_
    ((with_reducible (refine mv_i ?_; refine ex2_0 ?_; refine ex2_1 ?_; refine alloc_z (by assumption) fun i h z p m => ?_));
        (refine st_w (by assumption) (by infer_instance) (by with_unfolding_all rfl) (by with_unfolding_all rfl) (by first | rfl | exact flat_ones (Flat.flat _)) (by infer_instance) fun h p m => ?_);
        (with_reducible (refine ⟨trivial, ?_⟩; refine mv_i ?_));
        (refine ldo_w (by assumption) (by infer_instance) (by with_unfolding_all rfl) ?_);
        (refine vb_as rfl (by assumption) ?_))
    refine calld_d (c13 ⟨_, rfl, s.up⟩ hb) m fun v1 h1 p1 p2 m ⟨y1, e1, t1⟩ => ?_
    subst e1
    obtain ⟨b6, q6, rfl, _⟩ := t1.shape
    refine new_p p1 ?_
    ((with_reducible (refine fao ?_));
        (refine ldo (by assumption) (q := by infer_instance) (by with_unfolding_all rfl) ?_);
        (refine vb_n (by with_unfolding_all rfl) ?_);
        (with_reducible (refine fao ?_));
        (refine ldo (by assumption) (q := by infer_instance) (by with_unfolding_all rfl) ?_);
        (refine vb_n (by with_unfolding_all rfl) ?_))
    refine calld_d (c30 ⟨_, rfl, t1.up⟩ f (gt c.timers (c.timers.length - 1)).owner (gt c.timers (c.timers.length - 1)).name (few_at f _)) m fun v5 h5 p7 p8 m ⟨b7, q7, n7, e7, hn7, s7⟩ => ?_
    subst e7
    refine new_p p7 ?_
    have f7 := few_stopC f (gt c.timers (c.timers.length - 1)).owner (gt c.timers (c.timers.length - 1)).name
    have f7l := f7.1
    ((with_reducible (refine mv_i ?_; refine ex2_0 ?_; refine ex2_1 ?_; refine alloc_z (by assumption) fun i h z p m => ?_));
        (refine st_w (by assumption) (by infer_instance) (by with_unfolding_all rfl) (by with_unfolding_all rfl) (by first | rfl | exact flat_ones (Flat.flat _)) (by infer_instance) fun h p m => ?_);
        (with_reducible (refine ⟨trivial, ?_⟩; refine mv_i ?_));
        (refine ldo_w (by assumption) (by infer_instance) (by with_unfolding_all rfl) ?_);
        (refine vb_as rfl (by assumption) ?_))
    refine calld_d (c13 (c := stopC c (gt c.timers (c.timers.length - 1)).owner (gt c.timers (c.timers.length - 1)).name) ⟨_, rfl, s7.up⟩ (by omega)) m fun v4 h4 p5 p6 m ⟨y8, e8, t8⟩ => ?_
    subst e8
    obtain ⟨b8, q8, rfl, _⟩ := t8.shape
    refine new_p p5 ?_
    ((refine ldo_w (by assumption) (by infer_instance) (by with_unfolding_all rfl) ?_);
        (with_reducible (refine vb_f ?_; refine mv_i ?_));
        (refine idx_dz (by assumption) (by with_unfolding_all rfl) (by omega) (by omega) fun p hp => ?_);
        (refine ld_g (by assumption) (by with_unfolding_all rfl) ?_);
        (refine vb_n (by with_unfolding_all rfl) ?_))
    refine calld_d (c29' ⟨_, rfl, t8.up⟩ f7 (gt c.timers 0) (few_at f _) l2) m fun v3 h3 p3 p4 m ⟨b9, q9, n9, e9, hn9, s9⟩ => ?_
    subst e9
    refine new_p p3 ?_
    obtain ⟨w1, w2, w3⟩ := both_ways hE (k := c.timers.length - 1) (by omega) (by omega) hk2
    have C3 := stopC_ok w1
    rw [← C3] at w2
    by_cases hg : startE c (gt c.timers 0).owner (gt c.timers 0).name l2 = 0
    · obtain ⟨w4, w5⟩ := w3 hg
      have hg2 := w2.trans hg
      have C1 := startC_ok hg
      have C2 := startC_ok hg2
      have hab : (stopC (startC c (gt c.timers 0).owner (gt c.timers 0).name l2) (gt c.timers (c.timers.length - 1)).owner (gt c.timers (c.timers.length - 1)).name).now = (startC (stopC c (gt c.timers (c.timers.length - 1)).owner (gt c.timers (c.timers.length - 1)).name) (gt c.timers 0).owner (gt c.timers 0).name l2).now ∧
          (stopC (startC c (gt c.timers 0).owner (gt c.timers 0).name l2) (gt c.timers (c.timers.length - 1)).owner (gt c.timers (c.timers.length - 1)).name).timers = (startC (stopC c (gt c.timers (c.timers.length - 1)).owner (gt c.timers (c.timers.length - 1)).name) (gt c.timers 0).owner (gt c.timers 0).name l2).timers := by
        rw [C1, stopC_ok w4, C2, C3]
        exact ⟨rfl, w5⟩
      rw [← C1] at w4
      ((with_reducible (refine mv_i ?_; refine ex2_0 ?_; refine ex2_1 ?_; refine alloc_z (by assumption) fun i h z p m => ?_));
          (refine st_w (by assumption) (by infer_instance) (by with_unfolding_all rfl) (by with_unfolding_all rfl) (by first | rfl | exact flat_ones (Flat.flat _)) (by infer_instance) fun h p m => ?_);
          (with_reducible (refine ⟨trivial, ?_⟩; refine mv_i ?_; refine mv_i ?_; refine neq_h (by first | assumption | decide) ?_; refine cnd_f ?_; refine mv_i ?_; refine eql_h (by first | assumption | decide) ?_; refine mv_i ?_; refine gd_tt ?_; refine mv_i ?_; refine gd_tt ?_; refine eql_h (by first | assumption | decide) ?_; refine pick_t ?_; refine mv_i ?_; refine gd_tt ?_; refine mv_i ?_; refine gd_tt ?_; refine eql_h (by first | assumption | decide) ?_; refine pick_t ?_; refine mv_i ?_; refine gd_tt ?_));
          (refine ldo_w (by assumption) (by infer_instance) (by with_unfolding_all rfl) ?_);
          (with_reducible (refine gd_tt ?_));
          (refine ldo_w (by assumption) (by infer_instance) (by with_unfolding_all rfl) ?_);
          (with_reducible (refine gd_tt ?_)))
      refine call_r (c35 ⟨_, rfl, s5.up⟩ ⟨_, rfl, s9.up⟩) ?_
      rw [decide_eq_true hab]
      ((with_reducible (refine pick_t ?_; refine mv_i ?_; refine ret1 ?_)))
      rfl
    · ((with_reducible (refine mv_i ?_; refine ex2_0 ?_; refine ex2_1 ?_; refine alloc_z (by assumption) fun i h z p m => ?_));
        (refine st_w (by assumption) (by infer_instance) (by with_unfolding_all rfl) (by with_unfolding_all rfl) (by first | rfl | exact flat_ones (Flat.flat _)) (by infer_instance) fun h p m => ?_);
        (with_reducible (refine ⟨trivial, ?_⟩; refine mv_i ?_; refine mv_i ?_; refine neq_n (by first | assumption | decide) ?_; refine cnd_t ?_; refine mv_i ?_; refine mv_i ?_; refine eql_h (by first | assumption | decide) ?_; refine mv_i ?_; refine gd_tt ?_; refine mv_i ?_; refine gd_tt ?_; refine eql_h (by first | assumption | decide) ?_; refine pick_t ?_; refine mv_i ?_; refine ret1 ?_)))
      rfl
end Go.Proofs.Ytalnnkpdpjmmkaa
