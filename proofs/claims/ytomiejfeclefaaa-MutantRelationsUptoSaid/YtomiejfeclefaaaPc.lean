import Derived.Test.YtomiejfeclefaaaPb
import Derived.Test.YtomiejfeclefaaaPa
import Derived.Test.YtomiejfeclefaaaAnG
import Derived.Test.YtomiejfeclefaaaBulk
import Derived.Test.YtomiejfeclefaaaChecked
import Derived.WalkKit
import Derived.ProofKit
import Derived.Test.YtomiejfeclefaaaAnI
import Derived.Test.YtomiejfeclefaaaAnJ
set_option linter.unusedSimpArgs false
set_option linter.unusedVariables false
set_option linter.unnecessarySimpa false
set_option maxRecDepth 100000
set_option maxHeartbeats 4000000
namespace Go.Proofs.Ytomiejfeclefaaa
open Go.AM
variable {h g : Heap}
/-! ### mutants as machines -/
def setOut (l : List Stp) (k : Nat) (v : Int) : List Stp := l.set k { gt l k with out := v }
def setTo (l : List Stp) (k : Nat) (v : Int) : List Stp := l.set k { gt l k with to := v }
def ap1 (x cur : Mach) (m : Mut) : Mach :=
  if m.kind = 0 then { cur with steps := setOut cur.steps m.step.toNat m.to }
  else if m.kind = 1 then { cur with steps := setTo cur.steps m.step.toNat m.to }
  else if m.kind = 2 then { cur with start := m.to }
  else { cur with steps := setTo (setTo cur.steps m.step.toNat (gt x.steps m.to.toNat).to) m.to.toNat (gt x.steps m.step.toNat).to }
def muts (x : Mach) (l : List Mut) (k : Nat) : Mach := (l.take k).foldl (ap1 x) x
def mutd (x : Mach) (l : List Mut) : Mach := l.foldl (ap1 x) x
theorem ap1_same (x cur : Mach) (m : Mut) : (ap1 x cur m).states = cur.states ∧ (ap1 x cur m).inputs = cur.inputs ∧ (ap1 x cur m).outputs = cur.outputs ∧ (ap1 x cur m).steps.length = cur.steps.length := by
  unfold ap1 setOut setTo
  repeat' split
  all_goals simp
theorem muts_next {x : Mach} {l : List Mut} {k : Nat} (hk : k < l.length) : muts x l (k + 1) = ap1 x (muts x l k) (gt l k) := by
  unfold muts
  rw [take_gd Df.d hk, List.foldl_append]
  rfl
theorem muts_same (x : Mach) (l : List Mut) : ∀ k, (muts x l k).states = x.states ∧ (muts x l k).inputs = x.inputs ∧ (muts x l k).outputs = x.outputs ∧ (muts x l k).steps.length = x.steps.length := by
  intro k
  induction k with
  | zero => simp [muts]
  | succ k ih =>
    by_cases hk : k < l.length
    · rw [muts_next hk]
      have := ap1_same x (muts x l k) (gt l k)
      omega
    · have : muts x l (k + 1) = muts x l k := by
        unfold muts
        rw [List.take_of_length_le (by omega), List.take_of_length_le (by omega)]
      rw [this]; exact ih
/-- The program's mutant. -/
theorem c50 {v y : Value} {x : Mach} {l : List Mut} (s : MacV g v x) (t : L g y l) (hb : x.steps.length ≤ 1048576) (hv : ∀ k, k < l.length → (0 ≤ (gt l k).kind ∧ (gt l k).kind ≤ 3) ∧ rightS x (gt l k)) :
    DetP Try.prog 50 [v, y] g fun v' h' => g <+: h' ∧ ∃ b q n, v' = .agg #[.int .i64 (mutd x l).states, .int .i64 (mutd x l).inputs, .int .i64 (mutd x l).outputs, .int .i64 (mutd x l).start, .slice b n q] ∧ n = (mutd x l).steps.length ∧ L h' (.slice b n q) (mutd x l).steps := by
  refine DetP.freeze ?_
  obtain ⟨tv, rfl, s⟩ := s
  have lt := t.lt
  obtain ⟨b0, q0, rfl, _⟩ := s.shape
  have m := Mem.start g
  refine w50 ?_
  unfold n50
  refine box_a m fun i0 h0 z0 p0 m => ?_
  refine alloc_z m fun i1 h1 z1 p1 m => ?_
  ((refine ldo_w (by assumption) (by infer_instance) (by with_unfolding_all rfl) ?_);
      (with_reducible (refine alloc_z (by assumption) fun i h z p m => ?_));
      (refine st_w (by assumption) (by infer_instance) (by with_unfolding_all rfl) (by with_unfolding_all rfl) (by first | rfl | exact flat_ones (Flat.flat _)) (by infer_instance) fun h p m => ?_);
      (with_reducible (refine fao ?_));
      (refine ldo (by assumption) (q := by infer_instance) (by with_unfolding_all rfl) ?_))
  refine call_d (c82 s.up hb) m fun y1 h3 p3 p4 _ ⟨o, hs, hn⟩ => ?_
  have m := hn _ _ m
  obtain ⟨a, d, rfl⟩ := hs.isS
  ((with_reducible (refine fao ?_));
      (refine sto (by assumption) (q := by infer_instance) (by with_unfolding_all exact Nat.le_of_ble_eq_true rfl) rfl rfl (u := by infer_instance) fun h p m => ?_);
      (with_reducible (refine mv_i ?_; refine len_g (by assumption) ?_; refine mv_i ?_)))
  refine loop1 l.length (fun k h5 => Prec h h5 ∧ Mem g h5 [⟨o, flat (muts x l k).steps, 4⟩, ⟨some i, [.int .i64 x.states, .int .i64 x.inputs, .int .i64 x.outputs, .int .i64 (muts x l k).start, .slice a x.steps.length d], z⟩, ⟨some i1, [.int .i64 0, .int .i64 0, .int .i64 0, .int .i64 0, .slice none 0 0], z1⟩, ⟨some i0, [.int .i64 x.states, .int .i64 x.inputs, .int .i64 x.outputs, .int .i64 x.start, .slice b0 x.steps.length q0], z0⟩]) ⟨⟨Stab.refl _⟩, m⟩ ?_
  rintro k h5 _ hk ⟨p5, m⟩
  obtain ⟨u1, u2, u3, u4⟩ := muts_same x l k
  have hs0 := hs
  have hs : IsSl (.slice a x.steps.length d) o (muts x l k).steps.length := by rw [u4]; exact hs
  by_cases hkl : k < l.length
  · have hnx := muts_next (x := x) hkl
    obtain ⟨r1, r2⟩ := hv k hkl
    ((with_reducible (refine lss_i (fun hc => ?_) (fun hc => ?_); refine cnd_t ?_));
        (rotate_left);
        (with_reducible (refine cnd_f ?_));
        (refine ldo_w (by assumption) (by infer_instance) (by with_unfolding_all rfl) ?_);
        (refine st_w (by assumption) (by infer_instance) (by with_unfolding_all rfl) (by with_unfolding_all rfl) (by first | rfl | exact flat_ones (Flat.flat _)) (by infer_instance) fun h p m => ?_);
        (refine rt_w1 (by assumption) (by infer_instance) (by with_unfolding_all rfl) ?_);
        (with_reducible (refine ret1 ?_));
        (rotate_left))
    · refine seq_J (fun xs h6 => xs = [] ∧ Prec h h6 ∧ Mem g h6 [⟨o, flat (muts x l (k + 1)).steps, 4⟩, ⟨some i, [.int .i64 x.states, .int .i64 x.inputs, .int .i64 x.outputs, .int .i64 (muts x l (k + 1)).start, .slice a x.steps.length d], z⟩, ⟨some i1, [.int .i64 0, .int .i64 0, .int .i64 0, .int .i64 0, .slice none 0 0], z1⟩, ⟨some i0, [.int .i64 x.states, .int .i64 x.inputs, .int .i64 x.outputs, .int .i64 x.start, .slice b0 x.steps.length q0], z0⟩]) ?_ ?_
      · rintro _ h6 ⟨rfl, p6, m⟩
        (((with_reducible refine fun (_ : Tmps) => ?_); (try dsimp only [nth]));
            (with_reducible (refine inc_i (by omega) ?_; refine mv_i ?_)))
        exact next1 hkl ⟨p6, m⟩
      · intro k' hk'
        have hk2 : (gt l k).kind = 0 ∨ (gt l k).kind = 1 ∨ (gt l k).kind = 2 ∨ (gt l k).kind = 3 := by omega
        rcases hk2 with e | e | e | e
        · rw [rightS, if_pos e] at r2
          obtain ⟨r2, r3⟩ := r2
          have hap : ap1 x (muts x l k) (gt l k) = { muts x l k with steps := setOut (muts x l k).steps (gt l k).step.toNat (gt l k).to } := by rw [ap1, if_pos e]
          rw [hap] at hnx
          ((refine idx_d (by assumption) (by with_unfolding_all rfl) (by omega) fun p hp => ?_);
              (refine ldr_w (by assumption) (by with_unfolding_all rfl) ?_);
              (with_reducible (refine alloc_z (by assumption) fun i h z p m => ?_));
              (refine st_w (by assumption) (by infer_instance) (by with_unfolding_all rfl) (by with_unfolding_all rfl) (by first | rfl | exact flat_ones (Flat.flat _)) (by infer_instance) fun h p m => ?_);
              (with_reducible (refine fao ?_));
              (refine ldo (by assumption) (q := by infer_instance) (by with_unfolding_all rfl) ?_);
              (with_reducible (refine eql_h (by first | assumption | decide) ?_; refine mv_i ?_; refine cnd_t ?_; refine fao ?_));
              (refine ldo (by assumption) (q := by infer_instance) (by with_unfolding_all rfl) ?_);
              (with_reducible (refine fao ?_));
              (refine ldo (by assumption) (q := by infer_instance) (by with_unfolding_all rfl) ?_);
              (with_reducible (refine fao ?_));
              (refine ldo (by assumption) (q := by infer_instance) (by with_unfolding_all rfl) ?_);
              (refine idx_oz (by assumption) (by omega) (by omega) ?_);
              (with_reducible (refine fao_e ?_)))
          refine stf_d { gt (muts x l k).steps (gt l k).step.toNat with out := (gt l k).to } m (by infer_instance) rfl (by omega) (by decide) rfl rfl rfl (by infer_instance) fun h p m => ?_
          exact hk' _ _ ⟨rfl, ⟨Stb.st⟩, by rw [hnx]; exact m.tail⟩
        · have n0 : ¬ (gt l k).kind = 0 := by omega
          rw [rightS, if_neg n0, if_pos e] at r2
          obtain ⟨r2, r3⟩ := r2
          have hap : ap1 x (muts x l k) (gt l k) = { muts x l k with steps := setTo (muts x l k).steps (gt l k).step.toNat (gt l k).to } := by rw [ap1, if_neg n0, if_pos e]
          rw [hap] at hnx
          ((refine idx_d (by assumption) (by with_unfolding_all rfl) (by omega) fun p hp => ?_);
              (refine ldr_w (by assumption) (by with_unfolding_all rfl) ?_);
              (with_reducible (refine alloc_z (by assumption) fun i h z p m => ?_));
              (refine st_w (by assumption) (by infer_instance) (by with_unfolding_all rfl) (by with_unfolding_all rfl) (by first | rfl | exact flat_ones (Flat.flat _)) (by infer_instance) fun h p m => ?_);
              (with_reducible (refine fao ?_));
              (refine ldo (by assumption) (q := by infer_instance) (by with_unfolding_all rfl) ?_);
              (with_reducible (refine eql_n (by first | assumption | decide) ?_; refine mv_i ?_; refine cnd_f ?_; refine eql_h (by first | assumption | decide) ?_; refine mv_i ?_; refine cnd_t ?_; refine fao ?_));
              (refine ldo (by assumption) (q := by infer_instance) (by with_unfolding_all rfl) ?_);
              (with_reducible (refine fao ?_));
              (refine ldo (by assumption) (q := by infer_instance) (by with_unfolding_all rfl) ?_);
              (with_reducible (refine fao ?_));
              (refine ldo (by assumption) (q := by infer_instance) (by with_unfolding_all rfl) ?_);
              (refine idx_oz (by assumption) (by omega) (by omega) ?_);
              (with_reducible (refine fao_e ?_)))
          refine stf_d { gt (muts x l k).steps (gt l k).step.toNat with to := (gt l k).to } m (by infer_instance) rfl (by omega) (by decide) rfl rfl rfl (by infer_instance) fun h p m => ?_
          exact hk' _ _ ⟨rfl, ⟨Stb.st⟩, by rw [hnx]; exact m.tail⟩
        · have n0 : ¬ (gt l k).kind = 0 := by omega
          have n1 : ¬ (gt l k).kind = 1 := by omega
          have hap : ap1 x (muts x l k) (gt l k) = { muts x l k with start := (gt l k).to } := by rw [ap1, if_neg n0, if_neg n1, if_pos e]
          rw [hap] at hnx
          ((refine idx_d (by assumption) (by with_unfolding_all rfl) (by omega) fun p hp => ?_);
              (refine ldr_w (by assumption) (by with_unfolding_all rfl) ?_);
              (with_reducible (refine alloc_z (by assumption) fun i h z p m => ?_));
              (refine st_w (by assumption) (by infer_instance) (by with_unfolding_all rfl) (by with_unfolding_all rfl) (by first | rfl | exact flat_ones (Flat.flat _)) (by infer_instance) fun h p m => ?_);
              (with_reducible (refine fao ?_));
              (refine ldo (by assumption) (q := by infer_instance) (by with_unfolding_all rfl) ?_);
              (with_reducible (refine eql_n (by first | assumption | decide) ?_; refine mv_i ?_; refine cnd_f ?_; refine eql_n (by first | assumption | decide) ?_; refine mv_i ?_; refine cnd_f ?_; refine eql_h (by first | assumption | decide) ?_; refine mv_i ?_; refine cnd_t ?_; refine fao ?_));
              (refine ldo (by assumption) (q := by infer_instance) (by with_unfolding_all rfl) ?_);
              (with_reducible (refine fao ?_));
              (refine sto (by assumption) (q := by infer_instance) (by with_unfolding_all exact Nat.le_of_ble_eq_true rfl) rfl rfl (u := by infer_instance) fun h p m => ?_))
          exact hk' _ _ ⟨rfl, ⟨Stb.st⟩, by rw [hnx]; exact m.tail⟩
        · have n0 : ¬ (gt l k).kind = 0 := by omega
          have n1 : ¬ (gt l k).kind = 1 := by omega
          have n2 : ¬ (gt l k).kind = 2 := by omega
          rw [rightS, if_neg n0, if_neg n1, if_neg n2] at r2
          obtain ⟨r2, r3⟩ := r2
          have hap : ap1 x (muts x l k) (gt l k) = { muts x l k with steps := setTo (setTo (muts x l k).steps (gt l k).step.toNat (gt x.steps (gt l k).to.toNat).to) (gt l k).to.toNat (gt x.steps (gt l k).step.toNat).to } := by rw [ap1, if_neg n0, if_neg n1, if_neg n2]
          rw [hap] at hnx
          ((refine idx_d (by assumption) (by with_unfolding_all rfl) (by omega) fun p hp => ?_);
              (refine ldr_w (by assumption) (by with_unfolding_all rfl) ?_);
              (with_reducible (refine alloc_z (by assumption) fun i h z p m => ?_));
              (refine st_w (by assumption) (by infer_instance) (by with_unfolding_all rfl) (by with_unfolding_all rfl) (by first | rfl | exact flat_ones (Flat.flat _)) (by infer_instance) fun h p m => ?_);
              (with_reducible (refine fao ?_));
              (refine ldo (by assumption) (q := by infer_instance) (by with_unfolding_all rfl) ?_);
              (with_reducible (refine eql_n (by first | assumption | decide) ?_; refine mv_i ?_; refine cnd_f ?_; refine eql_n (by first | assumption | decide) ?_; refine mv_i ?_; refine cnd_f ?_; refine eql_n (by first | assumption | decide) ?_; refine mv_i ?_; refine cnd_f ?_; refine eql_h (by first | assumption | decide) ?_; refine mv_i ?_; refine cnd_t ?_; refine fao ?_));
              (refine ldo (by assumption) (q := by infer_instance) (by with_unfolding_all rfl) ?_);
              (refine IsSl.vb (by assumption) (by assumption) (by infer_instance) ?_);
              (with_reducible (refine fao ?_));
              (refine ldo (by assumption) (q := by infer_instance) (by with_unfolding_all rfl) ?_);
              (refine vb_n (by with_unfolding_all rfl) ?_);
              (with_reducible (refine fao ?_));
              (refine ldo (by assumption) (q := by infer_instance) (by with_unfolding_all rfl) ?_);
              (refine IsSl.vb (by assumption) (by assumption) (by infer_instance) ?_);
              (with_reducible (refine fao ?_));
              (refine ldo (by assumption) (q := by infer_instance) (by with_unfolding_all rfl) ?_);
              (refine vb_n (by with_unfolding_all rfl) ?_);
              (with_reducible (refine fao ?_));
              (refine ldo (by assumption) (q := by infer_instance) (by with_unfolding_all rfl) ?_);
              (with_reducible (refine vb_l (by assumption) ?_; refine fao ?_));
              (refine ldo (by assumption) (q := by infer_instance) (by with_unfolding_all rfl) ?_);
              (refine vb_n (by with_unfolding_all rfl) ?_);
              (refine idx_dz (by assumption) (by with_unfolding_all rfl) (by omega) (by omega) fun p hp => ?_);
              (with_reducible (refine fa_g (by assumption) fun p hp => ?_));
              (refine ld_g (by assumption) (by with_unfolding_all rfl) ?_);
              (refine vb_n (by with_unfolding_all rfl) ?_);
              (with_reducible (refine fao ?_));
              (refine ldo (by assumption) (q := by infer_instance) (by with_unfolding_all rfl) ?_);
              (with_reducible (refine vb_l (by assumption) ?_; refine fao ?_));
              (refine ldo (by assumption) (q := by infer_instance) (by with_unfolding_all rfl) ?_);
              (refine vb_n (by with_unfolding_all rfl) ?_);
              (refine idx_dz (by assumption) (by with_unfolding_all rfl) (by omega) (by omega) fun p hp => ?_);
              (with_reducible (refine fa_g (by assumption) fun p hp => ?_));
              (refine ld_g (by assumption) (by with_unfolding_all rfl) ?_);
              (refine vb_n (by with_unfolding_all rfl) ?_);
              (refine idx_oz (by assumption) (by omega) (by omega) ?_);
              (with_reducible (refine fao_e ?_)))
          refine stf_d { gt (muts x l k).steps (gt l k).step.toNat with to := (gt x.steps (gt l k).to.toNat).to } m (by infer_instance) rfl (by omega) (by decide) rfl rfl rfl (by infer_instance) fun h p m => ?_
          ((refine pd_c (by assumption) (by infer_instance) (by with_unfolding_all rfl) ?_);
              (refine pd_c (by assumption) (by infer_instance) (by with_unfolding_all rfl) ?_);
              (with_reducible (refine ⟨trivial, ?_⟩));
              (refine idx_oz (by assumption) (by omega) (by omega) ?_);
              (with_reducible (refine fao_e ?_)))
          have hl2 : (setTo (muts x l k).steps (gt l k).step.toNat (gt x.steps (gt l k).to.toNat).to).length = x.steps.length := by unfold setTo; rw [List.length_set, u4]
          change Mem g h (_ :: ⟨o, flat (setTo (muts x l k).steps (gt l k).step.toNat (gt x.steps (gt l k).to.toNat).to), 4⟩ :: _) at m
          refine stf_d { gt (setTo (muts x l k).steps (gt l k).step.toNat (gt x.steps (gt l k).to.toNat).to) (gt l k).to.toNat with to := (gt x.steps (gt l k).step.toNat).to } m (by infer_instance) rfl (by omega) (by decide) rfl rfl rfl (by infer_instance) fun h p m => ?_
          refine ⟨trivial, ?_⟩
          exact hk' _ _ ⟨rfl, ⟨Stb.st⟩, by rw [hnx]; exact m.tail⟩
    · exfalso; omega
  · ((with_reducible (refine lss_i (fun hc => ?_) (fun hc => ?_); refine cnd_t ?_; refine seq_i ?_));
      (refine idx_d (by assumption) (by with_unfolding_all rfl) (by omega) fun p hp => ?_);
      (refine ldr_w (by assumption) (by with_unfolding_all rfl) ?_);
      (with_reducible (refine alloc_z (by assumption) fun i h z p m => ?_));
      (refine st_w (by assumption) (by infer_instance) (by with_unfolding_all rfl) (by with_unfolding_all rfl) (by first | rfl | exact flat_ones (Flat.flat _)) (by infer_instance) fun h p m => ?_);
      (with_reducible (refine fao ?_));
      (refine ldo (by assumption) (q := by infer_instance) (by with_unfolding_all rfl) ?_);
      (with_reducible (refine eql_i (fun hc => ?_) (fun hc => ?_); refine mv_i ?_; refine cnd_t ?_; refine fao ?_));
      (refine ldo (by assumption) (q := by infer_instance) (by with_unfolding_all rfl) ?_);
      (with_reducible (refine fao ?_));
      (refine ldo (by assumption) (q := by infer_instance) (by with_unfolding_all rfl) ?_);
      (with_reducible (refine fao ?_));
      (refine ldo (by assumption) (q := by infer_instance) (by with_unfolding_all rfl) ?_);
      (refine idx_oz (by assumption) (by omega) (by omega) ?_);
      (with_reducible (refine fao_e ?_));
      (rotate_left);
      (with_reducible (refine mv_i ?_; refine cnd_f ?_; refine eql_i (fun hc => ?_) (fun hc => ?_); refine mv_i ?_; refine cnd_t ?_; refine fao ?_));
      (refine ldo (by assumption) (q := by infer_instance) (by with_unfolding_all rfl) ?_);
      (with_reducible (refine fao ?_));
      (refine ldo (by assumption) (q := by infer_instance) (by with_unfolding_all rfl) ?_);
      (with_reducible (refine fao ?_));
      (refine ldo (by assumption) (q := by infer_instance) (by with_unfolding_all rfl) ?_);
      (refine idx_oz (by assumption) (by omega) (by omega) ?_);
      (with_reducible (refine fao_e ?_));
      (rotate_left);
      (with_reducible (refine mv_i ?_; refine cnd_f ?_; refine eql_i (fun hc => ?_) (fun hc => ?_); refine mv_i ?_; refine cnd_t ?_; refine fao ?_));
      (refine ldo (by assumption) (q := by infer_instance) (by with_unfolding_all rfl) ?_);
      (with_reducible (refine fao ?_));
      (refine sto (by assumption) (q := by infer_instance) (by with_unfolding_all exact Nat.le_of_ble_eq_true rfl) rfl rfl (u := by infer_instance) fun h p m => ?_);
      ((with_reducible refine fun (_ : Tmps) => ?_); (try dsimp only [nth]));
      (with_reducible (refine inc_i (by omega) ?_; refine mv_i ?_));
      (rotate_left);
      (with_reducible (refine mv_i ?_; refine cnd_f ?_; refine eql_i (fun hc => ?_) (fun hc => ?_); refine mv_i ?_; refine cnd_t ?_; refine fao ?_));
      (refine ldo (by assumption) (q := by infer_instance) (by with_unfolding_all rfl) ?_);
      (refine IsSl.vb (by assumption) (by assumption) (by infer_instance) ?_);
      (with_reducible (refine fao ?_));
      (refine ldo (by assumption) (q := by infer_instance) (by with_unfolding_all rfl) ?_);
      (refine vb_n (by with_unfolding_all rfl) ?_);
      (with_reducible (refine fao ?_));
      (refine ldo (by assumption) (q := by infer_instance) (by with_unfolding_all rfl) ?_);
      (refine IsSl.vb (by assumption) (by assumption) (by infer_instance) ?_);
      (with_reducible (refine fao ?_));
      (refine ldo (by assumption) (q := by infer_instance) (by with_unfolding_all rfl) ?_);
      (refine vb_n (by with_unfolding_all rfl) ?_);
      (with_reducible (refine fao ?_));
      (refine ldo (by assumption) (q := by infer_instance) (by with_unfolding_all rfl) ?_);
      (with_reducible (refine vb_l (by assumption) ?_; refine fao ?_));
      (refine ldo (by assumption) (q := by infer_instance) (by with_unfolding_all rfl) ?_);
      (refine vb_n (by with_unfolding_all rfl) ?_);
      (refine idx_dz (by assumption) (by with_unfolding_all rfl) (by omega) (by omega) fun p hp => ?_);
      (with_reducible (refine fa_g (by assumption) fun p hp => ?_));
      (refine ld_g (by assumption) (by with_unfolding_all rfl) ?_);
      (refine vb_n (by with_unfolding_all rfl) ?_);
      (with_reducible (refine fao ?_));
      (refine ldo (by assumption) (q := by infer_instance) (by with_unfolding_all rfl) ?_);
      (with_reducible (refine vb_l (by assumption) ?_; refine fao ?_));
      (refine ldo (by assumption) (q := by infer_instance) (by with_unfolding_all rfl) ?_);
      (refine vb_n (by with_unfolding_all rfl) ?_);
      (refine idx_dz (by assumption) (by with_unfolding_all rfl) (by omega) (by omega) fun p hp => ?_);
      (with_reducible (refine fa_g (by assumption) fun p hp => ?_));
      (refine ld_g (by assumption) (by with_unfolding_all rfl) ?_);
      (refine vb_n (by with_unfolding_all rfl) ?_);
      (refine idx_oz (by assumption) (by omega) (by omega) ?_);
      (with_reducible (refine fao_e ?_));
      (rotate_left);
      (with_reducible (refine mv_i ?_; refine cnd_f ?_));
      ((with_reducible refine fun (_ : Tmps) => ?_); (try dsimp only [nth]));
      (with_reducible (refine inc_i (by omega) ?_; refine mv_i ?_));
      (rotate_left);
      (with_reducible (refine cnd_f ?_));
      (refine ldo_w (by assumption) (by infer_instance) (by with_unfolding_all rfl) ?_);
      (refine st_w (by assumption) (by infer_instance) (by with_unfolding_all rfl) (by with_unfolding_all rfl) (by first | rfl | exact flat_ones (Flat.flat _)) (by infer_instance) fun h p m => ?_);
      (refine rt_w1 (by assumption) (by infer_instance) (by with_unfolding_all rfl) ?_);
      (with_reducible (refine ret1 ?_));
      (rotate_left))
    all_goals (try (exfalso; omega))
    have hkk : k = l.length := by omega
    have e1 : muts x l k = mutd x l := by rw [hkk]; simp [muts, mutd]
    refine ⟨m.pre, a, d, x.steps.length, by rw [← e1, u1, u2, u3], by rw [← e1, u4], ?_⟩
    rw [← e1]
    exact IsSl.ro hs m (k := 0) rfl (by omega)
end Go.Proofs.Ytomiejfeclefaaa

set_option linter.unusedSimpArgs false
set_option linter.unusedVariables false
set_option linter.unnecessarySimpa false
set_option maxRecDepth 100000
set_option maxHeartbeats 4000000
namespace Go.Proofs.Ytomiejfeclefaaa
open Go.AM
variable {h g : Heap}
theorem mutE_ok {x : Mach} {l : List Mut} (h0 : (mutE x l).2 = 0) : l.length ≤ 4 ∧ ∀ k, k < l.length → (0 ≤ (gt l k).kind ∧ (gt l k).kind ≤ 3) ∧ rightS x (gt l k) := by
  unfold mutE at h0
  split at h0
  · cases h0
  · exact ⟨by omega, fun k hk => ⟨(muE_ok (firstErr_zero h0 k hk)).1, (muE_ok (firstErr_zero h0 k hk)).2.1⟩⟩
theorem bothE_ok {x : Mach} {l : List Mut} (h0 : bothE x l = 0) : errM x = 0 ∧ (mutE x l).2 = 0 := by
  unfold bothE at h0
  split at h0
  · contradiction
  · rename_i h1; exact ⟨by simpa using h1, h0⟩
theorem small {x : Mach} (h0 : errM x = 0) : x.steps.length ≤ 320 := by
  obtain ⟨h1, h2, h3, _⟩ := errM_ok h0
  have := prod_bd h2
  omega
/-- The reference's mutant. -/
theorem c24 {v y : Value} {x : Mach} {l : List Mut} (s : MacV g v x) (t : L g y l) (hb : x.steps.length ≤ 1048576) (hv : ∀ k, k < l.length → (0 ≤ (gt l k).kind ∧ (gt l k).kind ≤ 3) ∧ rightS x (gt l k)) :
    DetP Try.prog 24 [v, y] g fun v' h' => g <+: h' ∧ ∃ b q n, v' = .agg #[.int .i64 (mutd x l).states, .int .i64 (mutd x l).inputs, .int .i64 (mutd x l).outputs, .int .i64 (mutd x l).start, .slice b n q] ∧ n = (mutd x l).steps.length ∧ L h' (.slice b n q) (mutd x l).steps := by
  refine DetP.freeze ?_
  obtain ⟨tv, rfl, s⟩ := s
  have lt := t.lt
  obtain ⟨b0, q0, rfl, _⟩ := s.shape
  have m := Mem.start g
  refine w24 ?_
  unfold n24
  refine box_a m fun i0 h0 z0 p0 m => ?_
  refine alloc_z m fun i1 h1 z1 p1 m => ?_
  ((refine ldo_w (by assumption) (by infer_instance) (by with_unfolding_all rfl) ?_))
  refine call_d (c14o ⟨_, rfl, s.up⟩ hb) m fun y1 h3 p3 p4 _ ⟨y1, o, ev, hs, hn⟩ => ?_
  subst ev
  have m := hn _ _ m
  obtain ⟨a, d, rfl⟩ := hs.isS
  ((with_reducible (refine alloc_z (by assumption) fun i h z p m => ?_));
      (refine st_w (by assumption) (by infer_instance) (by with_unfolding_all rfl) (by with_unfolding_all rfl) (by first | rfl | exact flat_ones (Flat.flat _)) (by infer_instance) fun h p m => ?_);
      (with_reducible (refine mv_i ?_)))
  refine loop1 l.length (fun k h5 => Prec h h5 ∧ Mem g h5 [⟨some i, [.int .i64 x.states, .int .i64 x.inputs, .int .i64 x.outputs, .int .i64 (muts x l k).start, .slice a x.steps.length d], z⟩, ⟨o, flat (muts x l k).steps, 4⟩, ⟨some i1, [.int .i64 0, .int .i64 0, .int .i64 0, .int .i64 0, .slice none 0 0], z1⟩, ⟨some i0, [.int .i64 x.states, .int .i64 x.inputs, .int .i64 x.outputs, .int .i64 x.start, .slice b0 x.steps.length q0], z0⟩]) ⟨⟨Stab.refl _⟩, m⟩ ?_
  rintro k h5 _ hk ⟨p5, m⟩
  obtain ⟨u1, u2, u3, u4⟩ := muts_same x l k
  have hs0 := hs
  have hs : IsSl (.slice a x.steps.length d) o (muts x l k).steps.length := by rw [u4]; exact hs
  by_cases hkl : k < l.length
  · have hnx := muts_next (x := x) hkl
    obtain ⟨r1, r2⟩ := hv k hkl
    have hk2 : (gt l k).kind = 0 ∨ (gt l k).kind = 1 ∨ (gt l k).kind = 2 ∨ (gt l k).kind = 3 := by omega
    rcases hk2 with e | e | e | e
    · rw [rightS, if_pos e] at r2
      obtain ⟨r2, r3⟩ := r2
      have n1 : ¬ (gt l k).kind = 1 := by omega
      have n2 : ¬ (gt l k).kind = 2 := by omega
      have n3 : ¬ (gt l k).kind = 3 := by omega
      have hap : ap1 x (muts x l k) (gt l k) = { muts x l k with steps := setOut (muts x l k).steps (gt l k).step.toNat (gt l k).to } := by rw [ap1, if_pos e]
      rw [hap] at hnx
      ((with_reducible (refine mv_i ?_; refine mv_i ?_; refine len_g (by assumption) ?_; refine lss_i (fun hc => ?_) (fun hc => ?_); refine cnd_t ?_; refine seq_i ?_; refine seq_i ?_; refine mv_i ?_; refine mv_i ?_));
          (refine idx_d (by assumption) (by with_unfolding_all rfl) (by omega) fun p hp => ?_);
          (with_reducible (refine fa_g (by assumption) fun p hp => ?_));
          (refine ld_g (by assumption) (by with_unfolding_all rfl) ?_);
          (with_reducible (refine eql_h (by first | assumption | decide) ?_; refine cnd_t ?_; refine fao ?_));
          (refine ldo (by assumption) (q := by infer_instance) (by with_unfolding_all rfl) ?_);
          (refine IsSl.vb (by assumption) (by assumption) (by infer_instance) ?_);
          (with_reducible (refine mv_i ?_; refine mv_i ?_));
          (refine idx_d (by assumption) (by with_unfolding_all rfl) (by omega) fun p hp => ?_);
          (with_reducible (refine fa_g (by assumption) fun p hp => ?_));
          (refine ld_g (by assumption) (by with_unfolding_all rfl) ?_);
          (refine vb_n (by with_unfolding_all rfl) ?_);
          (with_reducible (refine mv_i ?_; refine mv_i ?_));
          (refine idx_d (by assumption) (by with_unfolding_all rfl) (by omega) fun p hp => ?_);
          (with_reducible (refine fa_g (by assumption) fun p hp => ?_));
          (refine ld_g (by assumption) (by with_unfolding_all rfl) ?_);
          (refine vb_n (by with_unfolding_all rfl) ?_);
          (refine idx_oz (by assumption) (by omega) (by omega) ?_);
          (with_reducible (refine fao_e ?_));
          (rotate_left);
          (with_reducible (refine cnd_f ?_));
          (refine ldo_w (by assumption) (by infer_instance) (by with_unfolding_all rfl) ?_);
          (refine st_w (by assumption) (by infer_instance) (by with_unfolding_all rfl) (by with_unfolding_all rfl) (by first | rfl | exact flat_ones (Flat.flat _)) (by infer_instance) fun h p m => ?_);
          (refine rt_w1 (by assumption) (by infer_instance) (by with_unfolding_all rfl) ?_);
          (with_reducible (refine ret1 ?_));
          (rotate_left))
      rotate_left
      · exfalso; omega
      refine stf_d { gt (muts x l k).steps (gt l k).step.toNat with out := (gt l k).to } m (by infer_instance) rfl (by omega) (by decide) rfl rfl rfl (by infer_instance) fun h p m => ?_
      ((with_reducible (refine ⟨trivial, ?_⟩));
          ((with_reducible refine fun (_ : Tmps) => ?_); (try dsimp only [nth]));
          (with_reducible (refine seq_i ?_; refine mv_i ?_; refine mv_i ?_));
          (refine idx_d (by assumption) (by with_unfolding_all rfl) (by omega) fun p hp => ?_);
          (with_reducible (refine fa_g (by assumption) fun p hp => ?_));
          (refine ld_g (by assumption) (by with_unfolding_all rfl) ?_);
          (with_reducible (refine eql_n (by first | assumption | decide) ?_; refine cnd_f ?_));
          ((with_reducible refine fun (_ : Tmps) => ?_); (try dsimp only [nth]));
          (with_reducible (refine seq_i ?_; refine mv_i ?_; refine mv_i ?_));
          (refine idx_d (by assumption) (by with_unfolding_all rfl) (by omega) fun p hp => ?_);
          (with_reducible (refine fa_g (by assumption) fun p hp => ?_));
          (refine ld_g (by assumption) (by with_unfolding_all rfl) ?_);
          (with_reducible (refine eql_n (by first | assumption | decide) ?_; refine cnd_f ?_));
          ((with_reducible refine fun (_ : Tmps) => ?_); (try dsimp only [nth]));
          (with_reducible (refine mv_i ?_; refine mv_i ?_));
          (refine idx_d (by assumption) (by with_unfolding_all rfl) (by omega) fun p hp => ?_);
          (with_reducible (refine fa_g (by assumption) fun p hp => ?_));
          (refine ld_g (by assumption) (by with_unfolding_all rfl) ?_);
          (with_reducible (refine eql_n (by first | assumption | decide) ?_; refine cnd_f ?_));
          ((with_reducible refine fun (_ : Tmps) => ?_); (try dsimp only [nth]));
          (with_reducible (refine mv_i ?_; refine inc_i (by omega) ?_; refine mv_i ?_)))
      exact next1 hkl ⟨⟨Stb.st⟩, by rw [hnx]; exact m⟩
    · have n0 : ¬ (gt l k).kind = 0 := by omega
      have n2 : ¬ (gt l k).kind = 2 := by omega
      have n3 : ¬ (gt l k).kind = 3 := by omega
      rw [rightS, if_neg n0, if_pos e] at r2
      obtain ⟨r2, r3⟩ := r2
      have hap : ap1 x (muts x l k) (gt l k) = { muts x l k with steps := setTo (muts x l k).steps (gt l k).step.toNat (gt l k).to } := by rw [ap1, if_neg n0, if_pos e]
      rw [hap] at hnx
      ((with_reducible (refine mv_i ?_; refine mv_i ?_; refine len_g (by assumption) ?_; refine lss_i (fun hc => ?_) (fun hc => ?_); refine cnd_t ?_; refine seq_i ?_; refine seq_i ?_; refine mv_i ?_; refine mv_i ?_));
          (refine idx_d (by assumption) (by with_unfolding_all rfl) (by omega) fun p hp => ?_);
          (with_reducible (refine fa_g (by assumption) fun p hp => ?_));
          (refine ld_g (by assumption) (by with_unfolding_all rfl) ?_);
          (with_reducible (refine eql_n (by first | assumption | decide) ?_; refine cnd_f ?_));
          ((with_reducible refine fun (_ : Tmps) => ?_); (try dsimp only [nth]));
          (with_reducible (refine seq_i ?_; refine mv_i ?_; refine mv_i ?_));
          (refine idx_d (by assumption) (by with_unfolding_all rfl) (by omega) fun p hp => ?_);
          (with_reducible (refine fa_g (by assumption) fun p hp => ?_));
          (refine ld_g (by assumption) (by with_unfolding_all rfl) ?_);
          (with_reducible (refine eql_h (by first | assumption | decide) ?_; refine cnd_t ?_; refine fao ?_));
          (refine ldo (by assumption) (q := by infer_instance) (by with_unfolding_all rfl) ?_);
          (refine IsSl.vb (by assumption) (by assumption) (by infer_instance) ?_);
          (with_reducible (refine mv_i ?_; refine mv_i ?_));
          (refine idx_d (by assumption) (by with_unfolding_all rfl) (by omega) fun p hp => ?_);
          (with_reducible (refine fa_g (by assumption) fun p hp => ?_));
          (refine ld_g (by assumption) (by with_unfolding_all rfl) ?_);
          (refine vb_n (by with_unfolding_all rfl) ?_);
          (with_reducible (refine mv_i ?_; refine mv_i ?_));
          (refine idx_d (by assumption) (by with_unfolding_all rfl) (by omega) fun p hp => ?_);
          (with_reducible (refine fa_g (by assumption) fun p hp => ?_));
          (refine ld_g (by assumption) (by with_unfolding_all rfl) ?_);
          (refine vb_n (by with_unfolding_all rfl) ?_);
          (refine idx_oz (by assumption) (by omega) (by omega) ?_);
          (with_reducible (refine fao_e ?_));
          (rotate_left);
          (with_reducible (refine cnd_f ?_));
          (refine ldo_w (by assumption) (by infer_instance) (by with_unfolding_all rfl) ?_);
          (refine st_w (by assumption) (by infer_instance) (by with_unfolding_all rfl) (by with_unfolding_all rfl) (by first | rfl | exact flat_ones (Flat.flat _)) (by infer_instance) fun h p m => ?_);
          (refine rt_w1 (by assumption) (by infer_instance) (by with_unfolding_all rfl) ?_);
          (with_reducible (refine ret1 ?_));
          (rotate_left))
      rotate_left
      · exfalso; omega
      refine stf_d { gt (muts x l k).steps (gt l k).step.toNat with to := (gt l k).to } m (by infer_instance) rfl (by omega) (by decide) rfl rfl rfl (by infer_instance) fun h p m => ?_
      ((with_reducible (refine ⟨trivial, ?_⟩));
          ((with_reducible refine fun (_ : Tmps) => ?_); (try dsimp only [nth]));
          (with_reducible (refine seq_i ?_; refine mv_i ?_; refine mv_i ?_));
          (refine idx_d (by assumption) (by with_unfolding_all rfl) (by omega) fun p hp => ?_);
          (with_reducible (refine fa_g (by assumption) fun p hp => ?_));
          (refine ld_g (by assumption) (by with_unfolding_all rfl) ?_);
          (with_reducible (refine eql_n (by first | assumption | decide) ?_; refine cnd_f ?_));
          ((with_reducible refine fun (_ : Tmps) => ?_); (try dsimp only [nth]));
          (with_reducible (refine mv_i ?_; refine mv_i ?_));
          (refine idx_d (by assumption) (by with_unfolding_all rfl) (by omega) fun p hp => ?_);
          (with_reducible (refine fa_g (by assumption) fun p hp => ?_));
          (refine ld_g (by assumption) (by with_unfolding_all rfl) ?_);
          (with_reducible (refine eql_n (by first | assumption | decide) ?_; refine cnd_f ?_));
          ((with_reducible refine fun (_ : Tmps) => ?_); (try dsimp only [nth]));
          (with_reducible (refine mv_i ?_; refine inc_i (by omega) ?_; refine mv_i ?_)))
      exact next1 hkl ⟨⟨Stb.st⟩, by rw [hnx]; exact m⟩
    · have n0 : ¬ (gt l k).kind = 0 := by omega
      have n1 : ¬ (gt l k).kind = 1 := by omega
      have n3 : ¬ (gt l k).kind = 3 := by omega
      have hap : ap1 x (muts x l k) (gt l k) = { muts x l k with start := (gt l k).to } := by rw [ap1, if_neg n0, if_neg n1, if_pos e]
      rw [hap] at hnx
      ((with_reducible (refine mv_i ?_; refine mv_i ?_; refine len_g (by assumption) ?_; refine lss_i (fun hc => ?_) (fun hc => ?_); refine cnd_t ?_; refine seq_i ?_; refine seq_i ?_; refine mv_i ?_; refine mv_i ?_));
          (refine idx_d (by assumption) (by with_unfolding_all rfl) (by omega) fun p hp => ?_);
          (with_reducible (refine fa_g (by assumption) fun p hp => ?_));
          (refine ld_g (by assumption) (by with_unfolding_all rfl) ?_);
          (with_reducible (refine eql_n (by first | assumption | decide) ?_; refine cnd_f ?_));
          ((with_reducible refine fun (_ : Tmps) => ?_); (try dsimp only [nth]));
          (with_reducible (refine seq_i ?_; refine mv_i ?_; refine mv_i ?_));
          (refine idx_d (by assumption) (by with_unfolding_all rfl) (by omega) fun p hp => ?_);
          (with_reducible (refine fa_g (by assumption) fun p hp => ?_));
          (refine ld_g (by assumption) (by with_unfolding_all rfl) ?_);
          (with_reducible (refine eql_n (by first | assumption | decide) ?_; refine cnd_f ?_));
          ((with_reducible refine fun (_ : Tmps) => ?_); (try dsimp only [nth]));
          (with_reducible (refine seq_i ?_; refine mv_i ?_; refine mv_i ?_));
          (refine idx_d (by assumption) (by with_unfolding_all rfl) (by omega) fun p hp => ?_);
          (with_reducible (refine fa_g (by assumption) fun p hp => ?_));
          (refine ld_g (by assumption) (by with_unfolding_all rfl) ?_);
          (with_reducible (refine eql_h (by first | assumption | decide) ?_; refine cnd_t ?_; refine mv_i ?_; refine mv_i ?_));
          (refine idx_d (by assumption) (by with_unfolding_all rfl) (by omega) fun p hp => ?_);
          (with_reducible (refine fa_g (by assumption) fun p hp => ?_));
          (refine ld_g (by assumption) (by with_unfolding_all rfl) ?_);
          (with_reducible (refine fao ?_));
          (refine sto (by assumption) (q := by infer_instance) (by with_unfolding_all exact Nat.le_of_ble_eq_true rfl) rfl rfl (u := by infer_instance) fun h p m => ?_);
          ((with_reducible refine fun (_ : Tmps) => ?_); (try dsimp only [nth]));
          (with_reducible (refine mv_i ?_; refine mv_i ?_));
          (refine idx_d (by assumption) (by with_unfolding_all rfl) (by omega) fun p hp => ?_);
          (with_reducible (refine fa_g (by assumption) fun p hp => ?_));
          (refine ld_g (by assumption) (by with_unfolding_all rfl) ?_);
          (with_reducible (refine eql_n (by first | assumption | decide) ?_; refine cnd_f ?_));
          ((with_reducible refine fun (_ : Tmps) => ?_); (try dsimp only [nth]));
          (with_reducible (refine mv_i ?_; refine inc_i (by omega) ?_; refine mv_i ?_));
          (rotate_left);
          (with_reducible (refine cnd_f ?_));
          (refine ldo_w (by assumption) (by infer_instance) (by with_unfolding_all rfl) ?_);
          (refine st_w (by assumption) (by infer_instance) (by with_unfolding_all rfl) (by with_unfolding_all rfl) (by first | rfl | exact flat_ones (Flat.flat _)) (by infer_instance) fun h p m => ?_);
          (refine rt_w1 (by assumption) (by infer_instance) (by with_unfolding_all rfl) ?_);
          (with_reducible (refine ret1 ?_));
          (rotate_left))
      · exact next1 hkl ⟨⟨Stb.st⟩, by rw [hnx]; exact m⟩
      · exfalso; omega
    · have n0 : ¬ (gt l k).kind = 0 := by omega
      have n1 : ¬ (gt l k).kind = 1 := by omega
      have n2 : ¬ (gt l k).kind = 2 := by omega
      rw [rightS, if_neg n0, if_neg n1, if_neg n2] at r2
      obtain ⟨r2, r3⟩ := r2
      have hap : ap1 x (muts x l k) (gt l k) = { muts x l k with steps := setTo (setTo (muts x l k).steps (gt l k).step.toNat (gt x.steps (gt l k).to.toNat).to) (gt l k).to.toNat (gt x.steps (gt l k).step.toNat).to } := by rw [ap1, if_neg n0, if_neg n1, if_neg n2]
      rw [hap] at hnx
      ((with_reducible (refine mv_i ?_; refine mv_i ?_; refine len_g (by assumption) ?_; refine lss_i (fun hc => ?_) (fun hc => ?_); refine cnd_t ?_; refine seq_i ?_; refine seq_i ?_; refine mv_i ?_; refine mv_i ?_));
          (refine idx_d (by assumption) (by with_unfolding_all rfl) (by omega) fun p hp => ?_);
          (with_reducible (refine fa_g (by assumption) fun p hp => ?_));
          (refine ld_g (by assumption) (by with_unfolding_all rfl) ?_);
          (with_reducible (refine eql_n (by first | assumption | decide) ?_; refine cnd_f ?_));
          ((with_reducible refine fun (_ : Tmps) => ?_); (try dsimp only [nth]));
          (with_reducible (refine seq_i ?_; refine mv_i ?_; refine mv_i ?_));
          (refine idx_d (by assumption) (by with_unfolding_all rfl) (by omega) fun p hp => ?_);
          (with_reducible (refine fa_g (by assumption) fun p hp => ?_));
          (refine ld_g (by assumption) (by with_unfolding_all rfl) ?_);
          (with_reducible (refine eql_n (by first | assumption | decide) ?_; refine cnd_f ?_));
          ((with_reducible refine fun (_ : Tmps) => ?_); (try dsimp only [nth]));
          (with_reducible (refine seq_i ?_; refine mv_i ?_; refine mv_i ?_));
          (refine idx_d (by assumption) (by with_unfolding_all rfl) (by omega) fun p hp => ?_);
          (with_reducible (refine fa_g (by assumption) fun p hp => ?_));
          (refine ld_g (by assumption) (by with_unfolding_all rfl) ?_);
          (with_reducible (refine eql_n (by first | assumption | decide) ?_; refine cnd_f ?_));
          ((with_reducible refine fun (_ : Tmps) => ?_); (try dsimp only [nth]));
          (with_reducible (refine mv_i ?_; refine mv_i ?_));
          (refine idx_d (by assumption) (by with_unfolding_all rfl) (by omega) fun p hp => ?_);
          (with_reducible (refine fa_g (by assumption) fun p hp => ?_));
          (refine ld_g (by assumption) (by with_unfolding_all rfl) ?_);
          (with_reducible (refine eql_h (by first | assumption | decide) ?_; refine cnd_t ?_; refine fao ?_));
          (refine ldo (by assumption) (q := by infer_instance) (by with_unfolding_all rfl) ?_);
          (refine IsSl.vb (by assumption) (by assumption) (by infer_instance) ?_);
          (with_reducible (refine mv_i ?_; refine mv_i ?_));
          (refine idx_d (by assumption) (by with_unfolding_all rfl) (by omega) fun p hp => ?_);
          (with_reducible (refine fa_g (by assumption) fun p hp => ?_));
          (refine ld_g (by assumption) (by with_unfolding_all rfl) ?_);
          (refine vb_n (by with_unfolding_all rfl) ?_);
          (with_reducible (refine fao ?_));
          (refine ldo (by assumption) (q := by infer_instance) (by with_unfolding_all rfl) ?_);
          (refine IsSl.vb (by assumption) (by assumption) (by infer_instance) ?_);
          (with_reducible (refine mv_i ?_; refine mv_i ?_));
          (refine idx_d (by assumption) (by with_unfolding_all rfl) (by omega) fun p hp => ?_);
          (with_reducible (refine fa_g (by assumption) fun p hp => ?_));
          (refine ld_g (by assumption) (by with_unfolding_all rfl) ?_);
          (refine vb_n (by with_unfolding_all rfl) ?_);
          (with_reducible (refine fao ?_));
          (refine ldo (by assumption) (q := by infer_instance) (by with_unfolding_all rfl) ?_);
          (with_reducible (refine vb_l (by assumption) ?_; refine mv_i ?_; refine mv_i ?_));
          (refine idx_d (by assumption) (by with_unfolding_all rfl) (by omega) fun p hp => ?_);
          (with_reducible (refine fa_g (by assumption) fun p hp => ?_));
          (refine ld_g (by assumption) (by with_unfolding_all rfl) ?_);
          (refine vb_n (by with_unfolding_all rfl) ?_);
          (refine idx_dz (by assumption) (by with_unfolding_all rfl) (by omega) (by omega) fun p hp => ?_);
          (with_reducible (refine fa_g (by assumption) fun p hp => ?_));
          (refine ld_g (by assumption) (by with_unfolding_all rfl) ?_);
          (refine vb_n (by with_unfolding_all rfl) ?_);
          (with_reducible (refine fao ?_));
          (refine ldo (by assumption) (q := by infer_instance) (by with_unfolding_all rfl) ?_);
          (with_reducible (refine vb_l (by assumption) ?_; refine mv_i ?_; refine mv_i ?_));
          (refine idx_d (by assumption) (by with_unfolding_all rfl) (by omega) fun p hp => ?_);
          (with_reducible (refine fa_g (by assumption) fun p hp => ?_));
          (refine ld_g (by assumption) (by with_unfolding_all rfl) ?_);
          (refine vb_n (by with_unfolding_all rfl) ?_);
          (refine idx_dz (by assumption) (by with_unfolding_all rfl) (by omega) (by omega) fun p hp => ?_);
          (with_reducible (refine fa_g (by assumption) fun p hp => ?_));
          (refine ld_g (by assumption) (by with_unfolding_all rfl) ?_);
          (refine vb_n (by with_unfolding_all rfl) ?_);
          (refine idx_oz (by assumption) (by omega) (by omega) ?_);
          (with_reducible (refine fao_e ?_));
          (rotate_left);
          (with_reducible (refine cnd_f ?_));
          (refine ldo_w (by assumption) (by infer_instance) (by with_unfolding_all rfl) ?_);
          (refine st_w (by assumption) (by infer_instance) (by with_unfolding_all rfl) (by with_unfolding_all rfl) (by first | rfl | exact flat_ones (Flat.flat _)) (by infer_instance) fun h p m => ?_);
          (refine rt_w1 (by assumption) (by infer_instance) (by with_unfolding_all rfl) ?_);
          (with_reducible (refine ret1 ?_));
          (rotate_left))
      rotate_left
      · exfalso; omega
      refine stf_d { gt (muts x l k).steps (gt l k).step.toNat with to := (gt x.steps (gt l k).to.toNat).to } m (by infer_instance) rfl (by omega) (by decide) rfl rfl rfl (by infer_instance) fun h p m => ?_
      ((refine pd_c (by assumption) (by infer_instance) (by with_unfolding_all rfl) ?_);
          (with_reducible (refine ⟨trivial, ?_⟩));
          (refine idx_oz (by assumption) (by omega) (by omega) ?_);
          (with_reducible (refine fao_e ?_)))
      have hl2 : (setTo (muts x l k).steps (gt l k).step.toNat (gt x.steps (gt l k).to.toNat).to).length = x.steps.length := by unfold setTo; rw [List.length_set, u4]
      change Mem g h (_ :: ⟨o, flat (setTo (muts x l k).steps (gt l k).step.toNat (gt x.steps (gt l k).to.toNat).to), 4⟩ :: _) at m
      refine stf_d { gt (setTo (muts x l k).steps (gt l k).step.toNat (gt x.steps (gt l k).to.toNat).to) (gt l k).to.toNat with to := (gt x.steps (gt l k).step.toNat).to } m (by infer_instance) rfl (by omega) (by decide) rfl rfl rfl (by infer_instance) fun h p m => ?_
      ((with_reducible (refine ⟨trivial, ?_⟩));
          ((with_reducible refine fun (_ : Tmps) => ?_); (try dsimp only [nth]));
          (with_reducible (refine mv_i ?_; refine inc_i (by omega) ?_; refine mv_i ?_)))
      exact next1 hkl ⟨⟨Stb.st⟩, by rw [hnx]; exact m⟩
  · ((with_reducible (refine mv_i ?_; refine mv_i ?_; refine len_g (by assumption) ?_; refine lss_i (fun hc => ?_) (fun hc => ?_); refine cnd_t ?_; refine seq_i ?_; refine seq_i ?_; refine mv_i ?_; refine mv_i ?_));
      (refine idx_d (by assumption) (by with_unfolding_all rfl) (by omega) fun p hp => ?_);
      (with_reducible (refine fa_g (by assumption) fun p hp => ?_));
      (refine ld_g (by assumption) (by with_unfolding_all rfl) ?_);
      (with_reducible (refine eql_i (fun hc => ?_) (fun hc => ?_); refine cnd_t ?_; refine fao ?_));
      (refine ldo (by assumption) (q := by infer_instance) (by with_unfolding_all rfl) ?_);
      (refine IsSl.vb (by assumption) (by assumption) (by infer_instance) ?_);
      (with_reducible (refine mv_i ?_; refine mv_i ?_));
      (refine idx_d (by assumption) (by with_unfolding_all rfl) (by omega) fun p hp => ?_);
      (with_reducible (refine fa_g (by assumption) fun p hp => ?_));
      (refine ld_g (by assumption) (by with_unfolding_all rfl) ?_);
      (refine vb_n (by with_unfolding_all rfl) ?_);
      (with_reducible (refine mv_i ?_; refine mv_i ?_));
      (refine idx_d (by assumption) (by with_unfolding_all rfl) (by omega) fun p hp => ?_);
      (with_reducible (refine fa_g (by assumption) fun p hp => ?_));
      (refine ld_g (by assumption) (by with_unfolding_all rfl) ?_);
      (refine vb_n (by with_unfolding_all rfl) ?_);
      (refine idx_oz (by assumption) (by omega) (by omega) ?_);
      (with_reducible (refine fao_e ?_));
      (rotate_left);
      (with_reducible (refine cnd_f ?_));
      ((with_reducible refine fun (_ : Tmps) => ?_); (try dsimp only [nth]));
      (with_reducible (refine seq_i ?_; refine mv_i ?_; refine mv_i ?_));
      (refine idx_d (by assumption) (by with_unfolding_all rfl) (by omega) fun p hp => ?_);
      (with_reducible (refine fa_g (by assumption) fun p hp => ?_));
      (refine ld_g (by assumption) (by with_unfolding_all rfl) ?_);
      (with_reducible (refine eql_i (fun hc => ?_) (fun hc => ?_); refine cnd_t ?_; refine fao ?_));
      (refine ldo (by assumption) (q := by infer_instance) (by with_unfolding_all rfl) ?_);
      (refine IsSl.vb (by assumption) (by assumption) (by infer_instance) ?_);
      (with_reducible (refine mv_i ?_; refine mv_i ?_));
      (refine idx_d (by assumption) (by with_unfolding_all rfl) (by omega) fun p hp => ?_);
      (with_reducible (refine fa_g (by assumption) fun p hp => ?_));
      (refine ld_g (by assumption) (by with_unfolding_all rfl) ?_);
      (refine vb_n (by with_unfolding_all rfl) ?_);
      (with_reducible (refine mv_i ?_; refine mv_i ?_));
      (refine idx_d (by assumption) (by with_unfolding_all rfl) (by omega) fun p hp => ?_);
      (with_reducible (refine fa_g (by assumption) fun p hp => ?_));
      (refine ld_g (by assumption) (by with_unfolding_all rfl) ?_);
      (refine vb_n (by with_unfolding_all rfl) ?_);
      (refine idx_oz (by assumption) (by omega) (by omega) ?_);
      (with_reducible (refine fao_e ?_));
      (rotate_left);
      (with_reducible (refine cnd_f ?_));
      ((with_reducible refine fun (_ : Tmps) => ?_); (try dsimp only [nth]));
      (with_reducible (refine seq_i ?_; refine mv_i ?_; refine mv_i ?_));
      (refine idx_d (by assumption) (by with_unfolding_all rfl) (by omega) fun p hp => ?_);
      (with_reducible (refine fa_g (by assumption) fun p hp => ?_));
      (refine ld_g (by assumption) (by with_unfolding_all rfl) ?_);
      (with_reducible (refine eql_i (fun hc => ?_) (fun hc => ?_); refine cnd_t ?_; refine mv_i ?_; refine mv_i ?_));
      (refine idx_d (by assumption) (by with_unfolding_all rfl) (by omega) fun p hp => ?_);
      (with_reducible (refine fa_g (by assumption) fun p hp => ?_));
      (refine ld_g (by assumption) (by with_unfolding_all rfl) ?_);
      (with_reducible (refine fao ?_));
      (refine sto (by assumption) (q := by infer_instance) (by with_unfolding_all exact Nat.le_of_ble_eq_true rfl) rfl rfl (u := by infer_instance) fun h p m => ?_);
      ((with_reducible refine fun (_ : Tmps) => ?_); (try dsimp only [nth]));
      (with_reducible (refine mv_i ?_; refine mv_i ?_));
      (refine idx_d (by assumption) (by with_unfolding_all rfl) (by omega) fun p hp => ?_);
      (with_reducible (refine fa_g (by assumption) fun p hp => ?_));
      (refine ld_g (by assumption) (by with_unfolding_all rfl) ?_);
      (with_reducible (refine eql_i (fun hc => ?_) (fun hc => ?_); refine cnd_t ?_; refine fao ?_));
      (refine ldo (by assumption) (q := by infer_instance) (by with_unfolding_all rfl) ?_);
      (refine IsSl.vb (by assumption) (by assumption) (by infer_instance) ?_);
      (with_reducible (refine mv_i ?_; refine mv_i ?_));
      (refine idx_d (by assumption) (by with_unfolding_all rfl) (by omega) fun p hp => ?_);
      (with_reducible (refine fa_g (by assumption) fun p hp => ?_));
      (refine ld_g (by assumption) (by with_unfolding_all rfl) ?_);
      (refine vb_n (by with_unfolding_all rfl) ?_);
      (with_reducible (refine fao ?_));
      (refine ldo (by assumption) (q := by infer_instance) (by with_unfolding_all rfl) ?_);
      (refine IsSl.vb (by assumption) (by assumption) (by infer_instance) ?_);
      (with_reducible (refine mv_i ?_; refine mv_i ?_));
      (refine idx_d (by assumption) (by with_unfolding_all rfl) (by omega) fun p hp => ?_);
      (with_reducible (refine fa_g (by assumption) fun p hp => ?_));
      (refine ld_g (by assumption) (by with_unfolding_all rfl) ?_);
      (refine vb_n (by with_unfolding_all rfl) ?_);
      (with_reducible (refine fao ?_));
      (refine ldo (by assumption) (q := by infer_instance) (by with_unfolding_all rfl) ?_);
      (with_reducible (refine vb_l (by assumption) ?_; refine mv_i ?_; refine mv_i ?_));
      (refine idx_d (by assumption) (by with_unfolding_all rfl) (by omega) fun p hp => ?_);
      (with_reducible (refine fa_g (by assumption) fun p hp => ?_));
      (refine ld_g (by assumption) (by with_unfolding_all rfl) ?_);
      (refine vb_n (by with_unfolding_all rfl) ?_);
      (refine idx_dz (by assumption) (by with_unfolding_all rfl) (by omega) (by omega) fun p hp => ?_);
      (with_reducible (refine fa_g (by assumption) fun p hp => ?_));
      (refine ld_g (by assumption) (by with_unfolding_all rfl) ?_);
      (refine vb_n (by with_unfolding_all rfl) ?_);
      (with_reducible (refine fao ?_));
      (refine ldo (by assumption) (q := by infer_instance) (by with_unfolding_all rfl) ?_);
      (with_reducible (refine vb_l (by assumption) ?_; refine mv_i ?_; refine mv_i ?_));
      (refine idx_d (by assumption) (by with_unfolding_all rfl) (by omega) fun p hp => ?_);
      (with_reducible (refine fa_g (by assumption) fun p hp => ?_));
      (refine ld_g (by assumption) (by with_unfolding_all rfl) ?_);
      (refine vb_n (by with_unfolding_all rfl) ?_);
      (refine idx_dz (by assumption) (by with_unfolding_all rfl) (by omega) (by omega) fun p hp => ?_);
      (with_reducible (refine fa_g (by assumption) fun p hp => ?_));
      (refine ld_g (by assumption) (by with_unfolding_all rfl) ?_);
      (refine vb_n (by with_unfolding_all rfl) ?_);
      (refine idx_oz (by assumption) (by omega) (by omega) ?_);
      (with_reducible (refine fao_e ?_));
      (rotate_left);
      (with_reducible (refine cnd_f ?_));
      ((with_reducible refine fun (_ : Tmps) => ?_); (try dsimp only [nth]));
      (with_reducible (refine mv_i ?_; refine inc_i (by omega) ?_; refine mv_i ?_));
      (rotate_left);
      (with_reducible (refine cnd_f ?_));
      ((with_reducible refine fun (_ : Tmps) => ?_); (try dsimp only [nth]));
      (with_reducible (refine mv_i ?_; refine mv_i ?_));
      (refine idx_d (by assumption) (by with_unfolding_all rfl) (by omega) fun p hp => ?_);
      (with_reducible (refine fa_g (by assumption) fun p hp => ?_));
      (refine ld_g (by assumption) (by with_unfolding_all rfl) ?_);
      (with_reducible (refine eql_i (fun hc => ?_) (fun hc => ?_); refine cnd_t ?_; refine fao ?_));
      (refine ldo (by assumption) (q := by infer_instance) (by with_unfolding_all rfl) ?_);
      (refine IsSl.vb (by assumption) (by assumption) (by infer_instance) ?_);
      (with_reducible (refine mv_i ?_; refine mv_i ?_));
      (refine idx_d (by assumption) (by with_unfolding_all rfl) (by omega) fun p hp => ?_);
      (with_reducible (refine fa_g (by assumption) fun p hp => ?_));
      (refine ld_g (by assumption) (by with_unfolding_all rfl) ?_);
      (refine vb_n (by with_unfolding_all rfl) ?_);
      (with_reducible (refine fao ?_));
      (refine ldo (by assumption) (q := by infer_instance) (by with_unfolding_all rfl) ?_);
      (refine IsSl.vb (by assumption) (by assumption) (by infer_instance) ?_);
      (with_reducible (refine mv_i ?_; refine mv_i ?_));
      (refine idx_d (by assumption) (by with_unfolding_all rfl) (by omega) fun p hp => ?_);
      (with_reducible (refine fa_g (by assumption) fun p hp => ?_));
      (refine ld_g (by assumption) (by with_unfolding_all rfl) ?_);
      (refine vb_n (by with_unfolding_all rfl) ?_);
      (with_reducible (refine fao ?_));
      (refine ldo (by assumption) (q := by infer_instance) (by with_unfolding_all rfl) ?_);
      (with_reducible (refine vb_l (by assumption) ?_; refine mv_i ?_; refine mv_i ?_));
      (refine idx_d (by assumption) (by with_unfolding_all rfl) (by omega) fun p hp => ?_);
      (with_reducible (refine fa_g (by assumption) fun p hp => ?_));
      (refine ld_g (by assumption) (by with_unfolding_all rfl) ?_);
      (refine vb_n (by with_unfolding_all rfl) ?_);
      (refine idx_dz (by assumption) (by with_unfolding_all rfl) (by omega) (by omega) fun p hp => ?_);
      (with_reducible (refine fa_g (by assumption) fun p hp => ?_));
      (refine ld_g (by assumption) (by with_unfolding_all rfl) ?_);
      (refine vb_n (by with_unfolding_all rfl) ?_);
      (with_reducible (refine fao ?_));
      (refine ldo (by assumption) (q := by infer_instance) (by with_unfolding_all rfl) ?_);
      (with_reducible (refine vb_l (by assumption) ?_; refine mv_i ?_; refine mv_i ?_));
      (refine idx_d (by assumption) (by with_unfolding_all rfl) (by omega) fun p hp => ?_);
      (with_reducible (refine fa_g (by assumption) fun p hp => ?_));
      (refine ld_g (by assumption) (by with_unfolding_all rfl) ?_);
      (refine vb_n (by with_unfolding_all rfl) ?_);
      (refine idx_dz (by assumption) (by with_unfolding_all rfl) (by omega) (by omega) fun p hp => ?_);
      (with_reducible (refine fa_g (by assumption) fun p hp => ?_));
      (refine ld_g (by assumption) (by with_unfolding_all rfl) ?_);
      (refine vb_n (by with_unfolding_all rfl) ?_);
      (refine idx_oz (by assumption) (by omega) (by omega) ?_);
      (with_reducible (refine fao_e ?_));
      (rotate_left);
      (with_reducible (refine cnd_f ?_));
      ((with_reducible refine fun (_ : Tmps) => ?_); (try dsimp only [nth]));
      (with_reducible (refine mv_i ?_; refine inc_i (by omega) ?_; refine mv_i ?_));
      (rotate_left);
      (with_reducible (refine cnd_f ?_));
      (refine ldo_w (by assumption) (by infer_instance) (by with_unfolding_all rfl) ?_);
      (refine st_w (by assumption) (by infer_instance) (by with_unfolding_all rfl) (by with_unfolding_all rfl) (by first | rfl | exact flat_ones (Flat.flat _)) (by infer_instance) fun h p m => ?_);
      (refine rt_w1 (by assumption) (by infer_instance) (by with_unfolding_all rfl) ?_);
      (with_reducible (refine ret1 ?_));
      (rotate_left))
    all_goals (try (exfalso; omega))
    have hkk : k = l.length := by omega
    have e1 : muts x l k = mutd x l := by rw [hkk]; simp [muts, mutd]
    refine ⟨m.pre, a, d, x.steps.length, by rw [← e1, u1, u2, u3], by rw [← e1, u4], ?_⟩
    rw [← e1]
    exact IsSl.ro hs m (k := 1) rfl (by omega)
end Go.Proofs.Ytomiejfeclefaaa

set_option linter.unusedSimpArgs false
set_option linter.unusedVariables false
set_option linter.unnecessarySimpa false
set_option maxRecDepth 100000
set_option maxHeartbeats 4000000
namespace Go.Proofs.Ytomiejfeclefaaa
open Go.AM
variable {h g : Heap}
end Go.Proofs.Ytomiejfeclefaaa

set_option linter.unusedSimpArgs false
set_option linter.unusedVariables false
set_option linter.unnecessarySimpa false
set_option maxRecDepth 100000
namespace Go.Proofs.Ytomiejfeclefaaa
open Go.AM
open Go.ChangeShapes Go.WideShapes Go.ChangeAt Go.RowKit
theorem laid : laidOutB Try.prog = true := by kernel_rfl
theorem own : ownKnob Try.prog.godebug = none := by kernel_rfl
def dStp {H : Type} : DataW H → Stp | .agg [a, b, c, d] => ⟨dint a, dint b, dint c, dint d⟩ | _ => Df.d
def dMut {H : Type} : DataW H → Mut | .agg [a, b, c] => ⟨dint a, dint b, dint c⟩ | _ => Df.d
def dMac {H : Type} : DataW H → Mach | .agg [a, b, c, d, e] => ⟨dint a, dint b, dint c, dint d, dlist dStp e⟩ | _ => ⟨0, 0, 0, 0, []⟩
theorem ARd_stp {H : Type} {h : Heap} {cs : List Value} {d : DataW H} (q : ARd Try.prog h 82 cs d) : cs = Flat.cells (dStp d) := by
  obtain ⟨parts, rfl, hl, hp, hf⟩ := q.fields Try.underlying82
  have hl : cs.length = 4 := hl
  obtain ⟨a, b, c, d, rfl⟩ : ∃ a b c d, parts = [a, b, c, d] := by
    match parts, hp with
    | [a, b, c, d], _ => exact ⟨a, b, c, d, rfl⟩
  have g0 : cs[0]? = some (.int .i64 (dint a)) := ARd.f_int (hf 0 _ a rfl rfl) Try.underlying3
  have g1 : cs[1]? = some (.int .i64 (dint b)) := ARd.f_int (hf 1 _ b rfl rfl) Try.underlying3
  have g2 : cs[2]? = some (.int .i64 (dint c)) := ARd.f_int (hf 2 _ c rfl rfl) Try.underlying3
  have g3 : cs[3]? = some (.int .i64 (dint d)) := ARd.f_int (hf 3 _ d rfl rfl) Try.underlying3
  refine List.ext_getElem? fun j => ?_
  by_cases hj : j < 4
  · match j, hj with
    | 0, _ => rw [g0]; rfl
    | 1, _ => rw [g1]; rfl
    | 2, _ => rw [g2]; rfl
    | 3, _ => rw [g3]; rfl
  · rw [List.getElem?_eq_none (by omega), List.getElem?_eq_none (by rw [Flat.len]; show 4 ≤ j; omega)]
theorem ARd_mut {H : Type} {h : Heap} {cs : List Value} {d : DataW H} (q : ARd Try.prog h 34 cs d) : cs = Flat.cells (dMut d) := by
  obtain ⟨parts, rfl, hl, hp, hf⟩ := q.fields Try.underlying34
  have hl : cs.length = 3 := hl
  obtain ⟨a, b, c, rfl⟩ : ∃ a b c, parts = [a, b, c] := by
    match parts, hp with
    | [a, b, c], _ => exact ⟨a, b, c, rfl⟩
  have g0 : cs[0]? = some (.int .i64 (dint a)) := ARd.f_int (hf 0 _ a rfl rfl) Try.underlying3
  have g1 : cs[1]? = some (.int .i64 (dint b)) := ARd.f_int (hf 1 _ b rfl rfl) Try.underlying3
  have g2 : cs[2]? = some (.int .i64 (dint c)) := ARd.f_int (hf 2 _ c rfl rfl) Try.underlying3
  refine List.ext_getElem? fun j => ?_
  by_cases hj : j < 3
  · match j, hj with
    | 0, _ => rw [g0]; rfl
    | 1, _ => rw [g1]; rfl
    | 2, _ => rw [g2]; rfl
  · rw [List.getElem?_eq_none (by omega), List.getElem?_eq_none (by rw [Flat.len]; show 3 ≤ j; omega)]
def dPr {H : Type} : DataW H → Pr | .agg [a, b] => ⟨dint a, dint b⟩ | _ => Df.d
theorem ARd_pr {H : Type} {h : Heap} {cs : List Value} {d : DataW H} (q : ARd Try.prog h 77 cs d) : cs = Flat.cells (dPr d) := by
  obtain ⟨parts, rfl, hl, hp, hf⟩ := q.elems Try.underlying77
  have hl : cs.length = 2 := hl
  obtain ⟨a, b, rfl⟩ : ∃ a b, parts = [a, b] := by
    match parts, hp with
    | [a, b], _ => exact ⟨a, b, rfl⟩
  have g0 : cs[0]? = some (.int .i64 (dint a)) := ARd.f_int (hf 0 a rfl) Try.underlying3
  have g1 : cs[1]? = some (.int .i64 (dint b)) := ARd.f_int (hf 1 b rfl) Try.underlying3
  refine List.ext_getElem? fun j => ?_
  by_cases hj : j < 2
  · match j, hj with
    | 0, _ => rw [g0]; rfl
    | 1, _ => rw [g1]; rfl
  · rw [List.getElem?_eq_none (by omega), List.getElem?_eq_none (by rw [Flat.len]; show 2 ≤ j; omega)]
theorem dl_le {H α : Type} (de : DataW H → α) (d : DataW H) : (dlist de d).length ≤ Rows.uptoBulk d := by
  cases d with
  | slice elems spare =>
    have := bulks.length_le elems
    have := bulks.slice_elems elems spare
    simp only [dlist, List.length_map]; omega
  | lit l => simp [dlist]
  | nil => simp [dlist]
  | ptr d => simp [dlist]
  | agg parts => simp [dlist]
  | iface t d => simp [dlist]
  | map entries => simp [dlist]
  | held h => simp [dlist]
theorem mac_le {H : Type} (d : DataW H) : (dMac d).steps.length ≤ Rows.uptoBulk d := by
  unfold dMac
  split
  · rename_i a b c d e
    have := dl_le dStp e
    simp only [Rows.uptoBulk, Rows.uptoBulkAll]
    omega
  · simp
theorem ARd_mac {H : Type} {h : Heap} {cs : List Value} {d : DataW H} (q : ARd Try.prog h 24 cs d) (hb : (dMac d).steps.length ≤ 2 ^ 50) : MacV h (absV Try.prog 24 cs) (dMac d) := by
  obtain ⟨parts, rfl, hl, hp, hf⟩ := q.fields Try.underlying24
  have hl : cs.length = 5 := hl
  obtain ⟨a, b, c, d, e, rfl⟩ : ∃ a b c d e, parts = [a, b, c, d, e] := by
    match parts, hp with
    | [a, b, c, d, e], _ => exact ⟨a, b, c, d, e, rfl⟩
  have g0 : cs[0]? = some (.int .i64 (dint a)) := ARd.f_int (hf 0 _ a rfl rfl) Try.underlying3
  have g1 : cs[1]? = some (.int .i64 (dint b)) := ARd.f_int (hf 1 _ b rfl rfl) Try.underlying3
  have g2 : cs[2]? = some (.int .i64 (dint c)) := ARd.f_int (hf 2 _ c rfl rfl) Try.underlying3
  have g3 : cs[3]? = some (.int .i64 (dint d)) := ARd.f_int (hf 3 _ d rfl rfl) Try.underlying3
  obtain ⟨o, l, c', e', s⟩ := ARd.list dStp (hf 4 _ e rfl rfl) Try.underlying22 (by kernel_rfl) (fun cs d r => ARd_stp r) hb
  have g4 : cs[4]? = some (.slice o l c') := drop_one e'
  refine ⟨_, ?_, s⟩
  simp only [absV, Try.underlying24]
  congr 1
  have : cs = [.int .i64 (dint a), .int .i64 (dint b), .int .i64 (dint c), .int .i64 (dint d), .slice o l c'] := by
    refine List.ext_getElem? fun j => ?_
    by_cases hj : j < 5
    · match j, hj with
      | 0, _ => rw [g0]; rfl
      | 1, _ => rw [g1]; rfl
      | 2, _ => rw [g2]; rfl
      | 3, _ => rw [g3]; rfl
      | 4, _ => rw [g4]; rfl
    · rw [List.getElem?_eq_none (by omega), List.getElem?_eq_none (by simp; omega)]
  rw [this]; rfl
end Go.Proofs.Ytomiejfeclefaaa

set_option linter.unusedSimpArgs false
set_option linter.unusedVariables false
set_option linter.unnecessarySimpa false
set_option maxRecDepth 100000
set_option maxHeartbeats 4000000
namespace Go.Proofs.Ytomiejfeclefaaa
open Go.AM
variable {h g : Heap}
/-! ### a mutant is a right machine -/
theorem gst {α : Type} [Df α] {l : List α} {k j : Nat} {a : α} (hk : k < l.length) : gt (l.set k a) j = if k = j then a else gt l j := by
  unfold gt
  by_cases e : k = j
  · subst e; simp [hk]
  · simp [e]
structure Alk (x c : Mach) : Prop where
  st : c.states = x.states
  ip : c.inputs = x.inputs
  ot : c.outputs = x.outputs
  ln : c.steps.length = x.steps.length
  hs : 0 ≤ c.start ∧ c.start ≤ x.states - 1
  fi : ∀ k, k < x.steps.length → (gt c.steps k).frm = (gt x.steps k).frm ∧ (gt c.steps k).inp = (gt x.steps k).inp ∧ inR x (gt c.steps k)
theorem Alk.self {x : Mach} (h0 : (chkM x).2 = 0) : Alk x x := by
  obtain ⟨hh, _, hs⟩ := chk_ok h0
  exact ⟨rfl, rfl, rfl, rfl, hh.2.2.2, fun k hk => ⟨rfl, rfl, (st_ok (hs k hk)).1⟩⟩
theorem setTo_fi {x : Mach} {l : List Stp} (hl : l.length = x.steps.length) (hf : ∀ k, k < x.steps.length → (gt l k).frm = (gt x.steps k).frm ∧ (gt l k).inp = (gt x.steps k).inp ∧ inR x (gt l k))
    {j : Nat} {v : Int} (hj : j < x.steps.length) (hv : 0 ≤ v ∧ v ≤ x.states - 1) : ∀ k, k < x.steps.length → (gt (setTo l j v) k).frm = (gt x.steps k).frm ∧ (gt (setTo l j v) k).inp = (gt x.steps k).inp ∧ inR x (gt (setTo l j v) k) := by
  intro k hk
  unfold setTo
  rw [gst (by omega)]
  by_cases e : j = k
  · subst e
    rw [if_pos rfl]
    obtain ⟨f1, f2, f3, f4, f5, f6⟩ := hf j hj
    exact ⟨f1, f2, f3, hv, f5, f6⟩
  · rw [if_neg e]; exact hf k hk
theorem Alk.ap1 {x c : Mach} (h0 : (chkM x).2 = 0) (a : Alk x c) {m : Mut} (hk : 0 ≤ m.kind ∧ m.kind ≤ 3) (hr : rightS x m) : Alk x (ap1 x c m) := by
  have S := Alk.self h0
  unfold rightS at hr
  unfold Go.Proofs.Ytomiejfeclefaaa.ap1
  split at hr
  · rename_i e
    rw [if_pos e]
    obtain ⟨r1, r2⟩ := hr
    refine ⟨a.st, a.ip, a.ot, by simpa [setOut] using a.ln, a.hs, fun k hk => ?_⟩
    show (gt (setOut c.steps _ _) k).frm = _ ∧ _
    unfold setOut
    rw [gst (by rw [a.ln]; omega)]
    by_cases e : m.step.toNat = k
    · subst e
      rw [if_pos rfl]
      obtain ⟨f1, f2, f3, f4, f5, f6⟩ := a.fi _ hk
      exact ⟨f1, f2, f3, f4, f5, r2⟩
    · rw [if_neg e]; exact a.fi k hk
  · rename_i e
    rw [if_neg e]
    split at hr
    · rename_i e
      rw [if_pos e]
      obtain ⟨r1, r2⟩ := hr
      exact ⟨a.st, a.ip, a.ot, by simpa [setTo] using a.ln, a.hs, setTo_fi a.ln a.fi (by omega) r2⟩
    · rename_i e
      rw [if_neg e]
      split at hr
      · rename_i e
        rw [if_pos e]
        exact ⟨a.st, a.ip, a.ot, a.ln, hr.2, a.fi⟩
      · rename_i e
        rw [if_neg e]
        obtain ⟨r1, r2⟩ := hr
        refine ⟨a.st, a.ip, a.ot, by simpa [setTo] using a.ln, a.hs, ?_⟩
        exact setTo_fi (by simpa [setTo] using a.ln) (setTo_fi a.ln a.fi (by omega) (S.fi m.to.toNat (by omega)).2.2.2.1) (by omega) (S.fi m.step.toNat (by omega)).2.2.2.1
theorem Alk.fold {x : Mach} (h0 : (chkM x).2 = 0) : ∀ (l : List Mut) (c : Mach), Alk x c → (∀ m ∈ l, (0 ≤ m.kind ∧ m.kind ≤ 3) ∧ rightS x m) → Alk x (l.foldl (Go.Proofs.Ytomiejfeclefaaa.ap1 x) c)
  | [], _, a, _ => a
  | m :: l, _, a, hl => Alk.fold h0 l _ (a.ap1 h0 (hl m (by simp)).1 (hl m (by simp)).2) fun m' h' => hl m' (by simp [h'])
theorem mem_gt {α : Type} [Df α] {l : List α} {p : α} : p ∈ l ↔ ∃ j, j < l.length ∧ gt l j = p := by
  rw [List.mem_iff_getElem]
  constructor
  · rintro ⟨j, hj, e⟩; exact ⟨j, hj, by rw [← gt_at hj]; exact e⟩
  · rintro ⟨j, hj, e⟩; exact ⟨j, hj, by rw [gt_at hj]; exact e⟩
theorem mutd_alk {x : Mach} {l : List Mut} (h0 : (chkM x).2 = 0) (h1 : (mutE x l).2 = 0) : Alk x (mutd x l) := by
  obtain ⟨_, hv⟩ := mutE_ok h1
  refine Alk.fold h0 l x (Alk.self h0) fun m hm => ?_
  obtain ⟨j, hj, rfl⟩ := mem_gt.mp hm
  exact hv j hj
theorem Alk.chk {x c : Mach} (h0 : (chkM x).2 = 0) (a : Alk x c) : (chkM c).2 = 0 := by
  obtain ⟨hh, hl, hs⟩ := chk_ok h0
  obtain ⟨b1, b2, b3, b4⟩ := hh
  have := a.st
  have := a.ip
  have := a.ot
  have := a.ln
  have hI : ∀ t, inR x t → inR c t := by
    intro t ht
    unfold inR at *
    rw [a.st, a.ip, a.ot]; exact ht
  rw [chk_no (x := c)]
  · exact ⟨by omega, by omega, by omega, by have := a.hs; omega⟩
  · rw [a.st, a.ip]; omega
  · intro j hj
    obtain ⟨f1, f2, f3⟩ := a.fi j (by omega)
    refine st_n (hI _ f3) ?_
    rintro ⟨q1, q2⟩
    refine q2 ?_
    obtain ⟨e1, e2, _⟩ := a.fi (j - 1) (by omega)
    have := (st_ok (hs j (by omega))).2 q1
    unfold lexLt at *
    rw [e1, e2, f1, f2]; exact this
/-! ### pairs -/
theorem c83 {y : Value} {l : List Pr} (s : L g y l) (pr : Pr) : Runs Try.prog 83 [y, fv pr] g (.int .i64 (idxOf (fun t => decide (pr = t)) l)) g := by
  have lt := s.lt
  have m := Mem.start g
  refine DetP.forget rfl ?_
  refine w83 ?_
  unfold n83
  refine box_a m fun i h z p m => ?_
  ((with_reducible (refine mv_i ?_; refine mv_i ?_; refine len_g (by assumption) ?_; refine mv_i ?_)))
  refine loop1 l.length (fun k h2 => Prec h h2 ∧ Mem g h2 [⟨some i, Flat.cells pr, z⟩] ∧ ∀ j, j < k → (fun t => decide (pr = t)) (gt l j) = false) ⟨⟨Stab.refl _⟩, m, fun j hj => by omega⟩ ?_
  rintro k h2 _ hk ⟨p2, m, hJ⟩
  ((with_reducible (refine lss_i (fun hc => ?_) (fun hc => ?_); refine cnd_t ?_; refine mv_i ?_; refine mv_i ?_));
      (refine ldo_w (by assumption) (by infer_instance) (by with_unfolding_all rfl) ?_);
      (with_reducible (refine vb_f ?_; refine mv_i ?_; refine mv_i ?_));
      (refine idx_d (by assumption) (by with_unfolding_all rfl) (by omega) fun p hp => ?_);
      (refine ldr_w (by assumption) (by with_unfolding_all rfl) ?_);
      (with_reducible (refine vb_f ?_; refine prq_i (fun hc => ?_) (fun hc => ?_); refine cnd_t ?_; refine mv_i ?_; refine mv_i ?_; refine ret1 ?_));
      (rotate_left);
      (with_reducible (refine cnd_f ?_; refine inc_i (by omega) ?_; refine mv_i ?_));
      (rotate_left);
      (with_reducible (refine cnd_f ?_; refine mv_i ?_; refine ret1 ?_));
      (rotate_left))
  · exact ⟨by rw [idxOf_at (p := fun t => decide (pr = t)) hJ (by omega) (decide_eq_true hc)], Mem.pre (by assumption)⟩
  · refine next1 (by omega) ⟨⟨Stb.st⟩, m, fun j hj => ?_⟩
    by_cases q : j = k
    · subst q; exact decide_eq_false hc
    · exact hJ j (by omega)
  · exact ⟨by rw [idxOf_no fun j hj => hJ j (by omega)], Mem.pre (by assumption)⟩
theorem idx_mem {α : Type} [DecidableEq α] [Df α] (p : α) (l : List α) : 0 ≤ idxOf (fun t => decide (p = t)) l ↔ p ∈ l := by
  rw [idxOf_any]
  simp
theorem c51 {y : Value} {l : List Pr} (s : L g y l) (pr : Pr) : Runs Try.prog 51 [y, fv pr] g (.bool (decide (pr ∈ l))) g := by
  have m := Mem.start g
  refine DetP.forget rfl ?_
  refine w51 ?_
  unfold n51
  refine box_a m fun i h z p m => ?_
  ((with_reducible (refine mv_i ?_; refine mv_i ?_));
      (refine ldo_w (by assumption) (by infer_instance) (by with_unfolding_all rfl) ?_))
  refine call_r (c83 s.up pr) ?_
  ((with_reducible (refine geq_i (fun hc => ?_) (fun hc => ?_); refine mv_i ?_; refine ret1 ?_));
      (rotate_left);
      (with_reducible (refine mv_i ?_; refine ret1 ?_));
      (rotate_left))
  all_goals
    refine ⟨?_, Mem.pre (by assumption)⟩
    rw [idx_mem] at hc
    first
      | rw [decide_eq_true hc]
      | rw [decide_eq_false hc]
theorem c55 {y : Value} {l : List Pr} (s : L g y l) (a b : Int) : Runs Try.prog 55 [y, .int .i64 a, .int .i64 b] g (.bool (decide ((⟨a, b⟩ : Pr) ∈ l))) g := by
  have lt := s.lt
  refine DetP.runs (w55 ?_)
  unfold n55
  ((with_reducible (refine mv_i ?_; refine mv_i ?_)))
  refine loop1 l.length (fun k h2 => g = h2 ∧ ∀ j, j < k → ¬ gt l j = ⟨a, b⟩) ⟨rfl, fun j hj => by omega⟩ ?_
  rintro k _ _ hk ⟨rfl, hJ⟩
  by_cases hkl : k < l.length
  · by_cases he : gt l k = ⟨a, b⟩
    · have e1 : (gt l k).a = a := by rw [he]
      have e2 : (gt l k).b = b := by rw [he]
      ((with_reducible (refine mv_i ?_; refine mv_i ?_; refine len_g (by assumption) ?_; refine lss_i (fun hc => ?_) (fun hc => ?_); refine cnd_t ?_; refine mv_i ?_; refine mv_i ?_));
          (refine idx_d (by assumption) (by with_unfolding_all rfl) (by omega) fun p hp => ?_);
          (refine ia_g (by assumption) (by omega) (by omega) fun p hp => ?_);
          (refine ld_g (by assumption) (by with_unfolding_all rfl) ?_);
          (with_reducible (refine mv_i ?_; refine eql_h (by first | assumption | decide) ?_; refine mv_i ?_; refine gd_tt ?_; refine mv_i ?_; refine gd_tt ?_; refine mv_i ?_; refine gd_tt ?_));
          (refine idx_d (by assumption) (by with_unfolding_all rfl) (by omega) fun p hp => ?_);
          (with_reducible (refine gd_tt ?_));
          (refine ia_g (by assumption) (by omega) (by omega) fun p hp => ?_);
          (with_reducible (refine gd_tt ?_));
          (refine ld_g (by assumption) (by with_unfolding_all rfl) ?_);
          (with_reducible (refine gd_tt ?_; refine mv_i ?_; refine gd_tt ?_; refine eql_h (by first | assumption | decide) ?_; refine pick_t ?_; refine cnd_t ?_; refine mv_i ?_; refine ret1 ?_));
          (rotate_left);
          (with_reducible (refine cnd_f ?_; refine mv_i ?_; refine ret1 ?_));
          (rotate_left))
      all_goals first
        | (exfalso; omega)
        | exact ⟨by rw [decide_eq_true (mem_gt.mpr ⟨k, hkl, he⟩)], rfl⟩
    · have hn : ∀ j, j < k + 1 → ¬ gt l j = ⟨a, b⟩ := by
        intro j hj
        by_cases q : j = k
        · subst q; exact he
        · exact hJ j (by omega)
      ((with_reducible (refine mv_i ?_; refine mv_i ?_; refine len_g (by assumption) ?_; refine lss_i (fun hc => ?_) (fun hc => ?_); refine cnd_t ?_; refine mv_i ?_; refine mv_i ?_));
          (refine idx_d (by assumption) (by with_unfolding_all rfl) (by omega) fun p hp => ?_);
          (refine ia_g (by assumption) (by omega) (by omega) fun p hp => ?_);
          (refine ld_g (by assumption) (by with_unfolding_all rfl) ?_);
          (with_reducible (refine mv_i ?_; refine eql_i (fun hc => ?_) (fun hc => ?_); refine mv_i ?_; refine gd_tt ?_; refine mv_i ?_; refine gd_tt ?_; refine mv_i ?_; refine gd_tt ?_));
          (refine idx_d (by assumption) (by with_unfolding_all rfl) (by omega) fun p hp => ?_);
          (with_reducible (refine gd_tt ?_));
          (refine ia_g (by assumption) (by omega) (by omega) fun p hp => ?_);
          (with_reducible (refine gd_tt ?_));
          (refine ld_g (by assumption) (by with_unfolding_all rfl) ?_);
          (with_reducible (refine gd_tt ?_; refine mv_i ?_; refine gd_tt ?_; refine eql_i (fun hc => ?_) (fun hc => ?_); refine pick_t ?_; refine cnd_t ?_; refine mv_i ?_; refine ret1 ?_));
          (rotate_left);
          (with_reducible (refine pick_t ?_; refine cnd_f ?_; refine mv_i ?_; refine inc_i (by omega) ?_; refine mv_i ?_));
          (rotate_left);
          (with_reducible (refine mv_i ?_; refine gd_ft ?_; refine gd_ft ?_; refine gd_ft ?_; refine gd_ft ?_; refine gd_ft ?_; refine gd_ft ?_; refine gd_ft ?_; refine pick_f ?_; refine cnd_f ?_; refine mv_i ?_; refine inc_i (by omega) ?_; refine mv_i ?_));
          (rotate_left);
          (with_reducible (refine cnd_f ?_; refine mv_i ?_; refine ret1 ?_));
          (rotate_left))
      all_goals first
        | exact next1 hkl ⟨rfl, hn⟩
        | (refine (he ?_).elim
           rw [show gt l k = ⟨(gt l k).a, (gt l k).b⟩ from rfl]
           simp only [Pr.mk.injEq]
           exact ⟨by assumption, by assumption⟩)
        | (exfalso; omega)
  · ((with_reducible (refine mv_i ?_; refine mv_i ?_; refine len_g (by assumption) ?_; refine lss_i (fun hc => ?_) (fun hc => ?_); refine cnd_t ?_; refine mv_i ?_; refine mv_i ?_));
      (refine idx_d (by assumption) (by with_unfolding_all rfl) (by omega) fun p hp => ?_);
      (refine ia_g (by assumption) (by omega) (by omega) fun p hp => ?_);
      (refine ld_g (by assumption) (by with_unfolding_all rfl) ?_);
      (with_reducible (refine mv_i ?_; refine eql_i (fun hc => ?_) (fun hc => ?_); refine mv_i ?_; refine gd_tt ?_; refine mv_i ?_; refine gd_tt ?_; refine mv_i ?_; refine gd_tt ?_));
      (refine idx_d (by assumption) (by with_unfolding_all rfl) (by omega) fun p hp => ?_);
      (with_reducible (refine gd_tt ?_));
      (refine ia_g (by assumption) (by omega) (by omega) fun p hp => ?_);
      (with_reducible (refine gd_tt ?_));
      (refine ld_g (by assumption) (by with_unfolding_all rfl) ?_);
      (with_reducible (refine gd_tt ?_; refine mv_i ?_; refine gd_tt ?_; refine eql_i (fun hc => ?_) (fun hc => ?_); refine pick_t ?_; refine cnd_t ?_; refine mv_i ?_; refine ret1 ?_));
      (rotate_left);
      (with_reducible (refine pick_t ?_; refine cnd_f ?_; refine mv_i ?_; refine inc_i (by omega) ?_; refine mv_i ?_));
      (rotate_left);
      (with_reducible (refine mv_i ?_; refine gd_ft ?_; refine gd_ft ?_; refine gd_ft ?_; refine gd_ft ?_; refine gd_ft ?_; refine gd_ft ?_; refine gd_ft ?_; refine pick_f ?_; refine cnd_f ?_; refine mv_i ?_; refine inc_i (by omega) ?_; refine mv_i ?_));
      (rotate_left);
      (with_reducible (refine cnd_f ?_; refine mv_i ?_; refine ret1 ?_));
      (rotate_left))
    all_goals first
      | (refine ⟨?_, rfl⟩
         rw [decide_eq_false]
         intro hm
         obtain ⟨j, hj, e⟩ := mem_gt.mp hm
         exact hJ j (by omega) e)
      | (exfalso; omega)
end Go.Proofs.Ytomiejfeclefaaa

set_option linter.unusedSimpArgs false
set_option linter.unusedVariables false
set_option linter.unnecessarySimpa false
set_option maxRecDepth 100000
set_option maxHeartbeats 4000000
namespace Go.Proofs.Ytomiejfeclefaaa
open Go.AM
variable {h g : Heap}
/-! ### the search for a word by which two machines differ -/
def stO (x : Mach) (q w : Int) : Stp := gt x.steps (q * x.inputs + w).toNat
def inP (x : Mach) (p : Pr) : Prop := (0 ≤ p.a ∧ p.a ≤ x.states - 1) ∧ (0 ≤ p.b ∧ p.b ≤ x.states - 1)
instance (x : Mach) (p : Pr) : Decidable (inP x p) := by unfold inP; infer_instance
structure BS where
  ps : List Pr
  ws : List (List Int)
  fnd : Option (List Int)
def tgt (x y : Mach) (p : Pr) (n : Int) : Pr := ⟨(stO x p.a n).to, (stO y p.b n).to⟩
def same (x y : Mach) (p : Pr) (n : Int) : Prop := (stO x p.a n).out = (stO y p.b n).out
instance (x y : Mach) (p : Pr) (n : Int) : Decidable (same x y p n) := by unfold same; infer_instance
def wrd (s : BS) (i n : Nat) : List Int := s.ws.getD i [] ++ [(n : Int)]
def bst (x y : Mach) (i n : Nat) (s : BS) : BS :=
  if s.fnd.isSome then s
  else if ¬ same x y (gt s.ps i) n then { s with fnd := some (wrd s i n) }
  else if tgt x y (gt s.ps i) n ∈ s.ps then s
  else ⟨s.ps ++ [tgt x y (gt s.ps i) n], s.ws ++ [wrd s i n], none⟩
def brow (x y : Mach) (i : Nat) (s : BS) : Nat → BS
  | 0 => s
  | n + 1 => bst x y i n (brow x y i s n)
def bfs (x y : Mach) (p0 : Pr) : Nat → BS
  | 0 => ⟨[p0], [[]], none⟩
  | k + 1 => if k < (bfs x y p0 k).ps.length then brow x y k (bfs x y p0 k) x.inputs.toNat else bfs x y p0 k
/-- What holds of a search between right machines. -/
structure BI (x : Mach) (s : BS) : Prop where
  nd : s.ps.Nodup
  inp : ∀ p ∈ s.ps, inP x p
  len : s.ws.length = s.ps.length
/-- Right machines beside each other. -/
structure Par (x y : Mach) : Prop where
  cx : (chkM x).2 = 0
  cy : (chkM y).2 = 0
  lx : (x.steps.length : Int) = x.states * x.inputs
  ly : (y.steps.length : Int) = y.states * y.inputs
  st : y.states = x.states
  ip : y.inputs = x.inputs
theorem stO_ok {x : Mach} (h0 : (chkM x).2 = 0) (hl : (x.steps.length : Int) = x.states * x.inputs) {q w : Int} (hq : 0 ≤ q ∧ q ≤ x.states - 1) (hw : 0 ≤ w ∧ w ≤ x.inputs - 1) : inR x (stO x q w) := by
  obtain ⟨e1, e2, _⟩ := full_at h0 hl hq hw
  exact (st_ok ((chk_ok h0).2.2 _ e2)).1
theorem Par.tgt {x y : Mach} (P : Par x y) {p : Pr} (hp : inP x p) {n : Nat} (hn : n < x.inputs.toNat) : inP x (Go.Proofs.Ytomiejfeclefaaa.tgt x y p n) := by
  have h1 := stO_ok P.cx P.lx hp.1 (w := (n : Int)) ⟨by omega, by omega⟩
  have h2 := stO_ok P.cy P.ly (q := p.b) (by rw [P.st]; exact hp.2) (w := (n : Int)) ⟨by omega, by rw [P.ip]; omega⟩
  have h3 := h2.2.1
  rw [P.st] at h3
  exact ⟨h1.2.1, h3⟩
theorem BI.step {x y : Mach} (P : Par x y) {s : BS} (b : BI x s) {i n : Nat} (hi : i < s.ps.length) (hn : n < x.inputs.toNat) : BI x (bst x y i n s) := by
  unfold bst
  split
  · exact b
  · split
    · exact ⟨b.nd, b.inp, b.len⟩
    · split
      · exact b
      · rename_i hm
        refine ⟨?_, ?_, by simp [b.len]⟩
        · rw [List.nodup_append]
          exact ⟨b.nd, by simp, by intro a ha c hc e; subst e; rw [List.mem_singleton] at hc; rw [hc] at ha; exact hm ha⟩
        · intro p hp
          rcases List.mem_append.mp hp with hp | hp
          · exact b.inp p hp
          · rw [List.mem_singleton] at hp; subst hp
            exact P.tgt (b.inp _ (gd_mem _ hi)) hn
theorem bst_grow {x y : Mach} {i n : Nat} {s : BS} : s.ps <+: (bst x y i n s).ps ∧ s.ws <+: (bst x y i n s).ws := by
  unfold bst
  split
  · exact ⟨List.prefix_refl _, List.prefix_refl _⟩
  · split
    · exact ⟨List.prefix_refl _, List.prefix_refl _⟩
    · split
      · exact ⟨List.prefix_refl _, List.prefix_refl _⟩
      · exact ⟨List.prefix_append _ _, List.prefix_append _ _⟩
theorem brow_grow {x y : Mach} {i : Nat} {s : BS} : ∀ n, s.ps <+: (brow x y i s n).ps ∧ s.ws <+: (brow x y i s n).ws
  | 0 => ⟨List.prefix_refl _, List.prefix_refl _⟩
  | n + 1 => ⟨(brow_grow n).1.trans bst_grow.1, (brow_grow n).2.trans bst_grow.2⟩
theorem BI.row {x y : Mach} (P : Par x y) {s : BS} (b : BI x s) {i : Nat} (hi : i < s.ps.length) : ∀ n, n ≤ x.inputs.toNat → BI x (brow x y i s n)
  | 0, _ => b
  | n + 1, h => (BI.row P b hi n (by omega)).step P (Nat.lt_of_lt_of_le hi (brow_grow n).1.length_le) (by omega)
theorem BI.all {x y : Mach} (P : Par x y) {p0 : Pr} (h0 : inP x p0) : ∀ k, BI x (bfs x y p0 k)
  | 0 => ⟨by simp [bfs], by intro p hp; simp [bfs] at hp; subst hp; exact h0, rfl⟩
  | k + 1 => by
    unfold bfs
    split
    · rename_i h; exact (BI.all P h0 k).row P h _ (Nat.le_refl _)
    · exact BI.all P h0 k
end Go.Proofs.Ytomiejfeclefaaa

set_option linter.unusedSimpArgs false
set_option linter.unusedVariables false
set_option linter.unnecessarySimpa false
set_option maxRecDepth 100000
set_option maxHeartbeats 4000000
namespace Go.Proofs.Ytomiejfeclefaaa
open Go.AM
variable {h g : Heap}
/-! ### relations -/


def prE (x : Mach) (ps : List Pr) (k : Nat) : Int :=
  if ¬ inP x (gt ps k) then 3 else if 0 < k ∧ 0 ≤ cmpP (gt ps (k - 1)) (gt ps k) then 14 else 0

def okP (x y : Mach) (ps : List Pr) (p : Pr) (w : Int) : Prop := (stO x p.a w).out = (stO y p.b w).out ∧ (⟨(stO x p.a w).to, (stO y p.b w).to⟩ : Pr) ∈ ps
open Classical in
noncomputable def prf (x y : Mach) (ps : List Pr) (k : Nat) : Int := if ∀ w : Nat, w < x.inputs.toNat → okP x y ps (gt ps k) w then 0 else 30
noncomputable def relE (x y : Mach) (ps : List Pr) : Nat × Int :=
  if (firstErr (prE x ps) ps.length).2 ≠ 0 then firstErr (prE x ps) ps.length
  else if ¬ (⟨x.start, y.start⟩ : Pr) ∈ ps then (0, 11)
  else if (firstErr (prf x y ps) ps.length).2 ≠ 0 then firstErr (prf x y ps) ps.length else (ps.length, 0)
theorem pr_r {x : Mach} {ps : List Pr} {k : Nat} (h : ¬ inP x (gt ps k)) : prE x ps k = 3 := by rw [prE, if_pos h]
theorem pr_o {x : Mach} {ps : List Pr} {k : Nat} (h : inP x (gt ps k)) (h1 : 0 < k ∧ 0 ≤ cmpP (gt ps (k - 1)) (gt ps k)) : prE x ps k = 14 := by rw [prE, if_neg (by simpa using h), if_pos h1]
theorem pr_n {x : Mach} {ps : List Pr} {k : Nat} (h : inP x (gt ps k)) (h1 : ¬ (0 < k ∧ 0 ≤ cmpP (gt ps (k - 1)) (gt ps k))) : prE x ps k = 0 := by rw [prE, if_neg (by simpa using h), if_neg h1]
theorem pr_ok {x : Mach} {ps : List Pr} {k : Nat} (h : prE x ps k = 0) : inP x (gt ps k) := by
  unfold prE at h
  split at h
  · cases h
  · rename_i q; simpa using q
theorem rel_a {x y : Mach} {ps : List Pr} {k : Nat} {e : Int} (hE : prE x ps k = e) (hJ : ∀ j, j < k → prE x ps j = 0) (hk : k < ps.length) (he : e ≠ 0) : relE x y ps = (k, e) := by
  subst hE
  rw [relE, firstErr_at hJ hk he, if_pos he]
theorem rel_m {x y : Mach} {ps : List Pr} (hJ : ∀ j, j < ps.length → prE x ps j = 0) (hm : ¬ (⟨x.start, y.start⟩ : Pr) ∈ ps) : relE x y ps = (0, 11) := by
  rw [relE, firstErr_no hJ, if_neg (by simp), if_pos hm]
theorem rel_p {x y : Mach} {ps : List Pr} {k w : Nat} (hJ : ∀ j, j < ps.length → prE x ps j = 0) (hm : (⟨x.start, y.start⟩ : Pr) ∈ ps) (hP : ∀ j, j < k → prf x y ps j = 0) (hk : k < ps.length) (hw : w < x.inputs.toNat) (hn : ¬ okP x y ps (gt ps k) w) : relE x y ps = (k, 30) := by
  have hp : prf x y ps k = 30 := by rw [prf, if_neg]; exact fun q => hn (q w hw)
  rw [relE, firstErr_no hJ, if_neg (by simp), if_neg (by simpa using hm), firstErr_at hP hk (by rw [hp]; decide), hp, if_pos (by simp)]
theorem rel_n {x y : Mach} {ps : List Pr} (hJ : ∀ j, j < ps.length → prE x ps j = 0) (hm : (⟨x.start, y.start⟩ : Pr) ∈ ps) (hP : ∀ j, j < ps.length → prf x y ps j = 0) : relE x y ps = (ps.length, 0) := by
  rw [relE, firstErr_no hJ, if_neg (by simp), if_neg (by simpa using hm), firstErr_no hP, if_neg (by simp)]
theorem prf_no {x y : Mach} {ps : List Pr} {k n : Nat} (hn : x.inputs.toNat ≤ n) (hw : ∀ w, w < n → okP x y ps (gt ps k) (w : Int)) : prf x y ps k = 0 := by
  rw [prf, if_pos fun w h => hw w (by omega)]
theorem cmpL_P (a b : Pr) : 0 ≤ cmpL [a.a, a.b] [b.a, b.b] ↔ 0 ≤ cmpP a b := by
  rw [cmpP, orOf_cons, orOf_cons, orOf_nil]
  unfold cmpI
  simp only [cmpL]
  repeat' split
  all_goals omega
theorem c16 {v y z : Value} {x : Mach} {l : List Mut} {ps : List Pr} (s : MacV g v x) (t : L g y l) (r : L g z ps) :
    Runs Try.prog 16 [v, y, z] g (if bothE x l ≠ 0 then mk2 0 (bothE x l) else mk2 (relE x (mutd x l) ps).1 (relE x (mutd x l) ps).2) g := by
  obtain ⟨tv, rfl, s⟩ := s
  have lt := r.lt
  obtain ⟨b0, q0, rfl, _⟩ := s.shape
  obtain ⟨b1, q1, rfl, _⟩ := t.shape
  have m := Mem.start g
  refine DetP.forget (by split <;> rfl) ?_
  refine w16 ?_
  unfold n16
  refine box_a m fun i0 h0 z0 p0 m => ?_
  ((with_reducible (refine mv_i ?_; refine mv_i ?_));
      (refine ldo_w (by assumption) (by infer_instance) (by with_unfolding_all rfl) ?_);
      (with_reducible (refine mv_i ?_));
      (refine bs_g (bs51_1 _ _ _ _) (by assumption) fun i h p m => ?_))
  refine call_r (Runs.lent (c47 (ls := [l]) ⟨_, rfl, s.lent⟩ (lent1 m (by infer_instance) t rfl))) ?_
  rw [all1]
  by_cases hB : bothE x l = 0
  · obtain ⟨e1, e2⟩ := bothE_ok hB
    obtain ⟨e3, e4, e5, e6⟩ := errM_ok e1
    obtain ⟨m1, m2⟩ := mutE_ok e2
    have hsm := small e1
    have hA := mutd_alk e3 e2
    have hAc := hA.chk e3
    have C := fun {h : Heap} {v y : Value} (s : MacV h v x) (t : L h y l) => c50 (g := h) s t (by omega) m2
    obtain ⟨ym, hy⟩ : ∃ ym, ym = mutd x l := ⟨_, rfl⟩
    rw [← hy] at hA hAc C
    rw [← hy, hB]
    obtain ⟨y1, y2, y3, y4, y5, _⟩ := hA
    have hyl : (ym.steps.length : Int) = ym.states * ym.inputs := by rw [y4, y1, y2]; exact e5
    obtain ⟨a1, a2, a3, a4⟩ := e4
    rw [if_neg (by simp)]
    ((with_reducible (refine mv_i ?_; refine mv_i ?_; refine neq_h (by first | assumption | decide) ?_; refine cnd_f ?_; refine mv_i ?_; refine len_g (by assumption) ?_; refine mv_i ?_)))
    refine loop1 ps.length (fun k h2 => Prec h h2 ∧ Mem g h2 [⟨some i0, [.int .i64 x.states, .int .i64 x.inputs, .int .i64 x.outputs, .int .i64 x.start, .slice b0 x.steps.length q0], z0⟩] ∧ ∀ j, j < k → prE x ps j = 0) ⟨⟨Stab.refl _⟩, m.sub (by simp), fun j hj => by omega⟩ ?_
    rintro k h2 _ hk ⟨p2, m, hJ⟩
    by_cases hkl : k < ps.length
    · by_cases hr : inP x (gt ps k)
      · have hr' := hr
        obtain ⟨⟨r1, r2⟩, r3, r4⟩ := hr
        ((with_reducible (refine lss_i (fun hc => ?_) (fun hc => ?_); refine cnd_t ?_; refine mv_i ?_));
            (refine idx_d (by assumption) (by with_unfolding_all rfl) (by omega) fun p hp => ?_);
            (refine ldr_w (by assumption) (by with_unfolding_all rfl) ?_);
            (with_reducible (refine alloc_z (by assumption) fun i h z p m => ?_; refine mv_i ?_));
            (refine st_w (by assumption) (by infer_instance) (by with_unfolding_all rfl) (by with_unfolding_all rfl) (by first | rfl | exact flat_ones (Flat.flat _)) (by infer_instance) fun h p m => ?_);
            (refine ia_o (by omega) (by omega) ?_);
            (refine ldo (by assumption) (q := by infer_instance) (by with_unfolding_all rfl) ?_);
            (with_reducible (refine fao ?_));
            (refine ldo (by assumption) (q := by infer_instance) (by with_unfolding_all rfl) ?_);
            (with_reducible (refine sub_a (by assumption) (by decide) (by decide) ?_));
            (refine call_r (c48 _ _ _) ?_);
            (with_reducible (refine not_d (fun hb => ?_) (fun hb => ?_); refine mv_i ?_; refine gd_ff ?_));
            (refine ia_o (by omega) (by omega) ?_);
            (with_reducible (refine gd_ff ?_));
            (refine ldo (by assumption) (q := by infer_instance) (by with_unfolding_all rfl) ?_);
            (with_reducible (refine gd_ff ?_; refine fao ?_; refine gd_ff ?_));
            (refine ldo (by assumption) (q := by infer_instance) (by with_unfolding_all rfl) ?_);
            (with_reducible (refine gd_ff ?_; refine sub_a (by assumption) (by decide) (by decide) ?_; refine gd_ff ?_));
            (refine call_r (c48 _ _ _) ?_);
            (with_reducible (refine gd_ff ?_; refine not_d (fun hb => ?_) (fun hb => ?_); refine pick_f ?_; refine cnd_f ?_; refine mv_i ?_; refine gtr_i (fun hc => ?_) (fun hc => ?_); refine mv_i ?_; refine gd_tt ?_; refine mv_i ?_; refine gd_tt ?_; refine mv_i ?_; refine gd_tt ?_; refine sub_j (by omega) (by omega) ?_; refine gd_tt ?_));
            (refine idx_dp (by assumption) (by with_unfolding_all rfl) (by omega) (by omega) fun p hp => ?_);
            (with_reducible (refine gd_tt ?_));
            (refine ldr_w (by assumption) (by with_unfolding_all rfl) ?_);
            (with_reducible (refine vb_f ?_; refine gd_tt ?_));
            (refine ldo_w (by assumption) (by infer_instance) (by with_unfolding_all rfl) ?_);
            (with_reducible (refine vb_f ?_; refine gd_tt ?_));
            (refine calld_r (c49 _ _) ?_);
            (with_reducible (refine new_n ?_; refine gd_tt ?_; refine geq_i (fun hc => ?_) (fun hc => ?_); refine pick_t ?_; refine cnd_t ?_; refine mv_i ?_; refine mv_i ?_; refine mv_i ?_; refine ret2 ?_));
            (rotate_left);
            (with_reducible (refine pick_t ?_; refine cnd_f ?_; refine inc_i (by omega) ?_; refine mv_i ?_));
            (rotate_left);
            (with_reducible (refine mv_i ?_; refine gd_ft ?_; refine gd_ft ?_; refine gd_ft ?_; refine gd_ft ?_; refine gd_ft ?_; refine gd_ft ?_; refine gd_ft ?_; refine gd_ft ?_; refine pick_f ?_; refine cnd_f ?_; refine inc_i (by omega) ?_; refine mv_i ?_));
            (rotate_left);
            (with_reducible (refine pick_f ?_; refine cnd_t ?_; refine mv_i ?_; refine mv_i ?_; refine mv_i ?_; refine ret2 ?_));
            (rotate_left);
            (with_reducible (refine mv_i ?_; refine gd_tf ?_; refine gd_tf ?_; refine gd_tf ?_; refine gd_tf ?_; refine gd_tf ?_; refine gd_tf ?_; refine gd_tf ?_; refine pick_t ?_; refine cnd_t ?_; refine mv_i ?_; refine mv_i ?_; refine mv_i ?_; refine ret2 ?_));
            (rotate_left);
            (with_reducible (refine cnd_f ?_));
            (refine ldo_w (by assumption) (by infer_instance) (by with_unfolding_all rfl) ?_);
            (with_reducible (refine mv_i ?_));
            (rotate_left))
        all_goals first
          | (refine next1 hkl ⟨⟨Stb.st⟩, m.sub (by simp), up_no (pr_n hr' ?_) hJ⟩
             rintro ⟨u1, u2⟩; omega)
          | (rw [rel_a (pr_o hr' ⟨by omega, by omega⟩) hJ hkl (by decide)]
             exact ⟨rfl, Mem.pre (by assumption)⟩)
          | (exfalso; omega)
      · ((with_reducible (refine lss_i (fun hc => ?_) (fun hc => ?_); refine cnd_t ?_; refine mv_i ?_));
          (refine idx_d (by assumption) (by with_unfolding_all rfl) (by omega) fun p hp => ?_);
          (refine ldr_w (by assumption) (by with_unfolding_all rfl) ?_);
          (with_reducible (refine alloc_z (by assumption) fun i h z p m => ?_; refine mv_i ?_));
          (refine st_w (by assumption) (by infer_instance) (by with_unfolding_all rfl) (by with_unfolding_all rfl) (by first | rfl | exact flat_ones (Flat.flat _)) (by infer_instance) fun h p m => ?_);
          (refine ia_o (by omega) (by omega) ?_);
          (refine ldo (by assumption) (q := by infer_instance) (by with_unfolding_all rfl) ?_);
          (with_reducible (refine fao ?_));
          (refine ldo (by assumption) (q := by infer_instance) (by with_unfolding_all rfl) ?_);
          (with_reducible (refine sub_a (by assumption) (by decide) (by decide) ?_));
          (refine call_r (c48 _ _ _) ?_);
          (with_reducible (refine not_d (fun hb => ?_) (fun hb => ?_); refine mv_i ?_; refine gd_ff ?_));
          (refine ia_o (by omega) (by omega) ?_);
          (with_reducible (refine gd_ff ?_));
          (refine ldo (by assumption) (q := by infer_instance) (by with_unfolding_all rfl) ?_);
          (with_reducible (refine gd_ff ?_; refine fao ?_; refine gd_ff ?_));
          (refine ldo (by assumption) (q := by infer_instance) (by with_unfolding_all rfl) ?_);
          (with_reducible (refine gd_ff ?_; refine sub_a (by assumption) (by decide) (by decide) ?_; refine gd_ff ?_));
          (refine call_r (c48 _ _ _) ?_);
          (with_reducible (refine gd_ff ?_; refine not_d (fun hb => ?_) (fun hb => ?_); refine pick_f ?_; refine cnd_f ?_; refine mv_i ?_; refine gtr_i (fun hc => ?_) (fun hc => ?_); refine mv_i ?_; refine gd_tt ?_; refine mv_i ?_; refine gd_tt ?_; refine mv_i ?_; refine gd_tt ?_; refine sub_j (by omega) (by omega) ?_; refine gd_tt ?_));
          (refine idx_dp (by assumption) (by with_unfolding_all rfl) (by omega) (by omega) fun p hp => ?_);
          (with_reducible (refine gd_tt ?_));
          (refine ldr_w (by assumption) (by with_unfolding_all rfl) ?_);
          (with_reducible (refine vb_f ?_; refine gd_tt ?_));
          (refine ldo_w (by assumption) (by infer_instance) (by with_unfolding_all rfl) ?_);
          (with_reducible (refine vb_f ?_; refine gd_tt ?_));
          (refine calld_r (c49 _ _) ?_);
          (with_reducible (refine new_n ?_; refine gd_tt ?_; refine geq_i (fun hc => ?_) (fun hc => ?_); refine pick_t ?_; refine cnd_t ?_; refine mv_i ?_; refine mv_i ?_; refine mv_i ?_; refine ret2 ?_));
          (rotate_left);
          (with_reducible (refine pick_t ?_; refine cnd_f ?_; refine inc_i (by omega) ?_; refine mv_i ?_));
          (rotate_left);
          (with_reducible (refine mv_i ?_; refine gd_ft ?_; refine gd_ft ?_; refine gd_ft ?_; refine gd_ft ?_; refine gd_ft ?_; refine gd_ft ?_; refine gd_ft ?_; refine gd_ft ?_; refine pick_f ?_; refine cnd_f ?_; refine inc_i (by omega) ?_; refine mv_i ?_));
          (rotate_left);
          (with_reducible (refine pick_f ?_; refine cnd_t ?_; refine mv_i ?_; refine mv_i ?_; refine mv_i ?_; refine ret2 ?_));
          (rotate_left);
          (with_reducible (refine mv_i ?_; refine gd_tf ?_; refine gd_tf ?_; refine gd_tf ?_; refine gd_tf ?_; refine gd_tf ?_; refine gd_tf ?_; refine gd_tf ?_; refine pick_t ?_; refine cnd_t ?_; refine mv_i ?_; refine mv_i ?_; refine mv_i ?_; refine ret2 ?_));
          (rotate_left);
          (with_reducible (refine cnd_f ?_));
          (refine ldo_w (by assumption) (by infer_instance) (by with_unfolding_all rfl) ?_);
          (with_reducible (refine mv_i ?_));
          (rotate_left))
        all_goals first
          | (rw [rel_a (pr_r hr) hJ hkl (by decide)]
             exact ⟨rfl, Mem.pre (by assumption)⟩)
          | (exact (hr ⟨by assumption, by assumption⟩).elim)
          | (exfalso; omega)
    · have hkk : k = ps.length := by omega
      subst hkk
      ((with_reducible (refine lss_i (fun hc => ?_) (fun hc => ?_); refine cnd_t ?_; refine mv_i ?_));
          (refine idx_d (by assumption) (by with_unfolding_all rfl) (by omega) fun p hp => ?_);
          (refine ldr_w (by assumption) (by with_unfolding_all rfl) ?_);
          (with_reducible (refine alloc_z (by assumption) fun i h z p m => ?_; refine mv_i ?_));
          (refine st_w (by assumption) (by infer_instance) (by with_unfolding_all rfl) (by with_unfolding_all rfl) (by first | rfl | exact flat_ones (Flat.flat _)) (by infer_instance) fun h p m => ?_);
          (refine ia_o (by omega) (by omega) ?_);
          (refine ldo (by assumption) (q := by infer_instance) (by with_unfolding_all rfl) ?_);
          (with_reducible (refine fao ?_));
          (refine ldo (by assumption) (q := by infer_instance) (by with_unfolding_all rfl) ?_);
          (with_reducible (refine sub_a (by assumption) (by decide) (by decide) ?_));
          (refine call_r (c48 _ _ _) ?_);
          (with_reducible (refine not_d (fun hb => ?_) (fun hb => ?_); refine mv_i ?_; refine gd_ff ?_));
          (refine ia_o (by omega) (by omega) ?_);
          (with_reducible (refine gd_ff ?_));
          (refine ldo (by assumption) (q := by infer_instance) (by with_unfolding_all rfl) ?_);
          (with_reducible (refine gd_ff ?_; refine fao ?_; refine gd_ff ?_));
          (refine ldo (by assumption) (q := by infer_instance) (by with_unfolding_all rfl) ?_);
          (with_reducible (refine gd_ff ?_; refine sub_a (by assumption) (by decide) (by decide) ?_; refine gd_ff ?_));
          (refine call_r (c48 _ _ _) ?_);
          (with_reducible (refine gd_ff ?_; refine not_d (fun hb => ?_) (fun hb => ?_); refine pick_f ?_; refine cnd_f ?_; refine mv_i ?_; refine gtr_i (fun hc => ?_) (fun hc => ?_); refine mv_i ?_; refine gd_tt ?_; refine mv_i ?_; refine gd_tt ?_; refine mv_i ?_; refine gd_tt ?_; refine sub_j (by omega) (by omega) ?_; refine gd_tt ?_));
          (refine idx_dp (by assumption) (by with_unfolding_all rfl) (by omega) (by omega) fun p hp => ?_);
          (with_reducible (refine gd_tt ?_));
          (refine ldr_w (by assumption) (by with_unfolding_all rfl) ?_);
          (with_reducible (refine vb_f ?_; refine gd_tt ?_));
          (refine ldo_w (by assumption) (by infer_instance) (by with_unfolding_all rfl) ?_);
          (with_reducible (refine vb_f ?_; refine gd_tt ?_));
          (refine calld_r (c49 _ _) ?_);
          (with_reducible (refine new_n ?_; refine gd_tt ?_; refine geq_i (fun hc => ?_) (fun hc => ?_); refine pick_t ?_; refine cnd_t ?_; refine mv_i ?_; refine mv_i ?_; refine mv_i ?_; refine ret2 ?_));
          (rotate_left);
          (with_reducible (refine pick_t ?_; refine cnd_f ?_; refine inc_i (by omega) ?_; refine mv_i ?_));
          (rotate_left);
          (with_reducible (refine mv_i ?_; refine gd_ft ?_; refine gd_ft ?_; refine gd_ft ?_; refine gd_ft ?_; refine gd_ft ?_; refine gd_ft ?_; refine gd_ft ?_; refine gd_ft ?_; refine pick_f ?_; refine cnd_f ?_; refine inc_i (by omega) ?_; refine mv_i ?_));
          (rotate_left);
          (with_reducible (refine pick_f ?_; refine cnd_t ?_; refine mv_i ?_; refine mv_i ?_; refine mv_i ?_; refine ret2 ?_));
          (rotate_left);
          (with_reducible (refine mv_i ?_; refine gd_tf ?_; refine gd_tf ?_; refine gd_tf ?_; refine gd_tf ?_; refine gd_tf ?_; refine gd_tf ?_; refine gd_tf ?_; refine pick_t ?_; refine cnd_t ?_; refine mv_i ?_; refine mv_i ?_; refine mv_i ?_; refine ret2 ?_));
          (rotate_left);
          (with_reducible (refine cnd_f ?_));
          (refine ldo_w (by assumption) (by infer_instance) (by with_unfolding_all rfl) ?_);
          (with_reducible (refine mv_i ?_));
          (rotate_left))
      all_goals (try (exfalso; omega))
      refine call_d (C ⟨_, rfl, s.up⟩ t.up) m fun v2 h2 p1 p2 m ⟨b2, q2, n2, e2, hn2, s2⟩ => ?_
      subst e2
      ((with_reducible (refine alloc_z (by assumption) fun i h z p m => ?_));
          (refine st_w (by assumption) (by infer_instance) (by with_unfolding_all rfl) (by with_unfolding_all rfl) (by first | rfl | exact flat_ones (Flat.flat _)) (by infer_instance) fun h p m => ?_);
          (with_reducible (refine mv_i ?_; refine fao ?_));
          (refine ldo (by assumption) (q := by infer_instance) (by with_unfolding_all rfl) ?_);
          (with_reducible (refine fao ?_));
          (refine ldo (by assumption) (q := by infer_instance) (by with_unfolding_all rfl) ?_);
          (refine vk_i (bd77_01 _ _) ?_);
          (refine call_r (c51 (L.up (by assumption)) _) ?_);
          (with_reducible (refine not_d (fun hb => ?_) (fun hb => ?_); refine cnd_f ?_; refine mv_i ?_; refine len_g (by assumption) ?_; refine mv_i ?_));
          (rotate_left);
          (with_reducible (refine cnd_t ?_; refine mv_i ?_; refine mv_i ?_; refine ret2 ?_));
          (rotate_left))
      · obtain ⟨iy, rfl⟩ : ∃ q, q = i := ⟨i, rfl⟩
        obtain ⟨zy, rfl⟩ : ∃ q, q = z := ⟨z, rfl⟩
        refine loop1 ps.length (fun k h2 => Prec h h2 ∧ Mem g h2 [⟨some iy, [.int .i64 ym.states, .int .i64 ym.inputs, .int .i64 ym.outputs, .int .i64 ym.start, .slice b2 n2 q2], zy⟩, ⟨some i0, [.int .i64 x.states, .int .i64 x.inputs, .int .i64 x.outputs, .int .i64 x.start, .slice b0 x.steps.length q0], z0⟩] ∧ ∀ j, j < k → prf x ym ps j = 0) ⟨⟨Stab.refl _⟩, m.sub (by simp), fun j hj => by omega⟩ ?_
        rintro k h3 _ hk ⟨p3, m, hP⟩
        ((with_reducible (refine lss_i (fun hc => ?_) (fun hc => ?_); refine cnd_t ?_; refine mv_i ?_));
            (refine idx_d (by assumption) (by with_unfolding_all rfl) (by omega) fun p hp => ?_);
            (refine ldr_w (by assumption) (by with_unfolding_all rfl) ?_);
            (with_reducible (refine alloc_z (by assumption) fun i h z p m => ?_; refine mv_i ?_));
            (refine st_w (by assumption) (by infer_instance) (by with_unfolding_all rfl) (by with_unfolding_all rfl) (by first | rfl | exact flat_ones (Flat.flat _)) (by infer_instance) fun h p m => ?_);
            (with_reducible (refine fao ?_));
            (refine ldo (by assumption) (q := by infer_instance) (by with_unfolding_all rfl) ?_);
            (with_reducible (refine mv_i ?_));
            (rotate_left);
            (with_reducible (refine cnd_f ?_; refine mv_i ?_; refine len_g (by assumption) ?_; refine mv_i ?_; refine mv_i ?_; refine ret2 ?_));
            (rotate_left))
        · have hkl : k < ps.length := by omega
          obtain ⟨⟨r1, r2⟩, r3, r4⟩ := pr_ok (hJ k hkl)
          refine loop1 x.inputs.toNat (fun w h4 => Prec h h4 ∧ Mem g h4 [⟨some i, Flat.cells (gt ps k), z⟩, ⟨some iy, [.int .i64 ym.states, .int .i64 ym.inputs, .int .i64 ym.outputs, .int .i64 ym.start, .slice b2 n2 q2], zy⟩, ⟨some i0, [.int .i64 x.states, .int .i64 x.inputs, .int .i64 x.outputs, .int .i64 x.start, .slice b0 x.steps.length q0], z0⟩] ∧ ∀ j, j < w → okP x ym ps (gt ps k) (j : Int)) ⟨⟨Stab.refl _⟩, m.sub (by simp), fun j hj => by omega⟩ ?_
          rintro w h4 _ hw ⟨p4, m, hW⟩
          ((with_reducible (refine lss_i (fun hc => ?_) (fun hc => ?_); refine cnd_t ?_; refine mv_i ?_; refine mv_i ?_));
              (refine ldo_w (by assumption) (by infer_instance) (by with_unfolding_all rfl) ?_);
              (refine vb_mac (by assumption) ?_);
              (refine ia_o (by omega) (by omega) ?_);
              (refine ldo (by assumption) (q := by infer_instance) (by with_unfolding_all rfl) ?_);
              (refine vb_n (by with_unfolding_all rfl) ?_);
              (with_reducible (refine mv_i ?_));
              (rotate_left);
              (with_reducible (refine cnd_f ?_; refine inc_i (by omega) ?_; refine mv_i ?_));
              (rotate_left))
          · refine calld_r (c52 ⟨_, rfl, s.up⟩ e3 e5 (q := (gt ps k).a) (w := (w : Int)) ⟨r1, r2⟩ ⟨by omega, by omega⟩) ?_
            ((with_reducible (refine new_n ?_));
                (refine ldo_w (by assumption) (by infer_instance) (by with_unfolding_all rfl) ?_);
                (refine vb_mac (by assumption) ?_);
                (refine ia_o (by omega) (by omega) ?_);
                (refine ldo (by assumption) (q := by infer_instance) (by with_unfolding_all rfl) ?_);
                (refine vb_n (by with_unfolding_all rfl) ?_);
                (with_reducible (refine mv_i ?_)))
            refine calld_r (c52 ⟨_, rfl, s2.up⟩ hAc hyl (q := (gt ps k).b) (w := (w : Int)) ⟨r3, by omega⟩ ⟨by omega, by omega⟩) ?_
            ((with_reducible (refine new_n ?_; refine alloc_z (by assumption) fun i h z p m => ?_; refine alloc_z (by assumption) fun i h z p m => ?_));
                (refine st_w (by assumption) (by infer_instance) (by with_unfolding_all rfl) (by with_unfolding_all rfl) (by first | rfl | exact flat_ones (Flat.flat _)) (by infer_instance) fun h p m => ?_);
                (with_reducible (refine ⟨trivial, ?_⟩));
                (refine st_w (by assumption) (by infer_instance) (by with_unfolding_all rfl) (by with_unfolding_all rfl) (by first | rfl | exact flat_ones (Flat.flat _)) (by infer_instance) fun h p m => ?_);
                (with_reducible (refine ⟨trivial, ?_⟩; refine fao ?_));
                (refine ldo (by assumption) (q := by infer_instance) (by with_unfolding_all rfl) ?_);
                (with_reducible (refine fao ?_));
                (refine ldo (by assumption) (q := by infer_instance) (by with_unfolding_all rfl) ?_);
                (with_reducible (refine neq_i (fun hc => ?_) (fun hc => ?_); refine mv_i ?_; refine gd_ff ?_; refine mv_i ?_; refine gd_ff ?_; refine fao ?_; refine gd_ff ?_));
                (refine ldo (by assumption) (q := by infer_instance) (by with_unfolding_all rfl) ?_);
                (with_reducible (refine gd_ff ?_; refine fao ?_; refine gd_ff ?_));
                (refine ldo (by assumption) (q := by infer_instance) (by with_unfolding_all rfl) ?_);
                (with_reducible (refine gd_ff ?_));
                (refine vk_i (bd77_01 _ _) ?_);
                (with_reducible (refine gd_ff ?_));
                (refine call_r (c51 (L.up (by assumption)) _) ?_);
                (with_reducible (refine gd_ff ?_; refine not_d (fun hb => ?_) (fun hb => ?_); refine pick_f ?_; refine cnd_f ?_; refine inc_i (by omega) ?_; refine mv_i ?_));
                (rotate_left);
                (with_reducible (refine pick_f ?_; refine cnd_t ?_; refine mv_i ?_; refine mv_i ?_; refine mv_i ?_; refine ret2 ?_));
                (rotate_left);
                (with_reducible (refine mv_i ?_; refine gd_tf ?_; refine gd_tf ?_; refine gd_tf ?_; refine gd_tf ?_; refine gd_tf ?_; refine gd_tf ?_; refine gd_tf ?_; refine gd_tf ?_; refine pick_t ?_; refine cnd_t ?_; refine mv_i ?_; refine mv_i ?_; refine mv_i ?_; refine ret2 ?_));
                (rotate_left))
            · refine next1 (by omega) ⟨⟨Stb.st⟩, m.sub (by simp), fun j hj => ?_⟩
              by_cases q : j = w
              · subst q; exact And.intro hc hb
              · exact hW j (by omega)
            · rw [rel_p hJ (by assumption) hP hkl (w := w) (by omega) fun q => hb (And.right q)]
              exact ⟨rfl, Mem.pre (by assumption)⟩
            · rw [rel_p hJ (by assumption) hP hkl (w := w) (by omega) fun q => hc (And.left q)]
              exact ⟨rfl, Mem.pre (by assumption)⟩
          · refine next1 hkl ⟨⟨Stb.st⟩, m.tail, up_no (prf_no (n := w) (by omega) hW) hP⟩
        · rw [rel_n hJ (by assumption) fun j hj => hP j (by omega)]
          exact ⟨rfl, Mem.pre (by assumption)⟩
      · rw [rel_m hJ (by assumption)]
        exact ⟨rfl, Mem.pre (by assumption)⟩
  · rw [if_pos hB]
    ((with_reducible (refine mv_i ?_; refine mv_i ?_; refine neq_n (by first | assumption | decide) ?_; refine cnd_t ?_; refine mv_i ?_; refine mv_i ?_; refine mv_i ?_; refine ret2 ?_)))
    exact ⟨rfl, Mem.pre (by assumption)⟩
theorem c19 {v y z : Value} {x : Mach} {l : List Mut} {ps : List Pr} (s : MacV g v x) (t : L g y l) (r : L g z ps) (hB : bothE x l = 0) :
    Runs Try.prog 19 [v, y, z] g (mk2 (relE x (mutd x l) ps).1 (relE x (mutd x l) ps).2) g := by
  obtain ⟨tv, rfl, s⟩ := s
  have lt := r.lt
  obtain ⟨b0, q0, rfl, _⟩ := s.shape
  have m := Mem.start g
  refine DetP.forget rfl ?_
  refine w19 ?_
  unfold n19
  obtain ⟨e1, e2⟩ := bothE_ok hB
  obtain ⟨e3, e4, e5, e6⟩ := errM_ok e1
  obtain ⟨m1, m2⟩ := mutE_ok e2
  have hsm := small e1
  have hA := mutd_alk e3 e2
  have hAc := hA.chk e3
  have C := fun {h : Heap} {v y : Value} (s : MacV h v x) (t : L h y l) => c24 (g := h) s t (by omega) m2
  obtain ⟨ym, hy⟩ : ∃ ym, ym = mutd x l := ⟨_, rfl⟩
  rw [← hy] at hA hAc C
  rw [← hy]
  obtain ⟨y1, y2, y3, y4, y5, _⟩ := hA
  have hyl : (ym.steps.length : Int) = ym.states * ym.inputs := by rw [y4, y1, y2]; exact e5
  obtain ⟨a1, a2, a3, a4⟩ := e4
  refine box_a m fun i0 h0 z0 p0 m => ?_
  ((with_reducible (refine mv_i ?_; refine mv_i ?_));
      (refine ldo_w (by assumption) (by infer_instance) (by with_unfolding_all rfl) ?_);
      (with_reducible (refine mv_i ?_)))
  refine call_d (C ⟨_, rfl, s.up⟩ t.up) m fun v2 h2 p1 p2 m ⟨b2, q2, n2, e2, hn2, s2⟩ => ?_
  subst e2
  ((with_reducible (refine alloc_z (by assumption) fun i h z p m => ?_));
      (refine st_w (by assumption) (by infer_instance) (by with_unfolding_all rfl) (by with_unfolding_all rfl) (by first | rfl | exact flat_ones (Flat.flat _)) (by infer_instance) fun h p m => ?_);
      (with_reducible (refine mv_i ?_)))
  obtain ⟨iy, rfl⟩ : ∃ q, q = i := ⟨i, rfl⟩
  obtain ⟨zy, rfl⟩ : ∃ q, q = z := ⟨z, rfl⟩
  obtain ⟨hx, rfl⟩ : ∃ q, q = h := ⟨h, rfl⟩
  refine loop1 ps.length (fun k h2 => Prec hx h2 ∧ Mem g h2 [⟨some iy, [.int .i64 ym.states, .int .i64 ym.inputs, .int .i64 ym.outputs, .int .i64 ym.start, .slice b2 n2 q2], zy⟩, ⟨some i0, [.int .i64 x.states, .int .i64 x.inputs, .int .i64 x.outputs, .int .i64 x.start, .slice b0 x.steps.length q0], z0⟩] ∧ ∀ j, j < k → prE x ps j = 0) ⟨⟨Stab.refl _⟩, m, fun j hj => by omega⟩ ?_
  rintro k h2 _ hk ⟨p2, m, hJ⟩
  ((with_reducible (refine mv_i ?_; refine mv_i ?_; refine len_g (by assumption) ?_; refine lss_i (fun hc => ?_) (fun hc => ?_); refine cnd_t ?_; refine mv_i ?_; refine mv_i ?_));
      (refine idx_d (by assumption) (by with_unfolding_all rfl) (by omega) fun p hp => ?_);
      (refine ia_g (by assumption) (by omega) (by omega) fun p hp => ?_);
      (refine ld_g (by assumption) (by with_unfolding_all rfl) ?_);
      (refine vb_n (by with_unfolding_all rfl) ?_);
      (with_reducible (refine fao ?_));
      (refine ldo (by assumption) (q := by infer_instance) (by with_unfolding_all rfl) ?_);
      (refine vb_n (by with_unfolding_all rfl) ?_);
      (with_reducible (refine sub_a (by assumption) (by decide) (by decide) ?_));
      (refine calld_r (c53 _ _ _) ?_);
      (with_reducible (refine new_n ?_; refine not_d (fun hb => ?_) (fun hb => ?_); refine mv_i ?_; refine gd_ff ?_; refine mv_i ?_; refine gd_ff ?_; refine mv_i ?_; refine gd_ff ?_));
      (refine idx_d (by assumption) (by with_unfolding_all rfl) (by omega) fun p hp => ?_);
      (with_reducible (refine gd_ff ?_));
      (refine ia_g (by assumption) (by omega) (by omega) fun p hp => ?_);
      (with_reducible (refine gd_ff ?_));
      (refine ld_g (by assumption) (by with_unfolding_all rfl) ?_);
      (refine vb_n (by with_unfolding_all rfl) ?_);
      (with_reducible (refine gd_ff ?_; refine fao ?_; refine gd_ff ?_));
      (refine ldo (by assumption) (q := by infer_instance) (by with_unfolding_all rfl) ?_);
      (refine vb_n (by with_unfolding_all rfl) ?_);
      (with_reducible (refine gd_ff ?_; refine sub_a (by assumption) (by decide) (by decide) ?_; refine gd_ff ?_));
      (refine calld_r (c53 _ _ _) ?_);
      (with_reducible (refine new_n ?_; refine gd_ff ?_; refine not_d (fun hb => ?_) (fun hb => ?_); refine pick_f ?_; refine cnd_f ?_; refine mv_i ?_; refine gtr_i (fun hc => ?_) (fun hc => ?_); refine mv_i ?_; refine gd_tt ?_; refine mv_i ?_; refine gd_tt ?_; refine mv_i ?_; refine gd_tt ?_; refine sub_j (by omega) (by omega) ?_; refine gd_tt ?_));
      (refine idx_dp (by assumption) (by with_unfolding_all rfl) (by omega) (by omega) fun p hp => ?_);
      (with_reducible (refine gd_tt ?_));
      (refine ia_g (by assumption) (by omega) (by omega) fun p hp => ?_);
      (with_reducible (refine gd_tt ?_));
      (refine ld_g (by assumption) (by with_unfolding_all rfl) ?_);
      (refine vb_n (by with_unfolding_all rfl) ?_);
      (with_reducible (refine gd_tt ?_; refine mv_i ?_; refine gd_tt ?_; refine mv_i ?_; refine gd_tt ?_; refine sub_j (by omega) (by omega) ?_; refine gd_tt ?_));
      (refine idx_dp (by assumption) (by with_unfolding_all rfl) (by omega) (by omega) fun p hp => ?_);
      (with_reducible (refine gd_tt ?_));
      (refine ia_g (by assumption) (by omega) (by omega) fun p hp => ?_);
      (with_reducible (refine gd_tt ?_));
      (refine ld_g (by assumption) (by with_unfolding_all rfl) ?_);
      (refine vb_n (by with_unfolding_all rfl) ?_);
      (with_reducible (refine gd_tt ?_));
      (refine bs_g (bs53_2 _ _ _) (by assumption) fun i h p m => ?_);
      (with_reducible (refine gd_tt ?_; refine mv_i ?_; refine gd_tt ?_; refine mv_i ?_; refine gd_tt ?_));
      (refine idx_d (by assumption) (by with_unfolding_all rfl) (by omega) fun p hp => ?_);
      (with_reducible (refine gd_tt ?_));
      (refine ia_g (by assumption) (by omega) (by omega) fun p hp => ?_);
      (with_reducible (refine gd_tt ?_));
      (refine ld_g (by assumption) (by with_unfolding_all rfl) ?_);
      (refine vb_n (by with_unfolding_all rfl) ?_);
      (with_reducible (refine gd_tt ?_; refine mv_i ?_; refine gd_tt ?_; refine mv_i ?_; refine gd_tt ?_));
      (refine idx_d (by assumption) (by with_unfolding_all rfl) (by omega) fun p hp => ?_);
      (with_reducible (refine gd_tt ?_));
      (refine ia_g (by assumption) (by omega) (by omega) fun p hp => ?_);
      (with_reducible (refine gd_tt ?_));
      (refine ld_g (by assumption) (by with_unfolding_all rfl) ?_);
      (refine vb_n (by with_unfolding_all rfl) ?_);
      (with_reducible (refine gd_tt ?_));
      (refine bs_g (bs53_2 _ _ _) (by assumption) fun i h p m => ?_);
      (with_reducible (refine gd_tt ?_));
      (refine calld_r (c54 (own_ints (xs := [_, _]) (by assumption) (q := by infer_instance) rfl rfl (by decide)) (own_ints (xs := [_, _]) (by assumption) (q := by infer_instance) rfl rfl (by decide))) ?_);
      (with_reducible (refine new_n ?_; refine gd_tt ?_; refine geq_i (fun hc => ?_) (fun hc => ?_); refine pick_t ?_; refine cnd_t ?_; refine mv_i ?_; refine mv_i ?_; refine mv_i ?_; refine ret2 ?_));
      (rotate_left);
      (with_reducible (refine pick_t ?_; refine cnd_f ?_; refine mv_i ?_; refine inc_i (by omega) ?_; refine mv_i ?_));
      (rotate_left);
      (with_reducible (refine mv_i ?_; refine gd_ft ?_; refine gd_ft ?_; refine gd_ft ?_; refine gd_ft ?_; refine gd_ft ?_; refine gd_ft ?_; refine gd_ft ?_; refine gd_ft ?_; refine gd_ft ?_; refine gd_ft ?_; refine gd_ft ?_; refine gd_ft ?_; refine gd_ft ?_; refine gd_ft ?_; refine gd_ft ?_; refine gd_ft ?_; refine gd_ft ?_; refine gd_ft ?_; refine gd_ft ?_; refine gd_ft ?_; refine gd_ft ?_; refine gd_ft ?_; refine gd_ft ?_; refine gd_ft ?_; refine gd_ft ?_; refine gd_ft ?_; refine pick_f ?_; refine cnd_f ?_; refine mv_i ?_; refine inc_i (by omega) ?_; refine mv_i ?_));
      (rotate_left);
      (with_reducible (refine pick_f ?_; refine cnd_t ?_; refine mv_i ?_; refine mv_i ?_; refine mv_i ?_; refine ret2 ?_));
      (rotate_left);
      (with_reducible (refine mv_i ?_; refine gd_tf ?_; refine gd_tf ?_; refine gd_tf ?_; refine gd_tf ?_; refine gd_tf ?_; refine gd_tf ?_; refine gd_tf ?_; refine gd_tf ?_; refine gd_tf ?_; refine gd_tf ?_; refine pick_t ?_; refine cnd_t ?_; refine mv_i ?_; refine mv_i ?_; refine mv_i ?_; refine ret2 ?_));
      (rotate_left);
      (with_reducible (refine cnd_f ?_; refine mv_i ?_; refine fao ?_));
      (refine ldo (by assumption) (q := by infer_instance) (by with_unfolding_all rfl) ?_);
      (with_reducible (refine fao ?_));
      (refine ldo (by assumption) (q := by infer_instance) (by with_unfolding_all rfl) ?_);
      (refine call_r (c55 (L.up (by assumption)) _ _) ?_);
      (with_reducible (refine not_d (fun hb => ?_) (fun hb => ?_); refine cnd_f ?_; refine mv_i ?_));
      (rotate_left);
      (with_reducible (refine cnd_t ?_; refine mv_i ?_; refine mv_i ?_; refine ret2 ?_));
      (rotate_left))
  · have hkl : k < ps.length := by omega
    have hr : inP x (gt ps k) := ⟨by assumption, by assumption⟩
    rw [cmpL_P] at hc
    rw [rel_a (pr_o hr ⟨by omega, hc⟩) hJ hkl (by decide)]
    exact ⟨rfl, Mem.pre (by assumption)⟩
  · have hkl : k < ps.length := by omega
    have hr : inP x (gt ps k) := ⟨by assumption, by assumption⟩
    rw [cmpL_P] at hc
    exact next1 hkl ⟨⟨Stb.st⟩, m.sub (by simp), up_no (pr_n hr fun q => hc q.2) hJ⟩
  · have hkl : k < ps.length := by omega
    have hr : inP x (gt ps k) := ⟨by assumption, by assumption⟩
    exact next1 hkl ⟨⟨Stb.st⟩, m.sub (by simp), up_no (pr_n hr fun q => hc (by omega)) hJ⟩
  · have hkl : k < ps.length := by omega
    rw [rel_a (pr_r fun q => hb q.2) hJ hkl (by decide)]
    exact ⟨rfl, Mem.pre (by assumption)⟩
  · have hkl : k < ps.length := by omega
    rw [rel_a (pr_r fun q => hb q.1) hJ hkl (by decide)]
    exact ⟨rfl, Mem.pre (by assumption)⟩
  · have hkk : k = ps.length := by omega
    subst hkk
    refine loop1 ps.length (fun k h2 => Prec hx h2 ∧ Mem g h2 [⟨some iy, [.int .i64 ym.states, .int .i64 ym.inputs, .int .i64 ym.outputs, .int .i64 ym.start, .slice b2 n2 q2], zy⟩, ⟨some i0, [.int .i64 x.states, .int .i64 x.inputs, .int .i64 x.outputs, .int .i64 x.start, .slice b0 x.steps.length q0], z0⟩] ∧ ∀ j, j < k → prf x ym ps j = 0) ⟨⟨Stb.st⟩, m, fun j hj => by omega⟩ ?_
    rintro k h3 _ hk ⟨p3, m, hP⟩
    ((with_reducible (refine mv_i ?_; refine mv_i ?_; refine len_g (by assumption) ?_; refine lss_i (fun hc => ?_) (fun hc => ?_); refine cnd_t ?_; refine mv_i ?_));
        (rotate_left);
        (with_reducible (refine cnd_f ?_; refine mv_i ?_; refine len_g (by assumption) ?_; refine mv_i ?_; refine mv_i ?_; refine ret2 ?_));
        (rotate_left))
    · have hkl : k < ps.length := by omega
      obtain ⟨⟨r1, r2⟩, r3, r4⟩ := pr_ok (hJ k hkl)
      refine loop1 x.inputs.toNat (fun w h4 => Prec hx h4 ∧ Mem g h4 [⟨some iy, [.int .i64 ym.states, .int .i64 ym.inputs, .int .i64 ym.outputs, .int .i64 ym.start, .slice b2 n2 q2], zy⟩, ⟨some i0, [.int .i64 x.states, .int .i64 x.inputs, .int .i64 x.outputs, .int .i64 x.start, .slice b0 x.steps.length q0], z0⟩] ∧ ∀ j, j < w → okP x ym ps (gt ps k) (j : Int)) ⟨⟨Stb.st⟩, m, fun j hj => by omega⟩ ?_
      rintro w h4 _ hw ⟨p4, m, hW⟩
      ((with_reducible (refine mv_i ?_; refine fao ?_));
          (refine ldo (by assumption) (q := by infer_instance) (by with_unfolding_all rfl) ?_);
          (with_reducible (refine lss_i (fun hc => ?_) (fun hc => ?_); refine cnd_t ?_));
          (refine ldo_w (by assumption) (by infer_instance) (by with_unfolding_all rfl) ?_);
          (refine vb_mac (by assumption) ?_);
          (with_reducible (refine mv_i ?_; refine mv_i ?_));
          (refine idx_d (by assumption) (by with_unfolding_all rfl) (by omega) fun p hp => ?_);
          (refine ia_g (by assumption) (by omega) (by omega) fun p hp => ?_);
          (refine ld_g (by assumption) (by with_unfolding_all rfl) ?_);
          (refine vb_n (by with_unfolding_all rfl) ?_);
          (with_reducible (refine mv_i ?_));
          (rotate_left);
          (with_reducible (refine cnd_f ?_; refine mv_i ?_; refine inc_i (by omega) ?_; refine mv_i ?_));
          (rotate_left))
      · refine calld_r (c56 ⟨_, rfl, s.up⟩ e3 e5 (q := (gt ps k).a) (w := (w : Int)) ⟨r1, r2⟩ ⟨by omega, by omega⟩) ?_
        ((with_reducible (refine new_n ?_; refine mv_i ?_; refine ex2_0 ?_; refine ex2_1 ?_; refine mv_i ?_; refine mv_i ?_));
            (refine ldo_w (by assumption) (by infer_instance) (by with_unfolding_all rfl) ?_);
            (refine vb_mac (by assumption) ?_);
            (with_reducible (refine mv_i ?_; refine mv_i ?_));
            (refine idx_d (by assumption) (by with_unfolding_all rfl) (by omega) fun p hp => ?_);
            (refine ia_g (by assumption) (by omega) (by omega) fun p hp => ?_);
            (refine ld_g (by assumption) (by with_unfolding_all rfl) ?_);
            (refine vb_n (by with_unfolding_all rfl) ?_);
            (with_reducible (refine mv_i ?_)))
        refine calld_r (c56 ⟨_, rfl, s2.up⟩ hAc hyl (q := (gt ps k).b) (w := (w : Int)) ⟨r3, by omega⟩ ⟨by omega, by omega⟩) ?_
        ((with_reducible (refine new_n ?_; refine mv_i ?_; refine ex2_0 ?_; refine ex2_1 ?_; refine mv_i ?_; refine mv_i ?_; refine mv_i ?_; refine mv_i ?_; refine neq_i (fun hc => ?_) (fun hc => ?_); refine mv_i ?_; refine gd_ff ?_; refine mv_i ?_; refine gd_ff ?_; refine mv_i ?_; refine gd_ff ?_; refine mv_i ?_; refine gd_ff ?_));
            (refine call_r (c55 (L.up (by assumption)) _ _) ?_);
            (with_reducible (refine gd_ff ?_; refine not_d (fun hb => ?_) (fun hb => ?_); refine pick_f ?_; refine cnd_f ?_; refine mv_i ?_; refine inc_i (by omega) ?_; refine mv_i ?_));
            (rotate_left);
            (with_reducible (refine pick_f ?_; refine cnd_t ?_; refine mv_i ?_; refine mv_i ?_; refine mv_i ?_; refine ret2 ?_));
            (rotate_left);
            (with_reducible (refine mv_i ?_; refine gd_tf ?_; refine gd_tf ?_; refine gd_tf ?_; refine gd_tf ?_; refine gd_tf ?_; refine pick_t ?_; refine cnd_t ?_; refine mv_i ?_; refine mv_i ?_; refine mv_i ?_; refine ret2 ?_));
            (rotate_left))
        · refine next1 (by omega) ⟨⟨Stb.st⟩, m, fun j hj => ?_⟩
          by_cases q : j = w
          · subst q; exact And.intro hc hb
          · exact hW j (by omega)
        · rw [rel_p hJ (by assumption) hP hkl (w := w) (by omega) fun q => hb (And.right q)]
          exact ⟨rfl, Mem.pre (by assumption)⟩
        · rw [rel_p hJ (by assumption) hP hkl (w := w) (by omega) fun q => hc (And.left q)]
          exact ⟨rfl, Mem.pre (by assumption)⟩
      · exact next1 hkl ⟨⟨Stb.st⟩, m, up_no (prf_no (n := w) (by omega) hW) hP⟩
    · rw [rel_n hJ (by assumption) fun j hj => hP j (by omega)]
      exact ⟨rfl, Mem.pre (by assumption)⟩
  · have hkk : k = ps.length := by omega
    subst hkk
    rw [rel_m hJ (by assumption)]
    exact ⟨rfl, Mem.pre (by assumption)⟩
end Go.Proofs.Ytomiejfeclefaaa

set_option linter.unusedSimpArgs false
set_option linter.unusedVariables false
set_option linter.unnecessarySimpa false
set_option maxRecDepth 100000
set_option maxHeartbeats 4000000
namespace Go.Proofs.Ytomiejfeclefaaa
open Go.AM
variable {h g : Heap}
theorem c4 {v y z : Value} {x : Mach} {l : List Mut} {ps : List Pr} (s : MacV g v x) (t : L g y l) (r : L g z ps) (hb : x.steps.length ≤ 1048576) (hl : l.length ≤ 1048576) (hp : ps.length ≤ 1048576) : DetP Try.prog 4 [v, y, z] g fun v' _ => v' = .bool true := by
  obtain ⟨tv, rfl, s⟩ := s
  obtain ⟨b0, q0, rfl, _⟩ := s.shape
  have m := Mem.start g
  refine w4 ?_
  unfold n4
  by_cases hE : bothE x l = 0
  ·
    ((with_reducible (refine box_a (by assumption) fun i h z p m => ?_; refine mv_i ?_));
        (refine call_r c11 ?_);
        (with_reducible (refine not_t ?_; refine cnd_f ?_));
        (refine ldo_w (by assumption) (by infer_instance) (by with_unfolding_all rfl) ?_))
    refine call_d (c14 ⟨_, rfl, s.up⟩ hb) m fun v1 h1 p1 p2 m ⟨b1, q1, n1, e1, hn1, s1⟩ => ?_
    subst e1
    ((with_reducible (refine mv_i ?_)))
    refine call_d (c17 t.up hl) m fun v2 h2 p3 p4 m ⟨b2, q2, n2, e2, hn2, s2⟩ => ?_
    subst e2
    ((refine bs_g (bs36_0 _) (by assumption) fun i h p m => ?_);
        (with_reducible (refine mv_i ?_)))
    refine app_copy m (by infer_instance) r rfl (by omega) fun vp op hp pp hs m => ?_
    simp only [List.set_cons_zero] at m
    obtain ⟨bp, cp, rfl⟩ := hs.isS
    skip
    refine call_r (Runs.lent (c16 (x := x) (l := l) (ps := ps) ⟨_, rfl, s1.lent⟩ s2.lent (hs.lent m (by infer_instance) (by omega)))) ?_
    rw [if_neg (by simpa using hE)]
    unfold mk2
    ((with_reducible (refine mv_i ?_; refine ex2_0 ?_; refine ex2_1 ?_; refine mv_i ?_; refine mv_i ?_));
        (refine ldo_w (by assumption) (by infer_instance) (by with_unfolding_all rfl) ?_);
        (with_reducible (refine mv_i ?_)))
    have C := fun {h : Heap} {v y : Value} (s : MacV h v x) (t : L h y l) => c18 (g := h) s t
    rw [hE] at C
    refine call_r (C ⟨_, rfl, s.up⟩ t.up) ?_
    ((with_reducible (refine mv_i ?_; refine mv_i ?_)))
    refine seq_J (fun xs h6 => xs = [.int .i64 (relE x (mutd x l) ps).2, .int .i64 ((relE x (mutd x l) ps).1 : Int)]) ?_ ?_
    · rintro _ h6 rfl
      (((with_reducible refine fun (_ : Tmps) => ?_); (try dsimp only [nth]));
          (with_reducible (refine mv_i ?_; refine mv_i ?_; refine eql_i (fun hc => ?_) (fun hc => ?_); refine mv_i ?_; refine gd_tt ?_; refine mv_i ?_; refine gd_tt ?_; refine mv_i ?_; refine gd_tt ?_; refine eql_i (fun hc => ?_) (fun hc => ?_); refine pick_t ?_; refine mv_i ?_; refine ret1 ?_));
          (rotate_left);
          (with_reducible (refine pick_t ?_; refine mv_i ?_; refine ret1 ?_));
          (rotate_left);
          (with_reducible (refine mv_i ?_; refine gd_ft ?_; refine gd_ft ?_; refine gd_ft ?_; refine pick_f ?_; refine mv_i ?_; refine ret1 ?_));
          (rotate_left))
      all_goals first | rfl | (exfalso; contradiction)
    · intro k' hk'
      ((with_reducible (refine mv_i ?_; refine eql_h (by first | assumption | decide) ?_; refine cnd_t ?_));
          (refine ldo_w (by assumption) (by infer_instance) (by with_unfolding_all rfl) ?_);
          (with_reducible (refine mv_i ?_; refine mv_i ?_)))
      all_goals (try (exfalso; contradiction))
      refine call_r (c19 ⟨_, rfl, s.up⟩ t.up r.up hE) ?_
      unfold mk2
      ((with_reducible (refine mv_i ?_; refine ex2_0 ?_; refine ex2_1 ?_; refine mv_i ?_; refine mv_i ?_)))
      exact hk' _ _ rfl
  ·
    ((with_reducible (refine box_a (by assumption) fun i h z p m => ?_; refine mv_i ?_));
        (refine call_r c11 ?_);
        (with_reducible (refine not_t ?_; refine cnd_f ?_));
        (refine ldo_w (by assumption) (by infer_instance) (by with_unfolding_all rfl) ?_))
    refine call_d (c14 ⟨_, rfl, s.up⟩ hb) m fun v1 h1 p1 p2 m ⟨b1, q1, n1, e1, hn1, s1⟩ => ?_
    subst e1
    ((with_reducible (refine mv_i ?_)))
    refine call_d (c17 t.up hl) m fun v2 h2 p3 p4 m ⟨b2, q2, n2, e2, hn2, s2⟩ => ?_
    subst e2
    ((refine bs_g (bs36_0 _) (by assumption) fun i h p m => ?_);
        (with_reducible (refine mv_i ?_)))
    refine app_copy m (by infer_instance) r rfl (by omega) fun vp op hp pp hs m => ?_
    simp only [List.set_cons_zero] at m
    obtain ⟨bp, cp, rfl⟩ := hs.isS
    skip
    refine call_r (Runs.lent (c16 (x := x) (l := l) (ps := ps) ⟨_, rfl, s1.lent⟩ s2.lent (hs.lent m (by infer_instance) (by omega)))) ?_
    rw [if_pos hE]
    unfold mk2
    ((with_reducible (refine mv_i ?_; refine ex2_0 ?_; refine ex2_1 ?_; refine mv_i ?_; refine mv_i ?_));
        (refine ldo_w (by assumption) (by infer_instance) (by with_unfolding_all rfl) ?_);
        (with_reducible (refine mv_i ?_)))
    refine call_r (c18 ⟨_, rfl, s.up⟩ t.up) ?_
    ((with_reducible (refine mv_i ?_; refine mv_i ?_)))
    refine seq_J (fun xs h6 => xs = [.int .i64 (bothE x l), .int .i64 0]) ?_ ?_
    · rintro _ h6 rfl
      (((with_reducible refine fun (_ : Tmps) => ?_); (try dsimp only [nth]));
          (with_reducible (refine mv_i ?_; refine mv_i ?_; refine eql_i (fun hc => ?_) (fun hc => ?_); refine mv_i ?_; refine gd_tt ?_; refine mv_i ?_; refine gd_tt ?_; refine mv_i ?_; refine gd_tt ?_; refine eql_h (by first | assumption | decide) ?_; refine pick_t ?_; refine mv_i ?_; refine ret1 ?_));
          (rotate_left);
          (with_reducible (refine mv_i ?_; refine gd_ft ?_; refine gd_ft ?_; refine gd_ft ?_; refine pick_f ?_; refine mv_i ?_; refine ret1 ?_));
          (rotate_left))
      all_goals first | rfl | (exfalso; contradiction)
    · intro k' hk'
      ((with_reducible (refine mv_i ?_; refine eql_n (by first | assumption | decide) ?_; refine cnd_f ?_)))
      all_goals (try (exfalso; contradiction))
      exact hk' _ _ rfl
end Go.Proofs.Ytomiejfeclefaaa
