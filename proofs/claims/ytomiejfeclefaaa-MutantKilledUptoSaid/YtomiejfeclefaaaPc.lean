import Derived.Test.YtomiejfeclefaaaPb
import Derived.Test.YtomiejfeclefaaaPa
import Derived.Test.YtomiejfeclefaaaAnG
import Derived.Test.YtomiejfeclefaaaBulk
import Derived.Test.YtomiejfeclefaaaChecked
import Derived.WalkKit
import Derived.ProofKit
import Derived.Test.YtomiejfeclefaaaAmW
import Derived.Test.YtomiejfeclefaaaProg
import Derived.KernelRfl
import Derived.Test.YtomiejfeclefaaaAnI
import Derived.Test.YtomiejfeclefaaaAnJ
import Derived.Test.YtomiejfeclefaaaAnK
import Derived.Test.YtomiejfeclefaaaAnL
set_option linter.unusedSimpArgs false
set_option linter.unusedVariables false
set_option linter.unnecessarySimpa false
set_option maxRecDepth 100000
set_option maxHeartbeats 4000000
namespace Go.Proofs.Ytomiejfeclefaaa
open Go.AM
variable {h g : Heap}
/-! ### mutants as machines -/
def setOut (l : List Stp) (k : Nat) (v : Int) : List Stp := l.set k { gt l k with out := v }
def setTo (l : List Stp) (k : Nat) (v : Int) : List Stp := l.set k { gt l k with to := v }
def ap1 (x cur : Mach) (m : Mut) : Mach :=
  if m.kind = 0 then { cur with steps := setOut cur.steps m.step.toNat m.to }
  else if m.kind = 1 then { cur with steps := setTo cur.steps m.step.toNat m.to }
  else if m.kind = 2 then { cur with start := m.to }
  else { cur with steps := setTo (setTo cur.steps m.step.toNat (gt x.steps m.to.toNat).to) m.to.toNat (gt x.steps m.step.toNat).to }
def muts (x : Mach) (l : List Mut) (k : Nat) : Mach := (l.take k).foldl (ap1 x) x
def mutd (x : Mach) (l : List Mut) : Mach := l.foldl (ap1 x) x
theorem ap1_same (x cur : Mach) (m : Mut) : (ap1 x cur m).states = cur.states ∧ (ap1 x cur m).inputs = cur.inputs ∧ (ap1 x cur m).outputs = cur.outputs ∧ (ap1 x cur m).steps.length = cur.steps.length := by
  unfold ap1 setOut setTo
  repeat' split
  all_goals simp
theorem muts_next {x : Mach} {l : List Mut} {k : Nat} (hk : k < l.length) : muts x l (k + 1) = ap1 x (muts x l k) (gt l k) := by
  unfold muts
  rw [take_gd Df.d hk, List.foldl_append]
  rfl
theorem muts_same (x : Mach) (l : List Mut) : ∀ k, (muts x l k).states = x.states ∧ (muts x l k).inputs = x.inputs ∧ (muts x l k).outputs = x.outputs ∧ (muts x l k).steps.length = x.steps.length := by
  intro k
  induction k with
  | zero => simp [muts]
  | succ k ih =>
    by_cases hk : k < l.length
    · rw [muts_next hk]
      have := ap1_same x (muts x l k) (gt l k)
      omega
    · have : muts x l (k + 1) = muts x l k := by
        unfold muts
        rw [List.take_of_length_le (by omega), List.take_of_length_le (by omega)]
      rw [this]; exact ih
/-- The program's mutant. -/
theorem c50 {v y : Value} {x : Mach} {l : List Mut} (s : MacV g v x) (t : L g y l) (hb : x.steps.length ≤ 1048576) (hv : ∀ k, k < l.length → (0 ≤ (gt l k).kind ∧ (gt l k).kind ≤ 3) ∧ rightS x (gt l k)) :
    DetP Try.prog 50 [v, y] g fun v' h' => g <+: h' ∧ ∃ b q n, v' = .agg #[.int .i64 (mutd x l).states, .int .i64 (mutd x l).inputs, .int .i64 (mutd x l).outputs, .int .i64 (mutd x l).start, .slice b n q] ∧ n = (mutd x l).steps.length ∧ L h' (.slice b n q) (mutd x l).steps := by
  refine DetP.freeze ?_
  obtain ⟨tv, rfl, s⟩ := s
  have lt := t.lt
  obtain ⟨b0, q0, rfl, _⟩ := s.shape
  have m := Mem.start g
  refine w50 ?_
  unfold n50
  refine box_a m fun i0 h0 z0 p0 m => ?_
  refine alloc_z m fun i1 h1 z1 p1 m => ?_
  ((refine ldo_w (by assumption) (by infer_instance) (by with_unfolding_all rfl) ?_);
      (with_reducible (refine alloc_z (by assumption) fun i h z p m => ?_));
      (refine st_w (by assumption) (by infer_instance) (by with_unfolding_all rfl) (by with_unfolding_all rfl) (by first | rfl | exact flat_ones (Flat.flat _)) (by infer_instance) fun h p m => ?_);
      (with_reducible (refine fao ?_));
      (refine ldo (by assumption) (q := by infer_instance) (by with_unfolding_all rfl) ?_))
  refine call_d (c82 s.up hb) m fun y1 h3 p3 p4 _ ⟨o, hs, hn⟩ => ?_
  have m := hn _ _ m
  obtain ⟨a, d, rfl⟩ := hs.isS
  ((with_reducible (refine fao ?_));
      (refine sto (by assumption) (q := by infer_instance) (by with_unfolding_all exact Nat.le_of_ble_eq_true rfl) rfl rfl (u := by infer_instance) fun h p m => ?_);
      (with_reducible (refine mv_i ?_; refine len_g (by assumption) ?_; refine mv_i ?_)))
  refine loop1 l.length (fun k h5 => Prec h h5 ∧ Mem g h5 [⟨o, flat (muts x l k).steps, 4⟩, ⟨some i, [.int .i64 x.states, .int .i64 x.inputs, .int .i64 x.outputs, .int .i64 (muts x l k).start, .slice a x.steps.length d], z⟩, ⟨some i1, [.int .i64 0, .int .i64 0, .int .i64 0, .int .i64 0, .slice none 0 0], z1⟩, ⟨some i0, [.int .i64 x.states, .int .i64 x.inputs, .int .i64 x.outputs, .int .i64 x.start, .slice b0 x.steps.length q0], z0⟩]) ⟨⟨Stab.refl _⟩, m⟩ ?_
  rintro k h5 _ hk ⟨p5, m⟩
  obtain ⟨u1, u2, u3, u4⟩ := muts_same x l k
  have hs0 := hs
  have hs : IsSl (.slice a x.steps.length d) o (muts x l k).steps.length := by rw [u4]; exact hs
  by_cases hkl : k < l.length
  · have hnx := muts_next (x := x) hkl
    obtain ⟨r1, r2⟩ := hv k hkl
    ((with_reducible (refine lss_i (fun hc => ?_) (fun hc => ?_); refine cnd_t ?_));
        (rotate_left);
        (with_reducible (refine cnd_f ?_));
        (refine ldo_w (by assumption) (by infer_instance) (by with_unfolding_all rfl) ?_);
        (refine st_w (by assumption) (by infer_instance) (by with_unfolding_all rfl) (by with_unfolding_all rfl) (by first | rfl | exact flat_ones (Flat.flat _)) (by infer_instance) fun h p m => ?_);
        (refine rt_w1 (by assumption) (by infer_instance) (by with_unfolding_all rfl) ?_);
        (with_reducible (refine ret1 ?_));
        (rotate_left))
    · refine seq_J (fun xs h6 => xs = [] ∧ Prec h h6 ∧ Mem g h6 [⟨o, flat (muts x l (k + 1)).steps, 4⟩, ⟨some i, [.int .i64 x.states, .int .i64 x.inputs, .int .i64 x.outputs, .int .i64 (muts x l (k + 1)).start, .slice a x.steps.length d], z⟩, ⟨some i1, [.int .i64 0, .int .i64 0, .int .i64 0, .int .i64 0, .slice none 0 0], z1⟩, ⟨some i0, [.int .i64 x.states, .int .i64 x.inputs, .int .i64 x.outputs, .int .i64 x.start, .slice b0 x.steps.length q0], z0⟩]) ?_ ?_
      · rintro _ h6 ⟨rfl, p6, m⟩
        (((with_reducible refine fun (_ : Tmps) => ?_); (try dsimp only [nth]));
            (with_reducible (refine inc_i (by omega) ?_; refine mv_i ?_)))
        exact next1 hkl ⟨p6, m⟩
      · intro k' hk'
        have hk2 : (gt l k).kind = 0 ∨ (gt l k).kind = 1 ∨ (gt l k).kind = 2 ∨ (gt l k).kind = 3 := by omega
        rcases hk2 with e | e | e | e
        · rw [rightS, if_pos e] at r2
          obtain ⟨r2, r3⟩ := r2
          have hap : ap1 x (muts x l k) (gt l k) = { muts x l k with steps := setOut (muts x l k).steps (gt l k).step.toNat (gt l k).to } := by rw [ap1, if_pos e]
          rw [hap] at hnx
          ((refine idx_d (by assumption) (by with_unfolding_all rfl) (by omega) fun p hp => ?_);
              (refine ldr_w (by assumption) (by with_unfolding_all rfl) ?_);
              (with_reducible (refine alloc_z (by assumption) fun i h z p m => ?_));
              (refine st_w (by assumption) (by infer_instance) (by with_unfolding_all rfl) (by with_unfolding_all rfl) (by first | rfl | exact flat_ones (Flat.flat _)) (by infer_instance) fun h p m => ?_);
              (with_reducible (refine fao ?_));
              (refine ldo (by assumption) (q := by infer_instance) (by with_unfolding_all rfl) ?_);
              (with_reducible (refine eql_h (by first | assumption | decide) ?_; refine mv_i ?_; refine cnd_t ?_; refine fao ?_));
              (refine ldo (by assumption) (q := by infer_instance) (by with_unfolding_all rfl) ?_);
              (with_reducible (refine fao ?_));
              (refine ldo (by assumption) (q := by infer_instance) (by with_unfolding_all rfl) ?_);
              (with_reducible (refine fao ?_));
              (refine ldo (by assumption) (q := by infer_instance) (by with_unfolding_all rfl) ?_);
              (refine idx_oz (by assumption) (by omega) (by omega) ?_);
              (with_reducible (refine fao_e ?_)))
          refine stf_d { gt (muts x l k).steps (gt l k).step.toNat with out := (gt l k).to } m (by infer_instance) rfl (by omega) (by decide) rfl rfl rfl (by infer_instance) fun h p m => ?_
          exact hk' _ _ ⟨rfl, ⟨Stb.st⟩, by rw [hnx]; exact m.tail⟩
        · have n0 : ¬ (gt l k).kind = 0 := by omega
          rw [rightS, if_neg n0, if_pos e] at r2
          obtain ⟨r2, r3⟩ := r2
          have hap : ap1 x (muts x l k) (gt l k) = { muts x l k with steps := setTo (muts x l k).steps (gt l k).step.toNat (gt l k).to } := by rw [ap1, if_neg n0, if_pos e]
          rw [hap] at hnx
          ((refine idx_d (by assumption) (by with_unfolding_all rfl) (by omega) fun p hp => ?_);
              (refine ldr_w (by assumption) (by with_unfolding_all rfl) ?_);
              (with_reducible (refine alloc_z (by assumption) fun i h z p m => ?_));
              (refine st_w (by assumption) (by infer_instance) (by with_unfolding_all rfl) (by with_unfolding_all rfl) (by first | rfl | exact flat_ones (Flat.flat _)) (by infer_instance) fun h p m => ?_);
              (with_reducible (refine fao ?_));
              (refine ldo (by assumption) (q := by infer_instance) (by with_unfolding_all rfl) ?_);
              (with_reducible (refine eql_n (by first | assumption | decide) ?_; refine mv_i ?_; refine cnd_f ?_; refine eql_h (by first | assumption | decide) ?_; refine mv_i ?_; refine cnd_t ?_; refine fao ?_));
              (refine ldo (by assumption) (q := by infer_instance) (by with_unfolding_all rfl) ?_);
              (with_reducible (refine fao ?_));
              (refine ldo (by assumption) (q := by infer_instance) (by with_unfolding_all rfl) ?_);
              (with_reducible (refine fao ?_));
              (refine ldo (by assumption) (q := by infer_instance) (by with_unfolding_all rfl) ?_);
              (refine idx_oz (by assumption) (by omega) (by omega) ?_);
              (with_reducible (refine fao_e ?_)))
          refine stf_d { gt (muts x l k).steps (gt l k).step.toNat with to := (gt l k).to } m (by infer_instance) rfl (by omega) (by decide) rfl rfl rfl (by infer_instance) fun h p m => ?_
          exact hk' _ _ ⟨rfl, ⟨Stb.st⟩, by rw [hnx]; exact m.tail⟩
        · have n0 : ¬ (gt l k).kind = 0 := by omega
          have n1 : ¬ (gt l k).kind = 1 := by omega
          have hap : ap1 x (muts x l k) (gt l k) = { muts x l k with start := (gt l k).to } := by rw [ap1, if_neg n0, if_neg n1, if_pos e]
          rw [hap] at hnx
          ((refine idx_d (by assumption) (by with_unfolding_all rfl) (by omega) fun p hp => ?_);
              (refine ldr_w (by assumption) (by with_unfolding_all rfl) ?_);
              (with_reducible (refine alloc_z (by assumption) fun i h z p m => ?_));
              (refine st_w (by assumption) (by infer_instance) (by with_unfolding_all rfl) (by with_unfolding_all rfl) (by first | rfl | exact flat_ones (Flat.flat _)) (by infer_instance) fun h p m => ?_);
              (with_reducible (refine fao ?_));
              (refine ldo (by assumption) (q := by infer_instance) (by with_unfolding_all rfl) ?_);
              (with_reducible (refine eql_n (by first | assumption | decide) ?_; refine mv_i ?_; refine cnd_f ?_; refine eql_n (by first | assumption | decide) ?_; refine mv_i ?_; refine cnd_f ?_; refine eql_h (by first | assumption | decide) ?_; refine mv_i ?_; refine cnd_t ?_; refine fao ?_));
              (refine ldo (by assumption) (q := by infer_instance) (by with_unfolding_all rfl) ?_);
              (with_reducible (refine fao ?_));
              (refine sto (by assumption) (q := by infer_instance) (by with_unfolding_all exact Nat.le_of_ble_eq_true rfl) rfl rfl (u := by infer_instance) fun h p m => ?_))
          exact hk' _ _ ⟨rfl, ⟨Stb.st⟩, by rw [hnx]; exact m.tail⟩
        · have n0 : ¬ (gt l k).kind = 0 := by omega
          have n1 : ¬ (gt l k).kind = 1 := by omega
          have n2 : ¬ (gt l k).kind = 2 := by omega
          rw [rightS, if_neg n0, if_neg n1, if_neg n2] at r2
          obtain ⟨r2, r3⟩ := r2
          have hap : ap1 x (muts x l k) (gt l k) = { muts x l k with steps := setTo (setTo (muts x l k).steps (gt l k).step.toNat (gt x.steps (gt l k).to.toNat).to) (gt l k).to.toNat (gt x.steps (gt l k).step.toNat).to } := by rw [ap1, if_neg n0, if_neg n1, if_neg n2]
          rw [hap] at hnx
          ((refine idx_d (by assumption) (by with_unfolding_all rfl) (by omega) fun p hp => ?_);
              (refine ldr_w (by assumption) (by with_unfolding_all rfl) ?_);
              (with_reducible (refine alloc_z (by assumption) fun i h z p m => ?_));
              (refine st_w (by assumption) (by infer_instance) (by with_unfolding_all rfl) (by with_unfolding_all rfl) (by first | rfl | exact flat_ones (Flat.flat _)) (by infer_instance) fun h p m => ?_);
              (with_reducible (refine fao ?_));
              (refine ldo (by assumption) (q := by infer_instance) (by with_unfolding_all rfl) ?_);
              (with_reducible (refine eql_n (by first | assumption | decide) ?_; refine mv_i ?_; refine cnd_f ?_; refine eql_n (by first | assumption | decide) ?_; refine mv_i ?_; refine cnd_f ?_; refine eql_n (by first | assumption | decide) ?_; refine mv_i ?_; refine cnd_f ?_; refine eql_h (by first | assumption | decide) ?_; refine mv_i ?_; refine cnd_t ?_; refine fao ?_));
              (refine ldo (by assumption) (q := by infer_instance) (by with_unfolding_all rfl) ?_);
              (refine IsSl.vb (by assumption) (by assumption) (by infer_instance) ?_);
              (with_reducible (refine fao ?_));
              (refine ldo (by assumption) (q := by infer_instance) (by with_unfolding_all rfl) ?_);
              (refine vb_n (by with_unfolding_all rfl) ?_);
              (with_reducible (refine fao ?_));
              (refine ldo (by assumption) (q := by infer_instance) (by with_unfolding_all rfl) ?_);
              (refine IsSl.vb (by assumption) (by assumption) (by infer_instance) ?_);
              (with_reducible (refine fao ?_));
              (refine ldo (by assumption) (q := by infer_instance) (by with_unfolding_all rfl) ?_);
              (refine vb_n (by with_unfolding_all rfl) ?_);
              (with_reducible (refine fao ?_));
              (refine ldo (by assumption) (q := by infer_instance) (by with_unfolding_all rfl) ?_);
              (with_reducible (refine vb_l (by assumption) ?_; refine fao ?_));
              (refine ldo (by assumption) (q := by infer_instance) (by with_unfolding_all rfl) ?_);
              (refine vb_n (by with_unfolding_all rfl) ?_);
              (refine idx_dz (by assumption) (by with_unfolding_all rfl) (by omega) (by omega) fun p hp => ?_);
              (with_reducible (refine fa_g (by assumption) fun p hp => ?_));
              (refine ld_g (by assumption) (by with_unfolding_all rfl) ?_);
              (refine vb_n (by with_unfolding_all rfl) ?_);
              (with_reducible (refine fao ?_));
              (refine ldo (by assumption) (q := by infer_instance) (by with_unfolding_all rfl) ?_);
              (with_reducible (refine vb_l (by assumption) ?_; refine fao ?_));
              (refine ldo (by assumption) (q := by infer_instance) (by with_unfolding_all rfl) ?_);
              (refine vb_n (by with_unfolding_all rfl) ?_);
              (refine idx_dz (by assumption) (by with_unfolding_all rfl) (by omega) (by omega) fun p hp => ?_);
              (with_reducible (refine fa_g (by assumption) fun p hp => ?_));
              (refine ld_g (by assumption) (by with_unfolding_all rfl) ?_);
              (refine vb_n (by with_unfolding_all rfl) ?_);
              (refine idx_oz (by assumption) (by omega) (by omega) ?_);
              (with_reducible (refine fao_e ?_)))
          refine stf_d { gt (muts x l k).steps (gt l k).step.toNat with to := (gt x.steps (gt l k).to.toNat).to } m (by infer_instance) rfl (by omega) (by decide) rfl rfl rfl (by infer_instance) fun h p m => ?_
          ((refine pd_c (by assumption) (by infer_instance) (by with_unfolding_all rfl) ?_);
              (refine pd_c (by assumption) (by infer_instance) (by with_unfolding_all rfl) ?_);
              (with_reducible (refine ⟨trivial, ?_⟩));
              (refine idx_oz (by assumption) (by omega) (by omega) ?_);
              (with_reducible (refine fao_e ?_)))
          have hl2 : (setTo (muts x l k).steps (gt l k).step.toNat (gt x.steps (gt l k).to.toNat).to).length = x.steps.length := by unfold setTo; rw [List.length_set, u4]
          change Mem g h (_ :: ⟨o, flat (setTo (muts x l k).steps (gt l k).step.toNat (gt x.steps (gt l k).to.toNat).to), 4⟩ :: _) at m
          refine stf_d { gt (setTo (muts x l k).steps (gt l k).step.toNat (gt x.steps (gt l k).to.toNat).to) (gt l k).to.toNat with to := (gt x.steps (gt l k).step.toNat).to } m (by infer_instance) rfl (by omega) (by decide) rfl rfl rfl (by infer_instance) fun h p m => ?_
          refine ⟨trivial, ?_⟩
          exact hk' _ _ ⟨rfl, ⟨Stb.st⟩, by rw [hnx]; exact m.tail⟩
    · exfalso; omega
  · ((with_reducible (refine lss_i (fun hc => ?_) (fun hc => ?_); refine cnd_t ?_; refine seq_i ?_));
      (refine idx_d (by assumption) (by with_unfolding_all rfl) (by omega) fun p hp => ?_);
      (refine ldr_w (by assumption) (by with_unfolding_all rfl) ?_);
      (with_reducible (refine alloc_z (by assumption) fun i h z p m => ?_));
      (refine st_w (by assumption) (by infer_instance) (by with_unfolding_all rfl) (by with_unfolding_all rfl) (by first | rfl | exact flat_ones (Flat.flat _)) (by infer_instance) fun h p m => ?_);
      (with_reducible (refine fao ?_));
      (refine ldo (by assumption) (q := by infer_instance) (by with_unfolding_all rfl) ?_);
      (with_reducible (refine eql_i (fun hc => ?_) (fun hc => ?_); refine mv_i ?_; refine cnd_t ?_; refine fao ?_));
      (refine ldo (by assumption) (q := by infer_instance) (by with_unfolding_all rfl) ?_);
      (with_reducible (refine fao ?_));
      (refine ldo (by assumption) (q := by infer_instance) (by with_unfolding_all rfl) ?_);
      (with_reducible (refine fao ?_));
      (refine ldo (by assumption) (q := by infer_instance) (by with_unfolding_all rfl) ?_);
      (refine idx_oz (by assumption) (by omega) (by omega) ?_);
      (with_reducible (refine fao_e ?_));
      (rotate_left);
      (with_reducible (refine mv_i ?_; refine cnd_f ?_; refine eql_i (fun hc => ?_) (fun hc => ?_); refine mv_i ?_; refine cnd_t ?_; refine fao ?_));
      (refine ldo (by assumption) (q := by infer_instance) (by with_unfolding_all rfl) ?_);
      (with_reducible (refine fao ?_));
      (refine ldo (by assumption) (q := by infer_instance) (by with_unfolding_all rfl) ?_);
      (with_reducible (refine fao ?_));
      (refine ldo (by assumption) (q := by infer_instance) (by with_unfolding_all rfl) ?_);
      (refine idx_oz (by assumption) (by omega) (by omega) ?_);
      (with_reducible (refine fao_e ?_));
      (rotate_left);
      (with_reducible (refine mv_i ?_; refine cnd_f ?_; refine eql_i (fun hc => ?_) (fun hc => ?_); refine mv_i ?_; refine cnd_t ?_; refine fao ?_));
      (refine ldo (by assumption) (q := by infer_instance) (by with_unfolding_all rfl) ?_);
      (with_reducible (refine fao ?_));
      (refine sto (by assumption) (q := by infer_instance) (by with_unfolding_all exact Nat.le_of_ble_eq_true rfl) rfl rfl (u := by infer_instance) fun h p m => ?_);
      ((with_reducible refine fun (_ : Tmps) => ?_); (try dsimp only [nth]));
      (with_reducible (refine inc_i (by omega) ?_; refine mv_i ?_));
      (rotate_left);
      (with_reducible (refine mv_i ?_; refine cnd_f ?_; refine eql_i (fun hc => ?_) (fun hc => ?_); refine mv_i ?_; refine cnd_t ?_; refine fao ?_));
      (refine ldo (by assumption) (q := by infer_instance) (by with_unfolding_all rfl) ?_);
      (refine IsSl.vb (by assumption) (by assumption) (by infer_instance) ?_);
      (with_reducible (refine fao ?_));
      (refine ldo (by assumption) (q := by infer_instance) (by with_unfolding_all rfl) ?_);
      (refine vb_n (by with_unfolding_all rfl) ?_);
      (with_reducible (refine fao ?_));
      (refine ldo (by assumption) (q := by infer_instance) (by with_unfolding_all rfl) ?_);
      (refine IsSl.vb (by assumption) (by assumption) (by infer_instance) ?_);
      (with_reducible (refine fao ?_));
      (refine ldo (by assumption) (q := by infer_instance) (by with_unfolding_all rfl) ?_);
      (refine vb_n (by with_unfolding_all rfl) ?_);
      (with_reducible (refine fao ?_));
      (refine ldo (by assumption) (q := by infer_instance) (by with_unfolding_all rfl) ?_);
      (with_reducible (refine vb_l (by assumption) ?_; refine fao ?_));
      (refine ldo (by assumption) (q := by infer_instance) (by with_unfolding_all rfl) ?_);
      (refine vb_n (by with_unfolding_all rfl) ?_);
      (refine idx_dz (by assumption) (by with_unfolding_all rfl) (by omega) (by omega) fun p hp => ?_);
      (with_reducible (refine fa_g (by assumption) fun p hp => ?_));
      (refine ld_g (by assumption) (by with_unfolding_all rfl) ?_);
      (refine vb_n (by with_unfolding_all rfl) ?_);
      (with_reducible (refine fao ?_));
      (refine ldo (by assumption) (q := by infer_instance) (by with_unfolding_all rfl) ?_);
      (with_reducible (refine vb_l (by assumption) ?_; refine fao ?_));
      (refine ldo (by assumption) (q := by infer_instance) (by with_unfolding_all rfl) ?_);
      (refine vb_n (by with_unfolding_all rfl) ?_);
      (refine idx_dz (by assumption) (by with_unfolding_all rfl) (by omega) (by omega) fun p hp => ?_);
      (with_reducible (refine fa_g (by assumption) fun p hp => ?_));
      (refine ld_g (by assumption) (by with_unfolding_all rfl) ?_);
      (refine vb_n (by with_unfolding_all rfl) ?_);
      (refine idx_oz (by assumption) (by omega) (by omega) ?_);
      (with_reducible (refine fao_e ?_));
      (rotate_left);
      (with_reducible (refine mv_i ?_; refine cnd_f ?_));
      ((with_reducible refine fun (_ : Tmps) => ?_); (try dsimp only [nth]));
      (with_reducible (refine inc_i (by omega) ?_; refine mv_i ?_));
      (rotate_left);
      (with_reducible (refine cnd_f ?_));
      (refine ldo_w (by assumption) (by infer_instance) (by with_unfolding_all rfl) ?_);
      (refine st_w (by assumption) (by infer_instance) (by with_unfolding_all rfl) (by with_unfolding_all rfl) (by first | rfl | exact flat_ones (Flat.flat _)) (by infer_instance) fun h p m => ?_);
      (refine rt_w1 (by assumption) (by infer_instance) (by with_unfolding_all rfl) ?_);
      (with_reducible (refine ret1 ?_));
      (rotate_left))
    all_goals (try (exfalso; omega))
    have hkk : k = l.length := by omega
    have e1 : muts x l k = mutd x l := by rw [hkk]; simp [muts, mutd]
    refine ⟨m.pre, a, d, x.steps.length, by rw [← e1, u1, u2, u3], by rw [← e1, u4], ?_⟩
    rw [← e1]
    exact IsSl.ro hs m (k := 0) rfl (by omega)
end Go.Proofs.Ytomiejfeclefaaa

set_option linter.unusedSimpArgs false
set_option linter.unusedVariables false
set_option linter.unnecessarySimpa false
set_option maxRecDepth 100000
set_option maxHeartbeats 4000000
namespace Go.Proofs.Ytomiejfeclefaaa
open Go.AM
variable {h g : Heap}
theorem mutE_ok {x : Mach} {l : List Mut} (h0 : (mutE x l).2 = 0) : l.length ≤ 4 ∧ ∀ k, k < l.length → (0 ≤ (gt l k).kind ∧ (gt l k).kind ≤ 3) ∧ rightS x (gt l k) := by
  unfold mutE at h0
  split at h0
  · cases h0
  · exact ⟨by omega, fun k hk => ⟨(muE_ok (firstErr_zero h0 k hk)).1, (muE_ok (firstErr_zero h0 k hk)).2.1⟩⟩
theorem bothE_ok {x : Mach} {l : List Mut} (h0 : bothE x l = 0) : errM x = 0 ∧ (mutE x l).2 = 0 := by
  unfold bothE at h0
  split at h0
  · contradiction
  · rename_i h1; exact ⟨by simpa using h1, h0⟩
theorem small {x : Mach} (h0 : errM x = 0) : x.steps.length ≤ 320 := by
  obtain ⟨h1, h2, h3, _⟩ := errM_ok h0
  have := prod_bd h2
  omega
/-- The reference's mutant. -/
theorem c24 {v y : Value} {x : Mach} {l : List Mut} (s : MacV g v x) (t : L g y l) (hb : x.steps.length ≤ 1048576) (hv : ∀ k, k < l.length → (0 ≤ (gt l k).kind ∧ (gt l k).kind ≤ 3) ∧ rightS x (gt l k)) :
    DetP Try.prog 24 [v, y] g fun v' h' => g <+: h' ∧ ∃ b q n, v' = .agg #[.int .i64 (mutd x l).states, .int .i64 (mutd x l).inputs, .int .i64 (mutd x l).outputs, .int .i64 (mutd x l).start, .slice b n q] ∧ n = (mutd x l).steps.length ∧ L h' (.slice b n q) (mutd x l).steps := by
  refine DetP.freeze ?_
  obtain ⟨tv, rfl, s⟩ := s
  have lt := t.lt
  obtain ⟨b0, q0, rfl, _⟩ := s.shape
  have m := Mem.start g
  refine w24 ?_
  unfold n24
  refine box_a m fun i0 h0 z0 p0 m => ?_
  refine alloc_z m fun i1 h1 z1 p1 m => ?_
  ((refine ldo_w (by assumption) (by infer_instance) (by with_unfolding_all rfl) ?_))
  refine call_d (c14o ⟨_, rfl, s.up⟩ hb) m fun y1 h3 p3 p4 _ ⟨y1, o, ev, hs, hn⟩ => ?_
  subst ev
  have m := hn _ _ m
  obtain ⟨a, d, rfl⟩ := hs.isS
  ((with_reducible (refine alloc_z (by assumption) fun i h z p m => ?_));
      (refine st_w (by assumption) (by infer_instance) (by with_unfolding_all rfl) (by with_unfolding_all rfl) (by first | rfl | exact flat_ones (Flat.flat _)) (by infer_instance) fun h p m => ?_);
      (with_reducible (refine mv_i ?_)))
  refine loop1 l.length (fun k h5 => Prec h h5 ∧ Mem g h5 [⟨some i, [.int .i64 x.states, .int .i64 x.inputs, .int .i64 x.outputs, .int .i64 (muts x l k).start, .slice a x.steps.length d], z⟩, ⟨o, flat (muts x l k).steps, 4⟩, ⟨some i1, [.int .i64 0, .int .i64 0, .int .i64 0, .int .i64 0, .slice none 0 0], z1⟩, ⟨some i0, [.int .i64 x.states, .int .i64 x.inputs, .int .i64 x.outputs, .int .i64 x.start, .slice b0 x.steps.length q0], z0⟩]) ⟨⟨Stab.refl _⟩, m⟩ ?_
  rintro k h5 _ hk ⟨p5, m⟩
  obtain ⟨u1, u2, u3, u4⟩ := muts_same x l k
  have hs0 := hs
  have hs : IsSl (.slice a x.steps.length d) o (muts x l k).steps.length := by rw [u4]; exact hs
  by_cases hkl : k < l.length
  · have hnx := muts_next (x := x) hkl
    obtain ⟨r1, r2⟩ := hv k hkl
    have hk2 : (gt l k).kind = 0 ∨ (gt l k).kind = 1 ∨ (gt l k).kind = 2 ∨ (gt l k).kind = 3 := by omega
    rcases hk2 with e | e | e | e
    · rw [rightS, if_pos e] at r2
      obtain ⟨r2, r3⟩ := r2
      have n1 : ¬ (gt l k).kind = 1 := by omega
      have n2 : ¬ (gt l k).kind = 2 := by omega
      have n3 : ¬ (gt l k).kind = 3 := by omega
      have hap : ap1 x (muts x l k) (gt l k) = { muts x l k with steps := setOut (muts x l k).steps (gt l k).step.toNat (gt l k).to } := by rw [ap1, if_pos e]
      rw [hap] at hnx
      ((with_reducible (refine mv_i ?_; refine mv_i ?_; refine len_g (by assumption) ?_; refine lss_i (fun hc => ?_) (fun hc => ?_); refine cnd_t ?_; refine seq_i ?_; refine seq_i ?_; refine mv_i ?_; refine mv_i ?_));
          (refine idx_d (by assumption) (by with_unfolding_all rfl) (by omega) fun p hp => ?_);
          (with_reducible (refine fa_g (by assumption) fun p hp => ?_));
          (refine ld_g (by assumption) (by with_unfolding_all rfl) ?_);
          (with_reducible (refine eql_h (by first | assumption | decide) ?_; refine cnd_t ?_; refine fao ?_));
          (refine ldo (by assumption) (q := by infer_instance) (by with_unfolding_all rfl) ?_);
          (refine IsSl.vb (by assumption) (by assumption) (by infer_instance) ?_);
          (with_reducible (refine mv_i ?_; refine mv_i ?_));
          (refine idx_d (by assumption) (by with_unfolding_all rfl) (by omega) fun p hp => ?_);
          (with_reducible (refine fa_g (by assumption) fun p hp => ?_));
          (refine ld_g (by assumption) (by with_unfolding_all rfl) ?_);
          (refine vb_n (by with_unfolding_all rfl) ?_);
          (with_reducible (refine mv_i ?_; refine mv_i ?_));
          (refine idx_d (by assumption) (by with_unfolding_all rfl) (by omega) fun p hp => ?_);
          (with_reducible (refine fa_g (by assumption) fun p hp => ?_));
          (refine ld_g (by assumption) (by with_unfolding_all rfl) ?_);
          (refine vb_n (by with_unfolding_all rfl) ?_);
          (refine idx_oz (by assumption) (by omega) (by omega) ?_);
          (with_reducible (refine fao_e ?_));
          (rotate_left);
          (with_reducible (refine cnd_f ?_));
          (refine ldo_w (by assumption) (by infer_instance) (by with_unfolding_all rfl) ?_);
          (refine st_w (by assumption) (by infer_instance) (by with_unfolding_all rfl) (by with_unfolding_all rfl) (by first | rfl | exact flat_ones (Flat.flat _)) (by infer_instance) fun h p m => ?_);
          (refine rt_w1 (by assumption) (by infer_instance) (by with_unfolding_all rfl) ?_);
          (with_reducible (refine ret1 ?_));
          (rotate_left))
      rotate_left
      · exfalso; omega
      refine stf_d { gt (muts x l k).steps (gt l k).step.toNat with out := (gt l k).to } m (by infer_instance) rfl (by omega) (by decide) rfl rfl rfl (by infer_instance) fun h p m => ?_
      ((with_reducible (refine ⟨trivial, ?_⟩));
          ((with_reducible refine fun (_ : Tmps) => ?_); (try dsimp only [nth]));
          (with_reducible (refine seq_i ?_; refine mv_i ?_; refine mv_i ?_));
          (refine idx_d (by assumption) (by with_unfolding_all rfl) (by omega) fun p hp => ?_);
          (with_reducible (refine fa_g (by assumption) fun p hp => ?_));
          (refine ld_g (by assumption) (by with_unfolding_all rfl) ?_);
          (with_reducible (refine eql_n (by first | assumption | decide) ?_; refine cnd_f ?_));
          ((with_reducible refine fun (_ : Tmps) => ?_); (try dsimp only [nth]));
          (with_reducible (refine seq_i ?_; refine mv_i ?_; refine mv_i ?_));
          (refine idx_d (by assumption) (by with_unfolding_all rfl) (by omega) fun p hp => ?_);
          (with_reducible (refine fa_g (by assumption) fun p hp => ?_));
          (refine ld_g (by assumption) (by with_unfolding_all rfl) ?_);
          (with_reducible (refine eql_n (by first | assumption | decide) ?_; refine cnd_f ?_));
          ((with_reducible refine fun (_ : Tmps) => ?_); (try dsimp only [nth]));
          (with_reducible (refine mv_i ?_; refine mv_i ?_));
          (refine idx_d (by assumption) (by with_unfolding_all rfl) (by omega) fun p hp => ?_);
          (with_reducible (refine fa_g (by assumption) fun p hp => ?_));
          (refine ld_g (by assumption) (by with_unfolding_all rfl) ?_);
          (with_reducible (refine eql_n (by first | assumption | decide) ?_; refine cnd_f ?_));
          ((with_reducible refine fun (_ : Tmps) => ?_); (try dsimp only [nth]));
          (with_reducible (refine mv_i ?_; refine inc_i (by omega) ?_; refine mv_i ?_)))
      exact next1 hkl ⟨⟨Stb.st⟩, by rw [hnx]; exact m⟩
    · have n0 : ¬ (gt l k).kind = 0 := by omega
      have n2 : ¬ (gt l k).kind = 2 := by omega
      have n3 : ¬ (gt l k).kind = 3 := by omega
      rw [rightS, if_neg n0, if_pos e] at r2
      obtain ⟨r2, r3⟩ := r2
      have hap : ap1 x (muts x l k) (gt l k) = { muts x l k with steps := setTo (muts x l k).steps (gt l k).step.toNat (gt l k).to } := by rw [ap1, if_neg n0, if_pos e]
      rw [hap] at hnx
      ((with_reducible (refine mv_i ?_; refine mv_i ?_; refine len_g (by assumption) ?_; refine lss_i (fun hc => ?_) (fun hc => ?_); refine cnd_t ?_; refine seq_i ?_; refine seq_i ?_; refine mv_i ?_; refine mv_i ?_));
          (refine idx_d (by assumption) (by with_unfolding_all rfl) (by omega) fun p hp => ?_);
          (with_reducible (refine fa_g (by assumption) fun p hp => ?_));
          (refine ld_g (by assumption) (by with_unfolding_all rfl) ?_);
          (with_reducible (refine eql_n (by first | assumption | decide) ?_; refine cnd_f ?_));
          ((with_reducible refine fun (_ : Tmps) => ?_); (try dsimp only [nth]));
          (with_reducible (refine seq_i ?_; refine mv_i ?_; refine mv_i ?_));
          (refine idx_d (by assumption) (by with_unfolding_all rfl) (by omega) fun p hp => ?_);
          (with_reducible (refine fa_g (by assumption) fun p hp => ?_));
          (refine ld_g (by assumption) (by with_unfolding_all rfl) ?_);
          (with_reducible (refine eql_h (by first | assumption | decide) ?_; refine cnd_t ?_; refine fao ?_));
          (refine ldo (by assumption) (q := by infer_instance) (by with_unfolding_all rfl) ?_);
          (refine IsSl.vb (by assumption) (by assumption) (by infer_instance) ?_);
          (with_reducible (refine mv_i ?_; refine mv_i ?_));
          (refine idx_d (by assumption) (by with_unfolding_all rfl) (by omega) fun p hp => ?_);
          (with_reducible (refine fa_g (by assumption) fun p hp => ?_));
          (refine ld_g (by assumption) (by with_unfolding_all rfl) ?_);
          (refine vb_n (by with_unfolding_all rfl) ?_);
          (with_reducible (refine mv_i ?_; refine mv_i ?_));
          (refine idx_d (by assumption) (by with_unfolding_all rfl) (by omega) fun p hp => ?_);
          (with_reducible (refine fa_g (by assumption) fun p hp => ?_));
          (refine ld_g (by assumption) (by with_unfolding_all rfl) ?_);
          (refine vb_n (by with_unfolding_all rfl) ?_);
          (refine idx_oz (by assumption) (by omega) (by omega) ?_);
          (with_reducible (refine fao_e ?_));
          (rotate_left);
          (with_reducible (refine cnd_f ?_));
          (refine ldo_w (by assumption) (by infer_instance) (by with_unfolding_all rfl) ?_);
          (refine st_w (by assumption) (by infer_instance) (by with_unfolding_all rfl) (by with_unfolding_all rfl) (by first | rfl | exact flat_ones (Flat.flat _)) (by infer_instance) fun h p m => ?_);
          (refine rt_w1 (by assumption) (by infer_instance) (by with_unfolding_all rfl) ?_);
          (with_reducible (refine ret1 ?_));
          (rotate_left))
      rotate_left
      · exfalso; omega
      refine stf_d { gt (muts x l k).steps (gt l k).step.toNat with to := (gt l k).to } m (by infer_instance) rfl (by omega) (by decide) rfl rfl rfl (by infer_instance) fun h p m => ?_
      ((with_reducible (refine ⟨trivial, ?_⟩));
          ((with_reducible refine fun (_ : Tmps) => ?_); (try dsimp only [nth]));
          (with_reducible (refine seq_i ?_; refine mv_i ?_; refine mv_i ?_));
          (refine idx_d (by assumption) (by with_unfolding_all rfl) (by omega) fun p hp => ?_);
          (with_reducible (refine fa_g (by assumption) fun p hp => ?_));
          (refine ld_g (by assumption) (by with_unfolding_all rfl) ?_);
          (with_reducible (refine eql_n (by first | assumption | decide) ?_; refine cnd_f ?_));
          ((with_reducible refine fun (_ : Tmps) => ?_); (try dsimp only [nth]));
          (with_reducible (refine mv_i ?_; refine mv_i ?_));
          (refine idx_d (by assumption) (by with_unfolding_all rfl) (by omega) fun p hp => ?_);
          (with_reducible (refine fa_g (by assumption) fun p hp => ?_));
          (refine ld_g (by assumption) (by with_unfolding_all rfl) ?_);
          (with_reducible (refine eql_n (by first | assumption | decide) ?_; refine cnd_f ?_));
          ((with_reducible refine fun (_ : Tmps) => ?_); (try dsimp only [nth]));
          (with_reducible (refine mv_i ?_; refine inc_i (by omega) ?_; refine mv_i ?_)))
      exact next1 hkl ⟨⟨Stb.st⟩, by rw [hnx]; exact m⟩
    · have n0 : ¬ (gt l k).kind = 0 := by omega
      have n1 : ¬ (gt l k).kind = 1 := by omega
      have n3 : ¬ (gt l k).kind = 3 := by omega
      have hap : ap1 x (muts x l k) (gt l k) = { muts x l k with start := (gt l k).to } := by rw [ap1, if_neg n0, if_neg n1, if_pos e]
      rw [hap] at hnx
      ((with_reducible (refine mv_i ?_; refine mv_i ?_; refine len_g (by assumption) ?_; refine lss_i (fun hc => ?_) (fun hc => ?_); refine cnd_t ?_; refine seq_i ?_; refine seq_i ?_; refine mv_i ?_; refine mv_i ?_));
          (refine idx_d (by assumption) (by with_unfolding_all rfl) (by omega) fun p hp => ?_);
          (with_reducible (refine fa_g (by assumption) fun p hp => ?_));
          (refine ld_g (by assumption) (by with_unfolding_all rfl) ?_);
          (with_reducible (refine eql_n (by first | assumption | decide) ?_; refine cnd_f ?_));
          ((with_reducible refine fun (_ : Tmps) => ?_); (try dsimp only [nth]));
          (with_reducible (refine seq_i ?_; refine mv_i ?_; refine mv_i ?_));
          (refine idx_d (by assumption) (by with_unfolding_all rfl) (by omega) fun p hp => ?_);
          (with_reducible (refine fa_g (by assumption) fun p hp => ?_));
          (refine ld_g (by assumption) (by with_unfolding_all rfl) ?_);
          (with_reducible (refine eql_n (by first | assumption | decide) ?_; refine cnd_f ?_));
          ((with_reducible refine fun (_ : Tmps) => ?_); (try dsimp only [nth]));
          (with_reducible (refine seq_i ?_; refine mv_i ?_; refine mv_i ?_));
          (refine idx_d (by assumption) (by with_unfolding_all rfl) (by omega) fun p hp => ?_);
          (with_reducible (refine fa_g (by assumption) fun p hp => ?_));
          (refine ld_g (by assumption) (by with_unfolding_all rfl) ?_);
          (with_reducible (refine eql_h (by first | assumption | decide) ?_; refine cnd_t ?_; refine mv_i ?_; refine mv_i ?_));
          (refine idx_d (by assumption) (by with_unfolding_all rfl) (by omega) fun p hp => ?_);
          (with_reducible (refine fa_g (by assumption) fun p hp => ?_));
          (refine ld_g (by assumption) (by with_unfolding_all rfl) ?_);
          (with_reducible (refine fao ?_));
          (refine sto (by assumption) (q := by infer_instance) (by with_unfolding_all exact Nat.le_of_ble_eq_true rfl) rfl rfl (u := by infer_instance) fun h p m => ?_);
          ((with_reducible refine fun (_ : Tmps) => ?_); (try dsimp only [nth]));
          (with_reducible (refine mv_i ?_; refine mv_i ?_));
          (refine idx_d (by assumption) (by with_unfolding_all rfl) (by omega) fun p hp => ?_);
          (with_reducible (refine fa_g (by assumption) fun p hp => ?_));
          (refine ld_g (by assumption) (by with_unfolding_all rfl) ?_);
          (with_reducible (refine eql_n (by first | assumption | decide) ?_; refine cnd_f ?_));
          ((with_reducible refine fun (_ : Tmps) => ?_); (try dsimp only [nth]));
          (with_reducible (refine mv_i ?_; refine inc_i (by omega) ?_; refine mv_i ?_));
          (rotate_left);
          (with_reducible (refine cnd_f ?_));
          (refine ldo_w (by assumption) (by infer_instance) (by with_unfolding_all rfl) ?_);
          (refine st_w (by assumption) (by infer_instance) (by with_unfolding_all rfl) (by with_unfolding_all rfl) (by first | rfl | exact flat_ones (Flat.flat _)) (by infer_instance) fun h p m => ?_);
          (refine rt_w1 (by assumption) (by infer_instance) (by with_unfolding_all rfl) ?_);
          (with_reducible (refine ret1 ?_));
          (rotate_left))
      · exact next1 hkl ⟨⟨Stb.st⟩, by rw [hnx]; exact m⟩
      · exfalso; omega
    · have n0 : ¬ (gt l k).kind = 0 := by omega
      have n1 : ¬ (gt l k).kind = 1 := by omega
      have n2 : ¬ (gt l k).kind = 2 := by omega
      rw [rightS, if_neg n0, if_neg n1, if_neg n2] at r2
      obtain ⟨r2, r3⟩ := r2
      have hap : ap1 x (muts x l k) (gt l k) = { muts x l k with steps := setTo (setTo (muts x l k).steps (gt l k).step.toNat (gt x.steps (gt l k).to.toNat).to) (gt l k).to.toNat (gt x.steps (gt l k).step.toNat).to } := by rw [ap1, if_neg n0, if_neg n1, if_neg n2]
      rw [hap] at hnx
      ((with_reducible (refine mv_i ?_; refine mv_i ?_; refine len_g (by assumption) ?_; refine lss_i (fun hc => ?_) (fun hc => ?_); refine cnd_t ?_; refine seq_i ?_; refine seq_i ?_; refine mv_i ?_; refine mv_i ?_));
          (refine idx_d (by assumption) (by with_unfolding_all rfl) (by omega) fun p hp => ?_);
          (with_reducible (refine fa_g (by assumption) fun p hp => ?_));
          (refine ld_g (by assumption) (by with_unfolding_all rfl) ?_);
          (with_reducible (refine eql_n (by first | assumption | decide) ?_; refine cnd_f ?_));
          ((with_reducible refine fun (_ : Tmps) => ?_); (try dsimp only [nth]));
          (with_reducible (refine seq_i ?_; refine mv_i ?_; refine mv_i ?_));
          (refine idx_d (by assumption) (by with_unfolding_all rfl) (by omega) fun p hp => ?_);
          (with_reducible (refine fa_g (by assumption) fun p hp => ?_));
          (refine ld_g (by assumption) (by with_unfolding_all rfl) ?_);
          (with_reducible (refine eql_n (by first | assumption | decide) ?_; refine cnd_f ?_));
          ((with_reducible refine fun (_ : Tmps) => ?_); (try dsimp only [nth]));
          (with_reducible (refine seq_i ?_; refine mv_i ?_; refine mv_i ?_));
          (refine idx_d (by assumption) (by with_unfolding_all rfl) (by omega) fun p hp => ?_);
          (with_reducible (refine fa_g (by assumption) fun p hp => ?_));
          (refine ld_g (by assumption) (by with_unfolding_all rfl) ?_);
          (with_reducible (refine eql_n (by first | assumption | decide) ?_; refine cnd_f ?_));
          ((with_reducible refine fun (_ : Tmps) => ?_); (try dsimp only [nth]));
          (with_reducible (refine mv_i ?_; refine mv_i ?_));
          (refine idx_d (by assumption) (by with_unfolding_all rfl) (by omega) fun p hp => ?_);
          (with_reducible (refine fa_g (by assumption) fun p hp => ?_));
          (refine ld_g (by assumption) (by with_unfolding_all rfl) ?_);
          (with_reducible (refine eql_h (by first | assumption | decide) ?_; refine cnd_t ?_; refine fao ?_));
          (refine ldo (by assumption) (q := by infer_instance) (by with_unfolding_all rfl) ?_);
          (refine IsSl.vb (by assumption) (by assumption) (by infer_instance) ?_);
          (with_reducible (refine mv_i ?_; refine mv_i ?_));
          (refine idx_d (by assumption) (by with_unfolding_all rfl) (by omega) fun p hp => ?_);
          (with_reducible (refine fa_g (by assumption) fun p hp => ?_));
          (refine ld_g (by assumption) (by with_unfolding_all rfl) ?_);
          (refine vb_n (by with_unfolding_all rfl) ?_);
          (with_reducible (refine fao ?_));
          (refine ldo (by assumption) (q := by infer_instance) (by with_unfolding_all rfl) ?_);
          (refine IsSl.vb (by assumption) (by assumption) (by infer_instance) ?_);
          (with_reducible (refine mv_i ?_; refine mv_i ?_));
          (refine idx_d (by assumption) (by with_unfolding_all rfl) (by omega) fun p hp => ?_);
          (with_reducible (refine fa_g (by assumption) fun p hp => ?_));
          (refine ld_g (by assumption) (by with_unfolding_all rfl) ?_);
          (refine vb_n (by with_unfolding_all rfl) ?_);
          (with_reducible (refine fao ?_));
          (refine ldo (by assumption) (q := by infer_instance) (by with_unfolding_all rfl) ?_);
          (with_reducible (refine vb_l (by assumption) ?_; refine mv_i ?_; refine mv_i ?_));
          (refine idx_d (by assumption) (by with_unfolding_all rfl) (by omega) fun p hp => ?_);
          (with_reducible (refine fa_g (by assumption) fun p hp => ?_));
          (refine ld_g (by assumption) (by with_unfolding_all rfl) ?_);
          (refine vb_n (by with_unfolding_all rfl) ?_);
          (refine idx_dz (by assumption) (by with_unfolding_all rfl) (by omega) (by omega) fun p hp => ?_);
          (with_reducible (refine fa_g (by assumption) fun p hp => ?_));
          (refine ld_g (by assumption) (by with_unfolding_all rfl) ?_);
          (refine vb_n (by with_unfolding_all rfl) ?_);
          (with_reducible (refine fao ?_));
          (refine ldo (by assumption) (q := by infer_instance) (by with_unfolding_all rfl) ?_);
          (with_reducible (refine vb_l (by assumption) ?_; refine mv_i ?_; refine mv_i ?_));
          (refine idx_d (by assumption) (by with_unfolding_all rfl) (by omega) fun p hp => ?_);
          (with_reducible (refine fa_g (by assumption) fun p hp => ?_));
          (refine ld_g (by assumption) (by with_unfolding_all rfl) ?_);
          (refine vb_n (by with_unfolding_all rfl) ?_);
          (refine idx_dz (by assumption) (by with_unfolding_all rfl) (by omega) (by omega) fun p hp => ?_);
          (with_reducible (refine fa_g (by assumption) fun p hp => ?_));
          (refine ld_g (by assumption) (by with_unfolding_all rfl) ?_);
          (refine vb_n (by with_unfolding_all rfl) ?_);
          (refine idx_oz (by assumption) (by omega) (by omega) ?_);
          (with_reducible (refine fao_e ?_));
          (rotate_left);
          (with_reducible (refine cnd_f ?_));
          (refine ldo_w (by assumption) (by infer_instance) (by with_unfolding_all rfl) ?_);
          (refine st_w (by assumption) (by infer_instance) (by with_unfolding_all rfl) (by with_unfolding_all rfl) (by first | rfl | exact flat_ones (Flat.flat _)) (by infer_instance) fun h p m => ?_);
          (refine rt_w1 (by assumption) (by infer_instance) (by with_unfolding_all rfl) ?_);
          (with_reducible (refine ret1 ?_));
          (rotate_left))
      rotate_left
      · exfalso; omega
      refine stf_d { gt (muts x l k).steps (gt l k).step.toNat with to := (gt x.steps (gt l k).to.toNat).to } m (by infer_instance) rfl (by omega) (by decide) rfl rfl rfl (by infer_instance) fun h p m => ?_
      ((refine pd_c (by assumption) (by infer_instance) (by with_unfolding_all rfl) ?_);
          (with_reducible (refine ⟨trivial, ?_⟩));
          (refine idx_oz (by assumption) (by omega) (by omega) ?_);
          (with_reducible (refine fao_e ?_)))
      have hl2 : (setTo (muts x l k).steps (gt l k).step.toNat (gt x.steps (gt l k).to.toNat).to).length = x.steps.length := by unfold setTo; rw [List.length_set, u4]
      change Mem g h (_ :: ⟨o, flat (setTo (muts x l k).steps (gt l k).step.toNat (gt x.steps (gt l k).to.toNat).to), 4⟩ :: _) at m
      refine stf_d { gt (setTo (muts x l k).steps (gt l k).step.toNat (gt x.steps (gt l k).to.toNat).to) (gt l k).to.toNat with to := (gt x.steps (gt l k).step.toNat).to } m (by infer_instance) rfl (by omega) (by decide) rfl rfl rfl (by infer_instance) fun h p m => ?_
      ((with_reducible (refine ⟨trivial, ?_⟩));
          ((with_reducible refine fun (_ : Tmps) => ?_); (try dsimp only [nth]));
          (with_reducible (refine mv_i ?_; refine inc_i (by omega) ?_; refine mv_i ?_)))
      exact next1 hkl ⟨⟨Stb.st⟩, by rw [hnx]; exact m⟩
  · ((with_reducible (refine mv_i ?_; refine mv_i ?_; refine len_g (by assumption) ?_; refine lss_i (fun hc => ?_) (fun hc => ?_); refine cnd_t ?_; refine seq_i ?_; refine seq_i ?_; refine mv_i ?_; refine mv_i ?_));
      (refine idx_d (by assumption) (by with_unfolding_all rfl) (by omega) fun p hp => ?_);
      (with_reducible (refine fa_g (by assumption) fun p hp => ?_));
      (refine ld_g (by assumption) (by with_unfolding_all rfl) ?_);
      (with_reducible (refine eql_i (fun hc => ?_) (fun hc => ?_); refine cnd_t ?_; refine fao ?_));
      (refine ldo (by assumption) (q := by infer_instance) (by with_unfolding_all rfl) ?_);
      (refine IsSl.vb (by assumption) (by assumption) (by infer_instance) ?_);
      (with_reducible (refine mv_i ?_; refine mv_i ?_));
      (refine idx_d (by assumption) (by with_unfolding_all rfl) (by omega) fun p hp => ?_);
      (with_reducible (refine fa_g (by assumption) fun p hp => ?_));
      (refine ld_g (by assumption) (by with_unfolding_all rfl) ?_);
      (refine vb_n (by with_unfolding_all rfl) ?_);
      (with_reducible (refine mv_i ?_; refine mv_i ?_));
      (refine idx_d (by assumption) (by with_unfolding_all rfl) (by omega) fun p hp => ?_);
      (with_reducible (refine fa_g (by assumption) fun p hp => ?_));
      (refine ld_g (by assumption) (by with_unfolding_all rfl) ?_);
      (refine vb_n (by with_unfolding_all rfl) ?_);
      (refine idx_oz (by assumption) (by omega) (by omega) ?_);
      (with_reducible (refine fao_e ?_));
      (rotate_left);
      (with_reducible (refine cnd_f ?_));
      ((with_reducible refine fun (_ : Tmps) => ?_); (try dsimp only [nth]));
      (with_reducible (refine seq_i ?_; refine mv_i ?_; refine mv_i ?_));
      (refine idx_d (by assumption) (by with_unfolding_all rfl) (by omega) fun p hp => ?_);
      (with_reducible (refine fa_g (by assumption) fun p hp => ?_));
      (refine ld_g (by assumption) (by with_unfolding_all rfl) ?_);
      (with_reducible (refine eql_i (fun hc => ?_) (fun hc => ?_); refine cnd_t ?_; refine fao ?_));
      (refine ldo (by assumption) (q := by infer_instance) (by with_unfolding_all rfl) ?_);
      (refine IsSl.vb (by assumption) (by assumption) (by infer_instance) ?_);
      (with_reducible (refine mv_i ?_; refine mv_i ?_));
      (refine idx_d (by assumption) (by with_unfolding_all rfl) (by omega) fun p hp => ?_);
      (with_reducible (refine fa_g (by assumption) fun p hp => ?_));
      (refine ld_g (by assumption) (by with_unfolding_all rfl) ?_);
      (refine vb_n (by with_unfolding_all rfl) ?_);
      (with_reducible (refine mv_i ?_; refine mv_i ?_));
      (refine idx_d (by assumption) (by with_unfolding_all rfl) (by omega) fun p hp => ?_);
      (with_reducible (refine fa_g (by assumption) fun p hp => ?_));
      (refine ld_g (by assumption) (by with_unfolding_all rfl) ?_);
      (refine vb_n (by with_unfolding_all rfl) ?_);
      (refine idx_oz (by assumption) (by omega) (by omega) ?_);
      (with_reducible (refine fao_e ?_));
      (rotate_left);
      (with_reducible (refine cnd_f ?_));
      ((with_reducible refine fun (_ : Tmps) => ?_); (try dsimp only [nth]));
      (with_reducible (refine seq_i ?_; refine mv_i ?_; refine mv_i ?_));
      (refine idx_d (by assumption) (by with_unfolding_all rfl) (by omega) fun p hp => ?_);
      (with_reducible (refine fa_g (by assumption) fun p hp => ?_));
      (refine ld_g (by assumption) (by with_unfolding_all rfl) ?_);
      (with_reducible (refine eql_i (fun hc => ?_) (fun hc => ?_); refine cnd_t ?_; refine mv_i ?_; refine mv_i ?_));
      (refine idx_d (by assumption) (by with_unfolding_all rfl) (by omega) fun p hp => ?_);
      (with_reducible (refine fa_g (by assumption) fun p hp => ?_));
      (refine ld_g (by assumption) (by with_unfolding_all rfl) ?_);
      (with_reducible (refine fao ?_));
      (refine sto (by assumption) (q := by infer_instance) (by with_unfolding_all exact Nat.le_of_ble_eq_true rfl) rfl rfl (u := by infer_instance) fun h p m => ?_);
      ((with_reducible refine fun (_ : Tmps) => ?_); (try dsimp only [nth]));
      (with_reducible (refine mv_i ?_; refine mv_i ?_));
      (refine idx_d (by assumption) (by with_unfolding_all rfl) (by omega) fun p hp => ?_);
      (with_reducible (refine fa_g (by assumption) fun p hp => ?_));
      (refine ld_g (by assumption) (by with_unfolding_all rfl) ?_);
      (with_reducible (refine eql_i (fun hc => ?_) (fun hc => ?_); refine cnd_t ?_; refine fao ?_));
      (refine ldo (by assumption) (q := by infer_instance) (by with_unfolding_all rfl) ?_);
      (refine IsSl.vb (by assumption) (by assumption) (by infer_instance) ?_);
      (with_reducible (refine mv_i ?_; refine mv_i ?_));
      (refine idx_d (by assumption) (by with_unfolding_all rfl) (by omega) fun p hp => ?_);
      (with_reducible (refine fa_g (by assumption) fun p hp => ?_));
      (refine ld_g (by assumption) (by with_unfolding_all rfl) ?_);
      (refine vb_n (by with_unfolding_all rfl) ?_);
      (with_reducible (refine fao ?_));
      (refine ldo (by assumption) (q := by infer_instance) (by with_unfolding_all rfl) ?_);
      (refine IsSl.vb (by assumption) (by assumption) (by infer_instance) ?_);
      (with_reducible (refine mv_i ?_; refine mv_i ?_));
      (refine idx_d (by assumption) (by with_unfolding_all rfl) (by omega) fun p hp => ?_);
      (with_reducible (refine fa_g (by assumption) fun p hp => ?_));
      (refine ld_g (by assumption) (by with_unfolding_all rfl) ?_);
      (refine vb_n (by with_unfolding_all rfl) ?_);
      (with_reducible (refine fao ?_));
      (refine ldo (by assumption) (q := by infer_instance) (by with_unfolding_all rfl) ?_);
      (with_reducible (refine vb_l (by assumption) ?_; refine mv_i ?_; refine mv_i ?_));
      (refine idx_d (by assumption) (by with_unfolding_all rfl) (by omega) fun p hp => ?_);
      (with_reducible (refine fa_g (by assumption) fun p hp => ?_));
      (refine ld_g (by assumption) (by with_unfolding_all rfl) ?_);
      (refine vb_n (by with_unfolding_all rfl) ?_);
      (refine idx_dz (by assumption) (by with_unfolding_all rfl) (by omega) (by omega) fun p hp => ?_);
      (with_reducible (refine fa_g (by assumption) fun p hp => ?_));
      (refine ld_g (by assumption) (by with_unfolding_all rfl) ?_);
      (refine vb_n (by with_unfolding_all rfl) ?_);
      (with_reducible (refine fao ?_));
      (refine ldo (by assumption) (q := by infer_instance) (by with_unfolding_all rfl) ?_);
      (with_reducible (refine vb_l (by assumption) ?_; refine mv_i ?_; refine mv_i ?_));
      (refine idx_d (by assumption) (by with_unfolding_all rfl) (by omega) fun p hp => ?_);
      (with_reducible (refine fa_g (by assumption) fun p hp => ?_));
      (refine ld_g (by assumption) (by with_unfolding_all rfl) ?_);
      (refine vb_n (by with_unfolding_all rfl) ?_);
      (refine idx_dz (by assumption) (by with_unfolding_all rfl) (by omega) (by omega) fun p hp => ?_);
      (with_reducible (refine fa_g (by assumption) fun p hp => ?_));
      (refine ld_g (by assumption) (by with_unfolding_all rfl) ?_);
      (refine vb_n (by with_unfolding_all rfl) ?_);
      (refine idx_oz (by assumption) (by omega) (by omega) ?_);
      (with_reducible (refine fao_e ?_));
      (rotate_left);
      (with_reducible (refine cnd_f ?_));
      ((with_reducible refine fun (_ : Tmps) => ?_); (try dsimp only [nth]));
      (with_reducible (refine mv_i ?_; refine inc_i (by omega) ?_; refine mv_i ?_));
      (rotate_left);
      (with_reducible (refine cnd_f ?_));
      ((with_reducible refine fun (_ : Tmps) => ?_); (try dsimp only [nth]));
      (with_reducible (refine mv_i ?_; refine mv_i ?_));
      (refine idx_d (by assumption) (by with_unfolding_all rfl) (by omega) fun p hp => ?_);
      (with_reducible (refine fa_g (by assumption) fun p hp => ?_));
      (refine ld_g (by assumption) (by with_unfolding_all rfl) ?_);
      (with_reducible (refine eql_i (fun hc => ?_) (fun hc => ?_); refine cnd_t ?_; refine fao ?_));
      (refine ldo (by assumption) (q := by infer_instance) (by with_unfolding_all rfl) ?_);
      (refine IsSl.vb (by assumption) (by assumption) (by infer_instance) ?_);
      (with_reducible (refine mv_i ?_; refine mv_i ?_));
      (refine idx_d (by assumption) (by with_unfolding_all rfl) (by omega) fun p hp => ?_);
      (with_reducible (refine fa_g (by assumption) fun p hp => ?_));
      (refine ld_g (by assumption) (by with_unfolding_all rfl) ?_);
      (refine vb_n (by with_unfolding_all rfl) ?_);
      (with_reducible (refine fao ?_));
      (refine ldo (by assumption) (q := by infer_instance) (by with_unfolding_all rfl) ?_);
      (refine IsSl.vb (by assumption) (by assumption) (by infer_instance) ?_);
      (with_reducible (refine mv_i ?_; refine mv_i ?_));
      (refine idx_d (by assumption) (by with_unfolding_all rfl) (by omega) fun p hp => ?_);
      (with_reducible (refine fa_g (by assumption) fun p hp => ?_));
      (refine ld_g (by assumption) (by with_unfolding_all rfl) ?_);
      (refine vb_n (by with_unfolding_all rfl) ?_);
      (with_reducible (refine fao ?_));
      (refine ldo (by assumption) (q := by infer_instance) (by with_unfolding_all rfl) ?_);
      (with_reducible (refine vb_l (by assumption) ?_; refine mv_i ?_; refine mv_i ?_));
      (refine idx_d (by assumption) (by with_unfolding_all rfl) (by omega) fun p hp => ?_);
      (with_reducible (refine fa_g (by assumption) fun p hp => ?_));
      (refine ld_g (by assumption) (by with_unfolding_all rfl) ?_);
      (refine vb_n (by with_unfolding_all rfl) ?_);
      (refine idx_dz (by assumption) (by with_unfolding_all rfl) (by omega) (by omega) fun p hp => ?_);
      (with_reducible (refine fa_g (by assumption) fun p hp => ?_));
      (refine ld_g (by assumption) (by with_unfolding_all rfl) ?_);
      (refine vb_n (by with_unfolding_all rfl) ?_);
      (with_reducible (refine fao ?_));
      (refine ldo (by assumption) (q := by infer_instance) (by with_unfolding_all rfl) ?_);
      (with_reducible (refine vb_l (by assumption) ?_; refine mv_i ?_; refine mv_i ?_));
      (refine idx_d (by assumption) (by with_unfolding_all rfl) (by omega) fun p hp => ?_);
      (with_reducible (refine fa_g (by assumption) fun p hp => ?_));
      (refine ld_g (by assumption) (by with_unfolding_all rfl) ?_);
      (refine vb_n (by with_unfolding_all rfl) ?_);
      (refine idx_dz (by assumption) (by with_unfolding_all rfl) (by omega) (by omega) fun p hp => ?_);
      (with_reducible (refine fa_g (by assumption) fun p hp => ?_));
      (refine ld_g (by assumption) (by with_unfolding_all rfl) ?_);
      (refine vb_n (by with_unfolding_all rfl) ?_);
      (refine idx_oz (by assumption) (by omega) (by omega) ?_);
      (with_reducible (refine fao_e ?_));
      (rotate_left);
      (with_reducible (refine cnd_f ?_));
      ((with_reducible refine fun (_ : Tmps) => ?_); (try dsimp only [nth]));
      (with_reducible (refine mv_i ?_; refine inc_i (by omega) ?_; refine mv_i ?_));
      (rotate_left);
      (with_reducible (refine cnd_f ?_));
      (refine ldo_w (by assumption) (by infer_instance) (by with_unfolding_all rfl) ?_);
      (refine st_w (by assumption) (by infer_instance) (by with_unfolding_all rfl) (by with_unfolding_all rfl) (by first | rfl | exact flat_ones (Flat.flat _)) (by infer_instance) fun h p m => ?_);
      (refine rt_w1 (by assumption) (by infer_instance) (by with_unfolding_all rfl) ?_);
      (with_reducible (refine ret1 ?_));
      (rotate_left))
    all_goals (try (exfalso; omega))
    have hkk : k = l.length := by omega
    have e1 : muts x l k = mutd x l := by rw [hkk]; simp [muts, mutd]
    refine ⟨m.pre, a, d, x.steps.length, by rw [← e1, u1, u2, u3], by rw [← e1, u4], ?_⟩
    rw [← e1]
    exact IsSl.ro hs m (k := 1) rfl (by omega)
end Go.Proofs.Ytomiejfeclefaaa

set_option linter.unusedSimpArgs false
set_option linter.unusedVariables false
set_option linter.unnecessarySimpa false
set_option maxRecDepth 100000
set_option maxHeartbeats 4000000
namespace Go.Proofs.Ytomiejfeclefaaa
open Go.AM
variable {h g : Heap}
end Go.Proofs.Ytomiejfeclefaaa

set_option linter.unusedSimpArgs false
set_option linter.unusedVariables false
set_option linter.unnecessarySimpa false
set_option maxRecDepth 100000
namespace Go.Proofs.Ytomiejfeclefaaa
open Go.AM
open Go.ChangeShapes Go.WideShapes Go.ChangeAt Go.RowKit
theorem laid : laidOutB Try.prog = true := by kernel_rfl
theorem own : ownKnob Try.prog.godebug = none := by kernel_rfl
def dStp {H : Type} : DataW H → Stp | .agg [a, b, c, d] => ⟨dint a, dint b, dint c, dint d⟩ | _ => Df.d
def dMut {H : Type} : DataW H → Mut | .agg [a, b, c] => ⟨dint a, dint b, dint c⟩ | _ => Df.d
def dMac {H : Type} : DataW H → Mach | .agg [a, b, c, d, e] => ⟨dint a, dint b, dint c, dint d, dlist dStp e⟩ | _ => ⟨0, 0, 0, 0, []⟩
theorem ARd_stp {H : Type} {h : Heap} {cs : List Value} {d : DataW H} (q : ARd Try.prog h 82 cs d) : cs = Flat.cells (dStp d) := by
  obtain ⟨parts, rfl, hl, hp, hf⟩ := q.fields Try.underlying82
  have hl : cs.length = 4 := hl
  obtain ⟨a, b, c, d, rfl⟩ : ∃ a b c d, parts = [a, b, c, d] := by
    match parts, hp with
    | [a, b, c, d], _ => exact ⟨a, b, c, d, rfl⟩
  have g0 : cs[0]? = some (.int .i64 (dint a)) := ARd.f_int (hf 0 _ a rfl rfl) Try.underlying3
  have g1 : cs[1]? = some (.int .i64 (dint b)) := ARd.f_int (hf 1 _ b rfl rfl) Try.underlying3
  have g2 : cs[2]? = some (.int .i64 (dint c)) := ARd.f_int (hf 2 _ c rfl rfl) Try.underlying3
  have g3 : cs[3]? = some (.int .i64 (dint d)) := ARd.f_int (hf 3 _ d rfl rfl) Try.underlying3
  refine List.ext_getElem? fun j => ?_
  by_cases hj : j < 4
  · match j, hj with
    | 0, _ => rw [g0]; rfl
    | 1, _ => rw [g1]; rfl
    | 2, _ => rw [g2]; rfl
    | 3, _ => rw [g3]; rfl
  · rw [List.getElem?_eq_none (by omega), List.getElem?_eq_none (by rw [Flat.len]; show 4 ≤ j; omega)]
theorem ARd_mut {H : Type} {h : Heap} {cs : List Value} {d : DataW H} (q : ARd Try.prog h 34 cs d) : cs = Flat.cells (dMut d) := by
  obtain ⟨parts, rfl, hl, hp, hf⟩ := q.fields Try.underlying34
  have hl : cs.length = 3 := hl
  obtain ⟨a, b, c, rfl⟩ : ∃ a b c, parts = [a, b, c] := by
    match parts, hp with
    | [a, b, c], _ => exact ⟨a, b, c, rfl⟩
  have g0 : cs[0]? = some (.int .i64 (dint a)) := ARd.f_int (hf 0 _ a rfl rfl) Try.underlying3
  have g1 : cs[1]? = some (.int .i64 (dint b)) := ARd.f_int (hf 1 _ b rfl rfl) Try.underlying3
  have g2 : cs[2]? = some (.int .i64 (dint c)) := ARd.f_int (hf 2 _ c rfl rfl) Try.underlying3
  refine List.ext_getElem? fun j => ?_
  by_cases hj : j < 3
  · match j, hj with
    | 0, _ => rw [g0]; rfl
    | 1, _ => rw [g1]; rfl
    | 2, _ => rw [g2]; rfl
  · rw [List.getElem?_eq_none (by omega), List.getElem?_eq_none (by rw [Flat.len]; show 3 ≤ j; omega)]
theorem dl_le {H α : Type} (de : DataW H → α) (d : DataW H) : (dlist de d).length ≤ Rows.uptoBulk d := by
  cases d with
  | slice elems spare =>
    have := bulks.length_le elems
    have := bulks.slice_elems elems spare
    simp only [dlist, List.length_map]; omega
  | lit l => simp [dlist]
  | nil => simp [dlist]
  | ptr d => simp [dlist]
  | agg parts => simp [dlist]
  | iface t d => simp [dlist]
  | map entries => simp [dlist]
  | held h => simp [dlist]
theorem mac_le {H : Type} (d : DataW H) : (dMac d).steps.length ≤ Rows.uptoBulk d := by
  unfold dMac
  split
  · rename_i a b c d e
    have := dl_le dStp e
    simp only [Rows.uptoBulk, Rows.uptoBulkAll]
    omega
  · simp
theorem ARd_mac {H : Type} {h : Heap} {cs : List Value} {d : DataW H} (q : ARd Try.prog h 24 cs d) (hb : (dMac d).steps.length ≤ 2 ^ 50) : MacV h (absV Try.prog 24 cs) (dMac d) := by
  obtain ⟨parts, rfl, hl, hp, hf⟩ := q.fields Try.underlying24
  have hl : cs.length = 5 := hl
  obtain ⟨a, b, c, d, e, rfl⟩ : ∃ a b c d e, parts = [a, b, c, d, e] := by
    match parts, hp with
    | [a, b, c, d, e], _ => exact ⟨a, b, c, d, e, rfl⟩
  have g0 : cs[0]? = some (.int .i64 (dint a)) := ARd.f_int (hf 0 _ a rfl rfl) Try.underlying3
  have g1 : cs[1]? = some (.int .i64 (dint b)) := ARd.f_int (hf 1 _ b rfl rfl) Try.underlying3
  have g2 : cs[2]? = some (.int .i64 (dint c)) := ARd.f_int (hf 2 _ c rfl rfl) Try.underlying3
  have g3 : cs[3]? = some (.int .i64 (dint d)) := ARd.f_int (hf 3 _ d rfl rfl) Try.underlying3
  obtain ⟨o, l, c', e', s⟩ := ARd.list dStp (hf 4 _ e rfl rfl) Try.underlying22 (by kernel_rfl) (fun cs d r => ARd_stp r) hb
  have g4 : cs[4]? = some (.slice o l c') := drop_one e'
  refine ⟨_, ?_, s⟩
  simp only [absV, Try.underlying24]
  congr 1
  have : cs = [.int .i64 (dint a), .int .i64 (dint b), .int .i64 (dint c), .int .i64 (dint d), .slice o l c'] := by
    refine List.ext_getElem? fun j => ?_
    by_cases hj : j < 5
    · match j, hj with
      | 0, _ => rw [g0]; rfl
      | 1, _ => rw [g1]; rfl
      | 2, _ => rw [g2]; rfl
      | 3, _ => rw [g3]; rfl
      | 4, _ => rw [g4]; rfl
    · rw [List.getElem?_eq_none (by omega), List.getElem?_eq_none (by simp; omega)]
  rw [this]; rfl
end Go.Proofs.Ytomiejfeclefaaa

set_option linter.unusedVariables false
set_option maxRecDepth 100000
namespace Go.Proofs.Ytomiejfeclefaaa
open Go.AM

/-! ### examiner/examinerref41.ListErr: function 25 -/
/-! ### examiner/examinerlaw41.few: function 26 -/
/-! ### examiner/mutant.KindsOf: function 27 -/
/-! ### examiner/examinerref41.OwnList: function 28 -/
/-! ### examiner/examinerbase.SameInts: function 29 -/
def n29 (a0 a1 : Value) (h : Heap) (R : Value → Heap → Prop) : Prop :=
  mvK (Value.bool false) h fun v4 h =>
  mvK a0 h fun v6 h =>
  vK (aLen Try.prog 53 v6) h fun v7 h =>
  mvK a1 h fun v8 h =>
  vK (aLen Try.prog 53 v8) h fun v9 h =>
  vK (aBin Try.prog BinOp.neq 3 v7 v9) h fun v10 h =>
  cnd v10 (
   mvK (Value.bool false) h fun v4_1 h =>
   retV [some v4_1] R h) (
   mvK (Value.int IntKind.i64 0) h fun v5 h =>
   ∃ (I4 : List Value → Heap → Prop) (μ4 : List Value → Heap → Nat), I4 [v5] h ∧
   ∀ (h4 : Heap) (j4 : Tmps) (v5_1 : Value), I4 [v5_1] h4 → (let h := h4
    mvK v5_1 h fun v11 h =>
    mvK a0 h fun v12 h =>
    vK (aLen Try.prog 53 v12) h fun v13 h =>
    vK (aBin Try.prog BinOp.lss 3 v11 v13) h fun v14 h =>
    cnd v14 (
     mvK a0 h fun v17 h =>
     mvK v5_1 h fun v18 h =>
     vK (aIndexAddr Try.prog 53 v17 v18) h fun v19 h =>
     vK (aLoad Try.prog 3 v19 h) h fun v20 g =>
     VB h.length v20 ∧ (let h := g
      mvK a1 h fun v21 h =>
      mvK v5_1 h fun v22 h =>
      vK (aIndexAddr Try.prog 53 v21 v22) h fun v23 h =>
      vK (aLoad Try.prog 3 v23 h) h fun v24 g =>
      VB h.length v24 ∧ (let h := g
       vK (aBin Try.prog BinOp.neq 3 v20 v24) h fun v25 h =>
       cnd v25 (
        mvK (Value.bool false) h fun v4_2 h =>
        retV [some v4_2] R h) (
        mvK v5_1 h fun v15 h =>
        vK (aBin Try.prog BinOp.add 3 v15 (Value.int IntKind.i64 1)) h fun v16 h =>
        mvK v16 h fun v5_2 h =>
        I4 [v5_2] h ∧ μ4 [v5_2] h < μ4 [v5_1] h4)))) (
     mvK (Value.bool true) h fun v4_3 h =>
     retV [some v4_3] R h)))
def lv29 (q : Nat) : List Nat := bif Nat.beq q 8 then [67106864, 5] else []
theorem ok29 : lkOK Try.prog lv29 Try.f29 2 (Try.f29.body.getD .skip) 29 = true := by kernel_rfl
theorem e29 (a0 a1 : Value) (h : Heap) (R : Value → Heap → Prop) : n29 a0 a1 h R = wpK Try.prog lv29 (Try.f29.body.getD .skip) (endK Try.prog [.tmp 4] R) (argT [a0, a1]) h := by kernel_rfl
theorem w29 {a0 a1 : Value} {h : Heap} {R : Value → Heap → Prop} (hn : n29 a0 a1 h R) : DetP Try.prog 29 [a0, a1] h R :=
  DetP.of_code (rs := [.tmp 4]) (n := 2) Try.func29 (by kernel_rfl) (by kernel_rfl) lv29 ok29 rfl ((e29 a0 a1 h R) ▸ hn)

/-! ### examiner/examinerref41.Kinds: function 30 -/
/-! ### examiner/mutant.Killing: function 31 -/
def n31 (a0 a1 : Value) (h : Heap) (R : Value → Heap → Prop) : Prop :=
  okK (some (aBox Try.prog 24 a0 h)) fun v2 h =>
  mvK (Value.slice none 0 0) h fun v4 h =>
  mvK (Value.int IntKind.i64 0) h fun v5 h =>
  vK (aLoad Try.prog 24 v2 h) h fun v7 h =>
  mvK a1 h fun v8 h =>
  okK (aBuildSlice Try.prog 51 1 [(0, v8)] h) fun v9 h =>
  cK Try.prog 47 [v7, v9] h fun v10 h =>
  mvK v10 h fun v6 h =>
  mvK v6 h fun v11 h =>
  vK (aBin Try.prog BinOp.neq 28 v11 (Value.int IntKind.i64 0)) h fun v12 h =>
  cnd v12 (
   mvK v6 h fun v13 h =>
   mvK (Value.slice none 0 0) h fun v4_1 h =>
   mvK v13 h fun v5_1 h =>
   retV [some v4_1, some v5_1] R h) (
   vK (aLoad Try.prog 24 v2 h) h fun v14 g =>
   VB h.length v14 ∧ (let h := g
    vK (aLoad Try.prog 24 v2 h) h fun v15 g =>
    VB h.length v15 ∧ (let h := g
     mvK a1 h fun v16 h =>
     cKD Try.prog 50 [v15, v16] h fun v17 g =>
     (∃ new, g = h ++ new) ∧ (let h := g
      cKD Try.prog 64 [v14, v17] h fun v18 g =>
      (∃ new, g = h ++ new) ∧ (let h := g
       vK (aExtract v18 0) h fun v19 h =>
       vK (aExtract v18 1) h fun v20 h =>
       mvK v19 h fun v4_2 h =>
       mvK v20 h fun v5_2 h =>
       retV [some v4_2, some v5_2] R h)))))
def lv31 (q : Nat) : List Nat := []
theorem ok31 : lkOK Try.prog lv31 Try.f31 2 (Try.f31.body.getD .skip) 31 = true := by kernel_rfl
theorem e31 (a0 a1 : Value) (h : Heap) (R : Value → Heap → Prop) : n31 a0 a1 h R = wpK Try.prog lv31 (Try.f31.body.getD .skip) (endK Try.prog [.tmp 4, .tmp 5] R) (argT [a0, a1]) h := by kernel_rfl
theorem w31 {a0 a1 : Value} {h : Heap} {R : Value → Heap → Prop} (hn : n31 a0 a1 h R) : DetP Try.prog 31 [a0, a1] h R :=
  DetP.of_code (rs := [.tmp 4, .tmp 5]) (n := 2) Try.func31 (by kernel_rfl) (by kernel_rfl) lv31 ok31 rfl ((e31 a0 a1 h R) ▸ hn)

/-! ### examiner/examinerref41.Kill: function 33 -/
def n33 (a0 a1 : Value) (h : Heap) (R : Value → Heap → Prop) : Prop :=
  okK (some (aBox Try.prog 24 a0 h)) fun v2 h =>
  mvK (Value.slice none 0 0) h fun v4 h =>
  mvK (Value.bool false) h fun v5 h =>
  mvK (Value.slice none 0 0) h fun v6 h =>
  vK (aLoad Try.prog 24 v2 h) h fun v8 h =>
  mvK a1 h fun v9 h =>
  cK Try.prog 24 [v8, v9] h fun v10 h =>
  okK (aAlloc Try.prog 24 h) fun v7 h =>
  okK ((aStore Try.prog 24 v7 v10 h).map (undef, ·)) fun _ h =>
  vK (aLoad Try.prog 24 v2 h) h fun v11 h =>
  vK (aLoad Try.prog 24 v7 h) h fun v12 h =>
  vK (aFieldAddr Try.prog 24 v2 3) h fun v13 h =>
  vK (aLoad Try.prog 3 v13 h) h fun v14 h =>
  vK (aFieldAddr Try.prog 24 v7 3) h fun v15 h =>
  vK (aLoad Try.prog 3 v15 h) h fun v16 h =>
  vK (aBuild Try.prog 104 [(0, v14), (1, v16)]) h fun v17 h =>
  cK Try.prog 67 [v11, v12, v17] h fun v18 h =>
  vK (aExtract v18 0) h fun v19 h =>
  vK (aExtract v18 1) h fun v20 h =>
  vK (aExtract v18 2) h fun v21 h =>
  mvK v19 h fun v4_1 h =>
  mvK v20 h fun v5_1 h =>
  mvK v21 h fun v6_1 h =>
  retV [some v4_1, some v5_1, some v6_1] R h
def lv33 (q : Nat) : List Nat := []
theorem ok33 : lkOK Try.prog lv33 Try.f33 2 (Try.f33.body.getD .skip) 33 = true := by kernel_rfl
theorem e33 (a0 a1 : Value) (h : Heap) (R : Value → Heap → Prop) : n33 a0 a1 h R = wpK Try.prog lv33 (Try.f33.body.getD .skip) (endK Try.prog [.tmp 4, .tmp 5, .tmp 6] R) (argT [a0, a1]) h := by kernel_rfl
theorem w33 {a0 a1 : Value} {h : Heap} {R : Value → Heap → Prop} (hn : n33 a0 a1 h R) : DetP Try.prog 33 [a0, a1] h R :=
  DetP.of_code (rs := [.tmp 4, .tmp 5, .tmp 6]) (n := 2) Try.func33 (by kernel_rfl) (by kernel_rfl) lv33 ok33 rfl ((e33 a0 a1 h R) ▸ hn)

/-! ### examiner/examinerlaw41.samePairs: function 34 -/
def n34 (a0 a1 : Value) (h : Heap) (R : Value → Heap → Prop) : Prop :=
  mvK (Value.bool false) h fun v4 h =>
  mvK a0 h fun v6 h =>
  vK (aLen Try.prog 36 v6) h fun v7 h =>
  mvK a1 h fun v8 h =>
  vK (aLen Try.prog 36 v8) h fun v9 h =>
  vK (aBin Try.prog BinOp.neq 3 v7 v9) h fun v10 h =>
  cnd v10 (
   mvK (Value.bool false) h fun v4_1 h =>
   retV [some v4_1] R h) (
   mvK (Value.int IntKind.i64 0) h fun v5 h =>
   ∃ (I4 : List Value → Heap → Prop) (μ4 : List Value → Heap → Nat), I4 [v5] h ∧
   ∀ (h4 : Heap) (j4 : Tmps) (v5_1 : Value), I4 [v5_1] h4 → (let h := h4
    mvK v5_1 h fun v11 h =>
    mvK a0 h fun v12 h =>
    vK (aLen Try.prog 36 v12) h fun v13 h =>
    vK (aBin Try.prog BinOp.lss 3 v11 v13) h fun v14 h =>
    cnd v14 (
     mvK a0 h fun v17 h =>
     mvK v5_1 h fun v18 h =>
     vK (aIndexAddr Try.prog 36 v17 v18) h fun v19 h =>
     vK (aLoad Try.prog 77 v19 h) h fun v20 g =>
     VB h.length v20 ∧ (let h := g
      mvK a1 h fun v21 h =>
      mvK v5_1 h fun v22 h =>
      vK (aIndexAddr Try.prog 36 v21 v22) h fun v23 h =>
      vK (aLoad Try.prog 77 v23 h) h fun v24 g =>
      VB h.length v24 ∧ (let h := g
       vK (aBin Try.prog BinOp.neq 77 v20 v24) h fun v25 h =>
       cnd v25 (
        mvK (Value.bool false) h fun v4_2 h =>
        retV [some v4_2] R h) (
        mvK v5_1 h fun v15 h =>
        vK (aBin Try.prog BinOp.add 3 v15 (Value.int IntKind.i64 1)) h fun v16 h =>
        mvK v16 h fun v5_2 h =>
        I4 [v5_2] h ∧ μ4 [v5_2] h < μ4 [v5_1] h4)))) (
     mvK (Value.bool true) h fun v4_3 h =>
     retV [some v4_3] R h)))
def lv34 (q : Nat) : List Nat := bif Nat.beq q 8 then [67106864, 5] else []
theorem ok34 : lkOK Try.prog lv34 Try.f34 2 (Try.f34.body.getD .skip) 34 = true := by kernel_rfl
theorem e34 (a0 a1 : Value) (h : Heap) (R : Value → Heap → Prop) : n34 a0 a1 h R = wpK Try.prog lv34 (Try.f34.body.getD .skip) (endK Try.prog [.tmp 4] R) (argT [a0, a1]) h := by kernel_rfl
theorem w34 {a0 a1 : Value} {h : Heap} {R : Value → Heap → Prop} (hn : n34 a0 a1 h R) : DetP Try.prog 34 [a0, a1] h R :=
  DetP.of_code (rs := [.tmp 4]) (n := 2) Try.func34 (by kernel_rfl) (by kernel_rfl) lv34 ok34 rfl ((e34 a0 a1 h R) ▸ hn)

/-! ### examiner/mutant.allErr: function 61 -/
/-! ### slices.IndexFunc[[]examiner/api.Machine,examiner/api.Machine]: function 62 -/
/-! ### examiner/mutant.KindsOf$1: function 63 -/
/-! ### examiner/model.Difference: function 64 -/
def n64 (a0 a1 : Value) (h : Heap) (R : Value → Heap → Prop) : Prop :=
  okK (some (aBox Try.prog 24 a0 h)) fun v2 h =>
  okK (some (aBox Try.prog 24 a1 h)) fun v3 h =>
  mvK (Value.slice none 0 0) h fun v4 h =>
  mvK (Value.int IntKind.i64 0) h fun v5 h =>
  vK (aLoad Try.prog 24 v2 h) h fun v18 g =>
  VB h.length v18 ∧ (let h := g
   cKD Try.prog 90 [v18] h fun v19 g =>
   (∃ new, g = h ++ new) ∧ (let h := g
    vK (aLoad Try.prog 24 v3 h) h fun v20 g =>
    VB h.length v20 ∧ (let h := g
     cKD Try.prog 90 [v20] h fun v21 g =>
     (∃ new, g = h ++ new) ∧ (let h := g
      vK (aFieldAddr Try.prog 24 v2 1) h fun v22 h =>
      vK (aLoad Try.prog 3 v22 h) h fun v23 g =>
      VB h.length v23 ∧ (let h := g
       vK (aFieldAddr Try.prog 24 v3 1) h fun v24 h =>
       vK (aLoad Try.prog 3 v24 h) h fun v25 g =>
       VB h.length v25 ∧ (let h := g
        vK (aBin Try.prog BinOp.eql 3 v23 v25) h fun v26 h =>
        cKD Try.prog 91 [v26, (Value.int IntKind.i64 6)] h fun v27 g =>
        (∃ new, g = h ++ new) ∧ (let h := g
         okK (aBuildSlice Try.prog 141 3 [(0, v19), (1, v21), (2, v27)] h) fun v28 h =>
         cKD Try.prog 76 [v28] h fun v29 g =>
         (∃ new, g = h ++ new) ∧ (let h := g
          mvK v29 h fun v6 h =>
          mvK v6 h fun v30 h =>
          vK (aBin Try.prog BinOp.neq 28 v30 (Value.int IntKind.i64 0)) h fun v31 h =>
          cnd v31 (
           mvK v6 h fun v32 h =>
           mvK (Value.slice none 0 0) h fun v4_1 h =>
           mvK v32 h fun v5_1 h =>
           retV [some v4_1, some v5_1] R h) (
           vK (aLoad Try.prog 24 v2 h) h fun v33 g =>
           VB h.length v33 ∧ (let h := g
            cKD Try.prog 92 [v33] h fun v34 g =>
            (∃ new, g = h ++ new) ∧ (let h := g
             vK (aLoad Try.prog 24 v3 h) h fun v35 g =>
             VB h.length v35 ∧ (let h := g
              cKD Try.prog 92 [v35] h fun v36 g =>
              (∃ new, g = h ++ new) ∧ (let h := g
               mvK v34 h fun v7 h =>
               mvK v36 h fun v8 h =>
               vK (aFieldAddr Try.prog 24 v2 3) h fun v37 h =>
               vK (aLoad Try.prog 3 v37 h) h fun v38 h =>
               vK (aFieldAddr Try.prog 24 v3 3) h fun v39 h =>
               vK (aLoad Try.prog 3 v39 h) h fun v40 h =>
               vK (aBuild Try.prog 77 [(0, v38), (1, v40)]) h fun v41 h =>
               okK (aBuildSlice Try.prog 36 1 [(0, v41)] h) fun v42 h =>
               okK (aBuildSlice Try.prog 109 1 [(0, (Value.slice none 0 0))] h) fun v43 h =>
               mvK v42 h fun v9 h =>
               mvK v43 h fun v10 h =>
               mvK (Value.int IntKind.i64 0) h fun v11 h =>
               ∃ (I7 : List Value → Heap → Prop) (μ7 : List Value → Heap → Nat), I7 [v9, v10, v11] h ∧
               ∀ (h7 : Heap) (j7 : Tmps) (v9_1 : Value) (v10_1 : Value) (v11_1 : Value), I7 [v9_1, v10_1, v11_1] h7 → (let h := h7
                mvK v11_1 h fun v44 h =>
                mvK v9_1 h fun v45 h =>
                vK (aLen Try.prog 36 v45) h fun v46 h =>
                vK (aBin Try.prog BinOp.lss 3 v44 v46) h fun v47 h =>
                cnd v47 (
                 mvK v9_1 h fun v50 h =>
                 mvK v11_1 h fun v51 h =>
                 vK (aIndexAddr Try.prog 36 v50 v51) h fun v52 h =>
                 vK (aLoad Try.prog 77 v52 h) h fun v53 h =>
                 okK (aAlloc Try.prog 77 h) fun v12 h =>
                 okK ((aStore Try.prog 77 v12 v53 h).map (undef, ·)) fun _ h =>
                 vK (aFieldAddr Try.prog 24 v2 1) h fun v54 h =>
                 vK (aLoad Try.prog 3 v54 h) h fun v55 h =>
                 mvK (Value.int IntKind.i64 0) h fun v56 h =>
                 ∃ (I11 : List Value → Heap → Prop) (μ11 : List Value → Heap → Nat), I11 [v9_1, v10_1, v56] h ∧
                 ∀ (h11 : Heap) (j11 : Tmps) (v9_2 : Value) (v10_2 : Value) (v56_1 : Value), I11 [v9_2, v10_2, v56_1] h11 → (let h := h11
                  vK (aBin Try.prog BinOp.lss 3 v56_1 v55) h fun v57 h =>
                  cnd v57 (
                   seqK (fun k0 =>
                    mvK v56_1 h fun v58 h =>
                    mvK v58 h fun v13 h =>
                    mvK v10_2 h fun v59 h =>
                    mvK v11_1 h fun v60 h =>
                    vK (aIndexAddr Try.prog 109 v59 v60) h fun v61 h =>
                    vK (aLoad Try.prog 53 v61 h) h fun v62 h =>
                    cK Try.prog 69 [v62] h fun v63 h =>
                    mvK v13 h fun v64 h =>
                    okK (aBuildSlice Try.prog 53 1 [(0, v64)] h) fun v65 h =>
                    okK (aAppend Try.prog 53 53 v63 v65 h) fun v66 h =>
                    mvK v66 h fun v14 h =>
                    mvK v7 h fun v67 h =>
                    vK (aIndexAddr Try.prog 77 v12 (Value.int IntKind.i64 0)) h fun v68 h =>
                    vK (aLoad Try.prog 3 v68 h) h fun v69 g =>
                    VB h.length v69 ∧ (let h := g
                     vK (aIndexAddr Try.prog 133 v67 v69) h fun v70 h =>
                     vK (aLoad Try.prog 136 v70 h) h fun v71 g =>
                     VB h.length v71 ∧ (let h := g
                      mvK v13 h fun v72 h =>
                      vK (aIndexAddr Try.prog 136 v71 v72) h fun v73 h =>
                      vK (aLoad Try.prog 135 v73 h) h fun v74 g =>
                      VB h.length v74 ∧ (let h := g
                       mvK v8 h fun v75 h =>
                       vK (aIndexAddr Try.prog 77 v12 (Value.int IntKind.i64 1)) h fun v76 h =>
                       vK (aLoad Try.prog 3 v76 h) h fun v77 g =>
                       VB h.length v77 ∧ (let h := g
                        vK (aIndexAddr Try.prog 133 v75 v77) h fun v78 h =>
                        vK (aLoad Try.prog 136 v78 h) h fun v79 g =>
                        VB h.length v79 ∧ (let h := g
                         mvK v13 h fun v80 h =>
                         vK (aIndexAddr Try.prog 136 v79 v80) h fun v81 h =>
                         vK (aLoad Try.prog 135 v81 h) h fun v82 g =>
                         VB h.length v82 ∧ (let h := g
                          mvK v74 h fun v15 h =>
                          mvK v82 h fun v16 h =>
                          mvK v15 h fun v83 h =>
                          vK (aBin Try.prog BinOp.eql 135 v83 (Value.pointer none)) h fun v84 h =>
                          mvK v84 h fun v85 h =>
                          gdK v85 true (fun k1 =>
                           mvK v16 h fun v86 h =>
                           k1 v86 h) (fun v86_1 h =>
                           gdK v85 true (fun k2 =>
                            vK (aBin Try.prog BinOp.eql 135 v86_1 (Value.pointer none)) h fun v87 h =>
                            k2 v87 h) (fun v87_1 h =>
                            vK (pickV v85 v87_1 (Value.bool false)) h fun v88 h =>
                            cnd v88 (
                             k0 [v9_2, v10_2] h) (
                             mvK v15 h fun v89 h =>
                             vK (aBin Try.prog BinOp.eql 135 v89 (Value.pointer none)) h fun v90 h =>
                             mvK v90 h fun v91 h =>
                             gdK v91 false (fun k3 =>
                              mvK v16 h fun v92 h =>
                              k3 v92 h) (fun v92_1 h =>
                              gdK v91 false (fun k4 =>
                               vK (aBin Try.prog BinOp.eql 135 v92_1 (Value.pointer none)) h fun v93 h =>
                               k4 v93 h) (fun v93_1 h =>
                               vK (pickV v91 (Value.bool true) v93_1) h fun v94 h =>
                               mvK v94 h fun v95 h =>
                               gdK v95 false (fun k5 =>
                                mvK v15 h fun v96 h =>
                                k5 v96 h) (fun v96_1 h =>
                                gdK v95 false (fun k6 =>
                                 vK (nilV v96_1) h fun v97 h =>
                                 k6 v97 h) (fun v97_1 h =>
                                 gdK v95 false (fun k7 =>
                                  vK (aFieldAddr Try.prog 82 v97_1 2) h fun v98 h =>
                                  k7 v98 h) (fun v98_1 h =>
                                  gdK v95 false (fun k8 =>
                                   vK (aLoad Try.prog 3 v98_1 h) h fun v99 g =>
                                   VB h.length v99 ∧ (let h := g
                                    k8 v99 h)) (fun v99_1 h =>
                                   gdK v95 false (fun k9 =>
                                    mvK v16 h fun v100 h =>
                                    k9 v100 h) (fun v100_1 h =>
                                    gdK v95 false (fun k10 =>
                                     vK (nilV v100_1) h fun v101 h =>
                                     k10 v101 h) (fun v101_1 h =>
                                     gdK v95 false (fun k11 =>
                                      vK (aFieldAddr Try.prog 82 v101_1 2) h fun v102 h =>
                                      k11 v102 h) (fun v102_1 h =>
                                      gdK v95 false (fun k12 =>
                                       vK (aLoad Try.prog 3 v102_1 h) h fun v103 g =>
                                       VB h.length v103 ∧ (let h := g
                                        k12 v103 h)) (fun v103_1 h =>
                                       gdK v95 false (fun k13 =>
                                        vK (aBin Try.prog BinOp.neq 3 v99_1 v103_1) h fun v104 h =>
                                        k13 v104 h) (fun v104_1 h =>
                                        vK (pickV v95 (Value.bool true) v104_1) h fun v105 h =>
                                        cnd v105 (
                                         mvK v14 h fun v106 h =>
                                         mvK v106 h fun v4_2 h =>
                                         mvK (Value.int IntKind.i64 0) h fun v5_2 h =>
                                         retV [some v4_2, some v5_2] R h) (
                                         mvK v15 h fun v107 h =>
                                         vK (nilV v107) h fun v108 h =>
                                         vK (aFieldAddr Try.prog 82 v108 3) h fun v109 h =>
                                         vK (aLoad Try.prog 3 v109 h) h fun v110 g =>
                                         VB h.length v110 ∧ (let h := g
                                          mvK v16 h fun v111 h =>
                                          vK (nilV v111) h fun v112 h =>
                                          vK (aFieldAddr Try.prog 82 v112 3) h fun v113 h =>
                                          vK (aLoad Try.prog 3 v113 h) h fun v114 g =>
                                          VB h.length v114 ∧ (let h := g
                                           vK (aBuild Try.prog 77 [(0, v110), (1, v114)]) h fun v115 h =>
                                           okK (aAlloc Try.prog 77 h) fun v17 h =>
                                           okK ((aStore Try.prog 77 v17 v115 h).map (undef, ·)) fun _ h =>
                                           (True) ∧ (
                                            mvK v9_2 h fun v116 h =>
                                            vK (aLoad Try.prog 77 v17 h) h fun v117 h =>
                                            cK Try.prog 51 [v116, v117] h fun v118 h =>
                                            vK (aUn UnOp.not v118) h fun v119 h =>
                                            cnd v119 (
                                             mvK v9_2 h fun v120 h =>
                                             vK (aLoad Try.prog 77 v17 h) h fun v121 h =>
                                             okK (aBuildSlice Try.prog 36 1 [(0, v121)] h) fun v122 h =>
                                             okK (aAppend Try.prog 36 36 v120 v122 h) fun v123 h =>
                                             mvK v10_2 h fun v124 h =>
                                             mvK v14 h fun v125 h =>
                                             okK (aBuildSlice Try.prog 109 1 [(0, v125)] h) fun v126 h =>
                                             okK (aAppend Try.prog 109 109 v124 v126 h) fun v127 h =>
                                             mvK v123 h fun v9_3 h =>
                                             mvK v127 h fun v10_3 h =>
                                             k0 [v9_3, v10_3] h) (
                                             k0 [v9_2, v10_2] h)))))) h) h) h) h) h) h) h) h) h) h) h)) h) h))))))) fun x0 h => ∀ jx0 : Tmps,
                    let v9_4 : Value := nth x0 0
                    let v10_4 : Value := nth x0 1
                    vK (aBin Try.prog BinOp.add 3 v56_1 (Value.int IntKind.i64 1)) h fun v128 h =>
                    mvK v128 h fun v56_2 h =>
                    I11 [v9_4, v10_4, v56_2] h ∧ μ11 [v9_4, v10_4, v56_2] h < μ11 [v9_2, v10_2, v56_1] h11) (
                   mvK v11_1 h fun v48 h =>
                   vK (aBin Try.prog BinOp.add 3 v48 (Value.int IntKind.i64 1)) h fun v49 h =>
                   mvK v49 h fun v11_2 h =>
                   I7 [v9_2, v10_2, v11_2] h ∧ μ7 [v9_2, v10_2, v11_2] h < μ7 [v9_1, v10_1, v11_1] h7))) (
                 mvK (Value.slice none 0 0) h fun v4_3 h =>
                 mvK (Value.int IntKind.i64 23) h fun v5_3 h =>
                 retV [some v4_3, some v5_3] R h)))))))))))))))
def lv64 (q : Nat) : List Nat := bif Nat.beq q 14 then [680564733841876926926749197271350640176, 9, 10, 11] else bif Nat.beq q 22 then [680564733841876926926677157269498750512, 9, 10, 56] else bif Nat.beq q 43 then [340282366920938463463086377055616755248, 9, 10] else []
theorem ok64 : lkOK Try.prog lv64 Try.f64 2 (Try.f64.body.getD .skip) 64 = true := by kernel_rfl
theorem e64 (a0 a1 : Value) (h : Heap) (R : Value → Heap → Prop) : n64 a0 a1 h R = wpK Try.prog lv64 (Try.f64.body.getD .skip) (endK Try.prog [.tmp 4, .tmp 5] R) (argT [a0, a1]) h := by kernel_rfl
theorem w64 {a0 a1 : Value} {h : Heap} {R : Value → Heap → Prop} (hn : n64 a0 a1 h R) : DetP Try.prog 64 [a0, a1] h R :=
  DetP.of_code (rs := [.tmp 4, .tmp 5]) (n := 2) Try.func64 (by kernel_rfl) (by kernel_rfl) lv64 ok64 rfl ((e64 a0 a1 h R) ▸ hn)

/-! ### examiner/examinerref37.Differ: function 65 -/
/-! ### examiner/examinerref37.Search: function 67 -/
def n67 (a0 a1 a2 : Value) (h : Heap) (R : Value → Heap → Prop) : Prop :=
  okK (some (aBox Try.prog 24 a0 h)) fun v3 h =>
  okK (some (aBox Try.prog 24 a1 h)) fun v4 h =>
  okK (some (aBox Try.prog 104 a2 h)) fun v5 h =>
  mvK (Value.slice none 0 0) h fun v6 h =>
  mvK (Value.bool false) h fun v7 h =>
  mvK (Value.slice none 0 0) h fun v8 h =>
  vK (aLoad Try.prog 104 v5 h) h fun v16 h =>
  okK (aBuildSlice Try.prog 63 1 [(0, v16)] h) fun v17 h =>
  mvK v17 h fun v9 h =>
  mvK (Value.int IntKind.i64 0) h fun v10 h =>
  ∃ (I3 : List Value → Heap → Prop) (μ3 : List Value → Heap → Nat), I3 [v9, v10] h ∧
  ∀ (h3 : Heap) (j3 : Tmps) (v9_1 : Value) (v10_1 : Value), I3 [v9_1, v10_1] h3 → (let h := h3
   mvK v10_1 h fun v18 h =>
   mvK v9_1 h fun v19 h =>
   vK (aLen Try.prog 63 v19) h fun v20 h =>
   vK (aBin Try.prog BinOp.lss 3 v18 v20) h fun v21 h =>
   cnd v21 (
    mvK (Value.int IntKind.i64 0) h fun v11 h =>
    ∃ (I6 : List Value → Heap → Prop) (μ6 : List Value → Heap → Nat), I6 [v9_1, v11] h ∧
    ∀ (h6 : Heap) (j6 : Tmps) (v9_2 : Value) (v11_1 : Value), I6 [v9_2, v11_1] h6 → (let h := h6
     mvK v11_1 h fun v24 h =>
     vK (aFieldAddr Try.prog 24 v3 1) h fun v25 h =>
     vK (aLoad Try.prog 3 v25 h) h fun v26 h =>
     vK (aBin Try.prog BinOp.lss 3 v24 v26) h fun v27 h =>
     cnd v27 (
      seqK (fun k0 =>
       mvK v9_2 h fun v30 h =>
       mvK v10_1 h fun v31 h =>
       vK (aIndexAddr Try.prog 63 v30 v31) h fun v32 h =>
       vK (aFieldAddr Try.prog 104 v32 2) h fun v33 h =>
       vK (aLoad Try.prog 53 v33 h) h fun v34 h =>
       cK Try.prog 70 [v34] h fun v35 h =>
       mvK v11_1 h fun v36 h =>
       okK (aBuildSlice Try.prog 53 1 [(0, v36)] h) fun v37 h =>
       okK (aAppend Try.prog 53 53 v35 v37 h) fun v38 h =>
       mvK v38 h fun v12 h =>
       vK (aLoad Try.prog 24 v3 h) h fun v39 g =>
       VB h.length v39 ∧ (let h := g
        mvK v9_2 h fun v40 h =>
        mvK v10_1 h fun v41 h =>
        vK (aIndexAddr Try.prog 63 v40 v41) h fun v42 h =>
        vK (aFieldAddr Try.prog 104 v42 0) h fun v43 h =>
        vK (aLoad Try.prog 3 v43 h) h fun v44 g =>
        VB h.length v44 ∧ (let h := g
         mvK v11_1 h fun v45 h =>
         cKD Try.prog 74 [v39, v44, v45] h fun v46 g =>
         (∃ new, g = h ++ new) ∧ (let h := g
          vK (aLoad Try.prog 24 v4 h) h fun v47 g =>
          VB h.length v47 ∧ (let h := g
           mvK v9_2 h fun v48 h =>
           mvK v10_1 h fun v49 h =>
           vK (aIndexAddr Try.prog 63 v48 v49) h fun v50 h =>
           vK (aFieldAddr Try.prog 104 v50 1) h fun v51 h =>
           vK (aLoad Try.prog 3 v51 h) h fun v52 g =>
           VB h.length v52 ∧ (let h := g
            mvK v11_1 h fun v53 h =>
            cKD Try.prog 74 [v47, v52, v53] h fun v54 g =>
            (∃ new, g = h ++ new) ∧ (let h := g
             mvK v46 h fun v13 h =>
             mvK v54 h fun v14 h =>
             mvK v13 h fun v55 h =>
             vK (aBin Try.prog BinOp.eql 3 v55 (Value.int IntKind.i64 (-1))) h fun v56 h =>
             mvK v56 h fun v57 h =>
             gdK v57 true (fun k1 =>
              mvK v14 h fun v58 h =>
              k1 v58 h) (fun v58_1 h =>
              gdK v57 true (fun k2 =>
               vK (aBin Try.prog BinOp.eql 3 v58_1 (Value.int IntKind.i64 (-1))) h fun v59 h =>
               k2 v59 h) (fun v59_1 h =>
               vK (pickV v57 v59_1 (Value.bool false)) h fun v60 h =>
               cnd v60 (
                k0 [v9_2] h) (
                mvK v13 h fun v61 h =>
                vK (aBin Try.prog BinOp.eql 3 v61 (Value.int IntKind.i64 (-1))) h fun v62 h =>
                mvK v62 h fun v63 h =>
                gdK v63 false (fun k3 =>
                 mvK v14 h fun v64 h =>
                 k3 v64 h) (fun v64_1 h =>
                 gdK v63 false (fun k4 =>
                  vK (aBin Try.prog BinOp.eql 3 v64_1 (Value.int IntKind.i64 (-1))) h fun v65 h =>
                  k4 v65 h) (fun v65_1 h =>
                  vK (pickV v63 (Value.bool true) v65_1) h fun v66 h =>
                  mvK v66 h fun v67 h =>
                  gdK v67 false (fun k5 =>
                   vK (aFieldAddr Try.prog 24 v3 4) h fun v68 h =>
                   k5 v68 h) (fun v68_1 h =>
                   gdK v67 false (fun k6 =>
                    vK (aLoad Try.prog 22 v68_1 h) h fun v69 g =>
                    VB h.length v69 ∧ (let h := g
                     k6 v69 h)) (fun v69_1 h =>
                    gdK v67 false (fun k7 =>
                     mvK v13 h fun v70 h =>
                     k7 v70 h) (fun v70_1 h =>
                     gdK v67 false (fun k8 =>
                      vK (aIndexAddr Try.prog 22 v69_1 v70_1) h fun v71 h =>
                      k8 v71 h) (fun v71_1 h =>
                      gdK v67 false (fun k9 =>
                       vK (aFieldAddr Try.prog 82 v71_1 2) h fun v72 h =>
                       k9 v72 h) (fun v72_1 h =>
                       gdK v67 false (fun k10 =>
                        vK (aLoad Try.prog 3 v72_1 h) h fun v73 g =>
                        VB h.length v73 ∧ (let h := g
                         k10 v73 h)) (fun v73_1 h =>
                        gdK v67 false (fun k11 =>
                         vK (aFieldAddr Try.prog 24 v4 4) h fun v74 h =>
                         k11 v74 h) (fun v74_1 h =>
                         gdK v67 false (fun k12 =>
                          vK (aLoad Try.prog 22 v74_1 h) h fun v75 g =>
                          VB h.length v75 ∧ (let h := g
                           k12 v75 h)) (fun v75_1 h =>
                          gdK v67 false (fun k13 =>
                           mvK v14 h fun v76 h =>
                           k13 v76 h) (fun v76_1 h =>
                           gdK v67 false (fun k14 =>
                            vK (aIndexAddr Try.prog 22 v75_1 v76_1) h fun v77 h =>
                            k14 v77 h) (fun v77_1 h =>
                            gdK v67 false (fun k15 =>
                             vK (aFieldAddr Try.prog 82 v77_1 2) h fun v78 h =>
                             k15 v78 h) (fun v78_1 h =>
                             gdK v67 false (fun k16 =>
                              vK (aLoad Try.prog 3 v78_1 h) h fun v79 g =>
                              VB h.length v79 ∧ (let h := g
                               k16 v79 h)) (fun v79_1 h =>
                              gdK v67 false (fun k17 =>
                               vK (aBin Try.prog BinOp.neq 3 v73_1 v79_1) h fun v80 h =>
                               k17 v80 h) (fun v80_1 h =>
                               vK (pickV v67 (Value.bool true) v80_1) h fun v81 h =>
                               cnd v81 (
                                mvK v12 h fun v82 h =>
                                mvK v9_2 h fun v83 h =>
                                mvK v82 h fun v6_1 h =>
                                mvK (Value.bool true) h fun v7_1 h =>
                                mvK v83 h fun v8_1 h =>
                                retV [some v6_1, some v7_1, some v8_1] R h) (
                                vK (aFieldAddr Try.prog 24 v3 4) h fun v84 h =>
                                vK (aLoad Try.prog 22 v84 h) h fun v85 g =>
                                VB h.length v85 ∧ (let h := g
                                 mvK v13 h fun v86 h =>
                                 vK (aIndexAddr Try.prog 22 v85 v86) h fun v87 h =>
                                 vK (aFieldAddr Try.prog 82 v87 3) h fun v88 h =>
                                 vK (aLoad Try.prog 3 v88 h) h fun v89 g =>
                                 VB h.length v89 ∧ (let h := g
                                  vK (aFieldAddr Try.prog 24 v4 4) h fun v90 h =>
                                  vK (aLoad Try.prog 22 v90 h) h fun v91 g =>
                                  VB h.length v91 ∧ (let h := g
                                   mvK v14 h fun v92 h =>
                                   vK (aIndexAddr Try.prog 22 v91 v92) h fun v93 h =>
                                   vK (aFieldAddr Try.prog 82 v93 3) h fun v94 h =>
                                   vK (aLoad Try.prog 3 v94 h) h fun v95 g =>
                                   VB h.length v95 ∧ (let h := g
                                    mvK v12 h fun v96 h =>
                                    vK (aBuild Try.prog 104 [(0, v89), (1, v95), (2, v96)]) h fun v97 h =>
                                    okK (aAlloc Try.prog 104 h) fun v15 h =>
                                    okK ((aStore Try.prog 104 v15 v97 h).map (undef, ·)) fun _ h =>
                                    (True) ∧ (
                                     mvK v9_2 h fun v98 h =>
                                     vK (aLoad Try.prog 104 v15 h) h fun v99 h =>
                                     cK Try.prog 94 [v98, v99] h fun v100 h =>
                                     vK (aUn UnOp.not v100) h fun v101 h =>
                                     cnd v101 (
                                      mvK v9_2 h fun v102 h =>
                                      vK (aLoad Try.prog 104 v15 h) h fun v103 h =>
                                      okK (aBuildSlice Try.prog 63 1 [(0, v103)] h) fun v104 h =>
                                      okK (aAppend Try.prog 63 63 v102 v104 h) fun v105 h =>
                                      mvK v105 h fun v9_3 h =>
                                      k0 [v9_3] h) (
                                      k0 [v9_2] h)))))))) h) h) h) h) h) h) h) h) h) h) h) h) h) h) h)) h) h))))))) fun x0 h => ∀ jx0 : Tmps,
       let v9_4 : Value := nth x0 0
       mvK v11_1 h fun v28 h =>
       vK (aBin Try.prog BinOp.add 3 v28 (Value.int IntKind.i64 1)) h fun v29 h =>
       mvK v29 h fun v11_2 h =>
       I6 [v9_4, v11_2] h ∧ μ6 [v9_4, v11_2] h < μ6 [v9_2, v11_1] h6) (
      mvK v10_1 h fun v22 h =>
      vK (aBin Try.prog BinOp.add 3 v22 (Value.int IntKind.i64 1)) h fun v23 h =>
      mvK v23 h fun v10_2 h =>
      I3 [v9_2, v10_2] h ∧ μ3 [v9_2, v10_2] h < μ3 [v9_1, v10_1] h3))) (
    mvK v9_1 h fun v106 h =>
    mvK (Value.slice none 0 0) h fun v6_2 h =>
    mvK (Value.bool false) h fun v7_2 h =>
    mvK v106 h fun v8_2 h =>
    retV [some v6_2, some v7_2, some v8_2] R h))
def lv67 (q : Nat) : List Nat := bif Nat.beq q 6 then [81129638414606681695789004947392, 9, 10] else bif Nat.beq q 12 then [81129638414606681695788988431296, 9, 11] else bif Nat.beq q 15 then [81129638414606681695787931464640, 9] else []
theorem ok67 : lkOK Try.prog lv67 Try.f67 3 (Try.f67.body.getD .skip) 67 = true := by kernel_rfl
theorem e67 (a0 a1 a2 : Value) (h : Heap) (R : Value → Heap → Prop) : n67 a0 a1 a2 h R = wpK Try.prog lv67 (Try.f67.body.getD .skip) (endK Try.prog [.tmp 6, .tmp 7, .tmp 8] R) (argT [a0, a1, a2]) h := by kernel_rfl
theorem w67 {a0 a1 a2 : Value} {h : Heap} {R : Value → Heap → Prop} (hn : n67 a0 a1 a2 h R) : DetP Try.prog 67 [a0, a1, a2] h R :=
  DetP.of_code (rs := [.tmp 6, .tmp 7, .tmp 8]) (n := 3) Try.func67 (by kernel_rfl) (by kernel_rfl) lv67 ok67 rfl ((e67 a0 a1 a2 h R) ▸ hn)

/-! ### slices.Clone[[]int,int]: function 69 -/
def n69 (a0 : Value) (h : Heap) (R : Value → Heap → Prop) : Prop :=
  mvK (Value.slice none 0 0) h fun v2 h =>
  mvK a0 h fun v3 h =>
  vK (aBin Try.prog BinOp.eql 53 v3 (Value.slice none 0 0)) h fun v4 h =>
  cnd v4 (
   mvK (Value.slice none 0 0) h fun v2_1 h =>
   retV [some v2_1] R h) (
   okK (aBuildSlice Try.prog 53 0 [] h) fun v5 h =>
   mvK a0 h fun v6 h =>
   okK (aAppend Try.prog 53 53 v5 v6 h) fun v7 h =>
   mvK v7 h fun v2_2 h =>
   retV [some v2_2] R h)
def lv69 (q : Nat) : List Nat := []
theorem ok69 : lkOK Try.prog lv69 Try.f69 1 (Try.f69.body.getD .skip) 69 = true := by kernel_rfl
theorem e69 (a0 : Value) (h : Heap) (R : Value → Heap → Prop) : n69 a0 h R = wpK Try.prog lv69 (Try.f69.body.getD .skip) (endK Try.prog [.tmp 2] R) (argT [a0]) h := by kernel_rfl
theorem w69 {a0 : Value} {h : Heap} {R : Value → Heap → Prop} (hn : n69 a0 h R) : DetP Try.prog 69 [a0] h R :=
  DetP.of_code (rs := [.tmp 2]) (n := 1) Try.func69 (by kernel_rfl) (by kernel_rfl) lv69 ok69 rfl ((e69 a0 h R) ▸ hn)

/-! ### examiner/examinerbase.OwnInts: function 70 -/
def n70 (a0 : Value) (h : Heap) (R : Value → Heap → Prop) : Prop :=
  mvK (Value.slice none 0 0) h fun v2 h =>
  okK (aBuildSlice Try.prog 53 0 [] h) fun v3 h =>
  mvK a0 h fun v4 h =>
  okK (aAppend Try.prog 53 53 v3 v4 h) fun v5 h =>
  mvK v5 h fun v2_1 h =>
  retV [some v2_1] R h
def lv70 (q : Nat) : List Nat := []
theorem ok70 : lkOK Try.prog lv70 Try.f70 1 (Try.f70.body.getD .skip) 70 = true := by kernel_rfl
theorem e70 (a0 : Value) (h : Heap) (R : Value → Heap → Prop) : n70 a0 h R = wpK Try.prog lv70 (Try.f70.body.getD .skip) (endK Try.prog [.tmp 2] R) (argT [a0]) h := by kernel_rfl
theorem w70 {a0 : Value} {h : Heap} {R : Value → Heap → Prop} (hn : n70 a0 h R) : DetP Try.prog 70 [a0] h R :=
  DetP.of_code (rs := [.tmp 2]) (n := 1) Try.func70 (by kernel_rfl) (by kernel_rfl) lv70 ok70 rfl ((e70 a0 h R) ▸ hn)

/-! ### examiner/examinerref37.met: function 94 -/
def n94 (a0 a1 : Value) (h : Heap) (R : Value → Heap → Prop) : Prop :=
  okK (some (aBox Try.prog 104 a1 h)) fun v3 h =>
  mvK (Value.bool false) h fun v4 h =>
  mvK (Value.int IntKind.i64 0) h fun v5 h =>
  ∃ (I2 : List Value → Heap → Prop) (μ2 : List Value → Heap → Nat), I2 [v5] h ∧
  ∀ (h2 : Heap) (j2 : Tmps) (v5_1 : Value), I2 [v5_1] h2 → (let h := h2
   mvK v5_1 h fun v6 h =>
   mvK a0 h fun v7 h =>
   vK (aLen Try.prog 63 v7) h fun v8 h =>
   vK (aBin Try.prog BinOp.lss 3 v6 v8) h fun v9 h =>
   cnd v9 (
    mvK a0 h fun v12 h =>
    mvK v5_1 h fun v13 h =>
    vK (aIndexAddr Try.prog 63 v12 v13) h fun v14 h =>
    vK (aFieldAddr Try.prog 104 v14 0) h fun v15 h =>
    vK (aLoad Try.prog 3 v15 h) h fun v16 g =>
    VB h.length v16 ∧ (let h := g
     vK (aFieldAddr Try.prog 104 v3 0) h fun v17 h =>
     vK (aLoad Try.prog 3 v17 h) h fun v18 g =>
     VB h.length v18 ∧ (let h := g
      vK (aBin Try.prog BinOp.eql 3 v16 v18) h fun v19 h =>
      mvK v19 h fun v20 h =>
      gdK v20 true (fun k0 =>
       mvK a0 h fun v21 h =>
       k0 v21 h) (fun v21_1 h =>
       gdK v20 true (fun k1 =>
        mvK v5_1 h fun v22 h =>
        k1 v22 h) (fun v22_1 h =>
        gdK v20 true (fun k2 =>
         vK (aIndexAddr Try.prog 63 v21_1 v22_1) h fun v23 h =>
         k2 v23 h) (fun v23_1 h =>
         gdK v20 true (fun k3 =>
          vK (aFieldAddr Try.prog 104 v23_1 1) h fun v24 h =>
          k3 v24 h) (fun v24_1 h =>
          gdK v20 true (fun k4 =>
           vK (aLoad Try.prog 3 v24_1 h) h fun v25 g =>
           VB h.length v25 ∧ (let h := g
            k4 v25 h)) (fun v25_1 h =>
           gdK v20 true (fun k5 =>
            vK (aFieldAddr Try.prog 104 v3 1) h fun v26 h =>
            k5 v26 h) (fun v26_1 h =>
            gdK v20 true (fun k6 =>
             vK (aLoad Try.prog 3 v26_1 h) h fun v27 g =>
             VB h.length v27 ∧ (let h := g
              k6 v27 h)) (fun v27_1 h =>
             gdK v20 true (fun k7 =>
              vK (aBin Try.prog BinOp.eql 3 v25_1 v27_1) h fun v28 h =>
              k7 v28 h) (fun v28_1 h =>
              vK (pickV v20 v28_1 (Value.bool false)) h fun v29 h =>
              cnd v29 (
               mvK (Value.bool true) h fun v4_1 h =>
               retV [some v4_1] R h) (
               mvK v5_1 h fun v10 h =>
               vK (aBin Try.prog BinOp.add 3 v10 (Value.int IntKind.i64 1)) h fun v11 h =>
               mvK v11 h fun v5_2 h =>
               I2 [v5_2] h ∧ μ2 [v5_2] h < μ2 [v5_1] h2)) h) h) h) h) h) h) h) h))) (
    mvK (Value.bool false) h fun v4_2 h =>
    retV [some v4_2] R h))
def lv94 (q : Nat) : List Nat := bif Nat.beq q 4 then [1073741808, 5] else []
theorem ok94 : lkOK Try.prog lv94 Try.f94 2 (Try.f94.body.getD .skip) 94 = true := by kernel_rfl
theorem e94 (a0 a1 : Value) (h : Heap) (R : Value → Heap → Prop) : n94 a0 a1 h R = wpK Try.prog lv94 (Try.f94.body.getD .skip) (endK Try.prog [.tmp 4] R) (argT [a0, a1]) h := by kernel_rfl
theorem w94 {a0 a1 : Value} {h : Heap} {R : Value → Heap → Prop} (hn : n94 a0 a1 h R) : DetP Try.prog 94 [a0, a1] h R :=
  DetP.of_code (rs := [.tmp 4]) (n := 2) Try.func94 (by kernel_rfl) (by kernel_rfl) lv94 ok94 rfl ((e94 a0 a1 h R) ▸ hn)

/-! ### examiner/examinerlaw41.MutantSorts: function 6 -/
def n6 (a0 a1 : Value) (h : Heap) (R : Value → Heap → Prop) : Prop :=
  okK (some (aBox Try.prog 24 a0 h)) fun v2 h =>
  mvK (Value.bool false) h fun v4 h =>
  cK Try.prog 11 [] h fun v8 h =>
  vK (aUn UnOp.not v8) h fun v9 h =>
  cnd v9 (
   mvK (Value.bool false) h fun v4_1 h =>
   retV [some v4_1] R h) (
   vK (aLoad Try.prog 24 v2 h) h fun v10 h =>
   mvK a1 h fun v11 h =>
   cK Try.prog 25 [v10, v11] h fun v12 h =>
   mvK v12 h fun v5 h =>
   mvK v5 h fun v13 h =>
   vK (aBin Try.prog BinOp.eql 3 v13 (Value.int IntKind.i64 0)) h fun v14 h =>
   mvK v14 h fun v15 h =>
   gdK v15 true (fun k0 =>
    vK (aLoad Try.prog 24 v2 h) h fun v16 h =>
    k0 v16 h) (fun v16_1 h =>
    gdK v15 true (fun k1 =>
     cK Try.prog 26 [v16_1] h fun v17 h =>
     k1 v17 h) (fun v17_1 h =>
     gdK v15 true (fun k2 =>
      vK (aUn UnOp.not v17_1) h fun v18 h =>
      k2 v18 h) (fun v18_1 h =>
      gdK v15 true (fun k3 =>
       mvK v18_1 h fun v19 h =>
       k3 v19 h) (fun v19_1 h =>
       gdK v19_1 false (fun k4 =>
        mvK a1 h fun v20 h =>
        k4 v20 h) (fun v20_1 h =>
        gdK v19_1 false (fun k5 =>
         vK (aLen Try.prog 51 v20_1) h fun v21 h =>
         k5 v21 h) (fun v21_1 h =>
         gdK v19_1 false (fun k6 =>
          vK (aBin Try.prog BinOp.gtr 3 v21_1 (Value.int IntKind.i64 8)) h fun v22 h =>
          k6 v22 h) (fun v22_1 h =>
          gdK v15 true (fun k7 =>
           vK (pickV v19_1 (Value.bool true) v22_1) h fun v23 h =>
           k7 v23 h) (fun v23_1 h =>
           vK (pickV v15 v23_1 (Value.bool false)) h fun v24 h =>
           cnd v24 (
            mvK (Value.bool true) h fun v4_2 h =>
            retV [some v4_2] R h) (
            vK (aLoad Try.prog 24 v2 h) h fun v26 h =>
            cK Try.prog 14 [v26] h fun v27 h =>
            mvK a1 h fun v28 h =>
            cK Try.prog 28 [v28] h fun v29 h =>
            cK Try.prog 27 [v27, v29] h fun v30 h =>
            mvK v30 h fun v25 h =>
            vK (aExtract v25 0) h fun v31 h =>
            vK (aExtract v25 1) h fun v32 h =>
            mvK v31 h fun v6 h =>
            mvK v32 h fun v7 h =>
            mvK v5 h fun v33 h =>
            vK (aBin Try.prog BinOp.neq 3 v33 (Value.int IntKind.i64 0)) h fun v34 h =>
            cnd v34 (
             mvK v7 h fun v35 h =>
             mvK v5 h fun v36 h =>
             vK (aBin Try.prog BinOp.eql 3 v35 v36) h fun v37 h =>
             mvK v37 h fun v38 h =>
             gdK v38 true (fun k8 =>
              mvK v6 h fun v39 h =>
              k8 v39 h) (fun v39_1 h =>
              gdK v38 true (fun k9 =>
               vK (aLen Try.prog 53 v39_1) h fun v40 h =>
               k9 v40 h) (fun v40_1 h =>
               gdK v38 true (fun k10 =>
                vK (aBin Try.prog BinOp.eql 3 v40_1 (Value.int IntKind.i64 0)) h fun v41 h =>
                k10 v41 h) (fun v41_1 h =>
                vK (pickV v38 v41_1 (Value.bool false)) h fun v42 h =>
                mvK v42 h fun v4_3 h =>
                retV [some v4_3] R h) h) h) h) (
             mvK v7 h fun v43 h =>
             vK (aBin Try.prog BinOp.eql 28 v43 (Value.int IntKind.i64 0)) h fun v44 h =>
             mvK v44 h fun v45 h =>
             gdK v45 true (fun k11 =>
              mvK v6 h fun v46 h =>
              k11 v46 h) (fun v46_1 h =>
              gdK v45 true (fun k12 =>
               vK (aLoad Try.prog 24 v2 h) h fun v47 h =>
               k12 v47 h) (fun v47_1 h =>
               gdK v45 true (fun k13 =>
                mvK a1 h fun v48 h =>
                k13 v48 h) (fun v48_1 h =>
                gdK v45 true (fun k14 =>
                 cK Try.prog 30 [v47_1, v48_1] h fun v49 h =>
                 k14 v49 h) (fun v49_1 h =>
                 gdK v45 true (fun k15 =>
                  cK Try.prog 29 [v46_1, v49_1] h fun v50 h =>
                  k15 v50 h) (fun v50_1 h =>
                  vK (pickV v45 v50_1 (Value.bool false)) h fun v51 h =>
                  mvK v51 h fun v4_4 h =>
                  retV [some v4_4] R h) h) h) h) h) h))) h) h) h) h) h) h) h) h)
def lv6 (q : Nat) : List Nat := []
theorem e6 (a0 a1 : Value) (h : Heap) (R : Value → Heap → Prop) : n6 a0 a1 h R = wpK Try.prog lv6 (Try.f6.body.getD .skip) (endK Try.prog [.tmp 4] R) (argT [a0, a1]) h := by kernel_rfl
end Go.Proofs.Ytomiejfeclefaaa

set_option linter.unusedSimpArgs false
set_option linter.unusedVariables false
set_option linter.unnecessarySimpa false
set_option maxRecDepth 100000
set_option maxHeartbeats 4000000
namespace Go.Proofs.Ytomiejfeclefaaa
open Go.AM
variable {h g : Heap}
/-! ### a mutant is a right machine -/
theorem gst {α : Type} [Df α] {l : List α} {k j : Nat} {a : α} (hk : k < l.length) : gt (l.set k a) j = if k = j then a else gt l j := by
  unfold gt
  by_cases e : k = j
  · subst e; simp [hk]
  · simp [e]
structure Alk (x c : Mach) : Prop where
  st : c.states = x.states
  ip : c.inputs = x.inputs
  ot : c.outputs = x.outputs
  ln : c.steps.length = x.steps.length
  hs : 0 ≤ c.start ∧ c.start ≤ x.states - 1
  fi : ∀ k, k < x.steps.length → (gt c.steps k).frm = (gt x.steps k).frm ∧ (gt c.steps k).inp = (gt x.steps k).inp ∧ inR x (gt c.steps k)
theorem Alk.self {x : Mach} (h0 : (chkM x).2 = 0) : Alk x x := by
  obtain ⟨hh, _, hs⟩ := chk_ok h0
  exact ⟨rfl, rfl, rfl, rfl, hh.2.2.2, fun k hk => ⟨rfl, rfl, (st_ok (hs k hk)).1⟩⟩
theorem setTo_fi {x : Mach} {l : List Stp} (hl : l.length = x.steps.length) (hf : ∀ k, k < x.steps.length → (gt l k).frm = (gt x.steps k).frm ∧ (gt l k).inp = (gt x.steps k).inp ∧ inR x (gt l k))
    {j : Nat} {v : Int} (hj : j < x.steps.length) (hv : 0 ≤ v ∧ v ≤ x.states - 1) : ∀ k, k < x.steps.length → (gt (setTo l j v) k).frm = (gt x.steps k).frm ∧ (gt (setTo l j v) k).inp = (gt x.steps k).inp ∧ inR x (gt (setTo l j v) k) := by
  intro k hk
  unfold setTo
  rw [gst (by omega)]
  by_cases e : j = k
  · subst e
    rw [if_pos rfl]
    obtain ⟨f1, f2, f3, f4, f5, f6⟩ := hf j hj
    exact ⟨f1, f2, f3, hv, f5, f6⟩
  · rw [if_neg e]; exact hf k hk
theorem Alk.ap1 {x c : Mach} (h0 : (chkM x).2 = 0) (a : Alk x c) {m : Mut} (hk : 0 ≤ m.kind ∧ m.kind ≤ 3) (hr : rightS x m) : Alk x (ap1 x c m) := by
  have S := Alk.self h0
  unfold rightS at hr
  unfold Go.Proofs.Ytomiejfeclefaaa.ap1
  split at hr
  · rename_i e
    rw [if_pos e]
    obtain ⟨r1, r2⟩ := hr
    refine ⟨a.st, a.ip, a.ot, by simpa [setOut] using a.ln, a.hs, fun k hk => ?_⟩
    show (gt (setOut c.steps _ _) k).frm = _ ∧ _
    unfold setOut
    rw [gst (by rw [a.ln]; omega)]
    by_cases e : m.step.toNat = k
    · subst e
      rw [if_pos rfl]
      obtain ⟨f1, f2, f3, f4, f5, f6⟩ := a.fi _ hk
      exact ⟨f1, f2, f3, f4, f5, r2⟩
    · rw [if_neg e]; exact a.fi k hk
  · rename_i e
    rw [if_neg e]
    split at hr
    · rename_i e
      rw [if_pos e]
      obtain ⟨r1, r2⟩ := hr
      exact ⟨a.st, a.ip, a.ot, by simpa [setTo] using a.ln, a.hs, setTo_fi a.ln a.fi (by omega) r2⟩
    · rename_i e
      rw [if_neg e]
      split at hr
      · rename_i e
        rw [if_pos e]
        exact ⟨a.st, a.ip, a.ot, a.ln, hr.2, a.fi⟩
      · rename_i e
        rw [if_neg e]
        obtain ⟨r1, r2⟩ := hr
        refine ⟨a.st, a.ip, a.ot, by simpa [setTo] using a.ln, a.hs, ?_⟩
        exact setTo_fi (by simpa [setTo] using a.ln) (setTo_fi a.ln a.fi (by omega) (S.fi m.to.toNat (by omega)).2.2.2.1) (by omega) (S.fi m.step.toNat (by omega)).2.2.2.1
theorem Alk.fold {x : Mach} (h0 : (chkM x).2 = 0) : ∀ (l : List Mut) (c : Mach), Alk x c → (∀ m ∈ l, (0 ≤ m.kind ∧ m.kind ≤ 3) ∧ rightS x m) → Alk x (l.foldl (Go.Proofs.Ytomiejfeclefaaa.ap1 x) c)
  | [], _, a, _ => a
  | m :: l, _, a, hl => Alk.fold h0 l _ (a.ap1 h0 (hl m (by simp)).1 (hl m (by simp)).2) fun m' h' => hl m' (by simp [h'])
theorem mem_gt {α : Type} [Df α] {l : List α} {p : α} : p ∈ l ↔ ∃ j, j < l.length ∧ gt l j = p := by
  rw [List.mem_iff_getElem]
  constructor
  · rintro ⟨j, hj, e⟩; exact ⟨j, hj, by rw [← gt_at hj]; exact e⟩
  · rintro ⟨j, hj, e⟩; exact ⟨j, hj, by rw [gt_at hj]; exact e⟩
theorem mutd_alk {x : Mach} {l : List Mut} (h0 : (chkM x).2 = 0) (h1 : (mutE x l).2 = 0) : Alk x (mutd x l) := by
  obtain ⟨_, hv⟩ := mutE_ok h1
  refine Alk.fold h0 l x (Alk.self h0) fun m hm => ?_
  obtain ⟨j, hj, rfl⟩ := mem_gt.mp hm
  exact hv j hj
theorem Alk.chk {x c : Mach} (h0 : (chkM x).2 = 0) (a : Alk x c) : (chkM c).2 = 0 := by
  obtain ⟨hh, hl, hs⟩ := chk_ok h0
  obtain ⟨b1, b2, b3, b4⟩ := hh
  have := a.st
  have := a.ip
  have := a.ot
  have := a.ln
  have hI : ∀ t, inR x t → inR c t := by
    intro t ht
    unfold inR at *
    rw [a.st, a.ip, a.ot]; exact ht
  rw [chk_no (x := c)]
  · exact ⟨by omega, by omega, by omega, by have := a.hs; omega⟩
  · rw [a.st, a.ip]; omega
  · intro j hj
    obtain ⟨f1, f2, f3⟩ := a.fi j (by omega)
    refine st_n (hI _ f3) ?_
    rintro ⟨q1, q2⟩
    refine q2 ?_
    obtain ⟨e1, e2, _⟩ := a.fi (j - 1) (by omega)
    have := (st_ok (hs j (by omega))).2 q1
    unfold lexLt at *
    rw [e1, e2, f1, f2]; exact this
/-! ### pairs -/
theorem c83 {y : Value} {l : List Pr} (s : L g y l) (pr : Pr) : Runs Try.prog 83 [y, fv pr] g (.int .i64 (idxOf (fun t => decide (pr = t)) l)) g := by
  have lt := s.lt
  have m := Mem.start g
  refine DetP.forget rfl ?_
  refine w83 ?_
  unfold n83
  refine box_a m fun i h z p m => ?_
  ((with_reducible (refine mv_i ?_; refine mv_i ?_; refine len_g (by assumption) ?_; refine mv_i ?_)))
  refine loop1 l.length (fun k h2 => Prec h h2 ∧ Mem g h2 [⟨some i, Flat.cells pr, z⟩] ∧ ∀ j, j < k → (fun t => decide (pr = t)) (gt l j) = false) ⟨⟨Stab.refl _⟩, m, fun j hj => by omega⟩ ?_
  rintro k h2 _ hk ⟨p2, m, hJ⟩
  ((with_reducible (refine lss_i (fun hc => ?_) (fun hc => ?_); refine cnd_t ?_; refine mv_i ?_; refine mv_i ?_));
      (refine ldo_w (by assumption) (by infer_instance) (by with_unfolding_all rfl) ?_);
      (with_reducible (refine vb_f ?_; refine mv_i ?_; refine mv_i ?_));
      (refine idx_d (by assumption) (by with_unfolding_all rfl) (by omega) fun p hp => ?_);
      (refine ldr_w (by assumption) (by with_unfolding_all rfl) ?_);
      (with_reducible (refine vb_f ?_; refine prq_i (fun hc => ?_) (fun hc => ?_); refine cnd_t ?_; refine mv_i ?_; refine mv_i ?_; refine ret1 ?_));
      (rotate_left);
      (with_reducible (refine cnd_f ?_; refine inc_i (by omega) ?_; refine mv_i ?_));
      (rotate_left);
      (with_reducible (refine cnd_f ?_; refine mv_i ?_; refine ret1 ?_));
      (rotate_left))
  · exact ⟨by rw [idxOf_at (p := fun t => decide (pr = t)) hJ (by omega) (decide_eq_true hc)], Mem.pre (by assumption)⟩
  · refine next1 (by omega) ⟨⟨Stb.st⟩, m, fun j hj => ?_⟩
    by_cases q : j = k
    · subst q; exact decide_eq_false hc
    · exact hJ j (by omega)
  · exact ⟨by rw [idxOf_no fun j hj => hJ j (by omega)], Mem.pre (by assumption)⟩
theorem idx_mem {α : Type} [DecidableEq α] [Df α] (p : α) (l : List α) : 0 ≤ idxOf (fun t => decide (p = t)) l ↔ p ∈ l := by
  rw [idxOf_any]
  simp
theorem c51 {y : Value} {l : List Pr} (s : L g y l) (pr : Pr) : Runs Try.prog 51 [y, fv pr] g (.bool (decide (pr ∈ l))) g := by
  have m := Mem.start g
  refine DetP.forget rfl ?_
  refine w51 ?_
  unfold n51
  refine box_a m fun i h z p m => ?_
  ((with_reducible (refine mv_i ?_; refine mv_i ?_));
      (refine ldo_w (by assumption) (by infer_instance) (by with_unfolding_all rfl) ?_))
  refine call_r (c83 s.up pr) ?_
  ((with_reducible (refine geq_i (fun hc => ?_) (fun hc => ?_); refine mv_i ?_; refine ret1 ?_));
      (rotate_left);
      (with_reducible (refine mv_i ?_; refine ret1 ?_));
      (rotate_left))
  all_goals
    refine ⟨?_, Mem.pre (by assumption)⟩
    rw [idx_mem] at hc
    first
      | rw [decide_eq_true hc]
      | rw [decide_eq_false hc]
end Go.Proofs.Ytomiejfeclefaaa

set_option linter.unusedSimpArgs false
set_option linter.unusedVariables false
set_option linter.unnecessarySimpa false
set_option maxRecDepth 100000
set_option maxHeartbeats 4000000
namespace Go.Proofs.Ytomiejfeclefaaa
open Go.AM
variable {h g : Heap}
/-! ### the table of a complete machine: rows of pointers to copies of its steps -/
def rowC (n : Nat) (B : List (Nat × Nat)) (s : Nat) : List Value := (List.range n).map fun i => match B[s * n + i]? with | some b => .pointer (some ⟨b.1, 0, none⟩) | none => .pointer none
def hdrC (N n : Nat) (R : List Nat) : List Value := (List.range N).map fun s => match R[s]? with | some r => .slice (some ⟨r, 0, none⟩) n (n + 1) | none => .slice none 0 0
def rowsE (n : Nat) (R : List Nat) (B : List (Nat × Nat)) : List E := (List.range R.length).map fun s => ⟨some (R.getD s 0), rowC n B s, 1⟩
def stepsE (x : Mach) (B : List (Nat × Nat)) : List E := (List.range B.length).map fun q => ⟨some (B.getD q (0, 0)).1, Flat.cells (gt x.steps q), (B.getD q (0, 0)).2⟩
def tab (x : Mach) : List (List (Bx Stp)) := (List.range x.states.toNat).map fun s => (List.range x.inputs.toNat).map fun i => ⟨gt x.steps (s * x.inputs.toNat + i)⟩
theorem hdrC_zero (N n : Nat) : hdrC N n [] = List.replicate N (.slice none 0 0) := by
  refine List.ext_getElem (by simp [hdrC]) fun k h1 h2 => ?_
  simp [hdrC]
theorem hdrC_len (N n : Nat) (R : List Nat) : (hdrC N n R).length = N := by simp [hdrC]
theorem rowC_len (n : Nat) (B : List (Nat × Nat)) (s : Nat) : (rowC n B s).length = n := by simp [rowC]
theorem rowC_zero (n s : Nat) : rowC n [] s = List.replicate n (.pointer none) := by
  refine List.ext_getElem (by simp [rowC]) fun k h1 h2 => ?_
  simp [rowC]
theorem hdrC_add {N n : Nat} {R : List Nat} {r : Nat} (hR : R.length < N) : hdrC N n (R ++ [r]) = (hdrC N n R).set R.length (.slice (some ⟨r, 0, none⟩) n (n + 1)) := by
  refine List.ext_getElem (by simp [hdrC]) fun k h1 h2 => ?_
  simp only [hdrC, List.getElem_map, List.getElem_range, List.getElem_set]
  by_cases e : R.length = k
  · subst e; simp
  · rw [if_neg e]
    by_cases e2 : k < R.length
    · simp [List.getElem?_append_left e2, e2]
    · rw [List.getElem?_eq_none (by simp; omega), List.getElem?_eq_none (by omega)]
theorem hdrC_get {N n : Nat} {R : List Nat} {s : Nat} (hs : s < R.length) (hN : R.length ≤ N) : (hdrC N n R)[s]? = some (.slice (some ⟨R.getD s 0, 0, none⟩) n (n + 1)) := by
  unfold hdrC
  rw [List.getElem?_map, List.getElem?_range (by omega)]
  simp [hs]
theorem rowsE_len (n : Nat) (R : List Nat) (B : List (Nat × Nat)) : (rowsE n R B).length = R.length := by simp [rowsE]
theorem rowsE_add {n : Nat} {R : List Nat} {r : Nat} : rowsE n (R ++ [r]) [] = rowsE n R [] ++ [⟨some r, List.replicate n (.pointer none), 1⟩] := by
  unfold rowsE
  rw [List.length_append, List.length_singleton, List.range_succ, List.map_append]
  congr 1
  · refine List.map_congr_left fun s hs => ?_
    rw [List.mem_range] at hs
    simp [List.getD, List.getElem?_append_left hs]
  · simp [rowC_zero, List.getD]
theorem rowsE_get {n : Nat} {R : List Nat} {B : List (Nat × Nat)} {f : Nat} (hf : f < R.length) : (rowsE n R B)[f]? = some ⟨some (R.getD f 0), rowC n B f, 1⟩ := by
  unfold rowsE
  rw [List.getElem?_map, List.getElem?_range hf]; rfl
theorem lex_uniq {f i s t n : Nat} (hi : i < n) (ht : t < n) (e : s * n + t = f * n + i) : s = f ∧ t = i := by
  have h1 : s = f := by
    rcases Nat.lt_trichotomy s f with q | q | q
    · have := Nat.mul_le_mul_right n (show s + 1 ≤ f by omega); rw [Nat.add_mul, Nat.one_mul] at this; omega
    · exact q
    · have := Nat.mul_le_mul_right n (show f + 1 ≤ s by omega); rw [Nat.add_mul, Nat.one_mul] at this; omega
  subst h1
  exact ⟨rfl, by omega⟩
theorem rowC_add {n f i s : Nat} {B : List (Nat × Nat)} {b : Nat × Nat} (hB : B.length = f * n + i) (hi : i < n) : rowC n (B ++ [b]) s = if s = f then (rowC n B f).set i (.pointer (some ⟨b.1, 0, none⟩)) else rowC n B s := by
  have key : ∀ t, t < n → (B ++ [b])[s * n + t]? = if s = f ∧ t = i then some b else B[s * n + t]? := by
    intro t ht
    by_cases e : s * n + t = B.length
    · obtain ⟨e1, e2⟩ := lex_uniq hi ht (by omega : s * n + t = f * n + i)
      rw [if_pos ⟨e1, e2⟩, e, List.getElem?_append_right (Nat.le_refl _)]; simp
    · rw [if_neg (by rintro ⟨rfl, rfl⟩; omega)]
      by_cases e2 : s * n + t < B.length
      · rw [List.getElem?_append_left e2]
      · rw [List.getElem?_eq_none (by simp; omega), List.getElem?_eq_none (by omega)]
  by_cases e : s = f
  · subst e
    rw [if_pos rfl]
    refine List.ext_getElem (by simp [rowC]) fun t h1 h2 => ?_
    simp only [rowC, List.getElem_map, List.getElem_range, List.getElem_set]
    rw [key t (by simpa [rowC] using h1)]
    by_cases q : i = t
    · subst q; simp
    · rw [if_neg (by rintro ⟨_, rfl⟩; exact q rfl), if_neg q]
  · rw [if_neg e]
    refine List.ext_getElem (by simp [rowC]) fun t h1 h2 => ?_
    simp only [rowC, List.getElem_map, List.getElem_range]
    rw [key t (by simpa [rowC] using h1), if_neg (by rintro ⟨q, _⟩; exact e q)]
theorem rowsE_B {n f i : Nat} {R : List Nat} {B : List (Nat × Nat)} {b : Nat × Nat} (hB : B.length = f * n + i) (hi : i < n) : rowsE n R (B ++ [b]) = (rowsE n R B).set f ⟨some (R.getD f 0), (rowC n B f).set i (.pointer (some ⟨b.1, 0, none⟩)), 1⟩ := by
  refine List.ext_getElem (by simp [rowsE]) fun s h1 h2 => ?_
  simp only [rowsE, List.getElem_map, List.getElem_range, List.getElem_set]
  rw [rowC_add hB hi]
  by_cases e : f = s
  · subst e; simp
  · rw [if_neg (fun q => e q.symm), if_neg e]
theorem stepsE_add {x : Mach} {B : List (Nat × Nat)} {b : Nat × Nat} : stepsE x (B ++ [b]) = stepsE x B ++ [⟨some b.1, Flat.cells (gt x.steps B.length), b.2⟩] := by
  unfold stepsE
  rw [List.length_append, List.length_singleton, List.range_succ, List.map_append]
  congr 1
  · refine List.map_congr_left fun s hs => ?_
    rw [List.mem_range] at hs
    simp [List.getD, List.getElem?_append_left hs]
  · simp [List.getD]
theorem stepsE_get {x : Mach} {B : List (Nat × Nat)} {q : Nat} (hq : q < B.length) : (stepsE x B)[q]? = some ⟨some (B.getD q (0, 0)).1, Flat.cells (gt x.steps q), (B.getD q (0, 0)).2⟩ := by
  unfold stepsE
  rw [List.getElem?_map, List.getElem?_range hq]; rfl
theorem one_flat (l : List Value) : (l.map fun v => [v]).flatten = l := by
  induction l with
  | nil => rfl
  | cons a l ih => simp [ih]
theorem tab_ro {x : Mach} {T N n : Nat} {R : List Nat} {B : List (Nat × Nat)} {e : E} (hN : N = x.states.toNat) (hn : n = x.inputs.toNat) (m : Mem g h (⟨some T, hdrC N n R, 1⟩ :: e :: (rowsE n R B ++ stepsE x B)))
    (hR : R.length = N) (hB : B.length = N * n) (hb : N ≤ 2 ^ 50 ∧ n ≤ 2 ^ 50) : L (frz g.length h) (.slice (some ⟨T, 0, none⟩) N (N + 1)) (tab x) := by
  subst hN hn
  have hrow : ∀ s, s < x.states.toNat → L (frz g.length h) (.slice (some ⟨R.getD s 0, 0, none⟩) x.inputs.toNat (x.inputs.toNat + 1)) ((List.range x.inputs.toNat).map fun i => (⟨gt x.steps (s * x.inputs.toNat + i)⟩ : Bx Stp)) := by
    intro s hs
    refine ⟨(rowC x.inputs.toNat B s).map fun v => [v], by simp [rowC], ?_, fun k h1 h2 => ?_⟩
    · rw [one_flat, List.length_map, List.length_range]
      refine m.retro (k := s + 2) ?_ (by rw [rowC_len]; exact Nat.mul_one _) hb.2 (by unfold capOf; simp)
      show (rowsE _ R B ++ stepsE x B)[s]? = _
      rw [List.getElem?_append_left (by rw [rowsE_len]; omega), rowsE_get (by omega)]
      rfl
    · have hk : k < x.inputs.toNat := by simpa using h2
      have hq : s * x.inputs.toNat + k < B.length := by
        have := Nat.mul_le_mul_right x.inputs.toNat (show s + 1 ≤ x.states.toNat by omega)
        rw [Nat.add_mul, Nat.one_mul] at this
        omega
      refine ⟨_, by rw [List.getElem_map], ?_⟩
      simp only [rowC, List.getElem_map, List.getElem_range]
      rw [List.getElem?_eq_getElem hq]
      refine m.retp (k := R.length + (s * x.inputs.toNat + k) + 2) (sz := (B.getD (s * x.inputs.toNat + k) (0, 0)).2) ?_
      show (rowsE _ R B ++ stepsE x B)[R.length + (s * x.inputs.toNat + k)]? = _
      rw [List.getElem?_append_right (by rw [rowsE_len]; omega), rowsE_len, show R.length + (s * x.inputs.toNat + k) - R.length = s * x.inputs.toNat + k by omega, stepsE_get hq]
      simp [List.getD, hq]
  refine ⟨(hdrC x.states.toNat x.inputs.toNat R).map fun v => [v], by simp [hdrC, tab], ?_, fun k h1 h2 => ?_⟩
  · rw [one_flat]
    have hlen : (tab x).length = x.states.toNat := by simp [tab]
    rw [hlen]
    exact m.retro (k := 0) rfl (by rw [hdrC_len]; exact Nat.mul_one _) hb.1 (by unfold capOf; simp)
  · have hk : k < x.states.toNat := by simpa [tab] using h2
    refine ⟨_, by rw [List.getElem_map], ?_⟩
    have e1 := hdrC_get (n := x.inputs.toNat) (R := R) (s := k) (N := x.states.toNat) (by omega) (by omega)
    rw [List.getElem?_eq_getElem (by rw [hdrC_len]; omega)] at e1
    rw [Option.some.inj e1]
    have := hrow k hk
    simpa [tab] using this
theorem c92 {v : Value} {x : Mach} (s : MacV g v x) (h0 : (chkM x).2 = 0) (hl : (x.steps.length : Int) = x.states * x.inputs) :
    DetP Try.prog 92 [v] g fun v' h' => g <+: h' ∧ ∃ b q N, v' = .slice b N q ∧ N = x.states.toNat ∧ L h' (.slice b N q) (tab x) := by
  refine DetP.freeze ?_
  obtain ⟨tv, rfl, s⟩ := s
  have lt := s.lt
  obtain ⟨b0, q0, rfl, _⟩ := s.shape
  obtain ⟨hh, _, hst⟩ := chk_ok h0
  obtain ⟨d1, d2⟩ := prod_bd hh
  obtain ⟨⟨a1, a2⟩, ⟨a3, a4⟩, _⟩ := hh
  have m := Mem.start g
  refine w92 ?_
  unfold n92
  refine box_a m fun X hX zX pX m => ?_
  ((with_reducible (refine mv_i ?_; refine fao ?_));
      (refine ldo (by assumption) (q := by infer_instance) (by with_unfolding_all rfl) ?_))
  refine mk_g m (by omega) (by omega) fun T hT pT m => ?_
  ((with_reducible (refine mv_i ?_; refine mv_i ?_; refine len_s ?_; refine mv_i ?_)))
  refine loop1 x.states.toNat (fun k h2 => Prec hT h2 ∧ ∃ R : List Nat, R.length = k ∧ Mem g h2 (⟨some T, hdrC x.states.toNat x.inputs.toNat R, 1⟩ :: ⟨some X, [.int .i64 x.states, .int .i64 x.inputs, .int .i64 x.outputs, .int .i64 x.start, .slice b0 x.steps.length q0], zX⟩ :: rowsE x.inputs.toNat R [])) ⟨⟨Stab.refl _⟩, [], rfl, by rw [hdrC_zero]; exact m⟩ ?_
  rintro k h2 _ hk ⟨p2, R, hR, m⟩
  ((with_reducible (refine lss_i (fun hc => ?_) (fun hc => ?_); refine cnd_t ?_; refine mv_i ?_; refine mv_i ?_; refine mv_i ?_; refine mv_i ?_; refine fao ?_));
      (refine ldo (by assumption) (q := by infer_instance) (by with_unfolding_all rfl) ?_);
      (rotate_left);
      (with_reducible (refine cnd_f ?_; refine fao ?_));
      (refine ldo (by assumption) (q := by infer_instance) (by with_unfolding_all rfl) ?_);
      (with_reducible (refine len_g (by assumption) ?_; refine mv_i ?_));
      (rotate_left))
  · have hkl : k < x.states.toNat := by omega
    refine mk_g m (by omega) (by omega) fun r hr pr m => ?_
    skip
    refine idxon hkl ?_
    refine sto m (by rw [hdrC_len]; omega) rfl rfl fun h5 p5 m => ?_
    rw [Nat.mul_one, ← hR, ← hdrC_add (by omega)] at m
    ((with_reducible (refine inc_i (by omega) ?_; refine mv_i ?_)))
    refine next1 hkl ⟨⟨Stb.st⟩, R ++ [r], by simp [hR], ?_⟩
    rw [rowsE_add]
    exact m.perm (List.perm_append_singleton _ (_ :: _ :: rowsE _ _ _)).symm
  · have hkk : k = x.states.toNat := by omega
    clear hc
    have en : (x.states.toNat : Int) = x.states := Int.toNat_of_nonneg (by omega)
    have em : (x.inputs.toNat : Int) = x.inputs := Int.toNat_of_nonneg (by omega)
    have hln : x.steps.length = x.states.toNat * x.inputs.toNat := by
      have : ((x.states.toNat * x.inputs.toNat : Nat) : Int) = x.steps.length := by push_cast; rw [en, em, hl]
      omega
    refine loop1 x.steps.length (fun j h3 => Prec h2 h3 ∧ ∃ B : List (Nat × Nat), B.length = j ∧ Mem g h3 (⟨some T, hdrC x.states.toNat x.inputs.toNat R, 1⟩ :: ⟨some X, [.int .i64 x.states, .int .i64 x.inputs, .int .i64 x.outputs, .int .i64 x.start, .slice b0 x.steps.length q0], zX⟩ :: (rowsE x.inputs.toNat R B ++ stepsE x B))) ⟨⟨Stab.refl _⟩, [], rfl, by simpa [stepsE] using m⟩ ?_
    rintro j h3 _ hj ⟨p3, B, hB, m⟩
    ((with_reducible (refine lss_i (fun hc => ?_) (fun hc => ?_); refine cnd_t ?_));
        (refine idx_d (by assumption) (by with_unfolding_all rfl) (by omega) fun p hp => ?_);
        (refine ldr_w (by assumption) (by with_unfolding_all rfl) ?_);
        (with_reducible (refine alloc_z (by assumption) fun i h z p m => ?_));
        (refine st_w (by assumption) (by infer_instance) (by with_unfolding_all rfl) (by with_unfolding_all rfl) (by first | rfl | exact flat_ones (Flat.flat _)) (by infer_instance) fun h p m => ?_);
        (with_reducible (refine mv_i ?_; refine fao ?_));
        (refine ldo (by assumption) (q := by infer_instance) (by with_unfolding_all rfl) ?_);
        (refine vb_n (by with_unfolding_all rfl) ?_);
        (rotate_left);
        (with_reducible (refine cnd_f ?_; refine mv_i ?_; refine mv_i ?_; refine ret1 ?_));
        (rotate_left))
    · have hjl : j < x.steps.length := by omega
      have hir := (st_ok (hst j hjl)).1
      obtain ⟨⟨f1, f2⟩, _, ⟨f3, f4⟩, _⟩ := hir
      have hcode := full_code h0 hl hjl
      unfold code at hcode
      have hf : (gt x.steps j).frm.toNat < x.states.toNat := by omega
      have hi : (gt x.steps j).inp.toNat < x.inputs.toNat := by omega
      have hBf : B.length = (gt x.steps j).frm.toNat * x.inputs.toNat + (gt x.steps j).inp.toNat := by
        have e1 : ((gt x.steps j).frm.toNat : Int) = (gt x.steps j).frm := Int.toNat_of_nonneg f1
        have e2 : ((gt x.steps j).inp.toNat : Int) = (gt x.steps j).inp := Int.toNat_of_nonneg f3
        have : (((gt x.steps j).frm.toNat * x.inputs.toNat + (gt x.steps j).inp.toNat : Nat) : Int) = j := by push_cast; rw [e1, e2, em, hcode]
        omega
      refine idxo f1 hf ?_
      refine ldo m (by rw [Nat.mul_one]; exact hdrC_get (by omega) (by omega)) ?_
      have hrow : ∀ e1 : E, (e1 :: ⟨some T, hdrC x.states.toNat x.inputs.toNat R, 1⟩ :: ⟨some X, [.int .i64 x.states, .int .i64 x.inputs, .int .i64 x.outputs, .int .i64 x.start, .slice b0 x.steps.length q0], zX⟩ :: (rowsE x.inputs.toNat R B ++ stepsE x B))[(gt x.steps j).frm.toNat + 3]? = some ⟨some (R.getD (gt x.steps j).frm.toNat 0), rowC x.inputs.toNat B (gt x.steps j).frm.toNat, 1⟩ := by
        intro e1
        show (rowsE x.inputs.toNat R B ++ stepsE x B)[(gt x.steps j).frm.toNat]? = _
        rw [List.getElem?_append_left (by rw [rowsE_len]; omega), rowsE_get (by omega)]
      refine ⟨m.lt (List.mem_of_getElem? (hrow _)) rfl, ?_⟩
      ((with_reducible (refine fao ?_));
          (refine ldo (by assumption) (q := by infer_instance) (by with_unfolding_all rfl) ?_);
          (refine vb_n (by with_unfolding_all rfl) ?_))
      refine idxo f3 hi ?_
      refine sto m (q := ⟨hrow _⟩) (u := ⟨rfl⟩) (by rw [rowC_len, Nat.mul_one]; exact hi) rfl rfl fun h6 p6 m => ?_
      refine ⟨trivial, ?_⟩
      ((with_reducible (refine inc_i (by omega) ?_; refine mv_i ?_)))
      refine next1 hjl ⟨⟨Stb.st⟩, B ++ [(i, z)], by simp [hB], ?_⟩
      rw [rowsE_B hBf hi, stepsE_add, hB]
      simp only [List.set_cons_succ, Nat.mul_one] at m
      rw [List.set_append_left _ _ (by rw [rowsE_len]; omega)] at m
      rw [← List.append_assoc]
      exact m.perm (List.perm_append_singleton _ (_ :: _ :: (_ ++ _))).symm
    · exact ⟨m.pre, _, _, _, rfl, rfl, tab_ro rfl rfl m (by omega) (by omega) ⟨by omega, by omega⟩⟩
end Go.Proofs.Ytomiejfeclefaaa

set_option linter.unusedSimpArgs false
set_option linter.unusedVariables false
set_option linter.unnecessarySimpa false
set_option maxRecDepth 100000
set_option maxHeartbeats 4000000
namespace Go.Proofs.Ytomiejfeclefaaa
open Go.AM
variable {h g : Heap}
/-! ### the search for a word by which two machines differ -/
def stO (x : Mach) (q w : Int) : Stp := gt x.steps (q * x.inputs + w).toNat
def inP (x : Mach) (p : Pr) : Prop := (0 ≤ p.a ∧ p.a ≤ x.states - 1) ∧ (0 ≤ p.b ∧ p.b ≤ x.states - 1)
instance (x : Mach) (p : Pr) : Decidable (inP x p) := by unfold inP; infer_instance
structure BS where
  ps : List Pr
  ws : List (List Int)
  fnd : Option (List Int)
def tgt (x y : Mach) (p : Pr) (n : Int) : Pr := ⟨(stO x p.a n).to, (stO y p.b n).to⟩
def same (x y : Mach) (p : Pr) (n : Int) : Prop := (stO x p.a n).out = (stO y p.b n).out
instance (x y : Mach) (p : Pr) (n : Int) : Decidable (same x y p n) := by unfold same; infer_instance
def wrd (s : BS) (i n : Nat) : List Int := s.ws.getD i [] ++ [(n : Int)]
def bst (x y : Mach) (i n : Nat) (s : BS) : BS :=
  if s.fnd.isSome then s
  else if ¬ same x y (gt s.ps i) n then { s with fnd := some (wrd s i n) }
  else if tgt x y (gt s.ps i) n ∈ s.ps then s
  else ⟨s.ps ++ [tgt x y (gt s.ps i) n], s.ws ++ [wrd s i n], none⟩
def brow (x y : Mach) (i : Nat) (s : BS) : Nat → BS
  | 0 => s
  | n + 1 => bst x y i n (brow x y i s n)
def bfs (x y : Mach) (p0 : Pr) : Nat → BS
  | 0 => ⟨[p0], [[]], none⟩
  | k + 1 => if k < (bfs x y p0 k).ps.length then brow x y k (bfs x y p0 k) x.inputs.toNat else bfs x y p0 k
def srch (x y : Mach) (p0 : Pr) : BS := bfs x y p0 1601
theorem bst_fnd {x y : Mach} {i n : Nat} {s : BS} (hs : s.fnd ≠ none) : bst x y i n s = s := by
  unfold bst; rw [if_pos (by cases h : s.fnd <;> simp_all)]
theorem brow_fnd {x y : Mach} {i : Nat} {s : BS} (hs : s.fnd ≠ none) : ∀ n, brow x y i s n = s
  | 0 => rfl
  | n + 1 => by unfold brow; rw [brow_fnd hs n, bst_fnd hs]
theorem bst_no {x y : Mach} {i n : Nat} {s : BS} (hs : s.fnd = none) (hd : ¬ same x y (gt s.ps i) n) : bst x y i n s = { s with fnd := some (wrd s i n) } := by
  unfold bst; rw [if_neg (by simp [hs]), if_pos hd]
theorem bst_met {x y : Mach} {i n : Nat} {s : BS} (hs : s.fnd = none) (hd : same x y (gt s.ps i) n) (hm : tgt x y (gt s.ps i) n ∈ s.ps) : bst x y i n s = s := by
  unfold bst; rw [if_neg (by simp [hs]), if_neg (by simpa using hd), if_pos hm]
theorem bst_new {x y : Mach} {i n : Nat} {s : BS} (hs : s.fnd = none) (hd : same x y (gt s.ps i) n) (hm : ¬ tgt x y (gt s.ps i) n ∈ s.ps) : bst x y i n s = ⟨s.ps ++ [tgt x y (gt s.ps i) n], s.ws ++ [wrd s i n], none⟩ := by
  unfold bst; rw [if_neg (by simp [hs]), if_neg (by simpa using hd), if_neg hm]
/-- One more row, found before its end. -/
theorem brow_stop {x y : Mach} {i : Nat} {s : BS} {n : Nat} (hn : (brow x y i s n).fnd ≠ none) : ∀ N, n ≤ N → brow x y i s N = brow x y i s n := by
  intro N
  induction N with
  | zero => intro h; have : n = 0 := by omega
            subst this; rfl
  | succ N ih =>
    intro h
    by_cases e : n = N + 1
    · subst e; rfl
    · have := ih (by omega)
      show bst x y i N (brow x y i s N) = _
      rw [this, bst_fnd hn]
/-- What holds of a search between right machines. -/
structure BI (x : Mach) (s : BS) : Prop where
  nd : s.ps.Nodup
  inp : ∀ p ∈ s.ps, inP x p
  len : s.ws.length = s.ps.length
def allP (N : Nat) : List Pr := (List.range N).flatMap fun (a : Nat) => (List.range N).map fun (b : Nat) => (⟨(a : Int), (b : Int)⟩ : Pr)
theorem sum_const (l : List Nat) (N : Nat) : (l.map fun _ => N).sum = l.length * N := by
  induction l with
  | nil => simp
  | cons a l ih => simp [ih, Nat.add_mul]; omega
theorem allP_len (N : Nat) : (allP N).length = N * N := by
  unfold allP
  rw [List.length_flatMap]
  simp only [List.length_map, List.length_range]
  rw [sum_const, List.length_range]
theorem BI.few {x : Mach} {s : BS} (b : BI x s) (hN : x.states ≤ 40) : s.ps.length ≤ 1600 := by
  have h1 := b.nd.length_le_of_subset (l₂ := allP x.states.toNat) fun p hp => by
    obtain ⟨⟨q1, q2⟩, q3, q4⟩ := b.inp p hp
    refine List.mem_flatMap.mpr ⟨p.a.toNat, List.mem_range.mpr (by omega), List.mem_map.mpr ⟨p.b.toNat, List.mem_range.mpr (by omega), ?_⟩⟩
    cases p
    simp only [Pr.mk.injEq] at *
    omega
  rw [allP_len] at h1
  have h2 : x.states.toNat * x.states.toNat ≤ 40 * 40 := Nat.mul_le_mul (by omega) (by omega)
  omega
/-- Right machines beside each other. -/
structure Par (x y : Mach) : Prop where
  cx : (chkM x).2 = 0
  cy : (chkM y).2 = 0
  lx : (x.steps.length : Int) = x.states * x.inputs
  ly : (y.steps.length : Int) = y.states * y.inputs
  st : y.states = x.states
  ip : y.inputs = x.inputs
theorem stO_ok {x : Mach} (h0 : (chkM x).2 = 0) (hl : (x.steps.length : Int) = x.states * x.inputs) {q w : Int} (hq : 0 ≤ q ∧ q ≤ x.states - 1) (hw : 0 ≤ w ∧ w ≤ x.inputs - 1) : inR x (stO x q w) := by
  obtain ⟨e1, e2, _⟩ := full_at h0 hl hq hw
  exact (st_ok ((chk_ok h0).2.2 _ e2)).1
theorem Par.tgt {x y : Mach} (P : Par x y) {p : Pr} (hp : inP x p) {n : Nat} (hn : n < x.inputs.toNat) : inP x (Go.Proofs.Ytomiejfeclefaaa.tgt x y p n) := by
  have h1 := stO_ok P.cx P.lx hp.1 (w := (n : Int)) ⟨by omega, by omega⟩
  have h2 := stO_ok P.cy P.ly (q := p.b) (by rw [P.st]; exact hp.2) (w := (n : Int)) ⟨by omega, by rw [P.ip]; omega⟩
  have h3 := h2.2.1
  rw [P.st] at h3
  exact ⟨h1.2.1, h3⟩
theorem BI.step {x y : Mach} (P : Par x y) {s : BS} (b : BI x s) {i n : Nat} (hi : i < s.ps.length) (hn : n < x.inputs.toNat) : BI x (bst x y i n s) := by
  unfold bst
  split
  · exact b
  · split
    · exact ⟨b.nd, b.inp, b.len⟩
    · split
      · exact b
      · rename_i hm
        refine ⟨?_, ?_, by simp [b.len]⟩
        · rw [List.nodup_append]
          exact ⟨b.nd, by simp, by intro a ha c hc e; subst e; rw [List.mem_singleton] at hc; rw [hc] at ha; exact hm ha⟩
        · intro p hp
          rcases List.mem_append.mp hp with hp | hp
          · exact b.inp p hp
          · rw [List.mem_singleton] at hp; subst hp
            exact P.tgt (b.inp _ (gd_mem _ hi)) hn
theorem bst_grow {x y : Mach} {i n : Nat} {s : BS} : s.ps <+: (bst x y i n s).ps ∧ s.ws <+: (bst x y i n s).ws := by
  unfold bst
  split
  · exact ⟨List.prefix_refl _, List.prefix_refl _⟩
  · split
    · exact ⟨List.prefix_refl _, List.prefix_refl _⟩
    · split
      · exact ⟨List.prefix_refl _, List.prefix_refl _⟩
      · exact ⟨List.prefix_append _ _, List.prefix_append _ _⟩
theorem brow_grow {x y : Mach} {i : Nat} {s : BS} : ∀ n, s.ps <+: (brow x y i s n).ps ∧ s.ws <+: (brow x y i s n).ws
  | 0 => ⟨List.prefix_refl _, List.prefix_refl _⟩
  | n + 1 => ⟨(brow_grow n).1.trans bst_grow.1, (brow_grow n).2.trans bst_grow.2⟩
theorem BI.row {x y : Mach} (P : Par x y) {s : BS} (b : BI x s) {i : Nat} (hi : i < s.ps.length) : ∀ n, n ≤ x.inputs.toNat → BI x (brow x y i s n)
  | 0, _ => b
  | n + 1, h => (BI.row P b hi n (by omega)).step P (Nat.lt_of_lt_of_le hi (brow_grow n).1.length_le) (by omega)
theorem BI.all {x y : Mach} (P : Par x y) {p0 : Pr} (h0 : inP x p0) : ∀ k, BI x (bfs x y p0 k)
  | 0 => ⟨by simp [bfs], by intro p hp; simp [bfs] at hp; subst hp; exact h0, rfl⟩
  | k + 1 => by
    unfold bfs
    split
    · rename_i h; exact (BI.all P h0 k).row P h _ (Nat.le_refl _)
    · exact BI.all P h0 k
/-- Where it has come to an end. -/
theorem bfs_end {x y : Mach} {p0 : Pr} {k : Nat} (h : (bfs x y p0 k).fnd ≠ none ∨ (bfs x y p0 k).ps.length ≤ k) : ∀ m, k ≤ m → bfs x y p0 m = bfs x y p0 k := by
  intro m
  induction m with
  | zero => intro hm; have : k = 0 := by omega
            subst this; rfl
  | succ m ih =>
    intro hm
    by_cases e : k = m + 1
    · subst e; rfl
    · have := ih (by omega)
      show (if m < (bfs x y p0 m).ps.length then _ else _) = _
      rw [this]
      split
      · rcases h with h | h
        · exact brow_fnd h _
        · omega
      · rfl
theorem srch_end {x y : Mach} {p0 : Pr} {k : Nat} (hk : k ≤ 1600) (h : (bfs x y p0 k).ps.length ≤ k) : srch x y p0 = bfs x y p0 k := bfs_end (.inr h) 1601 (by omega)
/-- It has found a word. -/
theorem srch_fnd {x y : Mach} {p0 : Pr} {k n : Nat} (hk : k < (bfs x y p0 k).ps.length) (hk2 : k ≤ 1600) (hn : n < x.inputs.toNat) (h0 : (brow x y k (bfs x y p0 k) n).fnd = none)
    (hd : ¬ same x y (gt (brow x y k (bfs x y p0 k) n).ps k) n) : srch x y p0 = { brow x y k (bfs x y p0 k) n with fnd := some (wrd (brow x y k (bfs x y p0 k) n) k n) } := by
  have e1 : brow x y k (bfs x y p0 k) (n + 1) = { brow x y k (bfs x y p0 k) n with fnd := some (wrd (brow x y k (bfs x y p0 k) n) k n) } := bst_no h0 hd
  have e2 : bfs x y p0 (k + 1) = brow x y k (bfs x y p0 k) (n + 1) := by
    show (if k < (bfs x y p0 k).ps.length then _ else _) = _
    rw [if_pos hk]
    exact brow_stop (by rw [e1]; simp) _ (by omega)
  have e3 := bfs_end (x := x) (y := y) (p0 := p0) (k := k + 1) (.inl (by rw [e2, e1]; simp)) 1601 (by omega)
  rw [srch, e3, e2, e1]
theorem bfs_next {x y : Mach} {p0 : Pr} {k : Nat} (hk : k < (bfs x y p0 k).ps.length) : bfs x y p0 (k + 1) = brow x y k (bfs x y p0 k) x.inputs.toNat := by
  show (if k < (bfs x y p0 k).ps.length then _ else _) = _
  rw [if_pos hk]
end Go.Proofs.Ytomiejfeclefaaa

set_option linter.unusedSimpArgs false
set_option linter.unusedVariables false
set_option linter.unnecessarySimpa false
set_option maxRecDepth 100000
set_option maxHeartbeats 4000000
namespace Go.Proofs.Ytomiejfeclefaaa
open Go.AM
variable {h g : Heap}
/-! ### small functions -/
theorem bd104_01 (a1 : Int) (a2 : Int) : aBuild Try.prog 104 [(0, (.int .i64 a1)), (1, (.int .i64 a2))] = some (.agg #[(.int .i64 a1), (.int .i64 a2), (.slice none 0 0)]) := by kernel_rfl
theorem bd104_012 (a1 : Int) (a2 : Int) (o3 : Option Addr) (no3 co3 : Nat) : aBuild Try.prog 104 [(0, (.int .i64 a1)), (1, (.int .i64 a2)), (2, (.slice o3 no3 co3))] = some (.agg #[(.int .i64 a1), (.int .i64 a2), (.slice o3 no3 co3)]) := by kernel_rfl
theorem bs63_1 (a1 : Int) (a2 : Int) (o3 : Option Addr) (no3 co3 : Nat) (h : Heap) : aBuildSlice Try.prog 63 1 [(0, (.agg #[(.int .i64 a1), (.int .i64 a2), (.slice o3 no3 co3)]))] h = some (.slice (some ⟨h.length, 0, none⟩) 1 2, newArr h [(.int .i64 a1), (.int .i64 a2), (.slice o3 no3 co3)] 3) := by kernel_rfl
theorem bs53_0  (h : Heap) : aBuildSlice Try.prog 53 0 [] h = some (.slice (some ⟨h.length, 0, none⟩) 0 1, newArr h [] 1) := by kernel_rfl
theorem bs36_1 (x1 : Pr) (h : Heap) : aBuildSlice Try.prog 36 1 [(0, (fv x1))] h = some (.slice (some ⟨h.length, 0, none⟩) 1 2, newArr h (flat [x1]) 2) := by kernel_rfl
theorem osl_i {K : Value → Heap → Prop} {x : Value} {o : Option Nat} {n : Nat} (s : IsSl x o n) (h1 : o = none → K (.bool true) h) (h2 : ∀ i, o = some i → K (.bool false) h) : vK (aBin Try.prog .eql 53 x (.slice none 0 0)) h K := by
  cases o with
  | none => obtain ⟨rfl, _⟩ := s; exact vk_i (v := .bool true) (by kernel_rfl) (h1 rfl)
  | some i => obtain ⟨c, rfl, _⟩ := s; exact vk_i (v := .bool false) (by unfold aBin; rw [Try.underlying53]; rfl) (h2 i rfl)
theorem c90 {v : Value} {x : Mach} (s : MacV g v x) : Runs Try.prog 90 [v] g (.int .i64 (chkM x).2) g := by
  obtain ⟨tv, rfl, s⟩ := s
  have m := Mem.start g
  refine DetP.forget rfl ?_
  refine w90 ?_
  unfold n90
  ((with_reducible (refine box_a (by assumption) fun i h z p m => ?_; refine mv_i ?_));
      (refine ldo_w (by assumption) (by infer_instance) (by with_unfolding_all rfl) ?_);
      (refine call_r (c75 ⟨_, by with_unfolding_all rfl, L.up (by assumption)⟩) ?_);
      (with_reducible (refine mv_i ?_)))
  unfold mk2
  ((with_reducible (refine ex2_0 ?_; refine ex2_1 ?_; refine mv_i ?_; refine mv_i ?_; refine mv_i ?_; refine mv_i ?_; refine ret1 ?_)))
  exact ⟨rfl, Mem.pre (by assumption)⟩
/-- A copy of a list of one's own. -/
theorem c70 {x : Value} {o : Option Nat} {k : Nat} {xs : List Int} {g0 : Heap} {Lm : List E} (M : Mem g0 g Lm) (q : EntO Lm o k (flat xs) 1) (s : IsSl x o xs.length) (hb : xs.length ≤ 1048576) : DetP Try.prog 70 [x] g fun v h' => g <+: h' ∧ ∃ o', IsSl v o' xs.length ∧ OwnNew g h' o' (flat xs) 1 := by
  have m := Mem.start g
  refine w70 ?_
  unfold n70
  ((with_reducible (refine mv_i ?_));
      (refine bs_g (bs53_0 _) (by assumption) fun i h p m => ?_);
      (with_reducible (refine mv_i ?_)))
  refine app_copyO m (by infer_instance) s (M.ext m.pre) q rfl (by decide) (by omega) fun v o2 h2 p2 hv m => ?_
  simp only [List.set_cons_zero] at m
  ((with_reducible (refine mv_i ?_; refine ret1 ?_)))
  exact ⟨m.pre, o2, hv, OwnNew.of m⟩
theorem c69 {x : Value} {o : Option Nat} {k : Nat} {xs : List Int} {g0 : Heap} {Lm : List E} (M : Mem g0 g Lm) (q : EntO Lm o k (flat xs) 1) (s : IsSl x o xs.length) (hb : xs.length ≤ 1048576) : DetP Try.prog 69 [x] g fun v h' => g <+: h' ∧ ∃ o', IsSl v o' xs.length ∧ OwnNew g h' o' (flat xs) 1 := by
  have m := Mem.start g
  refine w69 ?_
  unfold n69
  ((with_reducible (refine mv_i ?_; refine mv_i ?_)))
  refine osl_i s (fun e => ?_) (fun i e => ?_)
  · subst e
    have hx := s.2
    rw [List.length_eq_zero_iff] at hx
    subst hx
    ((with_reducible (refine cnd_t ?_; refine mv_i ?_; refine ret1 ?_)))
    exact ⟨m.pre, none, IsSl.nil, fun _ _ m' => m'.nil 1⟩
  · ((with_reducible (refine cnd_f ?_));
      (refine bs_g (bs53_0 _) (by assumption) fun i h p m => ?_);
      (with_reducible (refine mv_i ?_)))
    refine app_copyO m (by infer_instance) s (M.ext m.pre) q rfl (by decide) (by omega) fun v o2 h2 p2 hv m => ?_
    simp only [List.set_cons_zero] at m
    ((with_reducible (refine mv_i ?_; refine ret1 ?_)))
    exact ⟨m.pre, o2, hv, OwnNew.of m⟩
/-! ### pairs with words -/
structure PrX where
  get : Pr
instance : Rep PrX := ⟨3, fun _ cs p => ∃ v, cs = [.int .i64 p.get.a, .int .i64 p.get.b, v] ∧ v.oneCell' = true, by rintro h cs a ⟨v, rfl, _⟩; rfl, fun _ e => e, by rintro h cs a ⟨v, rfl, e⟩; simp only [List.all_cons, e]; rfl⟩
theorem len_x {K : Value → Heap → Prop} {h1 : Heap} {x : Value} {t e sz by_ : Nat} {ps : List Pr} [T : SlT Try.prog t e sz by_] (s : L h1 x (ps.map PrX.mk)) (hk : K (.int .i64 (ps.length : Int)) h) : vK (aLen Try.prog t x) h K :=
  len_g s (by rw [List.length_map]; exact hk)
theorem idx_x {K : Value → Heap → Prop} {h1 : Heap} {x : Value} {t e sz by_ k : Nat} {ps : List Pr} [T : SlT Try.prog t e sz by_] (s : L h1 x (ps.map PrX.mk)) (hz : sz = 3) (hk : k < ps.length)
    (hK : ∀ p v, Pt h1 p [.int .i64 (gt ps k).a, .int .i64 (gt ps k).b, v] 0 → K p h) : vK (aIndexAddr Try.prog t x (.int .i64 (k : Int))) h K := by
  refine idx_n hz s (by rw [List.length_map]; exact hk) fun p cs hp hr => ?_
  obtain ⟨v, rfl, _⟩ := hr
  rw [List.getElem_map] at hp
  rw [gt_at hk] at hp
  exact hK p v hp
theorem c94 {x : Value} {ps : List Pr} (s : L g x (ps.map PrX.mk)) (a b : Int) (w : Value) (hw : w.oneCell' = true) : Runs Try.prog 94 [x, .agg #[.int .i64 a, .int .i64 b, w]] g (.bool (decide ((⟨a, b⟩ : Pr) ∈ ps))) g := by
  have lt := s.lt
  rw [List.length_map] at lt
  have m := Mem.start g
  refine DetP.forget rfl ?_
  refine w94 ?_
  unfold n94
  refine box_a (cs := [.int .i64 a, .int .i64 b, w]) m fun i0 h0 z0 p0 m => ?_
  ((with_reducible (refine mv_i ?_; refine mv_i ?_)))
  refine loop1 ps.length (fun k h2 => Prec h0 h2 ∧ Mem g h2 [⟨some i0, [.int .i64 a, .int .i64 b, w], z0⟩] ∧ ∀ j, j < k → ¬ gt ps j = ⟨a, b⟩) ⟨⟨Stab.refl _⟩, m, fun j hj => by omega⟩ ?_
  rintro k h2 _ hk ⟨p2, m, hJ⟩
  ((with_reducible (refine mv_i ?_; refine mv_i ?_));
      (refine len_x (by assumption) ?_);
      (with_reducible (refine lss_i (fun hc => ?_) (fun hc => ?_); refine cnd_t ?_; refine mv_i ?_; refine mv_i ?_));
      (refine idx_x (by assumption) (by with_unfolding_all rfl) (by omega) fun p w hp => ?_);
      (with_reducible (refine fa_g (by assumption) fun p hp => ?_));
      (refine ld_g (by assumption) (by with_unfolding_all rfl) ?_);
      (refine vb_n (by with_unfolding_all rfl) ?_);
      (with_reducible (refine fao ?_));
      (refine ldo (by assumption) (q := by infer_instance) (by with_unfolding_all rfl) ?_);
      (refine vb_n (by with_unfolding_all rfl) ?_);
      (with_reducible (refine eql_i (fun hc => ?_) (fun hc => ?_); refine mv_i ?_; refine gd_tt ?_; refine mv_i ?_; refine gd_tt ?_; refine mv_i ?_; refine gd_tt ?_));
      (refine idx_x (by assumption) (by with_unfolding_all rfl) (by omega) fun p w hp => ?_);
      (with_reducible (refine gd_tt ?_; refine fa_g (by assumption) fun p hp => ?_; refine gd_tt ?_));
      (refine ld_g (by assumption) (by with_unfolding_all rfl) ?_);
      (refine vb_n (by with_unfolding_all rfl) ?_);
      (with_reducible (refine gd_tt ?_; refine fao ?_; refine gd_tt ?_));
      (refine ldo (by assumption) (q := by infer_instance) (by with_unfolding_all rfl) ?_);
      (refine vb_n (by with_unfolding_all rfl) ?_);
      (with_reducible (refine gd_tt ?_; refine eql_i (fun hc => ?_) (fun hc => ?_); refine pick_t ?_; refine cnd_t ?_; refine mv_i ?_; refine ret1 ?_));
      (rotate_left);
      (with_reducible (refine pick_t ?_; refine cnd_f ?_; refine mv_i ?_; refine inc_i (by omega) ?_; refine mv_i ?_));
      (rotate_left);
      (with_reducible (refine mv_i ?_; refine gd_ft ?_; refine gd_ft ?_; refine gd_ft ?_; refine gd_ft ?_; refine gd_ft ?_; refine gd_ft ?_; refine gd_ft ?_; refine gd_ft ?_; refine pick_f ?_; refine cnd_f ?_; refine mv_i ?_; refine inc_i (by omega) ?_; refine mv_i ?_));
      (rotate_left);
      (with_reducible (refine cnd_f ?_; refine mv_i ?_; refine ret1 ?_));
      (rotate_left))
  · exact ⟨by rw [decide_eq_true (mem_gt.mpr ⟨k, by omega, by rw [show gt ps k = ⟨(gt ps k).a, (gt ps k).b⟩ from rfl]; simp only [Pr.mk.injEq]; exact ⟨by assumption, by assumption⟩⟩)], Mem.pre (by assumption)⟩
  · refine next1 (by omega) ⟨⟨Stb.st⟩, m, fun j hj => ?_⟩
    by_cases q : j = k
    · subst q; intro e; rw [e] at hc; exact hc rfl
    · exact hJ j (by omega)
  · refine next1 (by omega) ⟨⟨Stb.st⟩, m, fun j hj => ?_⟩
    by_cases q : j = k
    · subst q; intro e; rw [e] at hc; exact hc rfl
    · exact hJ j (by omega)
  · refine ⟨?_, Mem.pre (by assumption)⟩
    rw [decide_eq_false]
    intro hm
    obtain ⟨j, hj, e⟩ := mem_gt.mp hm
    exact hJ j (by omega) e
def pw3 : List Pr → List Value → List Value
  | p :: ps, v :: vs => .int .i64 p.a :: .int .i64 p.b :: v :: pw3 ps vs
  | _, _ => []
theorem pw3_get : ∀ {ps : List Pr} {vs : List Value} {k : Nat}, vs.length = ps.length → k < ps.length → (pw3 ps vs)[k * 3]? = some (.int .i64 (gt ps k).a) ∧ (pw3 ps vs)[k * 3 + 1]? = some (.int .i64 (gt ps k).b) ∧ (pw3 ps vs)[k * 3 + 2]? = vs[k]?
  | [], _, _, _, h => by simp at h
  | _ :: _, [], _, h, _ => by simp at h
  | p :: ps, v :: vs, 0, _, _ => by simp [pw3, gt]
  | p :: ps, v :: vs, k + 1, h1, h2 => by
    have := pw3_get (ps := ps) (vs := vs) (k := k) (by simpa using h1) (by simpa using h2)
    rw [show (k + 1) * 3 = k * 3 + 3 by omega]
    simpa [pw3, gt, Nat.add_assoc] using this
theorem pw3_add : ∀ {ps : List Pr} {vs : List Value} {p : Pr} {v : Value}, vs.length = ps.length → pw3 (ps ++ [p]) (vs ++ [v]) = pw3 ps vs ++ [.int .i64 p.a, .int .i64 p.b, v]
  | [], [], _, _, _ => rfl
  | _ :: _, [], _, _, h => by simp at h
  | [], _ :: _, _, _, h => by simp at h
  | p :: ps, v :: vs, p', v', h => by
    have := pw3_add (ps := ps) (vs := vs) (p := p') (v := v') (by simpa using h)
    simp [pw3, this]
theorem pw3_rd : ∀ {ps : List Pr} {vs : List Value}, vs.length = ps.length → (∀ v ∈ vs, v.oneCell' = true) → RdL h (pw3 ps vs) (ps.map PrX.mk)
  | [], [], _, _ => RdL.nil h
  | _ :: _, [], h, _ => by simp at h
  | [], _ :: _, h, _ => by simp at h
  | p :: ps, v :: vs, e, hv => by
    obtain ⟨css, e1, e2, e3⟩ := pw3_rd (ps := ps) (vs := vs) (by simpa using e) (fun w hw => hv w (by simp [hw]))
    refine ⟨[.int .i64 p.a, .int .i64 p.b, v] :: css, by simpa using e1, by simp [pw3, e2], fun k h1 h2 => ?_⟩
    cases k with
    | zero => exact ⟨v, rfl, hv v (by simp)⟩
    | succ k =>
      have h3 := e3 k (by simpa using h1) (by simpa using h2)
      simp only [List.getElem_map] at h3
      simpa using h3
end Go.Proofs.Ytomiejfeclefaaa

set_option linter.unusedSimpArgs false
set_option linter.unusedVariables false
set_option linter.unnecessarySimpa false
set_option maxRecDepth 100000
set_option maxHeartbeats 4000000
namespace Go.Proofs.Ytomiejfeclefaaa
open Go.AM
variable {h g : Heap}
/-! ### several mutants: their error -/
/-! ### own copies of several mutants -/
theorem c29 {x y : Value} {xs ys : List Int} (s : L g x xs) (t : L g y ys) : Runs Try.prog 29 [x, y] g (.bool (decide (xs = ys))) g := by
  have lt := s.lt
  have lt2 := t.lt
  refine DetP.runs (w29 ?_)
  unfold n29
  ((with_reducible (refine mv_i ?_; refine mv_i ?_; refine len_g (by assumption) ?_; refine mv_i ?_; refine len_g (by assumption) ?_; refine neq_i (fun hc => ?_) (fun hc => ?_); refine cnd_f ?_; refine mv_i ?_));
      (rotate_left);
      (with_reducible (refine cnd_t ?_; refine mv_i ?_; refine ret1 ?_));
      (rotate_left))
  · refine loop1 xs.length (fun k h2 => g = h2 ∧ ∀ j, j < k → gt xs j = gt ys j) ⟨rfl, fun j hj => by omega⟩ ?_
    rintro k _ _ hk ⟨rfl, hJ⟩
    ((with_reducible (refine mv_i ?_; refine mv_i ?_; refine len_g (by assumption) ?_; refine lss_i (fun hc => ?_) (fun hc => ?_); refine cnd_t ?_; refine mv_i ?_; refine mv_i ?_));
        (refine idx_d (by assumption) (by with_unfolding_all rfl) (by omega) fun p hp => ?_);
        (refine ld_g (by assumption) (by with_unfolding_all rfl) ?_);
        (refine vb_n (by with_unfolding_all rfl) ?_);
        (with_reducible (refine mv_i ?_; refine mv_i ?_));
        (refine idx_d (by assumption) (by with_unfolding_all rfl) (by omega) fun p hp => ?_);
        (refine ld_g (by assumption) (by with_unfolding_all rfl) ?_);
        (refine vb_n (by with_unfolding_all rfl) ?_);
        (with_reducible (refine neq_i (fun hc => ?_) (fun hc => ?_); refine cnd_f ?_; refine mv_i ?_; refine inc_i (by omega) ?_; refine mv_i ?_));
        (rotate_left);
        (with_reducible (refine cnd_t ?_; refine mv_i ?_; refine ret1 ?_));
        (rotate_left);
        (with_reducible (refine cnd_f ?_; refine mv_i ?_; refine ret1 ?_));
        (rotate_left))
    · refine next1 (by omega) ⟨rfl, fun j hj => ?_⟩
      by_cases q : j = k
      · subst q; exact hc
      · exact hJ j (by omega)
    · refine ⟨?_, rfl⟩
      rw [decide_eq_false]
      rintro rfl; exact hc rfl
    · refine ⟨?_, rfl⟩
      rw [decide_eq_true]
      exact List.ext_getElem (by omega) fun j h1 h2 => by rw [gt_at h1, gt_at h2]; exact hJ j (by omega)
  · refine ⟨?_, rfl⟩
    rw [decide_eq_false]
    rintro rfl; exact hc rfl
end Go.Proofs.Ytomiejfeclefaaa

set_option linter.unusedVariables false
set_option maxRecDepth 100000
namespace Go.Proofs.Ytomiejfeclefaaa
open Go.AM

/-! ### examiner/examinerlaw41.MutantKilled: function 7 -/
def n7 (a0 a1 : Value) (h : Heap) (R : Value → Heap → Prop) : Prop :=
  okK (some (aBox Try.prog 24 a0 h)) fun v2 h =>
  mvK (Value.bool false) h fun v4 h =>
  cK Try.prog 11 [] h fun v13 h =>
  vK (aUn UnOp.not v13) h fun v14 h =>
  cnd v14 (
   mvK (Value.bool false) h fun v4_1 h =>
   retV [some v4_1] R h) (
   vK (aLoad Try.prog 24 v2 h) h fun v16 h =>
   cK Try.prog 14 [v16] h fun v17 h =>
   mvK a1 h fun v18 h =>
   cK Try.prog 17 [v18] h fun v19 h =>
   cK Try.prog 31 [v17, v19] h fun v20 h =>
   mvK v20 h fun v15 h =>
   vK (aExtract v15 0) h fun v21 h =>
   vK (aExtract v15 1) h fun v22 h =>
   mvK v21 h fun v5 h =>
   mvK v22 h fun v6 h =>
   vK (aLoad Try.prog 24 v2 h) h fun v24 h =>
   cK Try.prog 14 [v24] h fun v25 h =>
   mvK a1 h fun v26 h =>
   cK Try.prog 17 [v26] h fun v27 h =>
   cK Try.prog 32 [v25, v27] h fun v28 h =>
   mvK v28 h fun v23 h =>
   vK (aExtract v23 0) h fun v29 h =>
   vK (aExtract v23 1) h fun v30 h =>
   mvK v29 h fun v7 h =>
   mvK v30 h fun v8 h =>
   vK (aLoad Try.prog 24 v2 h) h fun v31 h =>
   mvK a1 h fun v32 h =>
   cK Try.prog 18 [v31, v32] h fun v33 h =>
   mvK v33 h fun v9 h =>
   mvK v9 h fun v34 h =>
   vK (aBin Try.prog BinOp.neq 3 v34 (Value.int IntKind.i64 0)) h fun v35 h =>
   cnd v35 (
    mvK v6 h fun v36 h =>
    mvK v9 h fun v37 h =>
    vK (aBin Try.prog BinOp.eql 3 v36 v37) h fun v38 h =>
    mvK v38 h fun v39 h =>
    gdK v39 true (fun k0 =>
     mvK v8 h fun v40 h =>
     k0 v40 h) (fun v40_1 h =>
     gdK v39 true (fun k1 =>
      mvK v9 h fun v41 h =>
      k1 v41 h) (fun v41_1 h =>
      gdK v39 true (fun k2 =>
       vK (aBin Try.prog BinOp.eql 3 v40_1 v41_1) h fun v42 h =>
       k2 v42 h) (fun v42_1 h =>
       vK (pickV v39 v42_1 (Value.bool false)) h fun v43 h =>
       mvK v43 h fun v44 h =>
       gdK v44 true (fun k3 =>
        mvK v5 h fun v45 h =>
        k3 v45 h) (fun v45_1 h =>
        gdK v44 true (fun k4 =>
         vK (aLen Try.prog 53 v45_1) h fun v46 h =>
         k4 v46 h) (fun v46_1 h =>
         gdK v44 true (fun k5 =>
          mvK v7 h fun v47 h =>
          k5 v47 h) (fun v47_1 h =>
          gdK v44 true (fun k6 =>
           vK (aLen Try.prog 36 v47_1) h fun v48 h =>
           k6 v48 h) (fun v48_1 h =>
           gdK v44 true (fun k7 =>
            vK (aBin Try.prog BinOp.add 3 v46_1 v48_1) h fun v49 h =>
            k7 v49 h) (fun v49_1 h =>
            gdK v44 true (fun k8 =>
             vK (aBin Try.prog BinOp.eql 3 v49_1 (Value.int IntKind.i64 0)) h fun v50 h =>
             k8 v50 h) (fun v50_1 h =>
             vK (pickV v44 v50_1 (Value.bool false)) h fun v51 h =>
             mvK v51 h fun v4_2 h =>
             retV [some v4_2] R h) h) h) h) h) h) h) h) h) h) (
    vK (aLoad Try.prog 24 v2 h) h fun v53 h =>
    mvK a1 h fun v54 h =>
    cK Try.prog 33 [v53, v54] h fun v55 h =>
    mvK v55 h fun v52 h =>
    vK (aExtract v52 0) h fun v56 h =>
    vK (aExtract v52 1) h fun v57 h =>
    vK (aExtract v52 2) h fun v58 h =>
    mvK v56 h fun v10 h =>
    mvK v57 h fun v11 h =>
    mvK v58 h fun v12 h =>
    mvK v11 h fun v59 h =>
    cnd v59 (
     mvK v6 h fun v60 h =>
     vK (aBin Try.prog BinOp.eql 28 v60 (Value.int IntKind.i64 0)) h fun v61 h =>
     mvK v61 h fun v62 h =>
     gdK v62 true (fun k9 =>
      mvK v5 h fun v63 h =>
      k9 v63 h) (fun v63_1 h =>
      gdK v62 true (fun k10 =>
       mvK v10 h fun v64 h =>
       k10 v64 h) (fun v64_1 h =>
       gdK v62 true (fun k11 =>
        cK Try.prog 29 [v63_1, v64_1] h fun v65 h =>
        k11 v65 h) (fun v65_1 h =>
        vK (pickV v62 v65_1 (Value.bool false)) h fun v66 h =>
        mvK v66 h fun v67 h =>
        gdK v67 true (fun k12 =>
         mvK v8 h fun v68 h =>
         k12 v68 h) (fun v68_1 h =>
         gdK v67 true (fun k13 =>
          vK (aBin Try.prog BinOp.eql 28 v68_1 (Value.int IntKind.i64 23)) h fun v69 h =>
          k13 v69 h) (fun v69_1 h =>
          vK (pickV v67 v69_1 (Value.bool false)) h fun v70 h =>
          mvK v70 h fun v71 h =>
          gdK v71 true (fun k14 =>
           mvK v7 h fun v72 h =>
           k14 v72 h) (fun v72_1 h =>
           gdK v71 true (fun k15 =>
            vK (aLen Try.prog 36 v72_1) h fun v73 h =>
            k15 v73 h) (fun v73_1 h =>
            gdK v71 true (fun k16 =>
             vK (aBin Try.prog BinOp.eql 3 v73_1 (Value.int IntKind.i64 0)) h fun v74 h =>
             k16 v74 h) (fun v74_1 h =>
             vK (pickV v71 v74_1 (Value.bool false)) h fun v75 h =>
             mvK v75 h fun v4_3 h =>
             retV [some v4_3] R h) h) h) h) h) h) h) h) h) (
     mvK v6 h fun v76 h =>
     vK (aBin Try.prog BinOp.eql 28 v76 (Value.int IntKind.i64 23)) h fun v77 h =>
     mvK v77 h fun v78 h =>
     gdK v78 true (fun k17 =>
      mvK v5 h fun v79 h =>
      k17 v79 h) (fun v79_1 h =>
      gdK v78 true (fun k18 =>
       vK (aLen Try.prog 53 v79_1) h fun v80 h =>
       k18 v80 h) (fun v80_1 h =>
       gdK v78 true (fun k19 =>
        vK (aBin Try.prog BinOp.eql 3 v80_1 (Value.int IntKind.i64 0)) h fun v81 h =>
        k19 v81 h) (fun v81_1 h =>
        vK (pickV v78 v81_1 (Value.bool false)) h fun v82 h =>
        mvK v82 h fun v83 h =>
        gdK v83 true (fun k20 =>
         mvK v8 h fun v84 h =>
         k20 v84 h) (fun v84_1 h =>
         gdK v83 true (fun k21 =>
          vK (aBin Try.prog BinOp.eql 28 v84_1 (Value.int IntKind.i64 0)) h fun v85 h =>
          k21 v85 h) (fun v85_1 h =>
          vK (pickV v83 v85_1 (Value.bool false)) h fun v86 h =>
          mvK v86 h fun v87 h =>
          gdK v87 true (fun k22 =>
           mvK v7 h fun v88 h =>
           k22 v88 h) (fun v88_1 h =>
           gdK v87 true (fun k23 =>
            mvK v12 h fun v89 h =>
            k23 v89 h) (fun v89_1 h =>
            gdK v87 true (fun k24 =>
             cK Try.prog 35 [v89_1] h fun v90 h =>
             k24 v90 h) (fun v90_1 h =>
             gdK v87 true (fun k25 =>
              cK Try.prog 34 [v88_1, v90_1] h fun v91 h =>
              k25 v91 h) (fun v91_1 h =>
              vK (pickV v87 v91_1 (Value.bool false)) h fun v92 h =>
              mvK v92 h fun v4_4 h =>
              retV [some v4_4] R h) h) h) h) h) h) h) h) h) h)))
def lv7 (q : Nat) : List Nat := []
theorem ok7 : lkOK Try.prog lv7 Try.f7 2 (Try.f7.body.getD .skip) 7 = true := by kernel_rfl
theorem e7 (a0 a1 : Value) (h : Heap) (R : Value → Heap → Prop) : n7 a0 a1 h R = wpK Try.prog lv7 (Try.f7.body.getD .skip) (endK Try.prog [.tmp 4] R) (argT [a0, a1]) h := by kernel_rfl
theorem w7 {a0 a1 : Value} {h : Heap} {R : Value → Heap → Prop} (hn : n7 a0 a1 h R) : DetP Try.prog 7 [a0, a1] h R :=
  DetP.of_code (rs := [.tmp 4]) (n := 2) Try.func7 (by kernel_rfl) (by kernel_rfl) lv7 ok7 rfl ((e7 a0 a1 h R) ▸ hn)

/-! ### examiner/examinerlaw41.MutantOne: function 8 -/
/-! ### examiner/examinerlaw41.MutantStands: function 9 -/
/-! ### examiner/examinerlaw41.MutantOrdered: function 10 -/
/-! ### examiner/mutant.RelationOf: function 32 -/
def n32 (a0 a1 : Value) (h : Heap) (R : Value → Heap → Prop) : Prop :=
  okK (some (aBox Try.prog 24 a0 h)) fun v2 h =>
  mvK (Value.slice none 0 0) h fun v4 h =>
  mvK (Value.int IntKind.i64 0) h fun v5 h =>
  vK (aLoad Try.prog 24 v2 h) h fun v14 h =>
  mvK a1 h fun v15 h =>
  okK (aBuildSlice Try.prog 51 1 [(0, v15)] h) fun v16 h =>
  cK Try.prog 47 [v14, v16] h fun v17 h =>
  mvK v17 h fun v6 h =>
  mvK v6 h fun v18 h =>
  vK (aBin Try.prog BinOp.neq 28 v18 (Value.int IntKind.i64 0)) h fun v19 h =>
  cnd v19 (
   mvK v6 h fun v20 h =>
   mvK (Value.slice none 0 0) h fun v4_1 h =>
   mvK v20 h fun v5_1 h =>
   retV [some v4_1, some v5_1] R h) (
   vK (aLoad Try.prog 24 v2 h) h fun v21 h =>
   mvK a1 h fun v22 h =>
   cK Try.prog 50 [v21, v22] h fun v23 h =>
   okK (aAlloc Try.prog 24 h) fun v7 h =>
   okK ((aStore Try.prog 24 v7 v23 h).map (undef, ·)) fun _ h =>
   vK (aFieldAddr Try.prog 24 v2 3) h fun v24 h =>
   vK (aLoad Try.prog 3 v24 h) h fun v25 h =>
   vK (aFieldAddr Try.prog 24 v7 3) h fun v26 h =>
   vK (aLoad Try.prog 3 v26 h) h fun v27 h =>
   vK (aBuild Try.prog 77 [(0, v25), (1, v27)]) h fun v28 h =>
   okK (aBuildSlice Try.prog 36 1 [(0, v28)] h) fun v29 h =>
   mvK v29 h fun v8 h =>
   mvK (Value.int IntKind.i64 0) h fun v9 h =>
   ∃ (I7 : List Value → Heap → Prop) (μ7 : List Value → Heap → Nat), I7 [v8, v9] h ∧
   ∀ (h7 : Heap) (j7 : Tmps) (v8_1 : Value) (v9_1 : Value), I7 [v8_1, v9_1] h7 → (let h := h7
    mvK v9_1 h fun v30 h =>
    mvK v8_1 h fun v31 h =>
    vK (aLen Try.prog 36 v31) h fun v32 h =>
    vK (aBin Try.prog BinOp.lss 3 v30 v32) h fun v33 h =>
    cnd v33 (
     vK (aFieldAddr Try.prog 24 v2 1) h fun v36 h =>
     vK (aLoad Try.prog 3 v36 h) h fun v37 h =>
     mvK (Value.int IntKind.i64 0) h fun v38 h =>
     ∃ (I10 : List Value → Heap → Prop) (μ10 : List Value → Heap → Nat), I10 [v8_1, v38] h ∧
     ∀ (h10 : Heap) (j10 : Tmps) (v8_2 : Value) (v38_1 : Value), I10 [v8_2, v38_1] h10 → (let h := h10
      vK (aBin Try.prog BinOp.lss 3 v38_1 v37) h fun v39 h =>
      cnd v39 (
       seqK (fun k0 =>
        mvK v38_1 h fun v40 h =>
        mvK v40 h fun v10 h =>
        vK (aLoad Try.prog 24 v2 h) h fun v41 g =>
        VB h.length v41 ∧ (let h := g
         mvK v8_2 h fun v42 h =>
         mvK v9_1 h fun v43 h =>
         vK (aIndexAddr Try.prog 36 v42 v43) h fun v44 h =>
         vK (aIndexAddr Try.prog 77 v44 (Value.int IntKind.i64 0)) h fun v45 h =>
         vK (aLoad Try.prog 3 v45 h) h fun v46 g =>
         VB h.length v46 ∧ (let h := g
          mvK v10 h fun v47 h =>
          cKD Try.prog 52 [v41, v46, v47] h fun v48 g =>
          (∃ new, g = h ++ new) ∧ (let h := g
           vK (aLoad Try.prog 24 v7 h) h fun v49 g =>
           VB h.length v49 ∧ (let h := g
            mvK v8_2 h fun v50 h =>
            mvK v9_1 h fun v51 h =>
            vK (aIndexAddr Try.prog 36 v50 v51) h fun v52 h =>
            vK (aIndexAddr Try.prog 77 v52 (Value.int IntKind.i64 1)) h fun v53 h =>
            vK (aLoad Try.prog 3 v53 h) h fun v54 g =>
            VB h.length v54 ∧ (let h := g
             mvK v10 h fun v55 h =>
             cKD Try.prog 52 [v49, v54, v55] h fun v56 g =>
             (∃ new, g = h ++ new) ∧ (let h := g
              okK (aAlloc Try.prog 82 h) fun v11 h =>
              okK (aAlloc Try.prog 82 h) fun v12 h =>
              okK ((aStore Try.prog 82 v11 v48 h).map (undef, ·)) fun _ h =>
              (True) ∧ (
               okK ((aStore Try.prog 82 v12 v56 h).map (undef, ·)) fun _ h =>
               (True) ∧ (
                vK (aFieldAddr Try.prog 82 v11 2) h fun v57 h =>
                vK (aLoad Try.prog 3 v57 h) h fun v58 h =>
                vK (aFieldAddr Try.prog 82 v12 2) h fun v59 h =>
                vK (aLoad Try.prog 3 v59 h) h fun v60 h =>
                vK (aBin Try.prog BinOp.neq 3 v58 v60) h fun v61 h =>
                cnd v61 (
                 mvK (Value.slice none 0 0) h fun v4_2 h =>
                 mvK (Value.int IntKind.i64 23) h fun v5_2 h =>
                 retV [some v4_2, some v5_2] R h) (
                 vK (aFieldAddr Try.prog 82 v11 3) h fun v62 h =>
                 vK (aLoad Try.prog 3 v62 h) h fun v63 h =>
                 vK (aFieldAddr Try.prog 82 v12 3) h fun v64 h =>
                 vK (aLoad Try.prog 3 v64 h) h fun v65 h =>
                 vK (aBuild Try.prog 77 [(0, v63), (1, v65)]) h fun v66 h =>
                 okK (aAlloc Try.prog 77 h) fun v13 h =>
                 okK ((aStore Try.prog 77 v13 v66 h).map (undef, ·)) fun _ h =>
                 mvK v8_2 h fun v67 h =>
                 vK (aLoad Try.prog 77 v13 h) h fun v68 h =>
                 cK Try.prog 51 [v67, v68] h fun v69 h =>
                 vK (aUn UnOp.not v69) h fun v70 h =>
                 cnd v70 (
                  mvK v8_2 h fun v71 h =>
                  vK (aLoad Try.prog 77 v13 h) h fun v72 h =>
                  okK (aBuildSlice Try.prog 36 1 [(0, v72)] h) fun v73 h =>
                  okK (aAppend Try.prog 36 36 v71 v73 h) fun v74 h =>
                  mvK v74 h fun v8_3 h =>
                  k0 [v8_3] h) (
                  k0 [v8_2] h))))))))))) fun x0 h => ∀ jx0 : Tmps,
        let v8_4 : Value := nth x0 0
        vK (aBin Try.prog BinOp.add 3 v38_1 (Value.int IntKind.i64 1)) h fun v75 h =>
        mvK v75 h fun v38_2 h =>
        I10 [v8_4, v38_2] h ∧ μ10 [v8_4, v38_2] h < μ10 [v8_2, v38_1] h10) (
       mvK v9_1 h fun v34 h =>
       vK (aBin Try.prog BinOp.add 3 v34 (Value.int IntKind.i64 1)) h fun v35 h =>
       mvK v35 h fun v9_2 h =>
       I7 [v8_2, v9_2] h ∧ μ7 [v8_2, v9_2] h < μ7 [v8_1, v9_1] h7))) (
     mvK v8_1 h fun v76 h =>
     cK Try.prog 66 [v76, (Value.func (Fn.func 49) #[] #[])] h fun v77 h =>
     mvK v8_1 h fun v78 h =>
     mvK v78 h fun v4_3 h =>
     mvK (Value.int IntKind.i64 0) h fun v5_3 h =>
     retV [some v4_3, some v5_3] R h)))
def lv32 (q : Nat) : List Nat := bif Nat.beq q 14 then [75557863725913249693488, 8, 9] else bif Nat.beq q 20 then [75557863725639445527856, 8, 38] else bif Nat.beq q 37 then [37778931861857650097456, 8] else []
theorem ok32 : lkOK Try.prog lv32 Try.f32 2 (Try.f32.body.getD .skip) 32 = true := by kernel_rfl
theorem e32 (a0 a1 : Value) (h : Heap) (R : Value → Heap → Prop) : n32 a0 a1 h R = wpK Try.prog lv32 (Try.f32.body.getD .skip) (endK Try.prog [.tmp 4, .tmp 5] R) (argT [a0, a1]) h := by kernel_rfl
theorem w32 {a0 a1 : Value} {h : Heap} {R : Value → Heap → Prop} (hn : n32 a0 a1 h R) : DetP Try.prog 32 [a0, a1] h R :=
  DetP.of_code (rs := [.tmp 4, .tmp 5]) (n := 2) Try.func32 (by kernel_rfl) (by kernel_rfl) lv32 ok32 rfl ((e32 a0 a1 h R) ▸ hn)

/-! ### examiner/examinerref41.Relation: function 35 -/
def n35 (a0 : Value) (h : Heap) (R : Value → Heap → Prop) : Prop :=
  mvK (Value.slice none 0 0) h fun v2 h =>
  mvK (Value.slice none 0 0) h fun v3 h =>
  mvK (Value.int IntKind.i64 0) h fun v4 h =>
  ∃ (I3 : List Value → Heap → Prop) (μ3 : List Value → Heap → Nat), I3 [v3, v4] h ∧
  ∀ (h3 : Heap) (j3 : Tmps) (v3_1 : Value) (v4_1 : Value), I3 [v3_1, v4_1] h3 → (let h := h3
   mvK v4_1 h fun v6 h =>
   mvK a0 h fun v7 h =>
   vK (aLen Try.prog 63 v7) h fun v8 h =>
   vK (aBin Try.prog BinOp.lss 3 v6 v8) h fun v9 h =>
   cnd v9 (
    mvK v3_1 h fun v12 h =>
    vK (aLen Try.prog 36 v12) h fun v13 h =>
    mvK v13 h fun v5 h =>
    ∃ (I6 : List Value → Heap → Prop) (μ6 : List Value → Heap → Nat), I6 [v5] h ∧
    ∀ (h6 : Heap) (j6 : Tmps) (v5_1 : Value), I6 [v5_1] h6 → (let h := h6
     mvK v5_1 h fun v14 h =>
     vK (aBin Try.prog BinOp.gtr 3 v14 (Value.int IntKind.i64 0)) h fun v15 h =>
     mvK v15 h fun v16 h =>
     gdK v16 true (fun k0 =>
      mvK v3_1 h fun v17 h =>
      k0 v17 h) (fun v17_1 h =>
      gdK v16 true (fun k1 =>
       mvK v5_1 h fun v18 h =>
       k1 v18 h) (fun v18_1 h =>
       gdK v16 true (fun k2 =>
        vK (aBin Try.prog BinOp.sub 3 v18_1 (Value.int IntKind.i64 1)) h fun v19 h =>
        k2 v19 h) (fun v19_1 h =>
        gdK v16 true (fun k3 =>
         vK (aIndexAddr Try.prog 36 v17_1 v19_1) h fun v20 h =>
         k3 v20 h) (fun v20_1 h =>
         gdK v16 true (fun k4 =>
          vK (aIndexAddr Try.prog 77 v20_1 (Value.int IntKind.i64 0)) h fun v21 h =>
          k4 v21 h) (fun v21_1 h =>
          gdK v16 true (fun k5 =>
           vK (aLoad Try.prog 3 v21_1 h) h fun v22 g =>
           VB h.length v22 ∧ (let h := g
            k5 v22 h)) (fun v22_1 h =>
           gdK v16 true (fun k6 =>
            mvK a0 h fun v23 h =>
            k6 v23 h) (fun v23_1 h =>
            gdK v16 true (fun k7 =>
             mvK v4_1 h fun v24 h =>
             k7 v24 h) (fun v24_1 h =>
             gdK v16 true (fun k8 =>
              vK (aIndexAddr Try.prog 63 v23_1 v24_1) h fun v25 h =>
              k8 v25 h) (fun v25_1 h =>
              gdK v16 true (fun k9 =>
               vK (aFieldAddr Try.prog 104 v25_1 0) h fun v26 h =>
               k9 v26 h) (fun v26_1 h =>
               gdK v16 true (fun k10 =>
                vK (aLoad Try.prog 3 v26_1 h) h fun v27 g =>
                VB h.length v27 ∧ (let h := g
                 k10 v27 h)) (fun v27_1 h =>
                gdK v16 true (fun k11 =>
                 vK (aBin Try.prog BinOp.gtr 3 v22_1 v27_1) h fun v28 h =>
                 k11 v28 h) (fun v28_1 h =>
                 gdK v16 true (fun k12 =>
                  mvK v28_1 h fun v29 h =>
                  k12 v29 h) (fun v29_1 h =>
                  gdK v29_1 false (fun k13 =>
                   mvK v3_1 h fun v30 h =>
                   k13 v30 h) (fun v30_1 h =>
                   gdK v29_1 false (fun k14 =>
                    mvK v5_1 h fun v31 h =>
                    k14 v31 h) (fun v31_1 h =>
                    gdK v29_1 false (fun k15 =>
                     vK (aBin Try.prog BinOp.sub 3 v31_1 (Value.int IntKind.i64 1)) h fun v32 h =>
                     k15 v32 h) (fun v32_1 h =>
                     gdK v29_1 false (fun k16 =>
                      vK (aIndexAddr Try.prog 36 v30_1 v32_1) h fun v33 h =>
                      k16 v33 h) (fun v33_1 h =>
                      gdK v29_1 false (fun k17 =>
                       vK (aIndexAddr Try.prog 77 v33_1 (Value.int IntKind.i64 0)) h fun v34 h =>
                       k17 v34 h) (fun v34_1 h =>
                       gdK v29_1 false (fun k18 =>
                        vK (aLoad Try.prog 3 v34_1 h) h fun v35 g =>
                        VB h.length v35 ∧ (let h := g
                         k18 v35 h)) (fun v35_1 h =>
                        gdK v29_1 false (fun k19 =>
                         mvK a0 h fun v36 h =>
                         k19 v36 h) (fun v36_1 h =>
                         gdK v29_1 false (fun k20 =>
                          mvK v4_1 h fun v37 h =>
                          k20 v37 h) (fun v37_1 h =>
                          gdK v29_1 false (fun k21 =>
                           vK (aIndexAddr Try.prog 63 v36_1 v37_1) h fun v38 h =>
                           k21 v38 h) (fun v38_1 h =>
                           gdK v29_1 false (fun k22 =>
                            vK (aFieldAddr Try.prog 104 v38_1 0) h fun v39 h =>
                            k22 v39 h) (fun v39_1 h =>
                            gdK v29_1 false (fun k23 =>
                             vK (aLoad Try.prog 3 v39_1 h) h fun v40 g =>
                             VB h.length v40 ∧ (let h := g
                              k23 v40 h)) (fun v40_1 h =>
                             gdK v29_1 false (fun k24 =>
                              vK (aBin Try.prog BinOp.eql 3 v35_1 v40_1) h fun v41 h =>
                              k24 v41 h) (fun v41_1 h =>
                              gdK v29_1 false (fun k25 =>
                               mvK v41_1 h fun v42 h =>
                               k25 v42 h) (fun v42_1 h =>
                               gdK v42_1 true (fun k26 =>
                                mvK v3_1 h fun v43 h =>
                                k26 v43 h) (fun v43_1 h =>
                                gdK v42_1 true (fun k27 =>
                                 mvK v5_1 h fun v44 h =>
                                 k27 v44 h) (fun v44_1 h =>
                                 gdK v42_1 true (fun k28 =>
                                  vK (aBin Try.prog BinOp.sub 3 v44_1 (Value.int IntKind.i64 1)) h fun v45 h =>
                                  k28 v45 h) (fun v45_1 h =>
                                  gdK v42_1 true (fun k29 =>
                                   vK (aIndexAddr Try.prog 36 v43_1 v45_1) h fun v46 h =>
                                   k29 v46 h) (fun v46_1 h =>
                                   gdK v42_1 true (fun k30 =>
                                    vK (aIndexAddr Try.prog 77 v46_1 (Value.int IntKind.i64 1)) h fun v47 h =>
                                    k30 v47 h) (fun v47_1 h =>
                                    gdK v42_1 true (fun k31 =>
                                     vK (aLoad Try.prog 3 v47_1 h) h fun v48 g =>
                                     VB h.length v48 ∧ (let h := g
                                      k31 v48 h)) (fun v48_1 h =>
                                     gdK v42_1 true (fun k32 =>
                                      mvK a0 h fun v49 h =>
                                      k32 v49 h) (fun v49_1 h =>
                                      gdK v42_1 true (fun k33 =>
                                       mvK v4_1 h fun v50 h =>
                                       k33 v50 h) (fun v50_1 h =>
                                       gdK v42_1 true (fun k34 =>
                                        vK (aIndexAddr Try.prog 63 v49_1 v50_1) h fun v51 h =>
                                        k34 v51 h) (fun v51_1 h =>
                                        gdK v42_1 true (fun k35 =>
                                         vK (aFieldAddr Try.prog 104 v51_1 1) h fun v52 h =>
                                         k35 v52 h) (fun v52_1 h =>
                                         gdK v42_1 true (fun k36 =>
                                          vK (aLoad Try.prog 3 v52_1 h) h fun v53 g =>
                                          VB h.length v53 ∧ (let h := g
                                           k36 v53 h)) (fun v53_1 h =>
                                          gdK v42_1 true (fun k37 =>
                                           vK (aBin Try.prog BinOp.gtr 3 v48_1 v53_1) h fun v54 h =>
                                           k37 v54 h) (fun v54_1 h =>
                                           gdK v29_1 false (fun k38 =>
                                            vK (pickV v42_1 v54_1 (Value.bool false)) h fun v55 h =>
                                            k38 v55 h) (fun v55_1 h =>
                                            gdK v16 true (fun k39 =>
                                             vK (pickV v29_1 (Value.bool true) v55_1) h fun v56 h =>
                                             k39 v56 h) (fun v56_1 h =>
                                             vK (pickV v16 v56_1 (Value.bool false)) h fun v57 h =>
                                             cnd v57 (
                                              mvK v5_1 h fun v58 h =>
                                              vK (aBin Try.prog BinOp.sub 3 v58 (Value.int IntKind.i64 1)) h fun v59 h =>
                                              mvK v59 h fun v5_2 h =>
                                              I6 [v5_2] h ∧ μ6 [v5_2] h < μ6 [v5_1] h6) (
                                              mvK v3_1 h fun v60 h =>
                                              vK (aBuild Try.prog 77 []) h fun v61 h =>
                                              okK (aBuildSlice Try.prog 36 1 [(0, v61)] h) fun v62 h =>
                                              okK (aAppend Try.prog 36 36 v60 v62 h) fun v63 h =>
                                              mvK v63 h fun v3_2 h =>
                                              mvK v3_2 h fun v64 h =>
                                              mvK v5_1 h fun v65 h =>
                                              vK (aBin Try.prog BinOp.add 3 v65 (Value.int IntKind.i64 1)) h fun v66 h =>
                                              vK (aSlice Try.prog 36 v64 (some v66) none none h) h fun v67 g =>
                                              VB h.length v67 ∧ (let h := g
                                               mvK v3_2 h fun v68 h =>
                                               mvK v5_1 h fun v69 h =>
                                               vK (aSlice Try.prog 36 v68 (some v69) none none h) h fun v70 g =>
                                               VB h.length v70 ∧ (let h := g
                                                okK (aCopy Try.prog 36 36 v67 v70 h) fun v71 h =>
                                                (True) ∧ (
                                                 mvK v3_2 h fun v72 h =>
                                                 mvK v5_1 h fun v73 h =>
                                                 mvK a0 h fun v74 h =>
                                                 mvK v4_1 h fun v75 h =>
                                                 vK (aIndexAddr Try.prog 63 v74 v75) h fun v76 h =>
                                                 vK (aFieldAddr Try.prog 104 v76 0) h fun v77 h =>
                                                 vK (aLoad Try.prog 3 v77 h) h fun v78 g =>
                                                 VB h.length v78 ∧ (let h := g
                                                  mvK a0 h fun v79 h =>
                                                  mvK v4_1 h fun v80 h =>
                                                  vK (aIndexAddr Try.prog 63 v79 v80) h fun v81 h =>
                                                  vK (aFieldAddr Try.prog 104 v81 1) h fun v82 h =>
                                                  vK (aLoad Try.prog 3 v82 h) h fun v83 g =>
                                                  VB h.length v83 ∧ (let h := g
                                                   vK (aBuild Try.prog 77 [(0, v78), (1, v83)]) h fun v84 h =>
                                                   vK (aIndexAddr Try.prog 36 v72 v73) h fun v85 h =>
                                                   okK ((aStore Try.prog 77 v85 v84 h).map (undef, ·)) fun _ h =>
                                                   (True) ∧ (
                                                    mvK v4_1 h fun v10 h =>
                                                    vK (aBin Try.prog BinOp.add 3 v10 (Value.int IntKind.i64 1)) h fun v11 h =>
                                                    mvK v11 h fun v4_2 h =>
                                                    I3 [v3_2, v4_2] h ∧ μ3 [v3_2, v4_2] h < μ3 [v3_1, v4_1] h3)))))))) h) h) h) h) h) h) h) h) h) h) h) h) h) h) h) h) h) h) h) h) h) h) h) h) h) h) h) h) h) h) h) h) h) h) h) h) h) h) h) h)) (
    mvK v3_1 h fun v86 h =>
    mvK v86 h fun v2_1 h =>
    retV [some v2_1] R h))
def lv35 (q : Nat) : List Nat := bif Nat.beq q 6 then [77371252455336267181195256, 3, 4] else bif Nat.beq q 12 then [1152921504606830624, 5] else []
theorem ok35 : lkOK Try.prog lv35 Try.f35 1 (Try.f35.body.getD .skip) 35 = true := by kernel_rfl
theorem e35 (a0 : Value) (h : Heap) (R : Value → Heap → Prop) : n35 a0 h R = wpK Try.prog lv35 (Try.f35.body.getD .skip) (endK Try.prog [.tmp 2] R) (argT [a0]) h := by kernel_rfl
theorem w35 {a0 : Value} {h : Heap} {R : Value → Heap → Prop} (hn : n35 a0 h R) : DetP Try.prog 35 [a0] h R :=
  DetP.of_code (rs := [.tmp 2]) (n := 1) Try.func35 (by kernel_rfl) (by kernel_rfl) lv35 ok35 rfl ((e35 a0 h R) ▸ hn)

/-! ### examiner/examinerref37.WordErr: function 36 -/
/-! ### examiner/examinerref41.Kills: function 37 -/
/-! ### examiner/examinerref41.Stands: function 39 -/
/-! ### examiner/mutant.MutationsOf$1: function 44 -/
/-! ### slices.SortFunc[[][2]int,[2]int]: function 66 -/
/-! ### examiner/examinerref40.Catches: function 68 -/
/-! ### examiner/examinerref41.met: function 71 -/
/-! ### examiner/examinerref37.Answer: function 95 -/
/-! ### examiner/examinerref37.Taken: function 122 -/
end Go.Proofs.Ytomiejfeclefaaa

set_option linter.unusedSimpArgs false
set_option linter.unusedVariables false
set_option linter.unnecessarySimpa false
set_option maxRecDepth 100000
set_option maxHeartbeats 4000000
namespace Go.Proofs.Ytomiejfeclefaaa
open Go.AM
variable {h g : Heap}
/-! ### reading a table -/
def rowOf (x : Mach) (z : Int) : List (Bx Stp) := (List.range x.inputs.toNat).map fun (i : Nat) => ⟨stO x z (i : Int)⟩
theorem nat_code {z n w : Int} (h0 : 0 ≤ z) (hn : 0 ≤ n) (hw : 0 ≤ w) : (z * n + w).toNat = z.toNat * n.toNat + w.toNat := by
  have e1 : (z.toNat : Int) = z := Int.toNat_of_nonneg h0
  have e2 : (n.toNat : Int) = n := Int.toNat_of_nonneg hn
  have e3 : (w.toNat : Int) = w := Int.toNat_of_nonneg hw
  have : ((z.toNat * n.toNat + w.toNat : Nat) : Int) = z * n + w := by push_cast; rw [e1, e2, e3]
  omega
theorem tab_at {x : Mach} {z : Int} (h0 : 0 ≤ z) (hz : z.toNat < (tab x).length) (hn : 0 ≤ x.inputs) (hl : z ≤ x.states - 1) : (tab x)[z.toNat] = rowOf x z := by
  have h1 : (tab x)[z.toNat]? = some (rowOf x z) := by
    unfold tab
    rw [List.getElem?_map, List.getElem?_range (by omega)]
    simp only [Option.map_some, Option.some.injEq]
    unfold rowOf
    refine List.map_congr_left fun i hi => ?_
    unfold stO
    rw [nat_code h0 hn (by omega)]; simp
  rw [List.getElem?_eq_getElem hz] at h1
  exact Option.some.inj h1
theorem idx_tab {K : Value → Heap → Prop} {h1 : Heap} {v : Value} {x : Mach} {t e sz by_ : Nat} {z : Int} [T : SlT Try.prog t e sz by_] (s : L h1 v (tab x)) (hz : sz = 1) (h0 : 0 ≤ z) (hk : z ≤ x.states - 1) (hn : 0 ≤ x.inputs)
    (hK : ∀ p v, Pt h1 p [v] 0 → L h1 v (rowOf x z) → K p h) : vK (aIndexAddr Try.prog t v (.int .i64 z)) h K := by
  have hl : z.toNat < (tab x).length := by unfold tab; rw [List.length_map, List.length_range]; omega
  refine idx_lz s hz h0 hl fun p v hp hl2 => ?_
  rw [tab_at h0 hl hn hk] at hl2
  exact hK p v hp hl2
theorem idx_row {K : Value → Heap → Prop} {h1 : Heap} {v : Value} {x : Mach} {t e sz by_ : Nat} {z w : Int} [T : SlT Try.prog t e sz by_] (s : L h1 v (rowOf x z)) (hz : sz = 1) (h0 : 0 ≤ w) (hk : w ≤ x.inputs - 1)
    (hK : ∀ p v, Pt h1 p [v] 0 → Pt h1 v (Flat.cells (stO x z w)) 0 → K p h) : vK (aIndexAddr Try.prog t v (.int .i64 w)) h K := by
  have hl : w.toNat < (rowOf x z).length := by unfold rowOf; rw [List.length_map, List.length_range]; omega
  refine idx_b s hz h0 hl fun p v hp hl2 => ?_
  have : ((rowOf x z)[w.toNat]).get = stO x z w := by
    have h1 : (rowOf x z)[w.toNat]? = some ⟨stO x z w⟩ := by
      unfold rowOf
      rw [List.getElem?_map, List.getElem?_range (by omega)]
      simp only [Option.map_some, Option.some.injEq]
      rw [Int.toNat_of_nonneg h0]
    rw [List.getElem?_eq_getElem hl] at h1
    rw [Option.some.inj h1]
  rw [this] at hl2
  exact hK p v hp hl2
theorem ptr135 : ptrB Try.prog 135 = true := by kernel_rfl
/-! ### more of the search -/
theorem gt_pre {α : Type} [Df α] {p q : List α} (hp : p <+: q) {k : Nat} (hk : k < p.length) : gt q k = gt p k := by
  obtain ⟨t, rfl⟩ := hp
  unfold gt
  simp [List.getD, List.getElem?_append_left hk]
theorem bst_wl {x y : Mach} {i n m : Nat} {s : BS} (hs : ∀ w ∈ s.ws, w.length ≤ m) (hi : (s.ws.getD i []).length + 1 ≤ m) : ∀ w ∈ (bst x y i n s).ws, w.length ≤ m := by
  unfold bst
  split
  · exact hs
  · split
    · exact hs
    · split
      · exact hs
      · intro w hw
        rcases List.mem_append.mp hw with hw | hw
        · exact hs w hw
        · rw [List.mem_singleton] at hw; subst hw
          simpa [wrd] using hi
theorem brow_wl {x y : Mach} {i m : Nat} {s : BS} (hs : ∀ w ∈ s.ws, w.length ≤ m) (hi : i < s.ws.length) : ∀ n, ∀ w ∈ (brow x y i s n).ws, w.length ≤ m + 1
  | 0 => fun w hw => by have := hs w hw; omega
  | n + 1 => by
    refine bst_wl (brow_wl hs hi n) ?_
    obtain ⟨t, ht⟩ := (brow_grow (x := x) (y := y) (i := i) (s := s) n).2
    rw [← ht]
    have : (s.ws ++ t).getD i [] = s.ws.getD i [] := by simp [List.getD, List.getElem?_append_left hi]
    rw [this]
    have := hs _ (gd_mem [] hi)
    omega
theorem bfs_wl {x y : Mach} {p0 : Pr} (P : Par x y) (h0 : inP x p0) : ∀ k, ∀ w ∈ (bfs x y p0 k).ws, w.length ≤ k
  | 0 => by intro w hw; simp [bfs] at hw; subst hw; simp
  | k + 1 => by
    unfold bfs
    split
    · rename_i h
      exact brow_wl (bfs_wl P h0 k) (by rw [(BI.all P h0 k).len]; exact h) _
    · intro w hw; have := bfs_wl P h0 k w hw; omega
/-- What Difference gives. -/
def difE (x y : Mach) (p0 : Pr) : Int := if (srch x y p0).fnd = none then 23 else 0
def difW (x y : Mach) (p0 : Pr) : List Int := (srch x y p0).fnd.getD []
theorem c64 {v w : Value} {x y : Mach} (s : MacV g v x) (t : MacV g w y) (P : Par x y) (h0 : inP x ⟨x.start, y.start⟩) :
    DetP Try.prog 64 [v, w] g fun v' h' => g <+: h' ∧ ∃ b n q, v' = .tuple #[.slice b n q, .int .i64 (difE x y ⟨x.start, y.start⟩)] ∧ L h' (.slice b n q) (difW x y ⟨x.start, y.start⟩) := by
  refine DetP.freeze ?_
  obtain ⟨tv, rfl, s⟩ := s
  obtain ⟨uv, rfl, t⟩ := t
  obtain ⟨b0, q0, rfl, _⟩ := s.shape
  obtain ⟨b1, q1, rfl, _⟩ := t.shape
  obtain ⟨⟨a1, a2⟩, ⟨a3, a4⟩, _⟩ := (chk_ok P.cx).1
  have hip : x.inputs = y.inputs := P.ip.symm
  have hst : y.states = x.states := P.st
  have m := Mem.start g
  refine w64 ?_
  unfold n64
  refine box_a m fun ix h1 zx p1 m => ?_
  refine box_a m fun iy h2 zy p2 m => ?_
  ((with_reducible (refine mv_i ?_; refine mv_i ?_));
      (refine ldo_w (by assumption) (by infer_instance) (by with_unfolding_all rfl) ?_);
      (refine vb_mac (by assumption) ?_))
  have C := fun {h : Heap} {v : Value} (s : MacV h v x) => c90 (g := h) s
  have D := fun {h : Heap} {v : Value} (s : MacV h v y) => c90 (g := h) s
  rw [P.cx] at C
  rw [P.cy] at D
  refine calld_r (C ⟨_, rfl, s.up⟩) ?_
  ((with_reducible (refine new_n ?_));
      (refine ldo_w (by assumption) (by infer_instance) (by with_unfolding_all rfl) ?_);
      (refine vb_mac (by assumption) ?_))
  refine calld_r (D ⟨_, rfl, t.up⟩) ?_
  ((with_reducible (refine new_n ?_; refine fao ?_));
      (refine ldo (by assumption) (q := by infer_instance) (by with_unfolding_all rfl) ?_);
      (refine vb_n (by with_unfolding_all rfl) ?_);
      (with_reducible (refine fao ?_));
      (refine ldo (by assumption) (q := by infer_instance) (by with_unfolding_all rfl) ?_);
      (refine vb_n (by with_unfolding_all rfl) ?_);
      (with_reducible (refine eql_h (by first | assumption | decide) ?_));
      (refine calld_r (c91 _ _) ?_);
      (with_reducible (refine new_n ?_));
      (refine bs_g (bs141_3 _ _ _ _) (by assumption) fun i h p m => ?_);
      (refine calld_r (c76 (own_ints (xs := [_, _, _]) (by assumption) (q := by infer_instance) rfl rfl (by decide))) ?_);
      (with_reducible (refine new_n ?_; refine mv_i ?_; refine mv_i ?_; refine neq_h (by first | assumption | decide) ?_; refine cnd_f ?_));
      (refine ldo_w (by assumption) (by infer_instance) (by with_unfolding_all rfl) ?_);
      (refine vb_mac (by assumption) ?_))
  refine calld_d (c92 ⟨_, rfl, s.up⟩ P.cx P.lx) m fun v3 h3 p3 p3' m ⟨b3, q3, n3, e3, hn3, s3⟩ => ?_
  subst e3
  refine new_p p3 ?_
  ((refine ldo_w (by assumption) (by infer_instance) (by with_unfolding_all rfl) ?_);
      (refine vb_mac (by assumption) ?_))
  refine calld_d (c92 ⟨_, rfl, t.up⟩ P.cy P.ly) m fun v4 h4 p4 p4' m ⟨b4, q4, n4, e4, hn4, s4⟩ => ?_
  subst e4
  refine new_p p4 ?_
  ((with_reducible (refine mv_i ?_; refine mv_i ?_; refine fao ?_));
      (refine ldo (by assumption) (q := by infer_instance) (by with_unfolding_all rfl) ?_);
      (with_reducible (refine fao ?_));
      (refine ldo (by assumption) (q := by infer_instance) (by with_unfolding_all rfl) ?_);
      (refine vk_i (bd77_01 _ _) ?_);
      (refine bs_g (bs36_1 _ _) (by assumption) fun i h p m => ?_);
      (refine bs_g (bs51_1 _ _ _ _) (by assumption) fun i h p m => ?_);
      (with_reducible (refine mv_i ?_; refine mv_i ?_; refine mv_i ?_)))
  obtain ⟨hx, rfl⟩ : ∃ q, q = h := ⟨h, rfl⟩
  rename_i o1
  refine loop3 1600 (fun k a b h => (bfs x y ⟨x.start, y.start⟩ k).fnd = none ∧ ∃ o1 o2 vs W, IsSl a (some o1) (bfs x y ⟨x.start, y.start⟩ k).ps.length ∧ IsSl b (some o2) (bfs x y ⟨x.start, y.start⟩ k).ps.length ∧ LL vs W (bfs x y ⟨x.start, y.start⟩ k).ws ∧ Prec hx h ∧
    Mem g h (⟨some o1, flat (bfs x y ⟨x.start, y.start⟩ k).ps, 2⟩ :: ⟨some o2, vs, 1⟩ :: ⟨some iy, [.int .i64 y.states, .int .i64 y.inputs, .int .i64 y.outputs, .int .i64 y.start, .slice b1 y.steps.length q1], zy⟩ :: ⟨some ix, [.int .i64 x.states, .int .i64 x.inputs, .int .i64 x.outputs, .int .i64 x.start, .slice b0 x.steps.length q0], zx⟩ :: rowsW W (bfs x y ⟨x.start, y.start⟩ k).ws)) ⟨rfl, ?_⟩ ?_
  · refine ⟨_, _, [.slice none 0 0], [none], IsSl.some1, IsSl.some1, ⟨rfl, rfl, fun j hj => ?_⟩, ⟨Stab.refl _⟩, ?_⟩
    · have : j = 0 := by simp [bfs] at hj; exact hj
      subst this; exact IsSl.nil
    · have m := m.sub (.cons_cons _ (.cons_cons _ (.cons _ (List.Sublist.refl _))))
      have m2 := (m.nil 1).perm (List.perm_append_singleton (⟨none, [], 1⟩ : E) [_, _, _, _]).symm
      exact m2.perm (List.Perm.swap _ _ _)
  rintro k a b h5 _ hk ⟨hf, o1, o2, vs, W, hs1, hs2, hll, p5, m⟩
  have B0 := BI.all P h0 k
  have W0 := bfs_wl P h0 k
  have hend := @srch_end x y ⟨x.start, y.start⟩ k hk
  have hfnd := fun (n : Nat) => @srch_fnd x y ⟨x.start, y.start⟩ k n
  have hnext := @bfs_next x y ⟨x.start, y.start⟩ k
  generalize hS : bfs x y ⟨x.start, y.start⟩ k = S at *
  have lw := B0.len
  have few := B0.few a2
  ((with_reducible (refine mv_i ?_; refine mv_i ?_; refine len_o (by assumption) ?_; refine lss_i (fun hc => ?_) (fun hc => ?_); refine cnd_t ?_; refine mv_i ?_; refine mv_i ?_));
      (refine idx_o (by assumption) (by omega) ?_);
      (refine ldw_d (by assumption) (by infer_instance) (by with_unfolding_all rfl) (by omega) ?_);
      (with_reducible (refine alloc_z (by assumption) fun i h z p m => ?_));
      (refine st_w (by assumption) (by infer_instance) (by with_unfolding_all rfl) (by with_unfolding_all rfl) (by first | rfl | exact flat_ones (Flat.flat _)) (by infer_instance) fun h p m => ?_);
      (with_reducible (refine fao ?_));
      (refine ldo (by assumption) (q := by infer_instance) (by with_unfolding_all rfl) ?_);
      (with_reducible (refine mv_i ?_));
      (rotate_left);
      (with_reducible (refine cnd_f ?_; refine mv_i ?_; refine mv_i ?_; refine ret2 ?_));
      (rotate_left))
  · have hkl : k < S.ps.length := by omega
    obtain ⟨⟨r1, r2⟩, r3, r4⟩ := B0.inp _ (gd_mem Df.d hkl)
    change 0 ≤ (gt S.ps k).a at r1
    change (gt S.ps k).a ≤ x.states - 1 at r2
    change 0 ≤ (gt S.ps k).b at r3
    change (gt S.ps k).b ≤ x.states - 1 at r4
    obtain ⟨ip, rfl⟩ : ∃ q, q = i := ⟨i, rfl⟩
    obtain ⟨zp, rfl⟩ : ∃ q, q = z := ⟨z, rfl⟩
    refine loop3 x.inputs.toNat (fun n a b h => (brow x y k S n).fnd = none ∧ ∃ o1 o2 vs W, IsSl a (some o1) (brow x y k S n).ps.length ∧ IsSl b (some o2) (brow x y k S n).ps.length ∧ LL vs W (brow x y k S n).ws ∧ Prec hx h ∧ Mem g h (⟨some o1, flat (brow x y k S n).ps, 2⟩ :: ⟨some o2, vs, 1⟩ :: ⟨some ip, Flat.cells (gt S.ps k), zp⟩ :: ⟨some iy, [.int .i64 y.states, .int .i64 y.inputs, .int .i64 y.outputs, .int .i64 y.start, .slice b1 y.steps.length q1], zy⟩ :: ⟨some ix, [.int .i64 x.states, .int .i64 x.inputs, .int .i64 x.outputs, .int .i64 x.start, .slice b0 x.steps.length q0], zx⟩ :: rowsW W (brow x y k S n).ws)) ⟨hf, o1, o2, vs, W, hs1, hs2, hll, ⟨Stb.st⟩, m.perm ((List.Perm.swap _ _ _).trans (List.Perm.cons _ (List.Perm.swap _ _ _)))⟩ ?_
    rintro n a b h6 _ hn ⟨hf2, o1, o2, vs, W, hs1, hs2, hll, p6, m⟩
    have B1 := B0.row P hkl n hn
    have W1 := brow_wl (x := x) (y := y) (i := k) W0 (by omega) n
    have hgp := gt_pre (brow_grow (x := x) (y := y) (i := k) (s := S) n).1 hkl
    have hlen2 := (brow_grow (x := x) (y := y) (i := k) (s := S) n).1.length_le
    have hfnd2 := hfnd n
    generalize hQ : brow x y k S n = Q at *
    have lw2 := B1.len
    have few2 := B1.few a2
    have hwl := W1 _ (gd_mem [] (show k < Q.ws.length by omega))
    ((with_reducible (refine lss_i (fun hc => ?_) (fun hc => ?_); refine cnd_t ?_));
        (rotate_left);
        (with_reducible (refine cnd_f ?_; refine mv_i ?_; refine inc_i (by omega) ?_; refine mv_i ?_));
        (rotate_left))
    · refine seq_J (fun xs h => ∃ a b, xs = [a, b] ∧ (bst x y k n Q).fnd = none ∧ ∃ o1 o2 vs W, IsSl a (some o1) (bst x y k n Q).ps.length ∧ IsSl b (some o2) (bst x y k n Q).ps.length ∧ LL vs W (bst x y k n Q).ws ∧ Prec hx h ∧ Mem g h (⟨some o1, flat (bst x y k n Q).ps, 2⟩ :: ⟨some o2, vs, 1⟩ :: ⟨some ip, Flat.cells (gt S.ps k), zp⟩ :: ⟨some iy, [.int .i64 y.states, .int .i64 y.inputs, .int .i64 y.outputs, .int .i64 y.start, .slice b1 y.steps.length q1], zy⟩ :: ⟨some ix, [.int .i64 x.states, .int .i64 x.inputs, .int .i64 x.outputs, .int .i64 x.start, .slice b0 x.steps.length q0], zx⟩ :: rowsW W (bst x y k n Q).ws)) ?_ ?_
      · rintro _ h7 ⟨a3, b3, rfl, hf3, rest⟩
        (((with_reducible refine fun (_ : Tmps) => ?_); (try dsimp only [nth]));
            (with_reducible (refine inc_i (by omega) ?_; refine mv_i ?_)))
        refine next3 (by omega) ⟨?_, ?_⟩
        · show (bst x y k n (brow x y k S n)).fnd = none
          rw [hQ]; exact hf3
        · show ∃ o1 o2 vs W, IsSl a3 (some o1) (bst x y k n (brow x y k S n)).ps.length ∧ IsSl b3 (some o2) (bst x y k n (brow x y k S n)).ps.length ∧ LL vs W (bst x y k n (brow x y k S n)).ws ∧ Prec hx h7 ∧ Mem g h7 (⟨some o1, flat (bst x y k n (brow x y k S n)).ps, 2⟩ :: ⟨some o2, vs, 1⟩ :: ⟨some ip, Flat.cells (gt S.ps k), zp⟩ :: ⟨some iy, [.int .i64 y.states, .int .i64 y.inputs, .int .i64 y.outputs, .int .i64 y.start, .slice b1 y.steps.length q1], zy⟩ :: ⟨some ix, [.int .i64 x.states, .int .i64 x.inputs, .int .i64 x.outputs, .int .i64 x.start, .slice b0 x.steps.length q0], zx⟩ :: rowsW W (bst x y k n (brow x y k S n)).ws)
          rw [hQ]; exact rest
      · intro k' hk'
        obtain ⟨vk, hvk, hvs⟩ := hll.at (j := k) (by omega)
        ((with_reducible (refine mv_i ?_; refine mv_i ?_; refine mv_i ?_; refine mv_i ?_));
            (refine idx_o (by assumption) (by omega) ?_))
        refine ldo m (k := 1) (q := ⟨rfl⟩) (by rw [Nat.mul_one]; exact hvk) ?_
        skip
        refine call_d (c69 m (o := W.getD k none) (k := k + 5) ⟨by show (rowsW W Q.ws)[k]? = _; exact rowsW_get hll (by omega)⟩ hvs (by omega)) m fun v7 h7 p7 p7' _ ⟨o', hv, hnn⟩ => ?_
        have m := hnn _ _ m
        ((with_reducible (refine mv_i ?_));
            (refine bs_g (bs53_1 _ _) (by assumption) fun i h p m => ?_))
        refine app_snoc (a := (n : Int)) (k2 := 0) (j := 0) m hv (by infer_instance) ⟨rfl⟩ rfl ⟨by omega, by omega⟩ fun i2 h8 p8 m => ?_
        simp only [List.set_cons_succ, List.set_cons_zero] at m
        ((with_reducible (refine mv_i ?_; refine mv_i ?_));
            (refine ia_o (by omega) (by omega) ?_);
            (refine ldo (by assumption) (q := by infer_instance) (by with_unfolding_all rfl) ?_);
            (refine vb_n (by with_unfolding_all rfl) ?_);
            (refine idx_tab (by assumption) (by with_unfolding_all rfl) (by omega) (by omega) (by omega) fun p w hp hr => ?_);
            (refine ld_g (by assumption) (by with_unfolding_all rfl) ?_);
            (with_reducible (refine vb_l (by assumption) ?_; refine mv_i ?_));
            (refine idx_row (by assumption) (by with_unfolding_all rfl) (by omega) (by omega) fun p w hp hq => ?_);
            (refine ld_g (by assumption) (by with_unfolding_all rfl) ?_);
            (with_reducible (refine vb_pt (by assumption) ?_; refine mv_i ?_));
            (refine ia_o (by omega) (by omega) ?_);
            (refine ldo (by assumption) (q := by infer_instance) (by with_unfolding_all rfl) ?_);
            (refine vb_n (by with_unfolding_all rfl) ?_);
            (refine idx_tab (by assumption) (by with_unfolding_all rfl) (by omega) (by omega) (by omega) fun p w hp hr => ?_);
            (refine ld_g (by assumption) (by with_unfolding_all rfl) ?_);
            (with_reducible (refine vb_l (by assumption) ?_; refine mv_i ?_));
            (refine idx_row (by assumption) (by with_unfolding_all rfl) (by omega) (by omega) fun p w hp hq => ?_);
            (refine ld_g (by assumption) (by with_unfolding_all rfl) ?_);
            (with_reducible (refine vb_pt (by assumption) ?_; refine mv_i ?_; refine mv_i ?_; refine mv_i ?_; refine pnil_g ptr135 (by assumption) ?_; refine mv_i ?_; refine gd_ft ?_; refine gd_ft ?_; refine pick_f ?_; refine cnd_f ?_; refine mv_i ?_; refine pnil_g ptr135 (by assumption) ?_; refine mv_i ?_; refine gd_ff ?_; refine mv_i ?_; refine gd_ff ?_; refine pnil_g ptr135 (by assumption) ?_; refine pick_f ?_; refine mv_i ?_; refine gd_ff ?_; refine mv_i ?_; refine gd_ff ?_; refine pnn_g (by assumption) ?_; refine gd_ff ?_; refine fa_g (by assumption) fun p hp => ?_; refine gd_ff ?_));
            (refine ld_g (by assumption) (by with_unfolding_all rfl) ?_);
            (refine vb_n (by with_unfolding_all rfl) ?_);
            (with_reducible (refine gd_ff ?_; refine mv_i ?_; refine gd_ff ?_; refine pnn_g (by assumption) ?_; refine gd_ff ?_; refine fa_g (by assumption) fun p hp => ?_; refine gd_ff ?_));
            (refine ld_g (by assumption) (by with_unfolding_all rfl) ?_);
            (refine vb_n (by with_unfolding_all rfl) ?_);
            (with_reducible (refine gd_ff ?_; refine neq_i (fun hc => ?_) (fun hc => ?_); refine pick_f ?_; refine cnd_f ?_; refine mv_i ?_; refine pnn_g (by assumption) ?_; refine fa_g (by assumption) fun p hp => ?_));
            (refine ld_g (by assumption) (by with_unfolding_all rfl) ?_);
            (refine vb_n (by with_unfolding_all rfl) ?_);
            (with_reducible (refine mv_i ?_; refine pnn_g (by assumption) ?_; refine fa_g (by assumption) fun p hp => ?_));
            (refine ld_g (by assumption) (by with_unfolding_all rfl) ?_);
            (refine vb_n (by with_unfolding_all rfl) ?_);
            (refine vk_i (bd77_01 _ _) ?_);
            (with_reducible (refine alloc_z (by assumption) fun i h z p m => ?_));
            (refine st_w (by assumption) (by infer_instance) (by with_unfolding_all rfl) (by with_unfolding_all rfl) (by first | rfl | exact flat_ones (Flat.flat _)) (by infer_instance) fun h p m => ?_);
            (with_reducible (refine ⟨trivial, ?_⟩; refine mv_i ?_));
            (refine ldo_w (by assumption) (by infer_instance) (by with_unfolding_all rfl) ?_);
            (rotate_left);
            (with_reducible (refine pick_f ?_; refine cnd_t ?_; refine mv_i ?_; refine mv_i ?_; refine mv_i ?_; refine ret2 ?_));
            (rotate_left))
        · refine call_r (Runs.lent (c51 (hs1.lent m (by infer_instance) (by omega)) _)) ?_
          have hd : same x y (gt Q.ps k) n := by rw [hgp]; exact hc
          have ht : tgt x y (gt Q.ps k) n = ⟨(stO x (gt S.ps k).a n).to, (stO y (gt S.ps k).b n).to⟩ := by rw [hgp]; rfl
          have hwd : (wrd Q k n).length = (Q.ws.getD k []).length + 1 := by simp [wrd]
          ((with_reducible (refine not_d (fun hb => ?_) (fun hb => ?_); refine cnd_f ?_));
              (rotate_left);
              (with_reducible (refine cnd_t ?_; refine mv_i ?_));
              (refine ldo_w (by assumption) (by infer_instance) (by with_unfolding_all rfl) ?_);
              (refine bs_g (bs36_1 _ _) (by assumption) fun i h p m => ?_);
              (rotate_left))
          · have e := bst_met hf2 hd (by rw [ht]; exact hb)
            refine hk' _ _ ⟨a, b, rfl, by rw [e]; exact hf2, ?_⟩
            rw [e]
            exact ⟨o1, o2, vs, W, hs1, hs2, hll, ⟨Stb.st⟩, m.tail.tail.tail⟩
          · have e := bst_new hf2 hd (by rw [ht]; exact hb)
            refine app_snoc (a := (⟨(stO x (gt S.ps k).a n).to, (stO y (gt S.ps k).b n).to⟩ : Pr)) (k2 := 0) (j := 0) m hs1 (by infer_instance) ⟨rfl⟩ rfl ⟨by omega, by omega⟩ fun i3 h9 p9 m => ?_
            simp only [List.set_cons_succ, List.set_cons_zero] at m
            ((with_reducible (refine mv_i ?_; refine mv_i ?_));
                (refine bs_g (bs51_1 _ _ _ _) (by assumption) fun i h p m => ?_))
            refine app_o m hs2 (by infer_instance) (by rw [Nat.mul_one, ← lw2]; exact hll.1) (src_own m (q := (⟨rfl⟩ : Ent _ _ 0 _ _)) (n := 1) rfl (by decide) (by decide) rfl) ⟨by omega, by omega⟩ fun i4 h10 p10 m => ?_
            simp only [List.set_cons_succ, List.set_cons_zero] at m
            ((with_reducible (refine mv_i ?_; refine mv_i ?_)))
            refine hk' _ _ ⟨_, _, rfl, by rw [e], ?_⟩
            rw [e, ht]
            refine ⟨i3, i4, _, W ++ [some i2], by rw [List.length_append]; exact IsSl.some0, by rw [List.length_append]; exact IsSl.some0, hll.add (by rw [hwd]; exact IsSl.some0), ⟨Stb.st⟩, ?_⟩
            rw [rowsW_add hll]
            exact m.tail.tail.tail.tail.perm (List.perm_append_singleton _ (_ :: _ :: _ :: _ :: _ :: rowsW W Q.ws)).symm
        · have e := hfnd2 hkl hk (by omega) hf2 (by rw [hgp]; exact hc)
          have hwd : (wrd Q k n).length = (Q.ws.getD k []).length + 1 := by simp [wrd]
          refine ⟨m.pre, some ⟨i2, 0, none⟩, (Q.ws.getD k []).length + 1, 0, ?_, ?_⟩
          · rw [difE, e, if_neg (by simp)]
          · rw [difW, e]
            exact IsSl.ro (o := some i2) (xs := wrd Q k n) (by rw [hwd]; exact IsSl.some0) m (k := 1) rfl (by omega)
    · have e : bfs x y ⟨x.start, y.start⟩ (k + 1) = Q := by
        rw [hnext hkl, ← hQ]
        congr 1; omega
      refine next3 (by omega) ⟨?_, ?_⟩
      · show (bfs x y ⟨x.start, y.start⟩ (k + 1)).fnd = none
        rw [e]; exact hf2
      · show ∃ o1 o2 vs W, IsSl a (some o1) (bfs x y ⟨x.start, y.start⟩ (k + 1)).ps.length ∧ IsSl b (some o2) (bfs x y ⟨x.start, y.start⟩ (k + 1)).ps.length ∧ LL vs W (bfs x y ⟨x.start, y.start⟩ (k + 1)).ws ∧ Prec hx _ ∧ Mem g _ (⟨some o1, flat (bfs x y ⟨x.start, y.start⟩ (k + 1)).ps, 2⟩ :: ⟨some o2, vs, 1⟩ :: ⟨some iy, [.int .i64 y.states, .int .i64 y.inputs, .int .i64 y.outputs, .int .i64 y.start, .slice b1 y.steps.length q1], zy⟩ :: ⟨some ix, [.int .i64 x.states, .int .i64 x.inputs, .int .i64 x.outputs, .int .i64 x.start, .slice b0 x.steps.length q0], zx⟩ :: rowsW W (bfs x y ⟨x.start, y.start⟩ (k + 1)).ws)
        rw [e]
        exact ⟨o1, o2, vs, W, hs1, hs2, hll, ⟨Stb.st⟩, m.sub (.cons_cons _ (.cons_cons _ (.cons _ (List.Sublist.refl _))))⟩
  · have e := hend (by omega)
    refine ⟨m.pre, none, 0, 0, ?_, ?_⟩
    · rw [difE, e, if_pos hf]
    · rw [difW, e, hf]; exact L.nil _
end Go.Proofs.Ytomiejfeclefaaa

set_option linter.unusedSimpArgs false
set_option linter.unusedVariables false
set_option linter.unnecessarySimpa false
set_option maxRecDepth 100000
set_option maxHeartbeats 4000000
namespace Go.Proofs.Ytomiejfeclefaaa
open Go.AM
variable {h g : Heap}
/-! ### the reference's search -/
theorem at_code {x : Mach} (h0 : (chkM x).2 = 0) (hl : (x.steps.length : Int) = x.states * x.inputs) {s i : Int} (hs : 0 ≤ s ∧ s ≤ x.states - 1) (hi : 0 ≤ i ∧ i ≤ x.inputs - 1) : idxOf (atS s i) x.steps = s * x.inputs + i := by
  obtain ⟨e1, e2, e3, e4⟩ := full_at h0 hl hs hi
  have := idxOf_at (p := atS s i) (l := x.steps) (k := (s * x.inputs + i).toNat) (fun j hj => ?_) e2 (by simp [atS, e3, e4])
  · rw [this]; omega
  · have hc := full_code h0 hl (show j < x.steps.length by omega)
    unfold code at hc
    refine decide_eq_false ?_
    rintro ⟨q1, q2⟩
    rw [q1, q2] at hc
    omega
theorem ll_ones {α : Type} {vs : List Value} {W : List (Option Nat)} {ls : List (List α)} (s : LL vs W ls) : ∀ v ∈ vs, v.oneCell' = true := by
  intro v hv
  obtain ⟨j, hj, rfl⟩ := List.mem_iff_getElem.mp hv
  have := s.2.2 j (by rw [← s.1]; exact hj)
  simp only [List.getD, List.getElem?_eq_getElem hj, Option.getD_some] at this
  exact this.one
theorem pw3_len : ∀ {ps : List Pr} {vs : List Value}, vs.length = ps.length → (pw3 ps vs).length = ps.length * 3
  | [], [], _ => rfl
  | _ :: _, [], h => by simp at h
  | [], _ :: _, h => by simp at h
  | p :: ps, v :: vs, h => by
    have := pw3_len (ps := ps) (vs := vs) (by simpa using h)
    simp [pw3, this]; omega
theorem c67 {v w : Value} {x y : Mach} (s : MacV g v x) (t : MacV g w y) (P : Par x y) (p0 : Pr) (h0 : inP x p0) :
    DetP Try.prog 67 [v, w, .agg #[.int .i64 p0.a, .int .i64 p0.b, .slice none 0 0]] g fun v' h' => g <+: h' ∧ ∃ b1 n1 q1 b2 n2 q2, v' = .tuple #[.slice b1 n1 q1, .bool (srch x y p0).fnd.isSome, .slice b2 n2 q2] ∧ L h' (.slice b1 n1 q1) (difW x y p0) ∧ L h' (.slice b2 n2 q2) ((srch x y p0).ps.map PrX.mk) := by
  refine DetP.freeze ?_
  obtain ⟨tv, rfl, s⟩ := s
  obtain ⟨uv, rfl, t⟩ := t
  obtain ⟨b0, q0, rfl, _⟩ := s.shape
  obtain ⟨b1, q1, rfl, _⟩ := t.shape
  obtain ⟨⟨a1, a2⟩, ⟨a3, a4⟩, _⟩ := (chk_ok P.cx).1
  have hip : y.inputs = x.inputs := P.ip
  have hst : y.states = x.states := P.st
  have m := Mem.start g
  refine w67 ?_
  unfold n67
  refine box_a m fun ix h1 zx p1 m => ?_
  refine box_a m fun iy h2 zy p2 m => ?_
  refine box_a (cs := [.int .i64 p0.a, .int .i64 p0.b, .slice none 0 0]) m fun iz h3 zz p3 m => ?_
  ((with_reducible (refine mv_i ?_; refine mv_i ?_; refine mv_i ?_));
      (refine ldo_w (by assumption) (by infer_instance) (by with_unfolding_all rfl) ?_);
      (refine bs_g (bs63_1 _ _ _ _ _ _) (by assumption) fun i h p m => ?_);
      (with_reducible (refine mv_i ?_; refine mv_i ?_)))
  obtain ⟨hx, rfl⟩ : ∃ q, q = h := ⟨h, rfl⟩
  refine loop2 1600 (fun k a h => (bfs x y p0 k).fnd = none ∧ ∃ o1 vs W, IsSl a (some o1) (bfs x y p0 k).ps.length ∧ LL vs W (bfs x y p0 k).ws ∧ Prec hx h ∧ Mem g h (⟨some o1, pw3 (bfs x y p0 k).ps vs, 3⟩ :: ⟨some iy, [.int .i64 y.states, .int .i64 y.inputs, .int .i64 y.outputs, .int .i64 y.start, .slice b1 y.steps.length q1], zy⟩ :: ⟨some ix, [.int .i64 x.states, .int .i64 x.inputs, .int .i64 x.outputs, .int .i64 x.start, .slice b0 x.steps.length q0], zx⟩ :: rowsW W (bfs x y p0 k).ws)) ⟨rfl, ?_⟩ ?_
  · refine ⟨_, [.slice none 0 0], [none], IsSl.some1, ⟨rfl, rfl, fun j hj => ?_⟩, ⟨Stab.refl _⟩, ?_⟩
    · have : j = 0 := by simp [bfs] at hj; exact hj
      subst this; exact IsSl.nil
    · have m := m.sub (.cons_cons _ (.cons _ (List.Sublist.refl _)))
      exact (m.nil 1).perm (List.perm_append_singleton (⟨none, [], 1⟩ : E) [_, _, _]).symm
  rintro k a h5 _ hk ⟨hf, o1, vs, W, hs1, hll, p5, m⟩
  have B0 := BI.all P h0 k
  have W0 := bfs_wl P h0 k
  have hend := @srch_end x y p0 k hk
  have hfnd := fun (n : Nat) => @srch_fnd x y p0 k n
  have hnext := @bfs_next x y p0 k
  generalize hS : bfs x y p0 k = S at *
  have lw := B0.len
  have few := B0.few a2
  have hvl : vs.length = S.ps.length := by rw [← lw]; exact hll.1
  ((with_reducible (refine mv_i ?_; refine mv_i ?_; refine len_o (by assumption) ?_; refine lss_i (fun hc => ?_) (fun hc => ?_); refine cnd_t ?_; refine mv_i ?_));
      (rotate_left);
      (with_reducible (refine cnd_f ?_; refine mv_i ?_; refine mv_i ?_; refine mv_i ?_; refine mv_i ?_; refine ret3 ?_));
      (rotate_left))
  · have hkl : k < S.ps.length := by omega
    obtain ⟨⟨r1, r2⟩, r3, r4⟩ := B0.inp _ (gd_mem Df.d hkl)
    change 0 ≤ (gt S.ps k).a at r1
    change (gt S.ps k).a ≤ x.states - 1 at r2
    change 0 ≤ (gt S.ps k).b at r3
    change (gt S.ps k).b ≤ x.states - 1 at r4
    refine loop2 x.inputs.toNat (fun n a h => (brow x y k S n).fnd = none ∧ ∃ o1 vs W, IsSl a (some o1) (brow x y k S n).ps.length ∧ LL vs W (brow x y k S n).ws ∧ Prec hx h ∧ Mem g h (⟨some o1, pw3 (brow x y k S n).ps vs, 3⟩ :: ⟨some iy, [.int .i64 y.states, .int .i64 y.inputs, .int .i64 y.outputs, .int .i64 y.start, .slice b1 y.steps.length q1], zy⟩ :: ⟨some ix, [.int .i64 x.states, .int .i64 x.inputs, .int .i64 x.outputs, .int .i64 x.start, .slice b0 x.steps.length q0], zx⟩ :: rowsW W (brow x y k S n).ws)) ⟨hf, o1, vs, W, hs1, hll, ⟨Stb.st⟩, m⟩ ?_
    rintro n a h6 _ hn ⟨hf2, o1, vs, W, hs1, hll, p6, m⟩
    have B1 := B0.row P hkl n hn
    have W1 := brow_wl (x := x) (y := y) (i := k) W0 (by omega) n
    have hgp := gt_pre (brow_grow (x := x) (y := y) (i := k) (s := S) n).1 hkl
    have hlen2 := (brow_grow (x := x) (y := y) (i := k) (s := S) n).1.length_le
    have hfnd2 := hfnd n
    generalize hQ : brow x y k S n = Q at *
    have lw2 := B1.len
    have few2 := B1.few a2
    have hwl := W1 _ (gd_mem [] (show k < Q.ws.length by omega))
    have hvl : vs.length = Q.ps.length := by rw [← lw2]; exact hll.1
    obtain ⟨g1, g2, g3⟩ := pw3_get hvl (show k < Q.ps.length by omega)
    rw [hgp] at g1 g2
    ((with_reducible (refine mv_i ?_; refine fao ?_));
        (refine ldo (by assumption) (q := by infer_instance) (by with_unfolding_all rfl) ?_);
        (with_reducible (refine lss_i (fun hc => ?_) (fun hc => ?_); refine cnd_t ?_));
        (rotate_left);
        (with_reducible (refine cnd_f ?_; refine mv_i ?_; refine inc_i (by omega) ?_; refine mv_i ?_));
        (rotate_left))
    · refine seq_J (fun xs h => ∃ a, xs = [a] ∧ (bst x y k n Q).fnd = none ∧ ∃ o1 vs W, IsSl a (some o1) (bst x y k n Q).ps.length ∧ LL vs W (bst x y k n Q).ws ∧ Prec hx h ∧ Mem g h (⟨some o1, pw3 (bst x y k n Q).ps vs, 3⟩ :: ⟨some iy, [.int .i64 y.states, .int .i64 y.inputs, .int .i64 y.outputs, .int .i64 y.start, .slice b1 y.steps.length q1], zy⟩ :: ⟨some ix, [.int .i64 x.states, .int .i64 x.inputs, .int .i64 x.outputs, .int .i64 x.start, .slice b0 x.steps.length q0], zx⟩ :: rowsW W (bst x y k n Q).ws)) ?_ ?_
      · rintro _ h7 ⟨a3, rfl, hf3, rest⟩
        (((with_reducible refine fun (_ : Tmps) => ?_); (try dsimp only [nth]));
            (with_reducible (refine mv_i ?_; refine inc_i (by omega) ?_; refine mv_i ?_)))
        refine next2 (by omega) ⟨?_, ?_⟩
        · show (bst x y k n (brow x y k S n)).fnd = none
          rw [hQ]; exact hf3
        · show ∃ o1 vs W, IsSl a3 (some o1) (bst x y k n (brow x y k S n)).ps.length ∧ LL vs W (bst x y k n (brow x y k S n)).ws ∧ Prec hx h7 ∧ Mem g h7 (⟨some o1, pw3 (bst x y k n (brow x y k S n)).ps vs, 3⟩ :: ⟨some iy, [.int .i64 y.states, .int .i64 y.inputs, .int .i64 y.outputs, .int .i64 y.start, .slice b1 y.steps.length q1], zy⟩ :: ⟨some ix, [.int .i64 x.states, .int .i64 x.inputs, .int .i64 x.outputs, .int .i64 x.start, .slice b0 x.steps.length q0], zx⟩ :: rowsW W (bst x y k n (brow x y k S n)).ws)
          rw [hQ]; exact rest
      · intro k' hk'
        obtain ⟨vk, hvk, hvs⟩ := hll.at (j := k) (by omega)
        rw [hvk] at g3
        obtain ⟨j1, j2, _⟩ := full_at P.cx P.lx (s := (gt S.ps k).a) (i := (n : Int)) ⟨r1, r2⟩ ⟨by omega, by omega⟩
        obtain ⟨j3, j4, _⟩ := full_at P.cy P.ly (s := (gt S.ps k).b) (i := (n : Int)) ⟨r3, by omega⟩ ⟨by omega, by omega⟩
        have iA := at_code P.cx P.lx (s := (gt S.ps k).a) (i := (n : Int)) ⟨r1, r2⟩ ⟨by omega, by omega⟩
        have iB := at_code P.cy P.ly (s := (gt S.ps k).b) (i := (n : Int)) ⟨r3, by omega⟩ ⟨by omega, by omega⟩
        have hneA : ¬ idxOf (atS (gt S.ps k).a (n : Int)) x.steps = -1 := by rw [iA]; omega
        have hneB : ¬ idxOf (atS (gt S.ps k).b (n : Int)) y.steps = -1 := by rw [iB]; omega
        have jA1 : 0 ≤ idxOf (atS (gt S.ps k).a (n : Int)) x.steps := by rw [iA]; omega
        have jA2 : (idxOf (atS (gt S.ps k).a (n : Int)) x.steps).toNat < x.steps.length := by rw [iA]; omega
        have jB1 : 0 ≤ idxOf (atS (gt S.ps k).b (n : Int)) y.steps := by rw [iB]; omega
        have jB2 : (idxOf (atS (gt S.ps k).b (n : Int)) y.steps).toNat < y.steps.length := by rw [iB]; omega
        ((with_reducible (refine mv_i ?_; refine mv_i ?_));
            (refine idx_o (by assumption) (by omega) ?_);
            (with_reducible (refine fao_e ?_)))
        refine ldo m (k := 0) (q := ⟨rfl⟩) g3 ?_
        skip
        refine call_d (c70 m (o := W.getD k none) (k := k + 3) ⟨by show (rowsW W Q.ws)[k]? = _; exact rowsW_get hll (by omega)⟩ hvs (by omega)) m fun v7 h7 p7 p7' _ ⟨o', hv, hnn⟩ => ?_
        have m := hnn _ _ m
        ((with_reducible (refine mv_i ?_));
            (refine bs_g (bs53_1 _ _) (by assumption) fun i h p m => ?_))
        refine app_snoc (a := (n : Int)) (k2 := 0) (j := 0) m hv (by infer_instance) ⟨rfl⟩ rfl ⟨by omega, by omega⟩ fun i2 h8 p8 m => ?_
        simp only [List.set_cons_succ, List.set_cons_zero] at m
        ((with_reducible (refine mv_i ?_));
            (refine ldo_w (by assumption) (by infer_instance) (by with_unfolding_all rfl) ?_);
            (refine vb_mac (by assumption) ?_);
            (with_reducible (refine mv_i ?_; refine mv_i ?_));
            (refine idx_o (by assumption) (by omega) ?_);
            (with_reducible (refine fao_e ?_)))
        refine ldo m (k := 2) (q := ⟨rfl⟩) g1 ?_
        ((refine vb_n (by with_unfolding_all rfl) ?_);
            (with_reducible (refine mv_i ?_));
            (refine calld_r (c74 ⟨_, by with_unfolding_all rfl, L.up (by assumption)⟩ _ _) ?_);
            (with_reducible (refine new_n ?_));
            (refine ldo_w (by assumption) (by infer_instance) (by with_unfolding_all rfl) ?_);
            (refine vb_mac (by assumption) ?_);
            (with_reducible (refine mv_i ?_; refine mv_i ?_));
            (refine idx_o (by assumption) (by omega) ?_);
            (with_reducible (refine fao_e ?_)))
        refine ldo m (k := 2) (q := ⟨rfl⟩) g2 ?_
        have hsame : same x y (gt Q.ps k) n ↔ (gt x.steps (idxOf (atS (gt S.ps k).a (n : Int)) x.steps).toNat).out = (gt y.steps (idxOf (atS (gt S.ps k).b (n : Int)) y.steps).toNat).out := by
          rw [hgp, iA, iB]; exact Iff.rfl
        have hwd : (wrd Q k n).length = (Q.ws.getD k []).length + 1 := by simp [wrd]
        ((refine vb_n (by with_unfolding_all rfl) ?_);
            (with_reducible (refine mv_i ?_));
            (refine calld_r (c74 ⟨_, by with_unfolding_all rfl, L.up (by assumption)⟩ _ _) ?_);
            (with_reducible (refine new_n ?_; refine mv_i ?_; refine mv_i ?_; refine mv_i ?_; refine eql_n (by first | assumption | decide) ?_; refine mv_i ?_; refine gd_ft ?_; refine gd_ft ?_; refine pick_f ?_; refine cnd_f ?_; refine mv_i ?_; refine eql_n (by first | assumption | decide) ?_; refine mv_i ?_; refine gd_ff ?_; refine mv_i ?_; refine gd_ff ?_; refine eql_n (by first | assumption | decide) ?_; refine pick_f ?_; refine mv_i ?_; refine gd_ff ?_; refine fao ?_; refine gd_ff ?_));
            (refine ldo (by assumption) (q := by infer_instance) (by with_unfolding_all rfl) ?_);
            (with_reducible (refine vb_l (by assumption) ?_; refine gd_ff ?_; refine mv_i ?_; refine gd_ff ?_));
            (refine idx_dz (by assumption) (by with_unfolding_all rfl) (by omega) (by omega) fun p hp => ?_);
            (with_reducible (refine gd_ff ?_; refine fa_g (by assumption) fun p hp => ?_; refine gd_ff ?_));
            (refine ld_g (by assumption) (by with_unfolding_all rfl) ?_);
            (refine vb_n (by with_unfolding_all rfl) ?_);
            (with_reducible (refine gd_ff ?_; refine fao ?_; refine gd_ff ?_));
            (refine ldo (by assumption) (q := by infer_instance) (by with_unfolding_all rfl) ?_);
            (with_reducible (refine vb_l (by assumption) ?_; refine gd_ff ?_; refine mv_i ?_; refine gd_ff ?_));
            (refine idx_dz (by assumption) (by with_unfolding_all rfl) (by omega) (by omega) fun p hp => ?_);
            (with_reducible (refine gd_ff ?_; refine fa_g (by assumption) fun p hp => ?_; refine gd_ff ?_));
            (refine ld_g (by assumption) (by with_unfolding_all rfl) ?_);
            (refine vb_n (by with_unfolding_all rfl) ?_);
            (with_reducible (refine gd_ff ?_; refine neq_i (fun hc => ?_) (fun hc => ?_); refine pick_f ?_; refine cnd_f ?_; refine fao ?_));
            (refine ldo (by assumption) (q := by infer_instance) (by with_unfolding_all rfl) ?_);
            (with_reducible (refine vb_l (by assumption) ?_; refine mv_i ?_));
            (refine idx_dz (by assumption) (by with_unfolding_all rfl) (by omega) (by omega) fun p hp => ?_);
            (with_reducible (refine fa_g (by assumption) fun p hp => ?_));
            (refine ld_g (by assumption) (by with_unfolding_all rfl) ?_);
            (refine vb_n (by with_unfolding_all rfl) ?_);
            (with_reducible (refine fao ?_));
            (refine ldo (by assumption) (q := by infer_instance) (by with_unfolding_all rfl) ?_);
            (with_reducible (refine vb_l (by assumption) ?_; refine mv_i ?_));
            (refine idx_dz (by assumption) (by with_unfolding_all rfl) (by omega) (by omega) fun p hp => ?_);
            (with_reducible (refine fa_g (by assumption) fun p hp => ?_));
            (refine ld_g (by assumption) (by with_unfolding_all rfl) ?_);
            (refine vb_n (by with_unfolding_all rfl) ?_);
            (with_reducible (refine mv_i ?_));
            (refine vk_i (bd104_012 _ _ _ _ _) ?_);
            (with_reducible (refine alloc_z (by assumption) fun i h z p m => ?_));
            (refine st_w (by assumption) (by infer_instance) (by with_unfolding_all rfl) (by with_unfolding_all rfl) (by first | rfl | exact flat_ones (Flat.flat _)) (by infer_instance) fun h p m => ?_);
            (with_reducible (refine ⟨trivial, ?_⟩; refine mv_i ?_));
            (refine ldo_w (by assumption) (by infer_instance) (by with_unfolding_all rfl) ?_);
            (rotate_left);
            (with_reducible (refine pick_f ?_; refine cnd_t ?_; refine mv_i ?_; refine mv_i ?_; refine mv_i ?_; refine mv_i ?_; refine mv_i ?_; refine ret3 ?_));
            (rotate_left))
        · have hd := hsame.mpr hc
          have ht : tgt x y (gt Q.ps k) n = ⟨(gt x.steps (idxOf (atS (gt S.ps k).a (n : Int)) x.steps).toNat).to, (gt y.steps (idxOf (atS (gt S.ps k).b (n : Int)) y.steps).toNat).to⟩ := by
            rw [hgp, iA, iB]; rfl
          refine call_r (Runs.lent (c94 (IsSl.lentR (xs := Q.ps.map PrX.mk) (by rw [List.length_map]; exact hs1) m (by infer_instance) rfl (pw3_rd hvl (ll_ones hll)) (by rw [List.length_map]; omega)) _ _ _ rfl)) ?_
          ((with_reducible (refine not_d (fun hb => ?_) (fun hb => ?_); refine cnd_f ?_));
              (rotate_left);
              (with_reducible (refine cnd_t ?_; refine mv_i ?_));
              (refine ldo_w (by assumption) (by infer_instance) (by with_unfolding_all rfl) ?_);
              (refine bs_g (bs63_1 _ _ _ _ _ _) (by assumption) fun i h p m => ?_);
              (rotate_left))
          · have e := bst_met hf2 hd (by rw [ht]; exact hb)
            refine hk' _ _ ⟨a, rfl, by rw [e]; exact hf2, ?_⟩
            rw [e]
            exact ⟨o1, vs, W, hs1, hll, ⟨Stb.st⟩, m.tail.tail.tail⟩
          · have e := bst_new hf2 hd (by rw [ht]; exact hb)
            refine app_o m hs1 (by infer_instance) (pw3_len hvl) (src_own m (q := (⟨rfl⟩ : Ent _ _ 0 _ _)) (n := 1) rfl (by decide) (by decide) rfl) ⟨by omega, by omega⟩ fun i4 h10 p10 m => ?_
            simp only [List.set_cons_succ, List.set_cons_zero] at m
            ((with_reducible (refine mv_i ?_)))
            refine hk' _ _ ⟨_, rfl, by rw [e], ?_⟩
            rw [e, ht]
            refine ⟨i4, vs ++ [.slice (some ⟨i2, 0, none⟩) ((Q.ws.getD k []).length + 1) 0], W ++ [some i2], by rw [List.length_append]; exact IsSl.some0, hll.add (by rw [hwd]; exact IsSl.some0), ⟨Stb.st⟩, ?_⟩
            rw [rowsW_add hll, pw3_add hvl]
            exact m.tail.tail.tail.perm (List.perm_append_singleton _ (_ :: _ :: _ :: rowsW W Q.ws)).symm
        · have e := hfnd2 hkl hk (by omega) hf2 (fun q => hc (hsame.mp q))
          obtain ⟨c1, hac⟩ : ∃ c1, a = .slice (some ⟨o1, 0, none⟩) Q.ps.length c1 := by obtain ⟨c1, e, _⟩ := hs1; exact ⟨c1, e⟩
          refine ⟨m.pre, some ⟨i2, 0, none⟩, (Q.ws.getD k []).length + 1, 0, some ⟨o1, 0, none⟩, _, c1, by rw [e, ← hac]; rfl, ?_, ?_⟩
          · rw [difW, e]
            exact IsSl.ro (o := some i2) (xs := wrd Q k n) (by rw [hwd]; exact IsSl.some0) m (k := 1) rfl (by omega)
          · rw [e, ← hac]
            exact IsSl.roR (xs := Q.ps.map PrX.mk) (by rw [List.length_map]; exact hs1) m (k := 2) rfl rfl (pw3_rd hvl (ll_ones hll)) (by rw [List.length_map]; omega)
    · have e : bfs x y p0 (k + 1) = Q := by
        rw [hnext hkl, ← hQ]
        congr 1; omega
      refine next2 (by omega) ⟨?_, ?_⟩
      · show (bfs x y p0 (k + 1)).fnd = none
        rw [e]; exact hf2
      · show ∃ o1 vs W, IsSl a (some o1) (bfs x y p0 (k + 1)).ps.length ∧ LL vs W (bfs x y p0 (k + 1)).ws ∧ Prec hx _ ∧ Mem g _ (⟨some o1, pw3 (bfs x y p0 (k + 1)).ps vs, 3⟩ :: ⟨some iy, [.int .i64 y.states, .int .i64 y.inputs, .int .i64 y.outputs, .int .i64 y.start, .slice b1 y.steps.length q1], zy⟩ :: ⟨some ix, [.int .i64 x.states, .int .i64 x.inputs, .int .i64 x.outputs, .int .i64 x.start, .slice b0 x.steps.length q0], zx⟩ :: rowsW W (bfs x y p0 (k + 1)).ws)
        rw [e]
        exact ⟨o1, vs, W, hs1, hll, ⟨Stb.st⟩, m⟩
  · have e := hend (by omega)
    obtain ⟨c1, rfl, _⟩ := id hs1
    refine ⟨m.pre, none, 0, 0, some ⟨o1, 0, none⟩, _, c1, by rw [e, hf]; rfl, by rw [difW, e, hf]; exact L.nil _, ?_⟩
    rw [e]
    exact IsSl.roR (by rw [List.length_map]; exact hs1) m (k := 0) rfl rfl (pw3_rd hvl (ll_ones hll)) (by rw [List.length_map]; omega)
end Go.Proofs.Ytomiejfeclefaaa

set_option linter.unusedSimpArgs false
set_option linter.unusedVariables false
set_option linter.unnecessarySimpa false
set_option maxRecDepth 100000
set_option maxHeartbeats 4000000
namespace Go.Proofs.Ytomiejfeclefaaa
open Go.AM
variable {h g : Heap}
/-! ### lists of machines -/
instance : Rep Mach := ⟨5, fun h cs x => ∃ v, cs = [.int .i64 x.states, .int .i64 x.inputs, .int .i64 x.outputs, .int .i64 x.start, v] ∧ L h v x.steps, by rintro h cs a ⟨v, rfl, _⟩; rfl,
  by rintro h h' cs a hs ⟨v, e, s⟩; exact ⟨v, e, s.mono hs⟩, by rintro h cs a ⟨v, rfl, s⟩; simp only [List.all_cons, s.one]; rfl⟩
instance : Df Mach := ⟨⟨0, 0, 0, 0, []⟩⟩
/-! ### the other way round -/
end Go.Proofs.Ytomiejfeclefaaa

set_option linter.unusedSimpArgs false
set_option linter.unusedVariables false
set_option linter.unnecessarySimpa false
set_option maxRecDepth 100000
set_option maxHeartbeats 4000000
namespace Go.Proofs.Ytomiejfeclefaaa
open Go.AM
variable {h g : Heap}
/-! ### kinds of mutants -/
/-! ### kinds: the reference -/
end Go.Proofs.Ytomiejfeclefaaa

set_option linter.unusedVariables false
set_option maxRecDepth 100000
namespace Go.Proofs
def Ytomiejfeclefaaa.lays66_ren : Go.Shelf.Ren := ⟨fun | 6 => 66 | 15 => 79 | 14 => 93 | 28 => 105 | 29 => 106 | 20 => 114 | 21 => 115 | 22 => 116 | 23 => 117 | 24 => 118 | 25 => 119 | 26 => 120 | 27 => 121 | 46 => 130 | 47 => 124 | 48 => 125 | 49 => 131 | 50 => 132 | 57 => 134 | n => n, fun | 22 => 36 | 24 => 77 | 25 => 87 | 3 => 3 | 39 => 123 | 0 => 0 | 53 => 151 | 55 => 153 | 4 => 4 | 46 => 144 | 45 => 143 | 50 => 148 | 5 => 5 | 9 => 9 | 66 => 165 | 70 => 169 | 76 => 175 | 77 => 41 | n => n, fun | n => n⟩
theorem Ytomiejfeclefaaa.lays66 : Go.Proofs.SlLaysF0.n6 Try.prog Ytomiejfeclefaaa.lays66_ren where
  mixed := by kernel_rfl
  f6 := ⟨ "slices.SortFunc[[][2]int,[2]int]", by decide, Try.func66.trans (congrArg some (by kernel_rfl))⟩
  f14 := ⟨ "slices.pdqsortCmpFunc[[2]int]", by decide, Try.func93.trans (congrArg some (by kernel_rfl))⟩
  f15 := Try.func79.trans (congrArg some (by kernel_rfl))
  f20 := ⟨ "slices.insertionSortCmpFunc[[2]int]", by decide, Try.func114.trans (congrArg some (by kernel_rfl))⟩
  f21 := ⟨ "slices.heapSortCmpFunc[[2]int]", by decide, Try.func115.trans (congrArg some (by kernel_rfl))⟩
  f22 := ⟨ "slices.breakPatternsCmpFunc[[2]int]", by decide, Try.func116.trans (congrArg some (by kernel_rfl))⟩
  f23 := ⟨ "slices.choosePivotCmpFunc[[2]int]", by decide, Try.func117.trans (congrArg some (by kernel_rfl))⟩
  f24 := ⟨ "slices.reverseRangeCmpFunc[[2]int]", by decide, Try.func118.trans (congrArg some (by kernel_rfl))⟩
  f25 := ⟨ "slices.partialInsertionSortCmpFunc[[2]int]", by decide, Try.func119.trans (congrArg some (by kernel_rfl))⟩
  f26 := ⟨ "slices.partitionEqualCmpFunc[[2]int]", by decide, Try.func120.trans (congrArg some (by kernel_rfl))⟩
  f27 := ⟨ "slices.partitionCmpFunc[[2]int]", by decide, Try.func121.trans (congrArg some (by kernel_rfl))⟩
  f28 := Try.func105.trans (congrArg some (by kernel_rfl))
  f29 := Try.func106.trans (congrArg some (by kernel_rfl))
  f46 := ⟨ "slices.siftDownCmpFunc[[2]int]", by decide, Try.func130.trans (congrArg some (by kernel_rfl))⟩
  f47 := Try.func124.trans (congrArg some (by kernel_rfl))
  f48 := Try.func125.trans (congrArg some (by kernel_rfl))
  f49 := ⟨ "slices.medianAdjacentCmpFunc[[2]int]", by decide, Try.func131.trans (congrArg some (by kernel_rfl))⟩
  f50 := ⟨ "slices.medianCmpFunc[[2]int]", by decide, Try.func132.trans (congrArg some (by kernel_rfl))⟩
  f57 := ⟨ "slices.order2CmpFunc[[2]int]", by decide, Try.func134.trans (congrArg some (by kernel_rfl))⟩
  t0 := Try.underlying0
  a0 := Try.isAgg0
  z0 := Try.sizeOf0
  v0 := Try.zeroValue0
  t3 := Try.underlying3
  a3 := Try.isAgg3
  z3 := Try.sizeOf3
  v3 := Try.zeroValue3
  t4 := Try.underlying4
  a4 := Try.isAgg4
  z4 := Try.sizeOf4
  v4 := Try.zeroValue4
  t5 := Try.underlying5
  a5 := Try.isAgg5
  z5 := Try.sizeOf5
  v5 := Try.zeroValue5
  t9 := Try.underlying9
  a9 := Try.isAgg9
  z9 := Try.sizeOf9
  v9 := Try.zeroValue9
  t22 := Try.underlying36
  a22 := Try.isAgg36
  z22 := Try.sizeOf36
  v22 := Try.zeroValue36
  t25 := Try.underlying87
  a25 := Try.isAgg87
  z25 := Try.sizeOf87
  v25 := Try.zeroValue87
  t39 := Try.underlying123
  a39 := Try.isAgg123
  z39 := Try.sizeOf123
  v39 := Try.zeroValue123
  t45 := Try.underlying143
  a45 := Try.isAgg143
  z45 := Try.sizeOf143
  v45 := Try.zeroValue143
  t46 := Try.underlying144
  a46 := Try.isAgg144
  z46 := Try.sizeOf144
  v46 := Try.zeroValue144
  t50 := Try.underlying148
  a50 := Try.isAgg148
  z50 := Try.sizeOf148
  v50 := Try.zeroValue148
  t53 := Try.underlying151
  a53 := Try.isAgg151
  z53 := Try.sizeOf151
  v53 := Try.zeroValue151
  t55 := Try.underlying153
  a55 := Try.isAgg153
  z55 := Try.sizeOf153
  v55 := Try.zeroValue153
  t66 := Try.underlying165
  a66 := Try.isAgg165
  z66 := Try.sizeOf165
  v66 := Try.zeroValue165
  t70 := Try.underlying169
  a70 := Try.isAgg169
  z70 := Try.sizeOf169
  v70 := Try.zeroValue169
  t76 := Try.underlying175
  a76 := Try.isAgg175
  z76 := Try.sizeOf175
  v76 := Try.zeroValue175
  t77 := Try.underlying41
  a77 := Try.isAgg41
  z77 := Try.sizeOf41
  v77 := Try.zeroValue41
end Go.Proofs

set_option linter.unusedSimpArgs false
set_option linter.unusedVariables false
set_option linter.unnecessarySimpa false
set_option maxRecDepth 100000
set_option maxHeartbeats 4000000
namespace Go.Proofs.Ytomiejfeclefaaa
open Go.AM
variable {h g : Heap}
/-! ### sorting -/
instance : Inhabited Pr := ⟨⟨0, 0⟩⟩
instance : Inhabited Mut := ⟨⟨0, 0, 0⟩⟩
theorem cmpP_lt (a b : Pr) : cmpP a b < 0 ↔ a.a < b.a ∨ a.a = b.a ∧ a.b < b.b := by
  rw [cmpP, orOf_cons, orOf_cons, orOf_nil]
  unfold cmpI
  repeat' split
  all_goals omega
theorem ltP (a b : Pr) : Go.Proofs.ltOf cmpP a b = true ↔ a.a < b.a ∨ a.a = b.a ∧ a.b < b.b := by
  unfold Go.Proofs.ltOf
  rw [decide_eq_true_iff, cmpP_lt]
theorem ltPn (a b : Pr) : Go.Proofs.ltOf cmpP a b = false ↔ ¬ (a.a < b.a ∨ a.a = b.a ∧ a.b < b.b) := by
  rw [← ltP, Bool.not_eq_true]
theorem swoP : Go.Sort.SWO (Go.Proofs.ltOf cmpP) := by
  refine ⟨fun x => ?_, fun x y z h1 h2 => ?_, fun x y z h1 h2 => ?_⟩
  · rw [ltPn]; omega
  · rw [ltP] at *; omega
  · rw [ltPn] at *; omega
theorem totP : ∀ x y, Go.Proofs.ltOf cmpP x y = false → Go.Proofs.ltOf cmpP y x = false → x = y := by
  intro x y h1 h2
  rw [ltPn] at h1 h2
  cases x; cases y
  simp only [Pr.mk.injEq] at *
  omega
theorem c66 {i c : Nat} {xs : List Pr} {h0 : Heap} {Lm : List E} {k : Nat} (m : Mem h0 h Lm) (q : Lm[k]? = some ⟨some i, flat xs, 2⟩) (hne : 0 < xs.length) (hlen : xs.length < 4611686018427387904) :
    Runs Try.prog 66 [.slice (some ⟨i, 0, none⟩) xs.length c, .func (.func 49) #[] #[]] h (.tuple #[]) (h.set i (.arr ⟨flat (srt cmpP xs), 2, false⟩)) :=
  sort_run (α := Pr) (g0 := 49) lays66 Try.isAgg77 Try.sizeOf77 cmpP swoP totP (enters_of Try.func49 (by kernel_rfl) rfl) (by kernel_rfl) rfl (fun x y => c49 x y) rfl (by kernel_rfl) (m.get q) hne hlen (by decide)
theorem sort66 {K : Value → Heap → Prop} {v : Value} {i : Nat} {xs : List Pr} {h0 : Heap} {Lm : List E} {k : Nat} (m : Mem h0 h Lm) (s : IsSl v (some i) xs.length) (q : Lm[k]? = some ⟨some i, flat xs, 2⟩) (hne : 0 < xs.length) (hlen : xs.length < 4611686018427387904)
    (hK : ∀ h', Prec h h' → Mem h0 h' (Lm.set k ⟨some i, flat (srt cmpP xs), 2⟩) → K (.tuple #[]) h') : callK Try.prog (some (66, [v, .func (.func 49) #[] #[]])) h K := by
  obtain ⟨c, rfl, _⟩ := s
  exact call_r (c66 m q hne hlen) (hK _ ⟨m.setStab q _⟩ (m.set q _))
end Go.Proofs.Ytomiejfeclefaaa

set_option linter.unusedSimpArgs false
set_option linter.unusedVariables false
set_option linter.unnecessarySimpa false
set_option maxRecDepth 100000
set_option maxHeartbeats 4000000
namespace Go.Proofs.Ytomiejfeclefaaa
open Go.AM
variable {h g : Heap}
theorem par_x {x : Mach} {l : List Mut} (hB : bothE x l = 0) : Par x (mutd x l) ∧ inP x ⟨x.start, (mutd x l).start⟩ := by
  obtain ⟨hE, h1⟩ := bothE_ok hB
  obtain ⟨e3, e4, e5, e6⟩ := errM_ok hE
  have A := mutd_alk e3 h1
  obtain ⟨_, _, _, a4⟩ := e4
  exact ⟨⟨e3, A.chk e3, e5, by rw [A.ln, A.st, A.ip]; exact e5, A.st, A.ip⟩, a4, A.hs⟩
/-- Killing, of a right mutant. -/
theorem c31 {v y : Value} {x : Mach} {l : List Mut} (s : MacV g v x) (t : L g y l) (hB : bothE x l = 0) : DetP Try.prog 31 [v, y] g fun v' h' => g <+: h' ∧ ∃ b n q, v' = .tuple #[.slice b n q, .int .i64 (difE x (mutd x l) ⟨x.start, (mutd x l).start⟩)] ∧ L h' (.slice b n q) (difW x (mutd x l) ⟨x.start, (mutd x l).start⟩) := by
  refine DetP.freeze ?_
  obtain ⟨tv, rfl, s⟩ := s
  obtain ⟨b0, q0, rfl, _⟩ := s.shape
  obtain ⟨b1, q1, rfl, _⟩ := t.shape
  obtain ⟨P, h0⟩ := par_x hB
  obtain ⟨e1, e2⟩ := bothE_ok hB
  obtain ⟨m1, m2⟩ := mutE_ok e2
  have hsm := small e1
  have m := Mem.start g
  refine w31 ?_
  unfold n31
  have C := fun {h : Heap} {v y : Value} (s : MacV h v x) (t : L h y l) => c50 (g := h) s t (by omega) m2
  obtain ⟨ym, hy⟩ : ∃ ym, ym = mutd x l := ⟨_, rfl⟩
  rw [← hy] at P h0 C
  rw [← hy]
  have D := fun {h : Heap} {v w : Value} (s : MacV h v x) (t : MacV h w ym) => c64 (g := h) s t P h0
  generalize difE x ym ⟨x.start, ym.start⟩ = de at D ⊢
  generalize difW x ym ⟨x.start, ym.start⟩ = dw at D ⊢
  ((with_reducible (refine box_a (by assumption) fun i h z p m => ?_; refine mv_i ?_; refine mv_i ?_));
      (refine ldo_w (by assumption) (by infer_instance) (by with_unfolding_all rfl) ?_);
      (with_reducible (refine mv_i ?_));
      (refine bs_g (bs51_1 _ _ _ _) (by assumption) fun i h p m => ?_))
  refine call_r (Runs.lent (c47 (ls := [l]) ⟨_, rfl, s.lent⟩ (lent1 m (by infer_instance) t rfl))) ?_
  rw [all1, hB]
  ((with_reducible (refine mv_i ?_; refine mv_i ?_; refine neq_h (by first | assumption | decide) ?_; refine cnd_f ?_));
      (refine ldo_w (by assumption) (by infer_instance) (by with_unfolding_all rfl) ?_);
      (refine vb_mac (by assumption) ?_);
      (refine ldo_w (by assumption) (by infer_instance) (by with_unfolding_all rfl) ?_);
      (refine vb_mac (by assumption) ?_);
      (with_reducible (refine mv_i ?_)))
  refine calld_d (C ⟨_, rfl, s.up⟩ t.up) m fun v2 h2 p1 p2 m ⟨b2, q2, n2, e2, hn2, s2⟩ => ?_
  subst e2
  refine new_p p1 ?_
  skip
  refine calld_d (D ⟨_, rfl, s.up⟩ ⟨_, rfl, s2.up⟩) m fun v3 h3 p3 p4 m ⟨b3, n3, q3, e3, s3⟩ => ?_
  subst e3
  refine new_p p3 ?_
  ((with_reducible (refine ex2_0 ?_; refine ex2_1 ?_; refine mv_i ?_; refine mv_i ?_; refine ret2 ?_)))
  exact ⟨m.pre, b3, n3, q3, rfl, s3.frz⟩
theorem c31n {v y : Value} {x : Mach} {l : List Mut} (s : MacV g v x) (t : L g y l) (hB : ¬ bothE x l = 0) : DetP Try.prog 31 [v, y] g fun v' h' => g <+: h' ∧ v' = .tuple #[.slice none 0 0, .int .i64 (bothE x l)] := by
  obtain ⟨tv, rfl, s⟩ := s
  obtain ⟨b0, q0, rfl, _⟩ := s.shape
  obtain ⟨b1, q1, rfl, _⟩ := t.shape
  have m := Mem.start g
  refine w31 ?_
  unfold n31
  ((with_reducible (refine box_a (by assumption) fun i h z p m => ?_; refine mv_i ?_; refine mv_i ?_));
      (refine ldo_w (by assumption) (by infer_instance) (by with_unfolding_all rfl) ?_);
      (with_reducible (refine mv_i ?_));
      (refine bs_g (bs51_1 _ _ _ _) (by assumption) fun i h p m => ?_))
  refine call_r (Runs.lent (c47 (ls := [l]) ⟨_, rfl, s.lent⟩ (lent1 m (by infer_instance) t rfl))) ?_
  rw [all1]
  generalize bothE x l = be at hB ⊢
  ((with_reducible (refine mv_i ?_; refine mv_i ?_; refine neq_n (by first | assumption | decide) ?_; refine cnd_t ?_; refine mv_i ?_; refine mv_i ?_; refine mv_i ?_; refine ret2 ?_)))
  exact ⟨m.pre, rfl⟩
/-- The reference's search for a mutant. -/
theorem c33 {v y : Value} {x : Mach} {l : List Mut} (s : MacV g v x) (t : L g y l) (hB : bothE x l = 0) : DetP Try.prog 33 [v, y] g fun v' h' => g <+: h' ∧ ∃ b1 n1 q1 b2 n2 q2, v' = .tuple #[.slice b1 n1 q1, .bool (srch x (mutd x l) ⟨x.start, (mutd x l).start⟩).fnd.isSome, .slice b2 n2 q2] ∧ L h' (.slice b1 n1 q1) (difW x (mutd x l) ⟨x.start, (mutd x l).start⟩) ∧ L h' (.slice b2 n2 q2) ((srch x (mutd x l) ⟨x.start, (mutd x l).start⟩).ps.map PrX.mk) := by
  refine DetP.freeze ?_
  obtain ⟨tv, rfl, s⟩ := s
  obtain ⟨b0, q0, rfl, _⟩ := s.shape
  obtain ⟨P, h0⟩ := par_x hB
  obtain ⟨e1, e2⟩ := bothE_ok hB
  obtain ⟨m1, m2⟩ := mutE_ok e2
  have hsm := small e1
  have m := Mem.start g
  refine w33 ?_
  unfold n33
  have C := fun {h : Heap} {v y : Value} (s : MacV h v x) (t : L h y l) => c24 (g := h) s t (by omega) m2
  obtain ⟨ym, hy⟩ : ∃ ym, ym = mutd x l := ⟨_, rfl⟩
  rw [← hy] at P h0 C
  rw [← hy]
  have D := fun {h : Heap} {v w : Value} (s : MacV h v x) (t : MacV h w ym) => c67 (g := h) s t P ⟨x.start, ym.start⟩ h0
  generalize (srch x ym ⟨x.start, ym.start⟩).fnd.isSome = bb at D ⊢
  generalize difW x ym ⟨x.start, ym.start⟩ = ww at D ⊢
  generalize (srch x ym ⟨x.start, ym.start⟩).ps.map PrX.mk = pp at D ⊢
  ((with_reducible (refine box_a (by assumption) fun i h z p m => ?_; refine mv_i ?_; refine mv_i ?_; refine mv_i ?_));
      (refine ldo_w (by assumption) (by infer_instance) (by with_unfolding_all rfl) ?_);
      (with_reducible (refine mv_i ?_)))
  refine call_d (C ⟨_, rfl, s.up⟩ t.up) m fun v2 h2 p1 p2 m ⟨b2, q2, n2, e2, hn2, s2⟩ => ?_
  subst e2
  ((with_reducible (refine alloc_z (by assumption) fun i h z p m => ?_));
      (refine st_w (by assumption) (by infer_instance) (by with_unfolding_all rfl) (by with_unfolding_all rfl) (by first | rfl | exact flat_ones (Flat.flat _)) (by infer_instance) fun h p m => ?_);
      (refine ldo_w (by assumption) (by infer_instance) (by with_unfolding_all rfl) ?_);
      (refine ldo_w (by assumption) (by infer_instance) (by with_unfolding_all rfl) ?_);
      (with_reducible (refine fao ?_));
      (refine ldo (by assumption) (q := by infer_instance) (by with_unfolding_all rfl) ?_);
      (with_reducible (refine fao ?_));
      (refine ldo (by assumption) (q := by infer_instance) (by with_unfolding_all rfl) ?_);
      (refine vk_i (bd104_01 _ _) ?_))
  refine call_d (D ⟨_, rfl, s.up⟩ ⟨_, rfl, s2.up⟩) m fun v3 h3 p3 p4 m ⟨b3, n3, q3, b4, n4, q4, e3, s3, s4⟩ => ?_
  subst e3
  ((with_reducible (refine ex3_0 ?_; refine ex3_1 ?_; refine ex3_2 ?_; refine mv_i ?_; refine mv_i ?_; refine mv_i ?_; refine ret3 ?_)))
  exact ⟨m.pre, b3, n3, q3, b4, n4, q4, rfl, s3.frz, s4.frz⟩
theorem prne_i {K : Value → Heap → Prop} {a b : Pr} (h1 : a = b → K (.bool false) g) (h2 : ¬ a = b → K (.bool true) g) : vK (aBin Try.prog .neq 77 (fv a) (fv b)) g K := by
  refine vk_i (v := .bool (!decide (a = b))) (by show (eqSt Try.prog 77 (Flat.cells a).toArray (Flat.cells b).toArray).map (fun r => Value.bool !r) = _; rw [eq77']; rfl) ?_
  by_cases e : a = b
  · subst e; simpa using h1 rfl
  · rw [decide_eq_false e]; exact h2 e
theorem c34 {x y : Value} {xs ys : List Pr} (s : L g x xs) (t : L g y ys) : Runs Try.prog 34 [x, y] g (.bool (decide (xs = ys))) g := by
  have lt := s.lt
  have lt2 := t.lt
  refine DetP.runs (w34 ?_)
  unfold n34
  ((with_reducible (refine mv_i ?_; refine mv_i ?_; refine len_g (by assumption) ?_; refine mv_i ?_; refine len_g (by assumption) ?_; refine neq_i (fun hc => ?_) (fun hc => ?_); refine cnd_f ?_; refine mv_i ?_));
      (rotate_left);
      (with_reducible (refine cnd_t ?_; refine mv_i ?_; refine ret1 ?_));
      (rotate_left))
  · refine loop1 xs.length (fun k h2 => g = h2 ∧ ∀ j, j < k → gt xs j = gt ys j) ⟨rfl, fun j hj => by omega⟩ ?_
    rintro k _ _ hk ⟨rfl, hJ⟩
    ((with_reducible (refine mv_i ?_; refine mv_i ?_; refine len_g (by assumption) ?_; refine lss_i (fun hc => ?_) (fun hc => ?_); refine cnd_t ?_; refine mv_i ?_; refine mv_i ?_));
        (refine idx_d (by assumption) (by with_unfolding_all rfl) (by omega) fun p hp => ?_);
        (refine ldr_w (by assumption) (by with_unfolding_all rfl) ?_);
        (with_reducible (refine vb_f ?_; refine mv_i ?_; refine mv_i ?_));
        (refine idx_d (by assumption) (by with_unfolding_all rfl) (by omega) fun p hp => ?_);
        (refine ldr_w (by assumption) (by with_unfolding_all rfl) ?_);
        (with_reducible (refine vb_f ?_; refine prne_i (fun hc => ?_) (fun hc => ?_); refine cnd_f ?_; refine mv_i ?_; refine inc_i (by omega) ?_; refine mv_i ?_));
        (rotate_left);
        (with_reducible (refine cnd_t ?_; refine mv_i ?_; refine ret1 ?_));
        (rotate_left);
        (with_reducible (refine cnd_f ?_; refine mv_i ?_; refine ret1 ?_));
        (rotate_left))
    · refine next1 (by omega) ⟨rfl, fun j hj => ?_⟩
      by_cases q : j = k
      · subst q; exact hc
      · exact hJ j (by omega)
    · refine ⟨?_, rfl⟩
      rw [decide_eq_false]
      rintro rfl; exact hc rfl
    · refine ⟨?_, rfl⟩
      rw [decide_eq_true]
      exact List.ext_getElem (by omega) fun j h1 h2 => by rw [gt_at h1, gt_at h2]; exact hJ j (by omega)
  · refine ⟨?_, rfl⟩
    rw [decide_eq_false]
    rintro rfl; exact hc rfl
end Go.Proofs.Ytomiejfeclefaaa

set_option linter.unusedSimpArgs false
set_option linter.unusedVariables false
set_option linter.unnecessarySimpa false
set_option maxRecDepth 100000
set_option maxHeartbeats 4000000
namespace Go.Proofs.Ytomiejfeclefaaa
open Go.AM
variable {h g : Heap}
/-! ### the least relation -/
def relP (x y : Mach) (p0 : Pr) : List Pr := if (srch x y p0).fnd = none then srt cmpP (srch x y p0).ps else []
def relC (x y : Mach) (p0 : Pr) : Int := if (srch x y p0).fnd = none then 0 else 23
theorem bfs_pos (x y : Mach) (p0 : Pr) : ∀ k, 0 < (bfs x y p0 k).ps.length
  | 0 => by simp [bfs]
  | k + 1 => by
    have := bfs_pos x y p0 k
    unfold bfs
    split
    · exact Nat.lt_of_lt_of_le this (brow_grow _).1.length_le
    · exact this
theorem c32n {v y : Value} {x : Mach} {l : List Mut} (s : MacV g v x) (t : L g y l) (hB : ¬ bothE x l = 0) : DetP Try.prog 32 [v, y] g fun v' h' => g <+: h' ∧ v' = .tuple #[.slice none 0 0, .int .i64 (bothE x l)] := by
  obtain ⟨tv, rfl, s⟩ := s
  obtain ⟨b0, q0, rfl, _⟩ := s.shape
  obtain ⟨b1, q1, rfl, _⟩ := t.shape
  have m := Mem.start g
  refine w32 ?_
  unfold n32
  ((with_reducible (refine box_a (by assumption) fun i h z p m => ?_; refine mv_i ?_; refine mv_i ?_));
      (refine ldo_w (by assumption) (by infer_instance) (by with_unfolding_all rfl) ?_);
      (with_reducible (refine mv_i ?_));
      (refine bs_g (bs51_1 _ _ _ _) (by assumption) fun i h p m => ?_))
  refine call_r (Runs.lent (c47 (ls := [l]) ⟨_, rfl, s.lent⟩ (lent1 m (by infer_instance) t rfl))) ?_
  rw [all1]
  generalize bothE x l = be at hB ⊢
  ((with_reducible (refine mv_i ?_; refine mv_i ?_; refine neq_n (by first | assumption | decide) ?_; refine cnd_t ?_; refine mv_i ?_; refine mv_i ?_; refine mv_i ?_; refine ret2 ?_)))
  exact ⟨m.pre, rfl⟩
theorem c32 {v y : Value} {x : Mach} {l : List Mut} (s : MacV g v x) (t : L g y l) (hB : bothE x l = 0) : DetP Try.prog 32 [v, y] g fun v' h' => g <+: h' ∧ ∃ b n q, v' = .tuple #[.slice b n q, .int .i64 (relC x (mutd x l) ⟨x.start, (mutd x l).start⟩)] ∧ L h' (.slice b n q) (relP x (mutd x l) ⟨x.start, (mutd x l).start⟩) := by
  refine DetP.freeze ?_
  obtain ⟨tv, rfl, s⟩ := s
  obtain ⟨b0, q0, rfl, _⟩ := s.shape
  obtain ⟨b1, q1, rfl, _⟩ := t.shape
  obtain ⟨P, h0⟩ := par_x hB
  obtain ⟨e1, e2⟩ := bothE_ok hB
  obtain ⟨m1, m2⟩ := mutE_ok e2
  have hsm := small e1
  have m := Mem.start g
  refine w32 ?_
  unfold n32
  have C := fun {h : Heap} {v y : Value} (s : MacV h v x) (t : L h y l) => c50 (g := h) s t (by omega) m2
  obtain ⟨ym, hy⟩ : ∃ ym, ym = mutd x l := ⟨_, rfl⟩
  rw [← hy] at P h0 C
  rw [← hy]
  obtain ⟨⟨a1, a2⟩, ⟨a3, a4⟩, _⟩ := (chk_ok P.cx).1
  have hip : ym.inputs = x.inputs := P.ip
  have hst : ym.states = x.states := P.st
  refine box_a m fun ix hx0 zx p1 m => ?_
  ((with_reducible (refine mv_i ?_; refine mv_i ?_));
      (refine ldo_w (by assumption) (by infer_instance) (by with_unfolding_all rfl) ?_);
      (with_reducible (refine mv_i ?_));
      (refine bs_g (bs51_1 _ _ _ _) (by assumption) fun i h p m => ?_))
  refine call_r (Runs.lent (c47 (ls := [l]) ⟨_, rfl, s.lent⟩ (lent1 m (by infer_instance) t rfl))) ?_
  rw [all1, hB]
  ((with_reducible (refine mv_i ?_; refine mv_i ?_; refine neq_h (by first | assumption | decide) ?_; refine cnd_f ?_));
      (refine ldo_w (by assumption) (by infer_instance) (by with_unfolding_all rfl) ?_);
      (with_reducible (refine mv_i ?_)))
  refine call_d (C ⟨_, rfl, s.up⟩ t.up) m fun v2 h2 p1 p2 m ⟨b2, q2, n2, e2, hn2, s2⟩ => ?_
  subst e2
  refine alloc_z m fun iy hy0 zy py m => ?_
  ((refine st_w (by assumption) (by infer_instance) (by with_unfolding_all rfl) (by with_unfolding_all rfl) (by first | rfl | exact flat_ones (Flat.flat _)) (by infer_instance) fun h p m => ?_);
      (with_reducible (refine fao ?_));
      (refine ldo (by assumption) (q := by infer_instance) (by with_unfolding_all rfl) ?_);
      (with_reducible (refine fao ?_));
      (refine ldo (by assumption) (q := by infer_instance) (by with_unfolding_all rfl) ?_);
      (refine vk_i (bd77_01 _ _) ?_);
      (refine bs_g (bs36_1 _ _) (by assumption) fun i h p m => ?_);
      (with_reducible (refine mv_i ?_; refine mv_i ?_)))
  obtain ⟨hx, rfl⟩ : ∃ q, q = h := ⟨h, rfl⟩
  generalize hp0 : (⟨x.start, ym.start⟩ : Pr) = p0 at *
  refine loop2 1600 (fun k a h => (bfs x ym p0 k).fnd = none ∧ ∃ o1, IsSl a (some o1) (bfs x ym p0 k).ps.length ∧ Prec hx h ∧ Mem g h [⟨some o1, flat (bfs x ym p0 k).ps, 2⟩, ⟨some iy, [.int .i64 ym.states, .int .i64 ym.inputs, .int .i64 ym.outputs, .int .i64 ym.start, .slice b2 n2 q2], zy⟩, ⟨some ix, [.int .i64 x.states, .int .i64 x.inputs, .int .i64 x.outputs, .int .i64 x.start, .slice b0 x.steps.length q0], zx⟩]) ⟨rfl, _, IsSl.some1, ⟨Stab.refl _⟩, m.sub (.cons_cons _ (.cons_cons _ (.cons _ (List.Sublist.refl _))))⟩ ?_
  rintro k a h5 _ hk ⟨hf, o1, hs1, p5, m⟩
  have B0 := BI.all P h0 k
  have hpos := bfs_pos x ym p0 k
  have hend := @srch_end x ym p0 k hk
  have hfnd := fun (n : Nat) => @srch_fnd x ym p0 k n
  have hnext := @bfs_next x ym p0 k
  generalize hS : bfs x ym p0 k = S at *
  have few := B0.few a2
  ((with_reducible (refine mv_i ?_; refine mv_i ?_; refine len_o (by assumption) ?_; refine lss_i (fun hc => ?_) (fun hc => ?_); refine cnd_t ?_; refine fao ?_));
      (refine ldo (by assumption) (q := by infer_instance) (by with_unfolding_all rfl) ?_);
      (with_reducible (refine mv_i ?_));
      (rotate_left);
      (with_reducible (refine cnd_f ?_; refine mv_i ?_));
      (rotate_left))
  · have hkl : k < S.ps.length := by omega
    obtain ⟨⟨r1, r2⟩, r3, r4⟩ := B0.inp _ (gd_mem Df.d hkl)
    change 0 ≤ (gt S.ps k).a at r1
    change (gt S.ps k).a ≤ x.states - 1 at r2
    change 0 ≤ (gt S.ps k).b at r3
    change (gt S.ps k).b ≤ x.states - 1 at r4
    refine loop2 x.inputs.toNat (fun n a h => (brow x ym k S n).fnd = none ∧ ∃ o1, IsSl a (some o1) (brow x ym k S n).ps.length ∧ Prec hx h ∧ Mem g h [⟨some o1, flat (brow x ym k S n).ps, 2⟩, ⟨some iy, [.int .i64 ym.states, .int .i64 ym.inputs, .int .i64 ym.outputs, .int .i64 ym.start, .slice b2 n2 q2], zy⟩, ⟨some ix, [.int .i64 x.states, .int .i64 x.inputs, .int .i64 x.outputs, .int .i64 x.start, .slice b0 x.steps.length q0], zx⟩]) ⟨hf, o1, hs1, ⟨Stb.st⟩, m⟩ ?_
    rintro n a h6 _ hn ⟨hf2, o1, hs1, p6, m⟩
    have B1 := B0.row P hkl n hn
    have hgp := gt_pre (brow_grow (x := x) (y := ym) (i := k) (s := S) n).1 hkl
    have hlen2 := (brow_grow (x := x) (y := ym) (i := k) (s := S) n).1.length_le
    have hfnd2 := hfnd n
    rw [← hgp] at r1 r2 r3 r4
    generalize hQ : brow x ym k S n = Q at *
    have few2 := B1.few a2
    ((with_reducible (refine lss_i (fun hc => ?_) (fun hc => ?_); refine cnd_t ?_));
        (rotate_left);
        (with_reducible (refine cnd_f ?_; refine mv_i ?_; refine inc_i (by omega) ?_; refine mv_i ?_));
        (rotate_left))
    · refine seq_J (fun xs h => ∃ a, xs = [a] ∧ (bst x ym k n Q).fnd = none ∧ ∃ o1, IsSl a (some o1) (bst x ym k n Q).ps.length ∧ Prec hx h ∧ Mem g h [⟨some o1, flat (bst x ym k n Q).ps, 2⟩, ⟨some iy, [.int .i64 ym.states, .int .i64 ym.inputs, .int .i64 ym.outputs, .int .i64 ym.start, .slice b2 n2 q2], zy⟩, ⟨some ix, [.int .i64 x.states, .int .i64 x.inputs, .int .i64 x.outputs, .int .i64 x.start, .slice b0 x.steps.length q0], zx⟩]) ?_ ?_
      · rintro _ h7 ⟨a3, rfl, hf3, rest⟩
        (((with_reducible refine fun (_ : Tmps) => ?_); (try dsimp only [nth]));
            (with_reducible (refine inc_i (by omega) ?_; refine mv_i ?_)))
        refine next2 (by omega) ⟨?_, ?_⟩
        · show (bst x ym k n (brow x ym k S n)).fnd = none
          rw [hQ]; exact hf3
        · show ∃ o1, IsSl a3 (some o1) (bst x ym k n (brow x ym k S n)).ps.length ∧ Prec hx h7 ∧ Mem g h7 [⟨some o1, flat (bst x ym k n (brow x ym k S n)).ps, 2⟩, ⟨some iy, [.int .i64 ym.states, .int .i64 ym.inputs, .int .i64 ym.outputs, .int .i64 ym.start, .slice b2 n2 q2], zy⟩, ⟨some ix, [.int .i64 x.states, .int .i64 x.inputs, .int .i64 x.outputs, .int .i64 x.start, .slice b0 x.steps.length q0], zx⟩]
          rw [hQ]; exact rest
      · intro k' hk'
        ((with_reducible (refine mv_i ?_; refine mv_i ?_));
            (refine ldo_w (by assumption) (by infer_instance) (by with_unfolding_all rfl) ?_);
            (refine vb_mac (by assumption) ?_);
            (with_reducible (refine mv_i ?_; refine mv_i ?_));
            (refine idx_o (by assumption) (by omega) ?_);
            (refine ia_o (by omega) (by omega) ?_);
            (refine ldf_d (by assumption) (by infer_instance) (by with_unfolding_all rfl) (by omega) (by with_unfolding_all exact Nat.le_of_ble_eq_true rfl) (by with_unfolding_all rfl) ?_);
            (refine vb_n (by with_unfolding_all rfl) ?_);
            (with_reducible (refine mv_i ?_)))
        refine calld_r (c52 ⟨_, rfl, s.up⟩ P.cx P.lx (q := (gt Q.ps k).a) (w := (n : Int)) ⟨r1, r2⟩ ⟨by omega, by omega⟩) ?_
        ((with_reducible (refine new_n ?_));
            (refine ldo_w (by assumption) (by infer_instance) (by with_unfolding_all rfl) ?_);
            (refine vb_mac (by assumption) ?_);
            (with_reducible (refine mv_i ?_; refine mv_i ?_));
            (refine idx_o (by assumption) (by omega) ?_);
            (refine ia_o (by omega) (by omega) ?_);
            (refine ldf_d (by assumption) (by infer_instance) (by with_unfolding_all rfl) (by omega) (by with_unfolding_all exact Nat.le_of_ble_eq_true rfl) (by with_unfolding_all rfl) ?_);
            (refine vb_n (by with_unfolding_all rfl) ?_);
            (with_reducible (refine mv_i ?_)))
        refine calld_r (c52 ⟨_, rfl, s2.up⟩ P.cy P.ly (q := (gt Q.ps k).b) (w := (n : Int)) ⟨r3, by omega⟩ ⟨by omega, by omega⟩) ?_
        ((with_reducible (refine new_n ?_; refine alloc_z (by assumption) fun i h z p m => ?_; refine alloc_z (by assumption) fun i h z p m => ?_));
            (refine st_w (by assumption) (by infer_instance) (by with_unfolding_all rfl) (by with_unfolding_all rfl) (by first | rfl | exact flat_ones (Flat.flat _)) (by infer_instance) fun h p m => ?_);
            (with_reducible (refine ⟨trivial, ?_⟩));
            (refine st_w (by assumption) (by infer_instance) (by with_unfolding_all rfl) (by with_unfolding_all rfl) (by first | rfl | exact flat_ones (Flat.flat _)) (by infer_instance) fun h p m => ?_);
            (with_reducible (refine ⟨trivial, ?_⟩; refine fao ?_));
            (refine ldo (by assumption) (q := by infer_instance) (by with_unfolding_all rfl) ?_);
            (with_reducible (refine fao ?_));
            (refine ldo (by assumption) (q := by infer_instance) (by with_unfolding_all rfl) ?_);
            (with_reducible (refine neq_i (fun hc => ?_) (fun hc => ?_); refine cnd_f ?_; refine fao ?_));
            (refine ldo (by assumption) (q := by infer_instance) (by with_unfolding_all rfl) ?_);
            (with_reducible (refine fao ?_));
            (refine ldo (by assumption) (q := by infer_instance) (by with_unfolding_all rfl) ?_);
            (refine vk_i (bd77_01 _ _) ?_);
            (with_reducible (refine alloc_z (by assumption) fun i h z p m => ?_));
            (refine st_w (by assumption) (by infer_instance) (by with_unfolding_all rfl) (by with_unfolding_all rfl) (by first | rfl | exact flat_ones (Flat.flat _)) (by infer_instance) fun h p m => ?_);
            (with_reducible (refine mv_i ?_));
            (refine ldo_w (by assumption) (by infer_instance) (by with_unfolding_all rfl) ?_);
            (rotate_left);
            (with_reducible (refine cnd_t ?_; refine mv_i ?_; refine mv_i ?_; refine ret2 ?_));
            (rotate_left))
        · have hd : same x ym (gt Q.ps k) n := hc
          refine call_r (Runs.lent (c51 (hs1.lent m (by infer_instance) (by omega)) _)) ?_
          ((with_reducible (refine not_d (fun hb => ?_) (fun hb => ?_); refine cnd_f ?_));
              (rotate_left);
              (with_reducible (refine cnd_t ?_; refine mv_i ?_));
              (refine ldo_w (by assumption) (by infer_instance) (by with_unfolding_all rfl) ?_);
              (refine bs_g (bs36_1 _ _) (by assumption) fun i h p m => ?_);
              (rotate_left))
          · have e := bst_met hf2 hd hb
            refine hk' _ _ ⟨a, rfl, by rw [e]; exact hf2, ?_⟩
            rw [e]
            exact ⟨o1, hs1, ⟨Stb.st⟩, m.tail.tail.tail⟩
          · have e := bst_new hf2 hd hb
            refine app_snoc (a := tgt x ym (gt Q.ps k) n) (k2 := 0) (j := 0) m hs1 (by infer_instance) ⟨rfl⟩ rfl ⟨by omega, by omega⟩ fun i3 h9 p9 m => ?_
            simp only [List.set_cons_succ, List.set_cons_zero] at m
            ((with_reducible (refine mv_i ?_)))
            refine hk' _ _ ⟨_, rfl, by rw [e], ?_⟩
            rw [e]
            exact ⟨i3, by rw [List.length_append]; exact IsSl.some0, ⟨Stb.st⟩, m.tail.tail.tail.tail⟩
        · have e := hfnd2 hkl hk (by omega) hf2 hc
          refine ⟨m.pre, none, 0, 0, ?_, ?_⟩
          · rw [relC, e, if_neg (by simp)]
          · rw [relP, e, if_neg (by simp)]; exact L.nil _
    · have e : bfs x ym p0 (k + 1) = Q := by
        rw [hnext hkl, ← hQ]
        congr 1; omega
      refine next2 (by omega) ⟨?_, ?_⟩
      · show (bfs x ym p0 (k + 1)).fnd = none
        rw [e]; exact hf2
      · show ∃ o1, IsSl a (some o1) (bfs x ym p0 (k + 1)).ps.length ∧ Prec hx _ ∧ Mem g _ [⟨some o1, flat (bfs x ym p0 (k + 1)).ps, 2⟩, ⟨some iy, [.int .i64 ym.states, .int .i64 ym.inputs, .int .i64 ym.outputs, .int .i64 ym.start, .slice b2 n2 q2], zy⟩, ⟨some ix, [.int .i64 x.states, .int .i64 x.inputs, .int .i64 x.outputs, .int .i64 x.start, .slice b0 x.steps.length q0], zx⟩]
        rw [e]
        exact ⟨o1, hs1, ⟨Stb.st⟩, m⟩
  · have e := hend (by omega)
    have hsl : (srt cmpP S.ps).length = S.ps.length := by simp [srt]
    refine sort66 m hs1 (k := 0) rfl hpos (by omega) fun h7 p7 m => ?_
    simp only [List.set_cons_zero] at m
    ((with_reducible (refine mv_i ?_; refine mv_i ?_; refine mv_i ?_; refine ret2 ?_)))
    obtain ⟨c1, hac⟩ : ∃ c1, a = .slice (some ⟨o1, 0, none⟩) S.ps.length c1 := by obtain ⟨c1, e, _⟩ := hs1; exact ⟨c1, e⟩
    refine ⟨m.pre, some ⟨o1, 0, none⟩, S.ps.length, c1, by rw [relC, e, if_pos hf, ← hac], ?_⟩
    rw [relP, e, if_pos hf, ← hac]
    exact IsSl.ro (xs := srt cmpP S.ps) (by rw [hsl]; exact hs1) m (k := 0) rfl (by omega)
end Go.Proofs.Ytomiejfeclefaaa
