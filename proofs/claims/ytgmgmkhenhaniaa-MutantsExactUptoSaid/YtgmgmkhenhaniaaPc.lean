import Derived.Test.YtgmgmkhenhaniaaPb
import Derived.Test.YtgmgmkhenhaniaaAnI
import Derived.Test.YtgmgmkhenhaniaaAmW
import Derived.Test.YtgmgmkhenhaniaaProg
import Derived.KernelRfl
import Derived.Test.YtgmgmkhenhaniaaAnJ
import Derived.Test.YtgmgmkhenhaniaaAnK
import Derived.Test.YtgmgmkhenhaniaaPa
import Derived.Test.YtgmgmkhenhaniaaAnL
set_option linter.unusedSimpArgs false
set_option linter.unusedVariables false
set_option linter.unnecessarySimpa false
set_option maxRecDepth 100000
set_option maxHeartbeats 4000000
namespace Go.Proofs.Ytgmgmkhenhaniaa
open Go.AM
variable {h g : Heap}
/-! ### mutants as machines -/
def setOut (l : List Stp) (k : Nat) (v : Int) : List Stp := l.set k { gt l k with out := v }
def setTo (l : List Stp) (k : Nat) (v : Int) : List Stp := l.set k { gt l k with to := v }
def ap1 (x cur : Mach) (m : Mut) : Mach :=
  if m.kind = 0 then { cur with steps := setOut cur.steps m.step.toNat m.to }
  else if m.kind = 1 then { cur with steps := setTo cur.steps m.step.toNat m.to }
  else if m.kind = 2 then { cur with start := m.to }
  else { cur with steps := setTo (setTo cur.steps m.step.toNat (gt x.steps m.to.toNat).to) m.to.toNat (gt x.steps m.step.toNat).to }
def muts (x : Mach) (l : List Mut) (k : Nat) : Mach := (l.take k).foldl (ap1 x) x
def mutd (x : Mach) (l : List Mut) : Mach := l.foldl (ap1 x) x
theorem ap1_same (x cur : Mach) (m : Mut) : (ap1 x cur m).states = cur.states ∧ (ap1 x cur m).inputs = cur.inputs ∧ (ap1 x cur m).outputs = cur.outputs ∧ (ap1 x cur m).steps.length = cur.steps.length := by
  unfold ap1 setOut setTo
  repeat' split
  all_goals simp
theorem muts_next {x : Mach} {l : List Mut} {k : Nat} (hk : k < l.length) : muts x l (k + 1) = ap1 x (muts x l k) (gt l k) := by
  unfold muts
  rw [take_gd Df.d hk, List.foldl_append]
  rfl
theorem muts_same (x : Mach) (l : List Mut) : ∀ k, (muts x l k).states = x.states ∧ (muts x l k).inputs = x.inputs ∧ (muts x l k).outputs = x.outputs ∧ (muts x l k).steps.length = x.steps.length := by
  intro k
  induction k with
  | zero => simp [muts]
  | succ k ih =>
    by_cases hk : k < l.length
    · rw [muts_next hk]
      have := ap1_same x (muts x l k) (gt l k)
      omega
    · have : muts x l (k + 1) = muts x l k := by
        unfold muts
        rw [List.take_of_length_le (by omega), List.take_of_length_le (by omega)]
      rw [this]; exact ih
/-- The program's mutant. -/
theorem c50 {v y : Value} {x : Mach} {l : List Mut} (s : MacV g v x) (t : L g y l) (hb : x.steps.length ≤ 1048576) (hv : ∀ k, k < l.length → (0 ≤ (gt l k).kind ∧ (gt l k).kind ≤ 3) ∧ rightS x (gt l k)) :
    DetP Try.prog 31 [v, y] g fun v' h' => g <+: h' ∧ ∃ b q n, v' = .agg #[.int .i64 (mutd x l).states, .int .i64 (mutd x l).inputs, .int .i64 (mutd x l).outputs, .int .i64 (mutd x l).start, .slice b n q] ∧ n = (mutd x l).steps.length ∧ L h' (.slice b n q) (mutd x l).steps := by
  refine DetP.freeze ?_
  obtain ⟨tv, rfl, s⟩ := s
  have lt := t.lt
  obtain ⟨b0, q0, rfl, _⟩ := s.shape
  have m := Mem.start g
  refine w50 ?_
  unfold n50
  refine box_a m fun i0 h0 z0 p0 m => ?_
  refine alloc_z m fun i1 h1 z1 p1 m => ?_
  ((refine ldwA ?_); (with_reducible (refine alloc_z (by assumption) fun i h z p m => ?_)); (refine st_w (by assumption) (by infer_instance) (by with_unfolding_all rfl) (by with_unfolding_all rfl) (by first | rfl | exact flat_ones (Flat.flat _)) (by infer_instance) fun h p m => ?_); (with_reducible (refine fao ?_)); (refine ldoA ?_))
  refine call_d (c82 s.up hb) m fun y1 h3 p3 p4 _ ⟨o, hs, hn⟩ => ?_
  have m := hn _ _ m
  obtain ⟨a, d, rfl⟩ := hs.isS
  ((with_reducible (refine fao ?_)); (refine sto (by assumption) (q := by infer_instance) (by with_unfolding_all exact Nat.le_of_ble_eq_true rfl) rfl rfl (u := by infer_instance) fun h p m => ?_); (with_reducible (refine mv_i ?_; refine len_g (by assumption) ?_; refine mv_i ?_)))
  refine loop1 l.length (fun k h5 => Prec h h5 ∧ Mem g h5 [⟨o, flat (muts x l k).steps, 4⟩, ⟨some i, [.int .i64 x.states, .int .i64 x.inputs, .int .i64 x.outputs, .int .i64 (muts x l k).start, .slice a x.steps.length d], z⟩, ⟨some i1, [.int .i64 0, .int .i64 0, .int .i64 0, .int .i64 0, .slice none 0 0], z1⟩, ⟨some i0, [.int .i64 x.states, .int .i64 x.inputs, .int .i64 x.outputs, .int .i64 x.start, .slice b0 x.steps.length q0], z0⟩]) ⟨⟨Stab.refl _⟩, m⟩ ?_
  rintro k h5 _ hk ⟨p5, m⟩
  obtain ⟨u1, u2, u3, u4⟩ := muts_same x l k
  have hs0 := hs
  have hs : IsSl (.slice a x.steps.length d) o (muts x l k).steps.length := by rw [u4]; exact hs
  by_cases hkl : k < l.length
  · have hnx := muts_next (x := x) hkl
    obtain ⟨r1, r2⟩ := hv k hkl
    ((with_reducible (refine lss_i (fun hc => ?_) (fun hc => ?_); refine cnd_t ?_)); (rotate_left); (with_reducible (refine cnd_f ?_)); (refine ldwA ?_); (refine st_w (by assumption) (by infer_instance) (by with_unfolding_all rfl) (by with_unfolding_all rfl) (by first | rfl | exact flat_ones (Flat.flat _)) (by infer_instance) fun h p m => ?_); (refine rt_w1 (by assumption) (by infer_instance) (by with_unfolding_all rfl) ?_); (with_reducible (refine ret1 ?_)); (rotate_left))
    · refine seq_J (fun xs h6 => xs = [] ∧ Prec h h6 ∧ Mem g h6 [⟨o, flat (muts x l (k + 1)).steps, 4⟩, ⟨some i, [.int .i64 x.states, .int .i64 x.inputs, .int .i64 x.outputs, .int .i64 (muts x l (k + 1)).start, .slice a x.steps.length d], z⟩, ⟨some i1, [.int .i64 0, .int .i64 0, .int .i64 0, .int .i64 0, .slice none 0 0], z1⟩, ⟨some i0, [.int .i64 x.states, .int .i64 x.inputs, .int .i64 x.outputs, .int .i64 x.start, .slice b0 x.steps.length q0], z0⟩]) ?_ ?_
      · rintro _ h6 ⟨rfl, p6, m⟩
        (((with_reducible refine fun (_ : Tmps) => ?_); (try dsimp only [nth])); (with_reducible (refine inc_i (by omega) ?_; refine mv_i ?_)))
        exact next1 hkl ⟨p6, m⟩
      · intro k' hk'
        have hk2 : (gt l k).kind = 0 ∨ (gt l k).kind = 1 ∨ (gt l k).kind = 2 ∨ (gt l k).kind = 3 := by omega
        rcases hk2 with e | e | e | e
        · rw [rightS, if_pos e] at r2
          obtain ⟨r2, r3⟩ := r2
          have hap : ap1 x (muts x l k) (gt l k) = { muts x l k with steps := setOut (muts x l k).steps (gt l k).step.toNat (gt l k).to } := by rw [ap1, if_pos e]
          rw [hap] at hnx
          ((refine idxA fun p hp => ?_); (refine ldr_w (by assumption) (by with_unfolding_all rfl) ?_); (with_reducible (refine alloc_z (by assumption) fun i h z p m => ?_)); (refine st_w (by assumption) (by infer_instance) (by with_unfolding_all rfl) (by with_unfolding_all rfl) (by first | rfl | exact flat_ones (Flat.flat _)) (by infer_instance) fun h p m => ?_); (with_reducible (refine fao ?_)); (refine ldoA ?_); (with_reducible (refine eql_h (by first | assumption | decide) ?_; refine mv_i ?_; refine cnd_t ?_; refine fao ?_)); (refine ldoA ?_); (with_reducible (refine fao ?_)); (refine ldoA ?_); (with_reducible (refine fao ?_)); (refine ldoA ?_); (refine idx_oz (by assumption) (by omega) (by omega) ?_); (with_reducible (refine fao_e ?_)))
          refine stf_d { gt (muts x l k).steps (gt l k).step.toNat with out := (gt l k).to } m (by infer_instance) rfl (by omega) (by decide) rfl rfl rfl (by infer_instance) fun h p m => ?_
          exact hk' _ _ ⟨rfl, ⟨Stb.st⟩, by rw [hnx]; exact m.tail⟩
        · have n0 : ¬ (gt l k).kind = 0 := by omega
          rw [rightS, if_neg n0, if_pos e] at r2
          obtain ⟨r2, r3⟩ := r2
          have hap : ap1 x (muts x l k) (gt l k) = { muts x l k with steps := setTo (muts x l k).steps (gt l k).step.toNat (gt l k).to } := by rw [ap1, if_neg n0, if_pos e]
          rw [hap] at hnx
          ((refine idxA fun p hp => ?_); (refine ldr_w (by assumption) (by with_unfolding_all rfl) ?_); (with_reducible (refine alloc_z (by assumption) fun i h z p m => ?_)); (refine st_w (by assumption) (by infer_instance) (by with_unfolding_all rfl) (by with_unfolding_all rfl) (by first | rfl | exact flat_ones (Flat.flat _)) (by infer_instance) fun h p m => ?_); (with_reducible (refine fao ?_)); (refine ldoA ?_); (with_reducible (refine eql_n (by first | assumption | decide) ?_; refine mv_i ?_; refine cnd_f ?_; refine eql_h (by first | assumption | decide) ?_; refine mv_i ?_; refine cnd_t ?_; refine fao ?_)); (refine ldoA ?_); (with_reducible (refine fao ?_)); (refine ldoA ?_); (with_reducible (refine fao ?_)); (refine ldoA ?_); (refine idx_oz (by assumption) (by omega) (by omega) ?_); (with_reducible (refine fao_e ?_)))
          refine stf_d { gt (muts x l k).steps (gt l k).step.toNat with to := (gt l k).to } m (by infer_instance) rfl (by omega) (by decide) rfl rfl rfl (by infer_instance) fun h p m => ?_
          exact hk' _ _ ⟨rfl, ⟨Stb.st⟩, by rw [hnx]; exact m.tail⟩
        · have n0 : ¬ (gt l k).kind = 0 := by omega
          have n1 : ¬ (gt l k).kind = 1 := by omega
          have hap : ap1 x (muts x l k) (gt l k) = { muts x l k with start := (gt l k).to } := by rw [ap1, if_neg n0, if_neg n1, if_pos e]
          rw [hap] at hnx
          ((refine idxA fun p hp => ?_); (refine ldr_w (by assumption) (by with_unfolding_all rfl) ?_); (with_reducible (refine alloc_z (by assumption) fun i h z p m => ?_)); (refine st_w (by assumption) (by infer_instance) (by with_unfolding_all rfl) (by with_unfolding_all rfl) (by first | rfl | exact flat_ones (Flat.flat _)) (by infer_instance) fun h p m => ?_); (with_reducible (refine fao ?_)); (refine ldoA ?_); (with_reducible (refine eql_n (by first | assumption | decide) ?_; refine mv_i ?_; refine cnd_f ?_; refine eql_n (by first | assumption | decide) ?_; refine mv_i ?_; refine cnd_f ?_; refine eql_h (by first | assumption | decide) ?_; refine mv_i ?_; refine cnd_t ?_; refine fao ?_)); (refine ldoA ?_); (with_reducible (refine fao ?_)); (refine sto (by assumption) (q := by infer_instance) (by with_unfolding_all exact Nat.le_of_ble_eq_true rfl) rfl rfl (u := by infer_instance) fun h p m => ?_))
          exact hk' _ _ ⟨rfl, ⟨Stb.st⟩, by rw [hnx]; exact m.tail⟩
        · have n0 : ¬ (gt l k).kind = 0 := by omega
          have n1 : ¬ (gt l k).kind = 1 := by omega
          have n2 : ¬ (gt l k).kind = 2 := by omega
          rw [rightS, if_neg n0, if_neg n1, if_neg n2] at r2
          obtain ⟨r2, r3⟩ := r2
          have hap : ap1 x (muts x l k) (gt l k) = { muts x l k with steps := setTo (setTo (muts x l k).steps (gt l k).step.toNat (gt x.steps (gt l k).to.toNat).to) (gt l k).to.toNat (gt x.steps (gt l k).step.toNat).to } := by rw [ap1, if_neg n0, if_neg n1, if_neg n2]
          rw [hap] at hnx
          ((refine idxA fun p hp => ?_); (refine ldr_w (by assumption) (by with_unfolding_all rfl) ?_); (with_reducible (refine alloc_z (by assumption) fun i h z p m => ?_)); (refine st_w (by assumption) (by infer_instance) (by with_unfolding_all rfl) (by with_unfolding_all rfl) (by first | rfl | exact flat_ones (Flat.flat _)) (by infer_instance) fun h p m => ?_); (with_reducible (refine fao ?_)); (refine ldoA ?_); (with_reducible (refine eql_n (by first | assumption | decide) ?_; refine mv_i ?_; refine cnd_f ?_; refine eql_n (by first | assumption | decide) ?_; refine mv_i ?_; refine cnd_f ?_; refine eql_n (by first | assumption | decide) ?_; refine mv_i ?_; refine cnd_f ?_; refine eql_h (by first | assumption | decide) ?_; refine mv_i ?_; refine cnd_t ?_; refine fao ?_)); (refine ldoA ?_); (refine IsSl.vb (by assumption) (by assumption) (by infer_instance) ?_); (with_reducible (refine fao ?_)); (refine ldoA ?_); (refine vbA ?_); (with_reducible (refine fao ?_)); (refine ldoA ?_); (refine IsSl.vb (by assumption) (by assumption) (by infer_instance) ?_); (with_reducible (refine fao ?_)); (refine ldoA ?_); (refine vbA ?_); (with_reducible (refine fao ?_)); (refine ldoA ?_); (with_reducible (refine vb_l (by assumption) ?_; refine fao ?_)); (refine ldoA ?_); (refine vbA ?_); (refine idx_dz (by assumption) (by with_unfolding_all rfl) (by omega) (by omega) fun p hp => ?_); (with_reducible (refine fa_g (by assumption) fun p hp => ?_)); (refine ldgA ?_); (refine vbA ?_); (with_reducible (refine fao ?_)); (refine ldoA ?_); (with_reducible (refine vb_l (by assumption) ?_; refine fao ?_)); (refine ldoA ?_); (refine vbA ?_); (refine idx_dz (by assumption) (by with_unfolding_all rfl) (by omega) (by omega) fun p hp => ?_); (with_reducible (refine fa_g (by assumption) fun p hp => ?_)); (refine ldgA ?_); (refine vbA ?_); (refine idx_oz (by assumption) (by omega) (by omega) ?_); (with_reducible (refine fao_e ?_)))
          refine stf_d { gt (muts x l k).steps (gt l k).step.toNat with to := (gt x.steps (gt l k).to.toNat).to } m (by infer_instance) rfl (by omega) (by decide) rfl rfl rfl (by infer_instance) fun h p m => ?_
          ((refine pd_c (by assumption) (by infer_instance) (by with_unfolding_all rfl) ?_); (refine pd_c (by assumption) (by infer_instance) (by with_unfolding_all rfl) ?_); (with_reducible (refine ⟨trivial, ?_⟩)); (refine idx_oz (by assumption) (by omega) (by omega) ?_); (with_reducible (refine fao_e ?_)))
          have hl2 : (setTo (muts x l k).steps (gt l k).step.toNat (gt x.steps (gt l k).to.toNat).to).length = x.steps.length := by unfold setTo; rw [List.length_set, u4]
          change Mem g h (_ :: ⟨o, flat (setTo (muts x l k).steps (gt l k).step.toNat (gt x.steps (gt l k).to.toNat).to), 4⟩ :: _) at m
          refine stf_d { gt (setTo (muts x l k).steps (gt l k).step.toNat (gt x.steps (gt l k).to.toNat).to) (gt l k).to.toNat with to := (gt x.steps (gt l k).step.toNat).to } m (by infer_instance) rfl (by omega) (by decide) rfl rfl rfl (by infer_instance) fun h p m => ?_
          refine ⟨trivial, ?_⟩
          exact hk' _ _ ⟨rfl, ⟨Stb.st⟩, by rw [hnx]; exact m.tail⟩
    · exfalso; omega
  · ((with_reducible (refine lss_i (fun hc => ?_) (fun hc => ?_); refine cnd_t ?_; refine seq_i ?_)); (refine idxA fun p hp => ?_); (refine ldr_w (by assumption) (by with_unfolding_all rfl) ?_); (with_reducible (refine alloc_z (by assumption) fun i h z p m => ?_)); (refine st_w (by assumption) (by infer_instance) (by with_unfolding_all rfl) (by with_unfolding_all rfl) (by first | rfl | exact flat_ones (Flat.flat _)) (by infer_instance) fun h p m => ?_); (with_reducible (refine fao ?_)); (refine ldoA ?_); (with_reducible (refine eql_i (fun hc => ?_) (fun hc => ?_); refine mv_i ?_; refine cnd_t ?_; refine fao ?_)); (refine ldoA ?_); (with_reducible (refine fao ?_)); (refine ldoA ?_); (with_reducible (refine fao ?_)); (refine ldoA ?_); (refine idx_oz (by assumption) (by omega) (by omega) ?_); (with_reducible (refine fao_e ?_)); (rotate_left); (with_reducible (refine mv_i ?_; refine cnd_f ?_; refine eql_i (fun hc => ?_) (fun hc => ?_); refine mv_i ?_; refine cnd_t ?_; refine fao ?_)); (refine ldoA ?_); (with_reducible (refine fao ?_)); (refine ldoA ?_); (with_reducible (refine fao ?_)); (refine ldoA ?_); (refine idx_oz (by assumption) (by omega) (by omega) ?_); (with_reducible (refine fao_e ?_)); (rotate_left); (with_reducible (refine mv_i ?_; refine cnd_f ?_; refine eql_i (fun hc => ?_) (fun hc => ?_); refine mv_i ?_; refine cnd_t ?_; refine fao ?_)); (refine ldoA ?_); (with_reducible (refine fao ?_)); (refine sto (by assumption) (q := by infer_instance) (by with_unfolding_all exact Nat.le_of_ble_eq_true rfl) rfl rfl (u := by infer_instance) fun h p m => ?_); ((with_reducible refine fun (_ : Tmps) => ?_); (try dsimp only [nth])); (with_reducible (refine inc_i (by omega) ?_; refine mv_i ?_)); (rotate_left); (with_reducible (refine mv_i ?_; refine cnd_f ?_; refine eql_i (fun hc => ?_) (fun hc => ?_); refine mv_i ?_; refine cnd_t ?_; refine fao ?_)); (refine ldoA ?_); (refine IsSl.vb (by assumption) (by assumption) (by infer_instance) ?_); (with_reducible (refine fao ?_)); (refine ldoA ?_); (refine vbA ?_); (with_reducible (refine fao ?_)); (refine ldoA ?_); (refine IsSl.vb (by assumption) (by assumption) (by infer_instance) ?_); (with_reducible (refine fao ?_)); (refine ldoA ?_); (refine vbA ?_); (with_reducible (refine fao ?_)); (refine ldoA ?_); (with_reducible (refine vb_l (by assumption) ?_; refine fao ?_)); (refine ldoA ?_); (refine vbA ?_); (refine idx_dz (by assumption) (by with_unfolding_all rfl) (by omega) (by omega) fun p hp => ?_); (with_reducible (refine fa_g (by assumption) fun p hp => ?_)); (refine ldgA ?_); (refine vbA ?_); (with_reducible (refine fao ?_)); (refine ldoA ?_); (with_reducible (refine vb_l (by assumption) ?_; refine fao ?_)); (refine ldoA ?_); (refine vbA ?_); (refine idx_dz (by assumption) (by with_unfolding_all rfl) (by omega) (by omega) fun p hp => ?_); (with_reducible (refine fa_g (by assumption) fun p hp => ?_)); (refine ldgA ?_); (refine vbA ?_); (refine idx_oz (by assumption) (by omega) (by omega) ?_); (with_reducible (refine fao_e ?_)); (rotate_left); (with_reducible (refine mv_i ?_; refine cnd_f ?_)); ((with_reducible refine fun (_ : Tmps) => ?_); (try dsimp only [nth])); (with_reducible (refine inc_i (by omega) ?_; refine mv_i ?_)); (rotate_left); (with_reducible (refine cnd_f ?_)); (refine ldwA ?_); (refine st_w (by assumption) (by infer_instance) (by with_unfolding_all rfl) (by with_unfolding_all rfl) (by first | rfl | exact flat_ones (Flat.flat _)) (by infer_instance) fun h p m => ?_); (refine rt_w1 (by assumption) (by infer_instance) (by with_unfolding_all rfl) ?_); (with_reducible (refine ret1 ?_)); (rotate_left))
    all_goals (try (exfalso; omega))
    have hkk : k = l.length := by omega
    have e1 : muts x l k = mutd x l := by rw [hkk]; simp [muts, mutd]
    refine ⟨m.pre, a, d, x.steps.length, by rw [← e1, u1, u2, u3], by rw [← e1, u4], ?_⟩
    rw [← e1]
    exact IsSl.ro hs m (k := 0) rfl (by omega)
end Go.Proofs.Ytgmgmkhenhaniaa

set_option linter.unusedSimpArgs false
set_option linter.unusedVariables false
set_option linter.unnecessarySimpa false
set_option maxRecDepth 100000
set_option maxHeartbeats 4000000
namespace Go.Proofs.Ytgmgmkhenhaniaa
open Go.AM
variable {h g : Heap}
theorem mutE_ok {x : Mach} {l : List Mut} (h0 : (mutE x l).2 = 0) : l.length ≤ 4 ∧ ∀ k, k < l.length → (0 ≤ (gt l k).kind ∧ (gt l k).kind ≤ 3) ∧ rightS x (gt l k) := by
  unfold mutE at h0
  split at h0
  · cases h0
  · exact ⟨by omega, fun k hk => ⟨(muE_ok (firstErr_zero h0 k hk)).1, (muE_ok (firstErr_zero h0 k hk)).2.1⟩⟩
theorem bothE_ok {x : Mach} {l : List Mut} (h0 : bothE x l = 0) : errM x = 0 ∧ (mutE x l).2 = 0 := by
  unfold bothE at h0
  split at h0
  · contradiction
  · rename_i h1; exact ⟨by simpa using h1, h0⟩
theorem small {x : Mach} (h0 : errM x = 0) : x.steps.length ≤ 320 := by
  obtain ⟨h1, h2, h3, _⟩ := errM_ok h0
  have := prod_bd h2
  omega
/-- A machine and an error. -/
def MeV (h : Heap) (v : Value) (x : Mach) (e : Int) : Prop := ∃ b q n, v = .tuple #[.agg #[.int .i64 x.states, .int .i64 x.inputs, .int .i64 x.outputs, .int .i64 x.start, .slice b n q], .int .i64 e] ∧ n = x.steps.length ∧ L h (.slice b n q) x.steps
noncomputable def mutC (x : Mach) (l : List Mut) : Mach := if bothE x l ≠ 0 then ⟨0, 0, 0, 0, []⟩ else mutd x l
theorem c22 {v y : Value} {x : Mach} {l : List Mut} (s : MacV g v x) (t : L g y l) : DetP Try.prog 23 [v, y] g fun v' h' => g <+: h' ∧ MeV h' v' (mutC x l) (bothE x l) := by
  refine DetP.freeze ?_
  obtain ⟨tv, rfl, s⟩ := s
  obtain ⟨b0, q0, rfl, _⟩ := s.shape
  obtain ⟨b1, q1, rfl, _⟩ := t.shape
  have m := Mem.start g
  refine w22 ?_
  unfold n22
  ((with_reducible (refine box_a (by assumption) fun i h z p m => ?_; refine alloc_z (by assumption) fun i h z p m => ?_; refine mv_i ?_)); (refine ldwA ?_); (with_reducible (refine mv_i ?_)); (refine bs_g (bs51_1 _ _ _ _) (by assumption) fun i h p m => ?_))
  refine call_r (Runs.lent (c47 (ls := [l]) ⟨_, rfl, s.lent⟩ (lent1 m (by infer_instance) t rfl))) ?_
  rw [all1]
  by_cases h0 : bothE x l = 0
  · obtain ⟨h1, h2⟩ := bothE_ok h0
    obtain ⟨h3, h4⟩ := mutE_ok h2
    have h5 := small h1
    have e : mutC x l = mutd x l := by rw [mutC, if_neg (by simpa using h0)]
    rw [e, h0]
    ((with_reducible (refine mv_i ?_; refine mv_i ?_; refine neq_h (by first | assumption | decide) ?_; refine cnd_f ?_)); (refine ldwA ?_); (with_reducible (refine mv_i ?_)))
    refine call_d (c50 ⟨_, rfl, s.up⟩ t.up (by omega) h4) m fun v2 h2 p1 p2 m ⟨b2, q2, n2, e2, hn2, s2⟩ => ?_
    subst e2
    ((refine st_w (by assumption) (by infer_instance) (by with_unfolding_all rfl) (by with_unfolding_all rfl) (by first | rfl | exact flat_ones (Flat.flat _)) (by infer_instance) fun h p m => ?_); (with_reducible (refine mv_i ?_)); (refine rt_w1 (by assumption) (by infer_instance) (by with_unfolding_all rfl) ?_); (with_reducible (refine ret2 ?_)))
    exact ⟨m.pre, b2, q2, n2, rfl, hn2, s2.up.frz⟩
  · have e : mutC x l = ⟨0, 0, 0, 0, []⟩ := by rw [mutC, if_pos h0]
    rw [e]
    ((with_reducible (refine mv_i ?_; refine mv_i ?_; refine neq_n (by first | assumption | decide) ?_; refine cnd_t ?_)); (refine vk_i (bd24_z) ?_); (with_reducible (refine mv_i ?_)); (refine st_w (by assumption) (by infer_instance) (by with_unfolding_all rfl) (by with_unfolding_all rfl) (by first | rfl | exact flat_ones (Flat.flat _)) (by infer_instance) fun h p m => ?_); (with_reducible (refine mv_i ?_)); (refine rt_w1 (by assumption) (by infer_instance) (by with_unfolding_all rfl) ?_); (with_reducible (refine ret2 ?_)))
    exact ⟨m.pre, _, _, _, rfl, rfl, L.nil _⟩
end Go.Proofs.Ytgmgmkhenhaniaa

set_option linter.unusedSimpArgs false
set_option linter.unusedVariables false
set_option linter.unnecessarySimpa false
set_option maxRecDepth 100000
set_option maxHeartbeats 4000000
namespace Go.Proofs.Ytgmgmkhenhaniaa
open Go.AM
variable {h g : Heap}
/-! ### a mutant is a right machine -/
theorem gst {α : Type} [Df α] {l : List α} {k j : Nat} {a : α} (hk : k < l.length) : gt (l.set k a) j = if k = j then a else gt l j := by
  unfold gt
  by_cases e : k = j
  · subst e; simp [hk]
  · simp [e]
structure Alk (x c : Mach) : Prop where
  st : c.states = x.states
  ip : c.inputs = x.inputs
  ot : c.outputs = x.outputs
  ln : c.steps.length = x.steps.length
  hs : 0 ≤ c.start ∧ c.start ≤ x.states - 1
  fi : ∀ k, k < x.steps.length → (gt c.steps k).frm = (gt x.steps k).frm ∧ (gt c.steps k).inp = (gt x.steps k).inp ∧ inR x (gt c.steps k)
theorem Alk.self {x : Mach} (h0 : (chkM x).2 = 0) : Alk x x := by
  obtain ⟨hh, _, hs⟩ := chk_ok h0
  exact ⟨rfl, rfl, rfl, rfl, hh.2.2.2, fun k hk => ⟨rfl, rfl, (st_ok (hs k hk)).1⟩⟩
theorem setTo_fi {x : Mach} {l : List Stp} (hl : l.length = x.steps.length) (hf : ∀ k, k < x.steps.length → (gt l k).frm = (gt x.steps k).frm ∧ (gt l k).inp = (gt x.steps k).inp ∧ inR x (gt l k))
    {j : Nat} {v : Int} (hj : j < x.steps.length) (hv : 0 ≤ v ∧ v ≤ x.states - 1) : ∀ k, k < x.steps.length → (gt (setTo l j v) k).frm = (gt x.steps k).frm ∧ (gt (setTo l j v) k).inp = (gt x.steps k).inp ∧ inR x (gt (setTo l j v) k) := by
  intro k hk
  unfold setTo
  rw [gst (by omega)]
  by_cases e : j = k
  · subst e
    rw [if_pos rfl]
    obtain ⟨f1, f2, f3, f4, f5, f6⟩ := hf j hj
    exact ⟨f1, f2, f3, hv, f5, f6⟩
  · rw [if_neg e]; exact hf k hk
theorem Alk.ap1 {x c : Mach} (h0 : (chkM x).2 = 0) (a : Alk x c) {m : Mut} (hk : 0 ≤ m.kind ∧ m.kind ≤ 3) (hr : rightS x m) : Alk x (ap1 x c m) := by
  have S := Alk.self h0
  unfold rightS at hr
  unfold Go.Proofs.Ytgmgmkhenhaniaa.ap1
  split at hr
  · rename_i e
    rw [if_pos e]
    obtain ⟨r1, r2⟩ := hr
    refine ⟨a.st, a.ip, a.ot, by simpa [setOut] using a.ln, a.hs, fun k hk => ?_⟩
    show (gt (setOut c.steps _ _) k).frm = _ ∧ _
    unfold setOut
    rw [gst (by rw [a.ln]; omega)]
    by_cases e : m.step.toNat = k
    · subst e
      rw [if_pos rfl]
      obtain ⟨f1, f2, f3, f4, f5, f6⟩ := a.fi _ hk
      exact ⟨f1, f2, f3, f4, f5, r2⟩
    · rw [if_neg e]; exact a.fi k hk
  · rename_i e
    rw [if_neg e]
    split at hr
    · rename_i e
      rw [if_pos e]
      obtain ⟨r1, r2⟩ := hr
      exact ⟨a.st, a.ip, a.ot, by simpa [setTo] using a.ln, a.hs, setTo_fi a.ln a.fi (by omega) r2⟩
    · rename_i e
      rw [if_neg e]
      split at hr
      · rename_i e
        rw [if_pos e]
        exact ⟨a.st, a.ip, a.ot, a.ln, hr.2, a.fi⟩
      · rename_i e
        rw [if_neg e]
        obtain ⟨r1, r2⟩ := hr
        refine ⟨a.st, a.ip, a.ot, by simpa [setTo] using a.ln, a.hs, ?_⟩
        exact setTo_fi (by simpa [setTo] using a.ln) (setTo_fi a.ln a.fi (by omega) (S.fi m.to.toNat (by omega)).2.2.2.1) (by omega) (S.fi m.step.toNat (by omega)).2.2.2.1
theorem Alk.fold {x : Mach} (h0 : (chkM x).2 = 0) : ∀ (l : List Mut) (c : Mach), Alk x c → (∀ m ∈ l, (0 ≤ m.kind ∧ m.kind ≤ 3) ∧ rightS x m) → Alk x (l.foldl (Go.Proofs.Ytgmgmkhenhaniaa.ap1 x) c)
  | [], _, a, _ => a
  | m :: l, _, a, hl => Alk.fold h0 l _ (a.ap1 h0 (hl m (by simp)).1 (hl m (by simp)).2) fun m' h' => hl m' (by simp [h'])
theorem mem_gt {α : Type} [Df α] {l : List α} {p : α} : p ∈ l ↔ ∃ j, j < l.length ∧ gt l j = p := by
  rw [List.mem_iff_getElem]
  constructor
  · rintro ⟨j, hj, e⟩; exact ⟨j, hj, by rw [← gt_at hj]; exact e⟩
  · rintro ⟨j, hj, e⟩; exact ⟨j, hj, by rw [gt_at hj]; exact e⟩
theorem mutd_alk {x : Mach} {l : List Mut} (h0 : (chkM x).2 = 0) (h1 : (mutE x l).2 = 0) : Alk x (mutd x l) := by
  obtain ⟨_, hv⟩ := mutE_ok h1
  refine Alk.fold h0 l x (Alk.self h0) fun m hm => ?_
  obtain ⟨j, hj, rfl⟩ := mem_gt.mp hm
  exact hv j hj
theorem Alk.chk {x c : Mach} (h0 : (chkM x).2 = 0) (a : Alk x c) : (chkM c).2 = 0 := by
  obtain ⟨hh, hl, hs⟩ := chk_ok h0
  obtain ⟨b1, b2, b3, b4⟩ := hh
  have := a.st
  have := a.ip
  have := a.ot
  have := a.ln
  have hI : ∀ t, inR x t → inR c t := by
    intro t ht
    unfold inR at *
    rw [a.st, a.ip, a.ot]; exact ht
  rw [chk_no (x := c)]
  · exact ⟨by omega, by omega, by omega, by have := a.hs; omega⟩
  · rw [a.st, a.ip]; omega
  · intro j hj
    obtain ⟨f1, f2, f3⟩ := a.fi j (by omega)
    refine st_n (hI _ f3) ?_
    rintro ⟨q1, q2⟩
    refine q2 ?_
    obtain ⟨e1, e2, _⟩ := a.fi (j - 1) (by omega)
    have := (st_ok (hs j (by omega))).2 q1
    unfold lexLt at *
    rw [e1, e2, f1, f2]; exact this
/-! ### pairs -/
theorem c83 {y : Value} {l : List Pr} (s : L g y l) (pr : Pr) : Runs Try.prog 70 [y, fv pr] g (.int .i64 (idxOf (fun t => decide (pr = t)) l)) g := by
  have lt := s.lt
  have m := Mem.start g
  refine DetP.forget rfl ?_
  refine w83 ?_
  unfold n83
  refine box_a m fun i h z p m => ?_
  ((with_reducible (refine mv_i ?_; refine mv_i ?_; refine len_g (by assumption) ?_; refine mv_i ?_)))
  refine loop1 l.length (fun k h2 => Prec h h2 ∧ Mem g h2 [⟨some i, Flat.cells pr, z⟩] ∧ ∀ j, j < k → (fun t => decide (pr = t)) (gt l j) = false) ⟨⟨Stab.refl _⟩, m, fun j hj => by omega⟩ ?_
  rintro k h2 _ hk ⟨p2, m, hJ⟩
  ((with_reducible (refine lss_i (fun hc => ?_) (fun hc => ?_); refine cnd_t ?_; refine mv_i ?_; refine mv_i ?_)); (refine ldwA ?_); (with_reducible (refine vb_f ?_; refine mv_i ?_; refine mv_i ?_)); (refine idxA fun p hp => ?_); (refine ldr_w (by assumption) (by with_unfolding_all rfl) ?_); (with_reducible (refine vb_f ?_; refine prq_i (fun hc => ?_) (fun hc => ?_); refine cnd_t ?_; refine mv_i ?_; refine mv_i ?_; refine ret1 ?_)); (rotate_left); (with_reducible (refine cnd_f ?_; refine inc_i (by omega) ?_; refine mv_i ?_)); (rotate_left); (with_reducible (refine cnd_f ?_; refine mv_i ?_; refine ret1 ?_)); (rotate_left))
  · exact ⟨by rw [idxOf_at (p := fun t => decide (pr = t)) hJ (by omega) (decide_eq_true hc)], Mem.pre (by assumption)⟩
  · refine next1 (by omega) ⟨⟨Stb.st⟩, m, fun j hj => ?_⟩
    by_cases q : j = k
    · subst q; exact decide_eq_false hc
    · exact hJ j (by omega)
  · exact ⟨by rw [idxOf_no fun j hj => hJ j (by omega)], Mem.pre (by assumption)⟩
theorem idx_mem {α : Type} [DecidableEq α] [Df α] (p : α) (l : List α) : 0 ≤ idxOf (fun t => decide (p = t)) l ↔ p ∈ l := by
  rw [idxOf_any]
  simp
theorem c51 {y : Value} {l : List Pr} (s : L g y l) (pr : Pr) : Runs Try.prog 46 [y, fv pr] g (.bool (decide (pr ∈ l))) g := by
  have m := Mem.start g
  refine DetP.forget rfl ?_
  refine w51 ?_
  unfold n51
  refine box_a m fun i h z p m => ?_
  ((with_reducible (refine mv_i ?_; refine mv_i ?_)); (refine ldwA ?_))
  refine call_r (c83 s.up pr) ?_
  ((with_reducible (refine geq_i (fun hc => ?_) (fun hc => ?_); refine mv_i ?_; refine ret1 ?_)); (rotate_left); (with_reducible (refine mv_i ?_; refine ret1 ?_)); (rotate_left))
  all_goals
    refine ⟨?_, Mem.pre (by assumption)⟩
    rw [idx_mem] at hc
    first
      | rw [decide_eq_true hc]
      | rw [decide_eq_false hc]
end Go.Proofs.Ytgmgmkhenhaniaa

set_option linter.unusedSimpArgs false
set_option linter.unusedVariables false
set_option linter.unnecessarySimpa false
set_option maxRecDepth 100000
set_option maxHeartbeats 4000000
namespace Go.Proofs.Ytgmgmkhenhaniaa
open Go.AM
variable {h g : Heap}
/-! ### the search for a word by which two machines differ -/
def stO (x : Mach) (q w : Int) : Stp := gt x.steps (q * x.inputs + w).toNat
def inP (x : Mach) (p : Pr) : Prop := (0 ≤ p.a ∧ p.a ≤ x.states - 1) ∧ (0 ≤ p.b ∧ p.b ≤ x.states - 1)
instance (x : Mach) (p : Pr) : Decidable (inP x p) := by unfold inP; infer_instance
structure BS where
  ps : List Pr
  ws : List (List Int)
  fnd : Option (List Int)
def tgt (x y : Mach) (p : Pr) (n : Int) : Pr := ⟨(stO x p.a n).to, (stO y p.b n).to⟩
def same (x y : Mach) (p : Pr) (n : Int) : Prop := (stO x p.a n).out = (stO y p.b n).out
instance (x y : Mach) (p : Pr) (n : Int) : Decidable (same x y p n) := by unfold same; infer_instance
def wrd (s : BS) (i n : Nat) : List Int := s.ws.getD i [] ++ [(n : Int)]
def bst (x y : Mach) (i n : Nat) (s : BS) : BS :=
  if s.fnd.isSome then s
  else if ¬ same x y (gt s.ps i) n then { s with fnd := some (wrd s i n) }
  else if tgt x y (gt s.ps i) n ∈ s.ps then s
  else ⟨s.ps ++ [tgt x y (gt s.ps i) n], s.ws ++ [wrd s i n], none⟩
def brow (x y : Mach) (i : Nat) (s : BS) : Nat → BS
  | 0 => s
  | n + 1 => bst x y i n (brow x y i s n)
def bfs (x y : Mach) (p0 : Pr) : Nat → BS
  | 0 => ⟨[p0], [[]], none⟩
  | k + 1 => if k < (bfs x y p0 k).ps.length then brow x y k (bfs x y p0 k) x.inputs.toNat else bfs x y p0 k
def srch (x y : Mach) (p0 : Pr) : BS := bfs x y p0 1601
theorem bst_fnd {x y : Mach} {i n : Nat} {s : BS} (hs : s.fnd ≠ none) : bst x y i n s = s := by
  unfold bst; rw [if_pos (by cases h : s.fnd <;> simp_all)]
theorem brow_fnd {x y : Mach} {i : Nat} {s : BS} (hs : s.fnd ≠ none) : ∀ n, brow x y i s n = s
  | 0 => rfl
  | n + 1 => by unfold brow; rw [brow_fnd hs n, bst_fnd hs]
theorem bst_no {x y : Mach} {i n : Nat} {s : BS} (hs : s.fnd = none) (hd : ¬ same x y (gt s.ps i) n) : bst x y i n s = { s with fnd := some (wrd s i n) } := by
  unfold bst; rw [if_neg (by simp [hs]), if_pos hd]
theorem bst_met {x y : Mach} {i n : Nat} {s : BS} (hs : s.fnd = none) (hd : same x y (gt s.ps i) n) (hm : tgt x y (gt s.ps i) n ∈ s.ps) : bst x y i n s = s := by
  unfold bst; rw [if_neg (by simp [hs]), if_neg (by simpa using hd), if_pos hm]
theorem bst_new {x y : Mach} {i n : Nat} {s : BS} (hs : s.fnd = none) (hd : same x y (gt s.ps i) n) (hm : ¬ tgt x y (gt s.ps i) n ∈ s.ps) : bst x y i n s = ⟨s.ps ++ [tgt x y (gt s.ps i) n], s.ws ++ [wrd s i n], none⟩ := by
  unfold bst; rw [if_neg (by simp [hs]), if_neg (by simpa using hd), if_neg hm]
/-- One more row, found before its end. -/
theorem brow_stop {x y : Mach} {i : Nat} {s : BS} {n : Nat} (hn : (brow x y i s n).fnd ≠ none) : ∀ N, n ≤ N → brow x y i s N = brow x y i s n := by
  intro N
  induction N with
  | zero => intro h; have : n = 0 := by omega
            subst this; rfl
  | succ N ih =>
    intro h
    by_cases e : n = N + 1
    · subst e; rfl
    · have := ih (by omega)
      show bst x y i N (brow x y i s N) = _
      rw [this, bst_fnd hn]
/-- What holds of a search between right machines. -/
structure BI (x : Mach) (s : BS) : Prop where
  nd : s.ps.Nodup
  inp : ∀ p ∈ s.ps, inP x p
  len : s.ws.length = s.ps.length
def allP (N : Nat) : List Pr := (List.range N).flatMap fun (a : Nat) => (List.range N).map fun (b : Nat) => (⟨(a : Int), (b : Int)⟩ : Pr)
theorem sum_const (l : List Nat) (N : Nat) : (l.map fun _ => N).sum = l.length * N := by
  induction l with
  | nil => simp
  | cons a l ih => simp [ih, Nat.add_mul]; omega
theorem allP_len (N : Nat) : (allP N).length = N * N := by
  unfold allP
  rw [List.length_flatMap]
  simp only [List.length_map, List.length_range]
  rw [sum_const, List.length_range]
theorem BI.few {x : Mach} {s : BS} (b : BI x s) (hN : x.states ≤ 40) : s.ps.length ≤ 1600 := by
  have h1 := b.nd.length_le_of_subset (l₂ := allP x.states.toNat) fun p hp => by
    obtain ⟨⟨q1, q2⟩, q3, q4⟩ := b.inp p hp
    refine List.mem_flatMap.mpr ⟨p.a.toNat, List.mem_range.mpr (by omega), List.mem_map.mpr ⟨p.b.toNat, List.mem_range.mpr (by omega), ?_⟩⟩
    cases p
    simp only [Pr.mk.injEq] at *
    omega
  rw [allP_len] at h1
  have h2 : x.states.toNat * x.states.toNat ≤ 40 * 40 := Nat.mul_le_mul (by omega) (by omega)
  omega
/-- Right machines beside each other. -/
structure Par (x y : Mach) : Prop where
  cx : (chkM x).2 = 0
  cy : (chkM y).2 = 0
  lx : (x.steps.length : Int) = x.states * x.inputs
  ly : (y.steps.length : Int) = y.states * y.inputs
  st : y.states = x.states
  ip : y.inputs = x.inputs
theorem stO_ok {x : Mach} (h0 : (chkM x).2 = 0) (hl : (x.steps.length : Int) = x.states * x.inputs) {q w : Int} (hq : 0 ≤ q ∧ q ≤ x.states - 1) (hw : 0 ≤ w ∧ w ≤ x.inputs - 1) : inR x (stO x q w) := by
  obtain ⟨e1, e2, _⟩ := full_at h0 hl hq hw
  exact (st_ok ((chk_ok h0).2.2 _ e2)).1
theorem Par.tgt {x y : Mach} (P : Par x y) {p : Pr} (hp : inP x p) {n : Nat} (hn : n < x.inputs.toNat) : inP x (Go.Proofs.Ytgmgmkhenhaniaa.tgt x y p n) := by
  have h1 := stO_ok P.cx P.lx hp.1 (w := (n : Int)) ⟨by omega, by omega⟩
  have h2 := stO_ok P.cy P.ly (q := p.b) (by rw [P.st]; exact hp.2) (w := (n : Int)) ⟨by omega, by rw [P.ip]; omega⟩
  have h3 := h2.2.1
  rw [P.st] at h3
  exact ⟨h1.2.1, h3⟩
theorem BI.step {x y : Mach} (P : Par x y) {s : BS} (b : BI x s) {i n : Nat} (hi : i < s.ps.length) (hn : n < x.inputs.toNat) : BI x (bst x y i n s) := by
  unfold bst
  split
  · exact b
  · split
    · exact ⟨b.nd, b.inp, b.len⟩
    · split
      · exact b
      · rename_i hm
        refine ⟨?_, ?_, by simp [b.len]⟩
        · rw [List.nodup_append]
          exact ⟨b.nd, by simp, by intro a ha c hc e; subst e; rw [List.mem_singleton] at hc; rw [hc] at ha; exact hm ha⟩
        · intro p hp
          rcases List.mem_append.mp hp with hp | hp
          · exact b.inp p hp
          · rw [List.mem_singleton] at hp; subst hp
            exact P.tgt (b.inp _ (gd_mem _ hi)) hn
theorem bst_grow {x y : Mach} {i n : Nat} {s : BS} : s.ps <+: (bst x y i n s).ps ∧ s.ws <+: (bst x y i n s).ws := by
  unfold bst
  split
  · exact ⟨List.prefix_refl _, List.prefix_refl _⟩
  · split
    · exact ⟨List.prefix_refl _, List.prefix_refl _⟩
    · split
      · exact ⟨List.prefix_refl _, List.prefix_refl _⟩
      · exact ⟨List.prefix_append _ _, List.prefix_append _ _⟩
theorem brow_grow {x y : Mach} {i : Nat} {s : BS} : ∀ n, s.ps <+: (brow x y i s n).ps ∧ s.ws <+: (brow x y i s n).ws
  | 0 => ⟨List.prefix_refl _, List.prefix_refl _⟩
  | n + 1 => ⟨(brow_grow n).1.trans bst_grow.1, (brow_grow n).2.trans bst_grow.2⟩
theorem BI.row {x y : Mach} (P : Par x y) {s : BS} (b : BI x s) {i : Nat} (hi : i < s.ps.length) : ∀ n, n ≤ x.inputs.toNat → BI x (brow x y i s n)
  | 0, _ => b
  | n + 1, h => (BI.row P b hi n (by omega)).step P (Nat.lt_of_lt_of_le hi (brow_grow n).1.length_le) (by omega)
theorem BI.all {x y : Mach} (P : Par x y) {p0 : Pr} (h0 : inP x p0) : ∀ k, BI x (bfs x y p0 k)
  | 0 => ⟨by simp [bfs], by intro p hp; simp [bfs] at hp; subst hp; exact h0, rfl⟩
  | k + 1 => by
    unfold bfs
    split
    · rename_i h; exact (BI.all P h0 k).row P h _ (Nat.le_refl _)
    · exact BI.all P h0 k
/-- Where it has come to an end. -/
theorem bfs_end {x y : Mach} {p0 : Pr} {k : Nat} (h : (bfs x y p0 k).fnd ≠ none ∨ (bfs x y p0 k).ps.length ≤ k) : ∀ m, k ≤ m → bfs x y p0 m = bfs x y p0 k := by
  intro m
  induction m with
  | zero => intro hm; have : k = 0 := by omega
            subst this; rfl
  | succ m ih =>
    intro hm
    by_cases e : k = m + 1
    · subst e; rfl
    · have := ih (by omega)
      show (if m < (bfs x y p0 m).ps.length then _ else _) = _
      rw [this]
      split
      · rcases h with h | h
        · exact brow_fnd h _
        · omega
      · rfl
theorem srch_end {x y : Mach} {p0 : Pr} {k : Nat} (hk : k ≤ 1600) (h : (bfs x y p0 k).ps.length ≤ k) : srch x y p0 = bfs x y p0 k := bfs_end (.inr h) 1601 (by omega)
/-- It has found a word. -/
theorem srch_fnd {x y : Mach} {p0 : Pr} {k n : Nat} (hk : k < (bfs x y p0 k).ps.length) (hk2 : k ≤ 1600) (hn : n < x.inputs.toNat) (h0 : (brow x y k (bfs x y p0 k) n).fnd = none)
    (hd : ¬ same x y (gt (brow x y k (bfs x y p0 k) n).ps k) n) : srch x y p0 = { brow x y k (bfs x y p0 k) n with fnd := some (wrd (brow x y k (bfs x y p0 k) n) k n) } := by
  have e1 : brow x y k (bfs x y p0 k) (n + 1) = { brow x y k (bfs x y p0 k) n with fnd := some (wrd (brow x y k (bfs x y p0 k) n) k n) } := bst_no h0 hd
  have e2 : bfs x y p0 (k + 1) = brow x y k (bfs x y p0 k) (n + 1) := by
    show (if k < (bfs x y p0 k).ps.length then _ else _) = _
    rw [if_pos hk]
    exact brow_stop (by rw [e1]; simp) _ (by omega)
  have e3 := bfs_end (x := x) (y := y) (p0 := p0) (k := k + 1) (.inl (by rw [e2, e1]; simp)) 1601 (by omega)
  rw [srch, e3, e2, e1]
theorem bfs_next {x y : Mach} {p0 : Pr} {k : Nat} (hk : k < (bfs x y p0 k).ps.length) : bfs x y p0 (k + 1) = brow x y k (bfs x y p0 k) x.inputs.toNat := by
  show (if k < (bfs x y p0 k).ps.length then _ else _) = _
  rw [if_pos hk]
end Go.Proofs.Ytgmgmkhenhaniaa

set_option linter.unusedSimpArgs false
set_option linter.unusedVariables false
set_option linter.unnecessarySimpa false
set_option maxRecDepth 100000
set_option maxHeartbeats 4000000
namespace Go.Proofs.Ytgmgmkhenhaniaa
open Go.AM
variable {h g : Heap}
/-! ### relations -/


def prE (x : Mach) (ps : List Pr) (k : Nat) : Int :=
  if ¬ inP x (gt ps k) then 3 else if 0 < k ∧ 0 ≤ cmpP (gt ps (k - 1)) (gt ps k) then 14 else 0

def okP (x y : Mach) (ps : List Pr) (p : Pr) (w : Int) : Prop := (stO x p.a w).out = (stO y p.b w).out ∧ (⟨(stO x p.a w).to, (stO y p.b w).to⟩ : Pr) ∈ ps
open Classical in
noncomputable def prf (x y : Mach) (ps : List Pr) (k : Nat) : Int := if ∀ w : Nat, w < x.inputs.toNat → okP x y ps (gt ps k) w then 0 else 30
noncomputable def relE (x y : Mach) (ps : List Pr) : Nat × Int :=
  if (firstErr (prE x ps) ps.length).2 ≠ 0 then firstErr (prE x ps) ps.length
  else if ¬ (⟨x.start, y.start⟩ : Pr) ∈ ps then (0, 11)
  else if (firstErr (prf x y ps) ps.length).2 ≠ 0 then firstErr (prf x y ps) ps.length else (ps.length, 0)
theorem pr_r {x : Mach} {ps : List Pr} {k : Nat} (h : ¬ inP x (gt ps k)) : prE x ps k = 3 := by rw [prE, if_pos h]
theorem pr_o {x : Mach} {ps : List Pr} {k : Nat} (h : inP x (gt ps k)) (h1 : 0 < k ∧ 0 ≤ cmpP (gt ps (k - 1)) (gt ps k)) : prE x ps k = 14 := by rw [prE, if_neg (by simpa using h), if_pos h1]
theorem pr_n {x : Mach} {ps : List Pr} {k : Nat} (h : inP x (gt ps k)) (h1 : ¬ (0 < k ∧ 0 ≤ cmpP (gt ps (k - 1)) (gt ps k))) : prE x ps k = 0 := by rw [prE, if_neg (by simpa using h), if_neg h1]
theorem pr_ok {x : Mach} {ps : List Pr} {k : Nat} (h : prE x ps k = 0) : inP x (gt ps k) := by
  unfold prE at h
  split at h
  · cases h
  · rename_i q; simpa using q
theorem rel_a {x y : Mach} {ps : List Pr} {k : Nat} {e : Int} (hE : prE x ps k = e) (hJ : ∀ j, j < k → prE x ps j = 0) (hk : k < ps.length) (he : e ≠ 0) : relE x y ps = (k, e) := by
  subst hE
  rw [relE, firstErr_at hJ hk he, if_pos he]
theorem rel_m {x y : Mach} {ps : List Pr} (hJ : ∀ j, j < ps.length → prE x ps j = 0) (hm : ¬ (⟨x.start, y.start⟩ : Pr) ∈ ps) : relE x y ps = (0, 11) := by
  rw [relE, firstErr_no hJ, if_neg (by simp), if_pos hm]
theorem rel_p {x y : Mach} {ps : List Pr} {k w : Nat} (hJ : ∀ j, j < ps.length → prE x ps j = 0) (hm : (⟨x.start, y.start⟩ : Pr) ∈ ps) (hP : ∀ j, j < k → prf x y ps j = 0) (hk : k < ps.length) (hw : w < x.inputs.toNat) (hn : ¬ okP x y ps (gt ps k) w) : relE x y ps = (k, 30) := by
  have hp : prf x y ps k = 30 := by rw [prf, if_neg]; exact fun q => hn (q w hw)
  rw [relE, firstErr_no hJ, if_neg (by simp), if_neg (by simpa using hm), firstErr_at hP hk (by rw [hp]; decide), hp, if_pos (by simp)]
theorem rel_n {x y : Mach} {ps : List Pr} (hJ : ∀ j, j < ps.length → prE x ps j = 0) (hm : (⟨x.start, y.start⟩ : Pr) ∈ ps) (hP : ∀ j, j < ps.length → prf x y ps j = 0) : relE x y ps = (ps.length, 0) := by
  rw [relE, firstErr_no hJ, if_neg (by simp), if_neg (by simpa using hm), firstErr_no hP, if_neg (by simp)]
theorem prf_no {x y : Mach} {ps : List Pr} {k n : Nat} (hn : x.inputs.toNat ≤ n) (hw : ∀ w, w < n → okP x y ps (gt ps k) (w : Int)) : prf x y ps k = 0 := by
  rw [prf, if_pos fun w h => hw w (by omega)]
theorem c16 {v y z : Value} {x : Mach} {l : List Mut} {ps : List Pr} (s : MacV g v x) (t : L g y l) (r : L g z ps) :
    Runs Try.prog 28 [v, y, z] g (if bothE x l ≠ 0 then mk2 0 (bothE x l) else mk2 (relE x (mutd x l) ps).1 (relE x (mutd x l) ps).2) g := by
  obtain ⟨tv, rfl, s⟩ := s
  have lt := r.lt
  obtain ⟨b0, q0, rfl, _⟩ := s.shape
  obtain ⟨b1, q1, rfl, _⟩ := t.shape
  have m := Mem.start g
  refine DetP.forget (by split <;> rfl) ?_
  refine w16 ?_
  unfold n16
  refine box_a m fun i0 h0 z0 p0 m => ?_
  ((with_reducible (refine mv_i ?_; refine mv_i ?_)); (refine ldwA ?_); (with_reducible (refine mv_i ?_)); (refine bs_g (bs51_1 _ _ _ _) (by assumption) fun i h p m => ?_))
  refine call_r (Runs.lent (c47 (ls := [l]) ⟨_, rfl, s.lent⟩ (lent1 m (by infer_instance) t rfl))) ?_
  rw [all1]
  by_cases hB : bothE x l = 0
  · obtain ⟨e1, e2⟩ := bothE_ok hB
    obtain ⟨e3, e4, e5, e6⟩ := errM_ok e1
    obtain ⟨m1, m2⟩ := mutE_ok e2
    have hsm := small e1
    have hA := mutd_alk e3 e2
    have hAc := hA.chk e3
    have C := fun {h : Heap} {v y : Value} (s : MacV h v x) (t : L h y l) => c50 (g := h) s t (by omega) m2
    obtain ⟨ym, hy⟩ : ∃ ym, ym = mutd x l := ⟨_, rfl⟩
    rw [← hy] at hA hAc C
    rw [← hy, hB]
    obtain ⟨y1, y2, y3, y4, y5, _⟩ := hA
    have hyl : (ym.steps.length : Int) = ym.states * ym.inputs := by rw [y4, y1, y2]; exact e5
    obtain ⟨a1, a2, a3, a4⟩ := e4
    rw [if_neg (by simp)]
    ((with_reducible (refine mv_i ?_; refine mv_i ?_; refine neq_h (by first | assumption | decide) ?_; refine cnd_f ?_; refine mv_i ?_; refine len_g (by assumption) ?_; refine mv_i ?_)))
    refine loop1 ps.length (fun k h2 => Prec h h2 ∧ Mem g h2 [⟨some i0, [.int .i64 x.states, .int .i64 x.inputs, .int .i64 x.outputs, .int .i64 x.start, .slice b0 x.steps.length q0], z0⟩] ∧ ∀ j, j < k → prE x ps j = 0) ⟨⟨Stab.refl _⟩, m.sub (by simp), fun j hj => by omega⟩ ?_
    rintro k h2 _ hk ⟨p2, m, hJ⟩
    by_cases hkl : k < ps.length
    · by_cases hr : inP x (gt ps k)
      · have hr' := hr
        obtain ⟨⟨r1, r2⟩, r3, r4⟩ := hr
        ((with_reducible (refine lss_i (fun hc => ?_) (fun hc => ?_); refine cnd_t ?_; refine mv_i ?_)); (refine idxA fun p hp => ?_); (refine ldr_w (by assumption) (by with_unfolding_all rfl) ?_); (with_reducible (refine alloc_z (by assumption) fun i h z p m => ?_; refine mv_i ?_)); (refine st_w (by assumption) (by infer_instance) (by with_unfolding_all rfl) (by with_unfolding_all rfl) (by first | rfl | exact flat_ones (Flat.flat _)) (by infer_instance) fun h p m => ?_); (refine ia_o (by omega) (by omega) ?_); (refine ldoA ?_); (with_reducible (refine fao ?_)); (refine ldoA ?_); (with_reducible (refine sub_a (by assumption) (by decide) (by decide) ?_)); (refine call_r (c48 _ _ _) ?_); (with_reducible (refine not_d (fun hb => ?_) (fun hb => ?_); refine mv_i ?_; refine gd_ff ?_)); (refine ia_o (by omega) (by omega) ?_); (with_reducible (refine gd_ff ?_)); (refine ldoA ?_); (with_reducible (refine gd_ff ?_; refine fao ?_; refine gd_ff ?_)); (refine ldoA ?_); (with_reducible (refine gd_ff ?_; refine sub_a (by assumption) (by decide) (by decide) ?_; refine gd_ff ?_)); (refine call_r (c48 _ _ _) ?_); (with_reducible (refine gd_ff ?_; refine not_d (fun hb => ?_) (fun hb => ?_); refine pick_f ?_; refine cnd_f ?_; refine mv_i ?_; refine gtr_i (fun hc => ?_) (fun hc => ?_); refine mv_i ?_; refine gd_tt ?_; refine mv_i ?_; refine gd_tt ?_; refine mv_i ?_; refine gd_tt ?_; refine sub_j (by omega) (by omega) ?_; refine gd_tt ?_)); (refine idx_dp (by assumption) (by with_unfolding_all rfl) (by omega) (by omega) fun p hp => ?_); (with_reducible (refine gd_tt ?_)); (refine ldr_w (by assumption) (by with_unfolding_all rfl) ?_); (with_reducible (refine vb_f ?_; refine gd_tt ?_)); (refine ldwA ?_); (with_reducible (refine vb_f ?_; refine gd_tt ?_)); (refine calld_r (c49 _ _) ?_); (with_reducible (refine new_n ?_; refine gd_tt ?_; refine geq_i (fun hc => ?_) (fun hc => ?_); refine pick_t ?_; refine cnd_t ?_; refine mv_i ?_; refine mv_i ?_; refine mv_i ?_; refine ret2 ?_)); (rotate_left); (with_reducible (refine pick_t ?_; refine cnd_f ?_; refine inc_i (by omega) ?_; refine mv_i ?_)); (rotate_left); (with_reducible (refine mv_i ?_; refine gd_ft ?_; refine gd_ft ?_; refine gd_ft ?_; refine gd_ft ?_; refine gd_ft ?_; refine gd_ft ?_; refine gd_ft ?_; refine gd_ft ?_; refine pick_f ?_; refine cnd_f ?_; refine inc_i (by omega) ?_; refine mv_i ?_)); (rotate_left); (with_reducible (refine pick_f ?_; refine cnd_t ?_; refine mv_i ?_; refine mv_i ?_; refine mv_i ?_; refine ret2 ?_)); (rotate_left); (with_reducible (refine mv_i ?_; refine gd_tf ?_; refine gd_tf ?_; refine gd_tf ?_; refine gd_tf ?_; refine gd_tf ?_; refine gd_tf ?_; refine gd_tf ?_; refine pick_t ?_; refine cnd_t ?_; refine mv_i ?_; refine mv_i ?_; refine mv_i ?_; refine ret2 ?_)); (rotate_left); (with_reducible (refine cnd_f ?_)); (refine ldwA ?_); (with_reducible (refine mv_i ?_)); (rotate_left))
        all_goals first
          | (refine next1 hkl ⟨⟨Stb.st⟩, m.sub (by simp), up_no (pr_n hr' ?_) hJ⟩
             rintro ⟨u1, u2⟩; omega)
          | (rw [rel_a (pr_o hr' ⟨by omega, by omega⟩) hJ hkl (by decide)]
             exact ⟨rfl, Mem.pre (by assumption)⟩)
          | (exfalso; omega)
      · ((with_reducible (refine lss_i (fun hc => ?_) (fun hc => ?_); refine cnd_t ?_; refine mv_i ?_)); (refine idxA fun p hp => ?_); (refine ldr_w (by assumption) (by with_unfolding_all rfl) ?_); (with_reducible (refine alloc_z (by assumption) fun i h z p m => ?_; refine mv_i ?_)); (refine st_w (by assumption) (by infer_instance) (by with_unfolding_all rfl) (by with_unfolding_all rfl) (by first | rfl | exact flat_ones (Flat.flat _)) (by infer_instance) fun h p m => ?_); (refine ia_o (by omega) (by omega) ?_); (refine ldoA ?_); (with_reducible (refine fao ?_)); (refine ldoA ?_); (with_reducible (refine sub_a (by assumption) (by decide) (by decide) ?_)); (refine call_r (c48 _ _ _) ?_); (with_reducible (refine not_d (fun hb => ?_) (fun hb => ?_); refine mv_i ?_; refine gd_ff ?_)); (refine ia_o (by omega) (by omega) ?_); (with_reducible (refine gd_ff ?_)); (refine ldoA ?_); (with_reducible (refine gd_ff ?_; refine fao ?_; refine gd_ff ?_)); (refine ldoA ?_); (with_reducible (refine gd_ff ?_; refine sub_a (by assumption) (by decide) (by decide) ?_; refine gd_ff ?_)); (refine call_r (c48 _ _ _) ?_); (with_reducible (refine gd_ff ?_; refine not_d (fun hb => ?_) (fun hb => ?_); refine pick_f ?_; refine cnd_f ?_; refine mv_i ?_; refine gtr_i (fun hc => ?_) (fun hc => ?_); refine mv_i ?_; refine gd_tt ?_; refine mv_i ?_; refine gd_tt ?_; refine mv_i ?_; refine gd_tt ?_; refine sub_j (by omega) (by omega) ?_; refine gd_tt ?_)); (refine idx_dp (by assumption) (by with_unfolding_all rfl) (by omega) (by omega) fun p hp => ?_); (with_reducible (refine gd_tt ?_)); (refine ldr_w (by assumption) (by with_unfolding_all rfl) ?_); (with_reducible (refine vb_f ?_; refine gd_tt ?_)); (refine ldwA ?_); (with_reducible (refine vb_f ?_; refine gd_tt ?_)); (refine calld_r (c49 _ _) ?_); (with_reducible (refine new_n ?_; refine gd_tt ?_; refine geq_i (fun hc => ?_) (fun hc => ?_); refine pick_t ?_; refine cnd_t ?_; refine mv_i ?_; refine mv_i ?_; refine mv_i ?_; refine ret2 ?_)); (rotate_left); (with_reducible (refine pick_t ?_; refine cnd_f ?_; refine inc_i (by omega) ?_; refine mv_i ?_)); (rotate_left); (with_reducible (refine mv_i ?_; refine gd_ft ?_; refine gd_ft ?_; refine gd_ft ?_; refine gd_ft ?_; refine gd_ft ?_; refine gd_ft ?_; refine gd_ft ?_; refine gd_ft ?_; refine pick_f ?_; refine cnd_f ?_; refine inc_i (by omega) ?_; refine mv_i ?_)); (rotate_left); (with_reducible (refine pick_f ?_; refine cnd_t ?_; refine mv_i ?_; refine mv_i ?_; refine mv_i ?_; refine ret2 ?_)); (rotate_left); (with_reducible (refine mv_i ?_; refine gd_tf ?_; refine gd_tf ?_; refine gd_tf ?_; refine gd_tf ?_; refine gd_tf ?_; refine gd_tf ?_; refine gd_tf ?_; refine pick_t ?_; refine cnd_t ?_; refine mv_i ?_; refine mv_i ?_; refine mv_i ?_; refine ret2 ?_)); (rotate_left); (with_reducible (refine cnd_f ?_)); (refine ldwA ?_); (with_reducible (refine mv_i ?_)); (rotate_left))
        all_goals first
          | (rw [rel_a (pr_r hr) hJ hkl (by decide)]
             exact ⟨rfl, Mem.pre (by assumption)⟩)
          | (exact (hr ⟨by assumption, by assumption⟩).elim)
          | (exfalso; omega)
    · have hkk : k = ps.length := by omega
      subst hkk
      ((with_reducible (refine lss_i (fun hc => ?_) (fun hc => ?_); refine cnd_t ?_; refine mv_i ?_)); (refine idxA fun p hp => ?_); (refine ldr_w (by assumption) (by with_unfolding_all rfl) ?_); (with_reducible (refine alloc_z (by assumption) fun i h z p m => ?_; refine mv_i ?_)); (refine st_w (by assumption) (by infer_instance) (by with_unfolding_all rfl) (by with_unfolding_all rfl) (by first | rfl | exact flat_ones (Flat.flat _)) (by infer_instance) fun h p m => ?_); (refine ia_o (by omega) (by omega) ?_); (refine ldoA ?_); (with_reducible (refine fao ?_)); (refine ldoA ?_); (with_reducible (refine sub_a (by assumption) (by decide) (by decide) ?_)); (refine call_r (c48 _ _ _) ?_); (with_reducible (refine not_d (fun hb => ?_) (fun hb => ?_); refine mv_i ?_; refine gd_ff ?_)); (refine ia_o (by omega) (by omega) ?_); (with_reducible (refine gd_ff ?_)); (refine ldoA ?_); (with_reducible (refine gd_ff ?_; refine fao ?_; refine gd_ff ?_)); (refine ldoA ?_); (with_reducible (refine gd_ff ?_; refine sub_a (by assumption) (by decide) (by decide) ?_; refine gd_ff ?_)); (refine call_r (c48 _ _ _) ?_); (with_reducible (refine gd_ff ?_; refine not_d (fun hb => ?_) (fun hb => ?_); refine pick_f ?_; refine cnd_f ?_; refine mv_i ?_; refine gtr_i (fun hc => ?_) (fun hc => ?_); refine mv_i ?_; refine gd_tt ?_; refine mv_i ?_; refine gd_tt ?_; refine mv_i ?_; refine gd_tt ?_; refine sub_j (by omega) (by omega) ?_; refine gd_tt ?_)); (refine idx_dp (by assumption) (by with_unfolding_all rfl) (by omega) (by omega) fun p hp => ?_); (with_reducible (refine gd_tt ?_)); (refine ldr_w (by assumption) (by with_unfolding_all rfl) ?_); (with_reducible (refine vb_f ?_; refine gd_tt ?_)); (refine ldwA ?_); (with_reducible (refine vb_f ?_; refine gd_tt ?_)); (refine calld_r (c49 _ _) ?_); (with_reducible (refine new_n ?_; refine gd_tt ?_; refine geq_i (fun hc => ?_) (fun hc => ?_); refine pick_t ?_; refine cnd_t ?_; refine mv_i ?_; refine mv_i ?_; refine mv_i ?_; refine ret2 ?_)); (rotate_left); (with_reducible (refine pick_t ?_; refine cnd_f ?_; refine inc_i (by omega) ?_; refine mv_i ?_)); (rotate_left); (with_reducible (refine mv_i ?_; refine gd_ft ?_; refine gd_ft ?_; refine gd_ft ?_; refine gd_ft ?_; refine gd_ft ?_; refine gd_ft ?_; refine gd_ft ?_; refine gd_ft ?_; refine pick_f ?_; refine cnd_f ?_; refine inc_i (by omega) ?_; refine mv_i ?_)); (rotate_left); (with_reducible (refine pick_f ?_; refine cnd_t ?_; refine mv_i ?_; refine mv_i ?_; refine mv_i ?_; refine ret2 ?_)); (rotate_left); (with_reducible (refine mv_i ?_; refine gd_tf ?_; refine gd_tf ?_; refine gd_tf ?_; refine gd_tf ?_; refine gd_tf ?_; refine gd_tf ?_; refine gd_tf ?_; refine pick_t ?_; refine cnd_t ?_; refine mv_i ?_; refine mv_i ?_; refine mv_i ?_; refine ret2 ?_)); (rotate_left); (with_reducible (refine cnd_f ?_)); (refine ldwA ?_); (with_reducible (refine mv_i ?_)); (rotate_left))
      all_goals (try (exfalso; omega))
      refine call_d (C ⟨_, rfl, s.up⟩ t.up) m fun v2 h2 p1 p2 m ⟨b2, q2, n2, e2, hn2, s2⟩ => ?_
      subst e2
      ((with_reducible (refine alloc_z (by assumption) fun i h z p m => ?_)); (refine st_w (by assumption) (by infer_instance) (by with_unfolding_all rfl) (by with_unfolding_all rfl) (by first | rfl | exact flat_ones (Flat.flat _)) (by infer_instance) fun h p m => ?_); (with_reducible (refine mv_i ?_; refine fao ?_)); (refine ldoA ?_); (with_reducible (refine fao ?_)); (refine ldoA ?_); (refine vk_i (bd77_01 _ _) ?_); (refine call_r (c51 (L.up (by assumption)) _) ?_); (with_reducible (refine not_d (fun hb => ?_) (fun hb => ?_); refine cnd_f ?_; refine mv_i ?_; refine len_g (by assumption) ?_; refine mv_i ?_)); (rotate_left); (with_reducible (refine cnd_t ?_; refine mv_i ?_; refine mv_i ?_; refine ret2 ?_)); (rotate_left))
      · obtain ⟨iy, rfl⟩ : ∃ q, q = i := ⟨i, rfl⟩
        obtain ⟨zy, rfl⟩ : ∃ q, q = z := ⟨z, rfl⟩
        refine loop1 ps.length (fun k h2 => Prec h h2 ∧ Mem g h2 [⟨some iy, [.int .i64 ym.states, .int .i64 ym.inputs, .int .i64 ym.outputs, .int .i64 ym.start, .slice b2 n2 q2], zy⟩, ⟨some i0, [.int .i64 x.states, .int .i64 x.inputs, .int .i64 x.outputs, .int .i64 x.start, .slice b0 x.steps.length q0], z0⟩] ∧ ∀ j, j < k → prf x ym ps j = 0) ⟨⟨Stab.refl _⟩, m.sub (by simp), fun j hj => by omega⟩ ?_
        rintro k h3 _ hk ⟨p3, m, hP⟩
        ((with_reducible (refine lss_i (fun hc => ?_) (fun hc => ?_); refine cnd_t ?_; refine mv_i ?_)); (refine idxA fun p hp => ?_); (refine ldr_w (by assumption) (by with_unfolding_all rfl) ?_); (with_reducible (refine alloc_z (by assumption) fun i h z p m => ?_; refine mv_i ?_)); (refine st_w (by assumption) (by infer_instance) (by with_unfolding_all rfl) (by with_unfolding_all rfl) (by first | rfl | exact flat_ones (Flat.flat _)) (by infer_instance) fun h p m => ?_); (with_reducible (refine fao ?_)); (refine ldoA ?_); (with_reducible (refine mv_i ?_)); (rotate_left); (with_reducible (refine cnd_f ?_; refine mv_i ?_; refine len_g (by assumption) ?_; refine mv_i ?_; refine mv_i ?_; refine ret2 ?_)); (rotate_left))
        · have hkl : k < ps.length := by omega
          obtain ⟨⟨r1, r2⟩, r3, r4⟩ := pr_ok (hJ k hkl)
          refine loop1 x.inputs.toNat (fun w h4 => Prec h h4 ∧ Mem g h4 [⟨some i, Flat.cells (gt ps k), z⟩, ⟨some iy, [.int .i64 ym.states, .int .i64 ym.inputs, .int .i64 ym.outputs, .int .i64 ym.start, .slice b2 n2 q2], zy⟩, ⟨some i0, [.int .i64 x.states, .int .i64 x.inputs, .int .i64 x.outputs, .int .i64 x.start, .slice b0 x.steps.length q0], z0⟩] ∧ ∀ j, j < w → okP x ym ps (gt ps k) (j : Int)) ⟨⟨Stab.refl _⟩, m.sub (by simp), fun j hj => by omega⟩ ?_
          rintro w h4 _ hw ⟨p4, m, hW⟩
          ((with_reducible (refine lss_i (fun hc => ?_) (fun hc => ?_); refine cnd_t ?_; refine mv_i ?_; refine mv_i ?_)); (refine ldwA ?_); (refine vb_mac (by assumption) ?_); (refine ia_o (by omega) (by omega) ?_); (refine ldoA ?_); (refine vbA ?_); (with_reducible (refine mv_i ?_)); (rotate_left); (with_reducible (refine cnd_f ?_; refine inc_i (by omega) ?_; refine mv_i ?_)); (rotate_left))
          · refine calld_r (c52 ⟨_, rfl, s.up⟩ e3 e5 (q := (gt ps k).a) (w := (w : Int)) ⟨r1, r2⟩ ⟨by omega, by omega⟩) ?_
            ((with_reducible (refine new_n ?_)); (refine ldwA ?_); (refine vb_mac (by assumption) ?_); (refine ia_o (by omega) (by omega) ?_); (refine ldoA ?_); (refine vbA ?_); (with_reducible (refine mv_i ?_)))
            refine calld_r (c52 ⟨_, rfl, s2.up⟩ hAc hyl (q := (gt ps k).b) (w := (w : Int)) ⟨r3, by omega⟩ ⟨by omega, by omega⟩) ?_
            ((with_reducible (refine new_n ?_; refine alloc_z (by assumption) fun i h z p m => ?_; refine alloc_z (by assumption) fun i h z p m => ?_)); (refine st_w (by assumption) (by infer_instance) (by with_unfolding_all rfl) (by with_unfolding_all rfl) (by first | rfl | exact flat_ones (Flat.flat _)) (by infer_instance) fun h p m => ?_); (with_reducible (refine ⟨trivial, ?_⟩)); (refine st_w (by assumption) (by infer_instance) (by with_unfolding_all rfl) (by with_unfolding_all rfl) (by first | rfl | exact flat_ones (Flat.flat _)) (by infer_instance) fun h p m => ?_); (with_reducible (refine ⟨trivial, ?_⟩; refine fao ?_)); (refine ldoA ?_); (with_reducible (refine fao ?_)); (refine ldoA ?_); (with_reducible (refine neq_i (fun hc => ?_) (fun hc => ?_); refine mv_i ?_; refine gd_ff ?_; refine mv_i ?_; refine gd_ff ?_; refine fao ?_; refine gd_ff ?_)); (refine ldoA ?_); (with_reducible (refine gd_ff ?_; refine fao ?_; refine gd_ff ?_)); (refine ldoA ?_); (with_reducible (refine gd_ff ?_)); (refine vk_i (bd77_01 _ _) ?_); (with_reducible (refine gd_ff ?_)); (refine call_r (c51 (L.up (by assumption)) _) ?_); (with_reducible (refine gd_ff ?_; refine not_d (fun hb => ?_) (fun hb => ?_); refine pick_f ?_; refine cnd_f ?_; refine inc_i (by omega) ?_; refine mv_i ?_)); (rotate_left); (with_reducible (refine pick_f ?_; refine cnd_t ?_; refine mv_i ?_; refine mv_i ?_; refine mv_i ?_; refine ret2 ?_)); (rotate_left); (with_reducible (refine mv_i ?_; refine gd_tf ?_; refine gd_tf ?_; refine gd_tf ?_; refine gd_tf ?_; refine gd_tf ?_; refine gd_tf ?_; refine gd_tf ?_; refine gd_tf ?_; refine pick_t ?_; refine cnd_t ?_; refine mv_i ?_; refine mv_i ?_; refine mv_i ?_; refine ret2 ?_)); (rotate_left))
            · refine next1 (by omega) ⟨⟨Stb.st⟩, m.sub (by simp), fun j hj => ?_⟩
              by_cases q : j = w
              · subst q; exact And.intro hc hb
              · exact hW j (by omega)
            · rw [rel_p hJ (by assumption) hP hkl (w := w) (by omega) fun q => hb (And.right q)]
              exact ⟨rfl, Mem.pre (by assumption)⟩
            · rw [rel_p hJ (by assumption) hP hkl (w := w) (by omega) fun q => hc (And.left q)]
              exact ⟨rfl, Mem.pre (by assumption)⟩
          · refine next1 hkl ⟨⟨Stb.st⟩, m.tail, up_no (prf_no (n := w) (by omega) hW) hP⟩
        · rw [rel_n hJ (by assumption) fun j hj => hP j (by omega)]
          exact ⟨rfl, Mem.pre (by assumption)⟩
      · rw [rel_m hJ (by assumption)]
        exact ⟨rfl, Mem.pre (by assumption)⟩
  · rw [if_pos hB]
    ((with_reducible (refine mv_i ?_; refine mv_i ?_; refine neq_n (by first | assumption | decide) ?_; refine cnd_t ?_; refine mv_i ?_; refine mv_i ?_; refine mv_i ?_; refine ret2 ?_)))
    exact ⟨rfl, Mem.pre (by assumption)⟩
end Go.Proofs.Ytgmgmkhenhaniaa

set_option linter.unusedVariables false
set_option maxRecDepth 100000
namespace Go.Proofs.Ytgmgmkhenhaniaa
open Go.AM

/-! ### examiner/examinerbase.SameInts: function 12 -/
def n29 (a0 a1 : Value) (h : Heap) (R : Value → Heap → Prop) : Prop :=
  mvK (Value.bool false) h fun v4 h =>
  mvK a0 h fun v6 h =>
  vK (aLen Try.prog 37 v6) h fun v7 h =>
  mvK a1 h fun v8 h =>
  vK (aLen Try.prog 37 v8) h fun v9 h =>
  vK (aBin Try.prog BinOp.neq 3 v7 v9) h fun v10 h =>
  cnd v10 (
   mvK (Value.bool false) h fun v4_1 h =>
   retV [some v4_1] R h) (
   mvK (Value.int IntKind.i64 0) h fun v5 h =>
   ∃ (I4 : List Value → Heap → Prop) (μ4 : List Value → Heap → Nat), I4 [v5] h ∧
   ∀ (h4 : Heap) (j4 : Tmps) (v5_1 : Value), I4 [v5_1] h4 → (let h := h4
    mvK v5_1 h fun v11 h =>
    mvK a0 h fun v12 h =>
    vK (aLen Try.prog 37 v12) h fun v13 h =>
    vK (aBin Try.prog BinOp.lss 3 v11 v13) h fun v14 h =>
    cnd v14 (
     mvK a0 h fun v17 h =>
     mvK v5_1 h fun v18 h =>
     vK (aIndexAddr Try.prog 37 v17 v18) h fun v19 h =>
     vK (aLoad Try.prog 3 v19 h) h fun v20 g =>
     VB h.length v20 ∧ (let h := g
      mvK a1 h fun v21 h =>
      mvK v5_1 h fun v22 h =>
      vK (aIndexAddr Try.prog 37 v21 v22) h fun v23 h =>
      vK (aLoad Try.prog 3 v23 h) h fun v24 g =>
      VB h.length v24 ∧ (let h := g
       vK (aBin Try.prog BinOp.neq 3 v20 v24) h fun v25 h =>
       cnd v25 (
        mvK (Value.bool false) h fun v4_2 h =>
        retV [some v4_2] R h) (
        mvK v5_1 h fun v15 h =>
        vK (aBin Try.prog BinOp.add 3 v15 (Value.int IntKind.i64 1)) h fun v16 h =>
        mvK v16 h fun v5_2 h =>
        I4 [v5_2] h ∧ μ4 [v5_2] h < μ4 [v5_1] h4)))) (
     mvK (Value.bool true) h fun v4_3 h =>
     retV [some v4_3] R h)))
def lv29 (q : Nat) : List Nat := bif Nat.beq q 8 then [67106864, 5] else []
theorem ok29 : lkOK Try.prog lv29 Try.f12 2 (Try.f12.body.getD .skip) 12 = true := by kernel_rfl
theorem e29 (a0 a1 : Value) (h : Heap) (R : Value → Heap → Prop) : n29 a0 a1 h R = wpK Try.prog lv29 (Try.f12.body.getD .skip) (endK Try.prog [.tmp 4] R) (argT [a0, a1]) h := by kernel_rfl
theorem w29 {a0 a1 : Value} {h : Heap} {R : Value → Heap → Prop} (hn : n29 a0 a1 h R) : DetP Try.prog 12 [a0, a1] h R :=
  DetP.of_code (rs := [.tmp 4]) (n := 2) Try.func12 (by kernel_rfl) (by kernel_rfl) lv29 ok29 rfl ((e29 a0 a1 h R) ▸ hn)

/-! ### examiner/mutant.Killing: function 10 -/
def n31 (a0 a1 : Value) (h : Heap) (R : Value → Heap → Prop) : Prop :=
  okK (some (aBox Try.prog 24 a0 h)) fun v2 h =>
  mvK (Value.slice none 0 0) h fun v4 h =>
  mvK (Value.int IntKind.i64 0) h fun v5 h =>
  vK (aLoad Try.prog 24 v2 h) h fun v7 h =>
  mvK a1 h fun v8 h =>
  okK (aBuildSlice Try.prog 91 1 [(0, v8)] h) fun v9 h =>
  cK Try.prog 30 [v7, v9] h fun v10 h =>
  mvK v10 h fun v6 h =>
  mvK v6 h fun v11 h =>
  vK (aBin Try.prog BinOp.neq 28 v11 (Value.int IntKind.i64 0)) h fun v12 h =>
  cnd v12 (
   mvK v6 h fun v13 h =>
   mvK (Value.slice none 0 0) h fun v4_1 h =>
   mvK v13 h fun v5_1 h =>
   retV [some v4_1, some v5_1] R h) (
   vK (aLoad Try.prog 24 v2 h) h fun v14 g =>
   VB h.length v14 ∧ (let h := g
    vK (aLoad Try.prog 24 v2 h) h fun v15 g =>
    VB h.length v15 ∧ (let h := g
     mvK a1 h fun v16 h =>
     cKD Try.prog 31 [v15, v16] h fun v17 g =>
     (∃ new, g = h ++ new) ∧ (let h := g
      cKD Try.prog 26 [v14, v17] h fun v18 g =>
      (∃ new, g = h ++ new) ∧ (let h := g
       vK (aExtract v18 0) h fun v19 h =>
       vK (aExtract v18 1) h fun v20 h =>
       mvK v19 h fun v4_2 h =>
       mvK v20 h fun v5_2 h =>
       retV [some v4_2, some v5_2] R h)))))
def lv31 (q : Nat) : List Nat := []
theorem ok31 : lkOK Try.prog lv31 Try.f10 2 (Try.f10.body.getD .skip) 10 = true := by kernel_rfl
theorem e31 (a0 a1 : Value) (h : Heap) (R : Value → Heap → Prop) : n31 a0 a1 h R = wpK Try.prog lv31 (Try.f10.body.getD .skip) (endK Try.prog [.tmp 4, .tmp 5] R) (argT [a0, a1]) h := by kernel_rfl
theorem w31 {a0 a1 : Value} {h : Heap} {R : Value → Heap → Prop} (hn : n31 a0 a1 h R) : DetP Try.prog 10 [a0, a1] h R :=
  DetP.of_code (rs := [.tmp 4, .tmp 5]) (n := 2) Try.func10 (by kernel_rfl) (by kernel_rfl) lv31 ok31 rfl ((e31 a0 a1 h R) ▸ hn)

/-! ### examiner/model.Difference: function 26 -/
def n64 (a0 a1 : Value) (h : Heap) (R : Value → Heap → Prop) : Prop :=
  okK (some (aBox Try.prog 24 a0 h)) fun v2 h =>
  okK (some (aBox Try.prog 24 a1 h)) fun v3 h =>
  mvK (Value.slice none 0 0) h fun v4 h =>
  mvK (Value.int IntKind.i64 0) h fun v5 h =>
  vK (aLoad Try.prog 24 v2 h) h fun v18 g =>
  VB h.length v18 ∧ (let h := g
   cKD Try.prog 49 [v18] h fun v19 g =>
   (∃ new, g = h ++ new) ∧ (let h := g
    vK (aLoad Try.prog 24 v3 h) h fun v20 g =>
    VB h.length v20 ∧ (let h := g
     cKD Try.prog 49 [v20] h fun v21 g =>
     (∃ new, g = h ++ new) ∧ (let h := g
      vK (aFieldAddr Try.prog 24 v2 1) h fun v22 h =>
      vK (aLoad Try.prog 3 v22 h) h fun v23 g =>
      VB h.length v23 ∧ (let h := g
       vK (aFieldAddr Try.prog 24 v3 1) h fun v24 h =>
       vK (aLoad Try.prog 3 v24 h) h fun v25 g =>
       VB h.length v25 ∧ (let h := g
        vK (aBin Try.prog BinOp.eql 3 v23 v25) h fun v26 h =>
        cKD Try.prog 50 [v26, (Value.int IntKind.i64 6)] h fun v27 g =>
        (∃ new, g = h ++ new) ∧ (let h := g
         okK (aBuildSlice Try.prog 94 3 [(0, v19), (1, v21), (2, v27)] h) fun v28 h =>
         cKD Try.prog 36 [v28] h fun v29 g =>
         (∃ new, g = h ++ new) ∧ (let h := g
          mvK v29 h fun v6 h =>
          mvK v6 h fun v30 h =>
          vK (aBin Try.prog BinOp.neq 28 v30 (Value.int IntKind.i64 0)) h fun v31 h =>
          cnd v31 (
           mvK v6 h fun v32 h =>
           mvK (Value.slice none 0 0) h fun v4_1 h =>
           mvK v32 h fun v5_1 h =>
           retV [some v4_1, some v5_1] R h) (
           vK (aLoad Try.prog 24 v2 h) h fun v33 g =>
           VB h.length v33 ∧ (let h := g
            cKD Try.prog 51 [v33] h fun v34 g =>
            (∃ new, g = h ++ new) ∧ (let h := g
             vK (aLoad Try.prog 24 v3 h) h fun v35 g =>
             VB h.length v35 ∧ (let h := g
              cKD Try.prog 51 [v35] h fun v36 g =>
              (∃ new, g = h ++ new) ∧ (let h := g
               mvK v34 h fun v7 h =>
               mvK v36 h fun v8 h =>
               vK (aFieldAddr Try.prog 24 v2 3) h fun v37 h =>
               vK (aLoad Try.prog 3 v37 h) h fun v38 h =>
               vK (aFieldAddr Try.prog 24 v3 3) h fun v39 h =>
               vK (aLoad Try.prog 3 v39 h) h fun v40 h =>
               vK (aBuild Try.prog 77 [(0, v38), (1, v40)]) h fun v41 h =>
               okK (aBuildSlice Try.prog 56 1 [(0, v41)] h) fun v42 h =>
               okK (aBuildSlice Try.prog 85 1 [(0, (Value.slice none 0 0))] h) fun v43 h =>
               mvK v42 h fun v9 h =>
               mvK v43 h fun v10 h =>
               mvK (Value.int IntKind.i64 0) h fun v11 h =>
               ∃ (I7 : List Value → Heap → Prop) (μ7 : List Value → Heap → Nat), I7 [v9, v10, v11] h ∧
               ∀ (h7 : Heap) (j7 : Tmps) (v9_1 : Value) (v10_1 : Value) (v11_1 : Value), I7 [v9_1, v10_1, v11_1] h7 → (let h := h7
                mvK v11_1 h fun v44 h =>
                mvK v9_1 h fun v45 h =>
                vK (aLen Try.prog 56 v45) h fun v46 h =>
                vK (aBin Try.prog BinOp.lss 3 v44 v46) h fun v47 h =>
                cnd v47 (
                 mvK v9_1 h fun v50 h =>
                 mvK v11_1 h fun v51 h =>
                 vK (aIndexAddr Try.prog 56 v50 v51) h fun v52 h =>
                 vK (aLoad Try.prog 77 v52 h) h fun v53 h =>
                 okK (aAlloc Try.prog 77 h) fun v12 h =>
                 okK ((aStore Try.prog 77 v12 v53 h).map (undef, ·)) fun _ h =>
                 vK (aFieldAddr Try.prog 24 v2 1) h fun v54 h =>
                 vK (aLoad Try.prog 3 v54 h) h fun v55 h =>
                 mvK (Value.int IntKind.i64 0) h fun v56 h =>
                 ∃ (I11 : List Value → Heap → Prop) (μ11 : List Value → Heap → Nat), I11 [v9_1, v10_1, v56] h ∧
                 ∀ (h11 : Heap) (j11 : Tmps) (v9_2 : Value) (v10_2 : Value) (v56_1 : Value), I11 [v9_2, v10_2, v56_1] h11 → (let h := h11
                  vK (aBin Try.prog BinOp.lss 3 v56_1 v55) h fun v57 h =>
                  cnd v57 (
                   seqK (fun k0 =>
                    mvK v56_1 h fun v58 h =>
                    mvK v58 h fun v13 h =>
                    mvK v10_2 h fun v59 h =>
                    mvK v11_1 h fun v60 h =>
                    vK (aIndexAddr Try.prog 85 v59 v60) h fun v61 h =>
                    vK (aLoad Try.prog 37 v61 h) h fun v62 h =>
                    cK Try.prog 52 [v62] h fun v63 h =>
                    mvK v13 h fun v64 h =>
                    okK (aBuildSlice Try.prog 37 1 [(0, v64)] h) fun v65 h =>
                    okK (aAppend Try.prog 37 37 v63 v65 h) fun v66 h =>
                    mvK v66 h fun v14 h =>
                    mvK v7 h fun v67 h =>
                    vK (aIndexAddr Try.prog 77 v12 (Value.int IntKind.i64 0)) h fun v68 h =>
                    vK (aLoad Try.prog 3 v68 h) h fun v69 g =>
                    VB h.length v69 ∧ (let h := g
                     vK (aIndexAddr Try.prog 83 v67 v69) h fun v70 h =>
                     vK (aLoad Try.prog 88 v70 h) h fun v71 g =>
                     VB h.length v71 ∧ (let h := g
                      mvK v13 h fun v72 h =>
                      vK (aIndexAddr Try.prog 88 v71 v72) h fun v73 h =>
                      vK (aLoad Try.prog 87 v73 h) h fun v74 g =>
                      VB h.length v74 ∧ (let h := g
                       mvK v8 h fun v75 h =>
                       vK (aIndexAddr Try.prog 77 v12 (Value.int IntKind.i64 1)) h fun v76 h =>
                       vK (aLoad Try.prog 3 v76 h) h fun v77 g =>
                       VB h.length v77 ∧ (let h := g
                        vK (aIndexAddr Try.prog 83 v75 v77) h fun v78 h =>
                        vK (aLoad Try.prog 88 v78 h) h fun v79 g =>
                        VB h.length v79 ∧ (let h := g
                         mvK v13 h fun v80 h =>
                         vK (aIndexAddr Try.prog 88 v79 v80) h fun v81 h =>
                         vK (aLoad Try.prog 87 v81 h) h fun v82 g =>
                         VB h.length v82 ∧ (let h := g
                          mvK v74 h fun v15 h =>
                          mvK v82 h fun v16 h =>
                          mvK v15 h fun v83 h =>
                          vK (aBin Try.prog BinOp.eql 87 v83 (Value.pointer none)) h fun v84 h =>
                          mvK v84 h fun v85 h =>
                          gdK v85 true (fun k1 =>
                           mvK v16 h fun v86 h =>
                           k1 v86 h) (fun v86_1 h =>
                           gdK v85 true (fun k2 =>
                            vK (aBin Try.prog BinOp.eql 87 v86_1 (Value.pointer none)) h fun v87 h =>
                            k2 v87 h) (fun v87_1 h =>
                            vK (pickV v85 v87_1 (Value.bool false)) h fun v88 h =>
                            cnd v88 (
                             k0 [v9_2, v10_2] h) (
                             mvK v15 h fun v89 h =>
                             vK (aBin Try.prog BinOp.eql 87 v89 (Value.pointer none)) h fun v90 h =>
                             mvK v90 h fun v91 h =>
                             gdK v91 false (fun k3 =>
                              mvK v16 h fun v92 h =>
                              k3 v92 h) (fun v92_1 h =>
                              gdK v91 false (fun k4 =>
                               vK (aBin Try.prog BinOp.eql 87 v92_1 (Value.pointer none)) h fun v93 h =>
                               k4 v93 h) (fun v93_1 h =>
                               vK (pickV v91 (Value.bool true) v93_1) h fun v94 h =>
                               mvK v94 h fun v95 h =>
                               gdK v95 false (fun k5 =>
                                mvK v15 h fun v96 h =>
                                k5 v96 h) (fun v96_1 h =>
                                gdK v95 false (fun k6 =>
                                 vK (nilV v96_1) h fun v97 h =>
                                 k6 v97 h) (fun v97_1 h =>
                                 gdK v95 false (fun k7 =>
                                  vK (aFieldAddr Try.prog 46 v97_1 2) h fun v98 h =>
                                  k7 v98 h) (fun v98_1 h =>
                                  gdK v95 false (fun k8 =>
                                   vK (aLoad Try.prog 3 v98_1 h) h fun v99 g =>
                                   VB h.length v99 ∧ (let h := g
                                    k8 v99 h)) (fun v99_1 h =>
                                   gdK v95 false (fun k9 =>
                                    mvK v16 h fun v100 h =>
                                    k9 v100 h) (fun v100_1 h =>
                                    gdK v95 false (fun k10 =>
                                     vK (nilV v100_1) h fun v101 h =>
                                     k10 v101 h) (fun v101_1 h =>
                                     gdK v95 false (fun k11 =>
                                      vK (aFieldAddr Try.prog 46 v101_1 2) h fun v102 h =>
                                      k11 v102 h) (fun v102_1 h =>
                                      gdK v95 false (fun k12 =>
                                       vK (aLoad Try.prog 3 v102_1 h) h fun v103 g =>
                                       VB h.length v103 ∧ (let h := g
                                        k12 v103 h)) (fun v103_1 h =>
                                       gdK v95 false (fun k13 =>
                                        vK (aBin Try.prog BinOp.neq 3 v99_1 v103_1) h fun v104 h =>
                                        k13 v104 h) (fun v104_1 h =>
                                        vK (pickV v95 (Value.bool true) v104_1) h fun v105 h =>
                                        cnd v105 (
                                         mvK v14 h fun v106 h =>
                                         mvK v106 h fun v4_2 h =>
                                         mvK (Value.int IntKind.i64 0) h fun v5_2 h =>
                                         retV [some v4_2, some v5_2] R h) (
                                         mvK v15 h fun v107 h =>
                                         vK (nilV v107) h fun v108 h =>
                                         vK (aFieldAddr Try.prog 46 v108 3) h fun v109 h =>
                                         vK (aLoad Try.prog 3 v109 h) h fun v110 g =>
                                         VB h.length v110 ∧ (let h := g
                                          mvK v16 h fun v111 h =>
                                          vK (nilV v111) h fun v112 h =>
                                          vK (aFieldAddr Try.prog 46 v112 3) h fun v113 h =>
                                          vK (aLoad Try.prog 3 v113 h) h fun v114 g =>
                                          VB h.length v114 ∧ (let h := g
                                           vK (aBuild Try.prog 77 [(0, v110), (1, v114)]) h fun v115 h =>
                                           okK (aAlloc Try.prog 77 h) fun v17 h =>
                                           okK ((aStore Try.prog 77 v17 v115 h).map (undef, ·)) fun _ h =>
                                           (True) ∧ (
                                            mvK v9_2 h fun v116 h =>
                                            vK (aLoad Try.prog 77 v17 h) h fun v117 h =>
                                            cK Try.prog 46 [v116, v117] h fun v118 h =>
                                            vK (aUn UnOp.not v118) h fun v119 h =>
                                            cnd v119 (
                                             mvK v9_2 h fun v120 h =>
                                             vK (aLoad Try.prog 77 v17 h) h fun v121 h =>
                                             okK (aBuildSlice Try.prog 56 1 [(0, v121)] h) fun v122 h =>
                                             okK (aAppend Try.prog 56 56 v120 v122 h) fun v123 h =>
                                             mvK v10_2 h fun v124 h =>
                                             mvK v14 h fun v125 h =>
                                             okK (aBuildSlice Try.prog 85 1 [(0, v125)] h) fun v126 h =>
                                             okK (aAppend Try.prog 85 85 v124 v126 h) fun v127 h =>
                                             mvK v123 h fun v9_3 h =>
                                             mvK v127 h fun v10_3 h =>
                                             k0 [v9_3, v10_3] h) (
                                             k0 [v9_2, v10_2] h)))))) h) h) h) h) h) h) h) h) h) h) h)) h) h))))))) fun x0 h => ∀ jx0 : Tmps,
                    let v9_4 : Value := nth x0 0
                    let v10_4 : Value := nth x0 1
                    vK (aBin Try.prog BinOp.add 3 v56_1 (Value.int IntKind.i64 1)) h fun v128 h =>
                    mvK v128 h fun v56_2 h =>
                    I11 [v9_4, v10_4, v56_2] h ∧ μ11 [v9_4, v10_4, v56_2] h < μ11 [v9_2, v10_2, v56_1] h11) (
                   mvK v11_1 h fun v48 h =>
                   vK (aBin Try.prog BinOp.add 3 v48 (Value.int IntKind.i64 1)) h fun v49 h =>
                   mvK v49 h fun v11_2 h =>
                   I7 [v9_2, v10_2, v11_2] h ∧ μ7 [v9_2, v10_2, v11_2] h < μ7 [v9_1, v10_1, v11_1] h7))) (
                 mvK (Value.slice none 0 0) h fun v4_3 h =>
                 mvK (Value.int IntKind.i64 23) h fun v5_3 h =>
                 retV [some v4_3, some v5_3] R h)))))))))))))))
def lv64 (q : Nat) : List Nat := bif Nat.beq q 14 then [680564733841876926926749197271350640176, 9, 10, 11] else bif Nat.beq q 22 then [680564733841876926926677157269498750512, 9, 10, 56] else bif Nat.beq q 43 then [340282366920938463463086377055616755248, 9, 10] else []
theorem ok64 : lkOK Try.prog lv64 Try.f26 2 (Try.f26.body.getD .skip) 26 = true := by kernel_rfl
theorem e64 (a0 a1 : Value) (h : Heap) (R : Value → Heap → Prop) : n64 a0 a1 h R = wpK Try.prog lv64 (Try.f26.body.getD .skip) (endK Try.prog [.tmp 4, .tmp 5] R) (argT [a0, a1]) h := by kernel_rfl
theorem w64 {a0 a1 : Value} {h : Heap} {R : Value → Heap → Prop} (hn : n64 a0 a1 h R) : DetP Try.prog 26 [a0, a1] h R :=
  DetP.of_code (rs := [.tmp 4, .tmp 5]) (n := 2) Try.func26 (by kernel_rfl) (by kernel_rfl) lv64 ok64 rfl ((e64 a0 a1 h R) ▸ hn)

/-! ### slices.Clone[[]int,int]: function 52 -/
def n69 (a0 : Value) (h : Heap) (R : Value → Heap → Prop) : Prop :=
  mvK (Value.slice none 0 0) h fun v2 h =>
  mvK a0 h fun v3 h =>
  vK (aBin Try.prog BinOp.eql 37 v3 (Value.slice none 0 0)) h fun v4 h =>
  cnd v4 (
   mvK (Value.slice none 0 0) h fun v2_1 h =>
   retV [some v2_1] R h) (
   okK (aBuildSlice Try.prog 37 0 [] h) fun v5 h =>
   mvK a0 h fun v6 h =>
   okK (aAppend Try.prog 37 37 v5 v6 h) fun v7 h =>
   mvK v7 h fun v2_2 h =>
   retV [some v2_2] R h)
def lv69 (q : Nat) : List Nat := []
theorem ok69 : lkOK Try.prog lv69 Try.f52 1 (Try.f52.body.getD .skip) 52 = true := by kernel_rfl
theorem e69 (a0 : Value) (h : Heap) (R : Value → Heap → Prop) : n69 a0 h R = wpK Try.prog lv69 (Try.f52.body.getD .skip) (endK Try.prog [.tmp 2] R) (argT [a0]) h := by kernel_rfl
theorem w69 {a0 : Value} {h : Heap} {R : Value → Heap → Prop} (hn : n69 a0 h R) : DetP Try.prog 52 [a0] h R :=
  DetP.of_code (rs := [.tmp 2]) (n := 1) Try.func52 (by kernel_rfl) (by kernel_rfl) lv69 ok69 rfl ((e69 a0 h R) ▸ hn)

/-! ### examiner/examinerbase.OwnInts: function 55 -/
def n70 (a0 : Value) (h : Heap) (R : Value → Heap → Prop) : Prop :=
  mvK (Value.slice none 0 0) h fun v2 h =>
  okK (aBuildSlice Try.prog 37 0 [] h) fun v3 h =>
  mvK a0 h fun v4 h =>
  okK (aAppend Try.prog 37 37 v3 v4 h) fun v5 h =>
  mvK v5 h fun v2_1 h =>
  retV [some v2_1] R h
def lv70 (q : Nat) : List Nat := []
theorem ok70 : lkOK Try.prog lv70 Try.f55 1 (Try.f55.body.getD .skip) 55 = true := by kernel_rfl
theorem e70 (a0 : Value) (h : Heap) (R : Value → Heap → Prop) : n70 a0 h R = wpK Try.prog lv70 (Try.f55.body.getD .skip) (endK Try.prog [.tmp 2] R) (argT [a0]) h := by kernel_rfl
theorem w70 {a0 : Value} {h : Heap} {R : Value → Heap → Prop} (hn : n70 a0 h R) : DetP Try.prog 55 [a0] h R :=
  DetP.of_code (rs := [.tmp 2]) (n := 1) Try.func55 (by kernel_rfl) (by kernel_rfl) lv70 ok70 rfl ((e70 a0 h R) ▸ hn)

end Go.Proofs.Ytgmgmkhenhaniaa

set_option linter.unusedSimpArgs false
set_option linter.unusedVariables false
set_option linter.unnecessarySimpa false
set_option maxRecDepth 100000
set_option maxHeartbeats 4000000
namespace Go.Proofs.Ytgmgmkhenhaniaa
open Go.AM
variable {h g : Heap}
/-! ### the table of a complete machine: rows of pointers to copies of its steps -/
def rowC (n : Nat) (B : List (Nat × Nat)) (s : Nat) : List Value := (List.range n).map fun i => match B[s * n + i]? with | some b => .pointer (some ⟨b.1, 0, none⟩) | none => .pointer none
def hdrC (N n : Nat) (R : List Nat) : List Value := (List.range N).map fun s => match R[s]? with | some r => .slice (some ⟨r, 0, none⟩) n (n + 1) | none => .slice none 0 0
def rowsE (n : Nat) (R : List Nat) (B : List (Nat × Nat)) : List E := (List.range R.length).map fun s => ⟨some (R.getD s 0), rowC n B s, 1⟩
def stepsE (x : Mach) (B : List (Nat × Nat)) : List E := (List.range B.length).map fun q => ⟨some (B.getD q (0, 0)).1, Flat.cells (gt x.steps q), (B.getD q (0, 0)).2⟩
def tab (x : Mach) : List (List (Bx Stp)) := (List.range x.states.toNat).map fun s => (List.range x.inputs.toNat).map fun i => ⟨gt x.steps (s * x.inputs.toNat + i)⟩
theorem hdrC_zero (N n : Nat) : hdrC N n [] = List.replicate N (.slice none 0 0) := by
  refine List.ext_getElem (by simp [hdrC]) fun k h1 h2 => ?_
  simp [hdrC]
theorem hdrC_len (N n : Nat) (R : List Nat) : (hdrC N n R).length = N := by simp [hdrC]
theorem rowC_len (n : Nat) (B : List (Nat × Nat)) (s : Nat) : (rowC n B s).length = n := by simp [rowC]
theorem rowC_zero (n s : Nat) : rowC n [] s = List.replicate n (.pointer none) := by
  refine List.ext_getElem (by simp [rowC]) fun k h1 h2 => ?_
  simp [rowC]
theorem hdrC_add {N n : Nat} {R : List Nat} {r : Nat} (hR : R.length < N) : hdrC N n (R ++ [r]) = (hdrC N n R).set R.length (.slice (some ⟨r, 0, none⟩) n (n + 1)) := by
  refine List.ext_getElem (by simp [hdrC]) fun k h1 h2 => ?_
  simp only [hdrC, List.getElem_map, List.getElem_range, List.getElem_set]
  by_cases e : R.length = k
  · subst e; simp
  · rw [if_neg e]
    by_cases e2 : k < R.length
    · simp [List.getElem?_append_left e2, e2]
    · rw [List.getElem?_eq_none (by simp; omega), List.getElem?_eq_none (by omega)]
theorem hdrC_get {N n : Nat} {R : List Nat} {s : Nat} (hs : s < R.length) (hN : R.length ≤ N) : (hdrC N n R)[s]? = some (.slice (some ⟨R.getD s 0, 0, none⟩) n (n + 1)) := by
  unfold hdrC
  rw [List.getElem?_map, List.getElem?_range (by omega)]
  simp [hs]
theorem rowsE_len (n : Nat) (R : List Nat) (B : List (Nat × Nat)) : (rowsE n R B).length = R.length := by simp [rowsE]
theorem rowsE_add {n : Nat} {R : List Nat} {r : Nat} : rowsE n (R ++ [r]) [] = rowsE n R [] ++ [⟨some r, List.replicate n (.pointer none), 1⟩] := by
  unfold rowsE
  rw [List.length_append, List.length_singleton, List.range_succ, List.map_append]
  congr 1
  · refine List.map_congr_left fun s hs => ?_
    rw [List.mem_range] at hs
    simp [List.getD, List.getElem?_append_left hs]
  · simp [rowC_zero, List.getD]
theorem rowsE_get {n : Nat} {R : List Nat} {B : List (Nat × Nat)} {f : Nat} (hf : f < R.length) : (rowsE n R B)[f]? = some ⟨some (R.getD f 0), rowC n B f, 1⟩ := by
  unfold rowsE
  rw [List.getElem?_map, List.getElem?_range hf]; rfl
theorem lex_uniq {f i s t n : Nat} (hi : i < n) (ht : t < n) (e : s * n + t = f * n + i) : s = f ∧ t = i := by
  have h1 : s = f := by
    rcases Nat.lt_trichotomy s f with q | q | q
    · have := Nat.mul_le_mul_right n (show s + 1 ≤ f by omega); rw [Nat.add_mul, Nat.one_mul] at this; omega
    · exact q
    · have := Nat.mul_le_mul_right n (show f + 1 ≤ s by omega); rw [Nat.add_mul, Nat.one_mul] at this; omega
  subst h1
  exact ⟨rfl, by omega⟩
theorem rowC_add {n f i s : Nat} {B : List (Nat × Nat)} {b : Nat × Nat} (hB : B.length = f * n + i) (hi : i < n) : rowC n (B ++ [b]) s = if s = f then (rowC n B f).set i (.pointer (some ⟨b.1, 0, none⟩)) else rowC n B s := by
  have key : ∀ t, t < n → (B ++ [b])[s * n + t]? = if s = f ∧ t = i then some b else B[s * n + t]? := by
    intro t ht
    by_cases e : s * n + t = B.length
    · obtain ⟨e1, e2⟩ := lex_uniq hi ht (by omega : s * n + t = f * n + i)
      rw [if_pos ⟨e1, e2⟩, e, List.getElem?_append_right (Nat.le_refl _)]; simp
    · rw [if_neg (by rintro ⟨rfl, rfl⟩; omega)]
      by_cases e2 : s * n + t < B.length
      · rw [List.getElem?_append_left e2]
      · rw [List.getElem?_eq_none (by simp; omega), List.getElem?_eq_none (by omega)]
  by_cases e : s = f
  · subst e
    rw [if_pos rfl]
    refine List.ext_getElem (by simp [rowC]) fun t h1 h2 => ?_
    simp only [rowC, List.getElem_map, List.getElem_range, List.getElem_set]
    rw [key t (by simpa [rowC] using h1)]
    by_cases q : i = t
    · subst q; simp
    · rw [if_neg (by rintro ⟨_, rfl⟩; exact q rfl), if_neg q]
  · rw [if_neg e]
    refine List.ext_getElem (by simp [rowC]) fun t h1 h2 => ?_
    simp only [rowC, List.getElem_map, List.getElem_range]
    rw [key t (by simpa [rowC] using h1), if_neg (by rintro ⟨q, _⟩; exact e q)]
theorem rowsE_B {n f i : Nat} {R : List Nat} {B : List (Nat × Nat)} {b : Nat × Nat} (hB : B.length = f * n + i) (hi : i < n) : rowsE n R (B ++ [b]) = (rowsE n R B).set f ⟨some (R.getD f 0), (rowC n B f).set i (.pointer (some ⟨b.1, 0, none⟩)), 1⟩ := by
  refine List.ext_getElem (by simp [rowsE]) fun s h1 h2 => ?_
  simp only [rowsE, List.getElem_map, List.getElem_range, List.getElem_set]
  rw [rowC_add hB hi]
  by_cases e : f = s
  · subst e; simp
  · rw [if_neg (fun q => e q.symm), if_neg e]
theorem stepsE_add {x : Mach} {B : List (Nat × Nat)} {b : Nat × Nat} : stepsE x (B ++ [b]) = stepsE x B ++ [⟨some b.1, Flat.cells (gt x.steps B.length), b.2⟩] := by
  unfold stepsE
  rw [List.length_append, List.length_singleton, List.range_succ, List.map_append]
  congr 1
  · refine List.map_congr_left fun s hs => ?_
    rw [List.mem_range] at hs
    simp [List.getD, List.getElem?_append_left hs]
  · simp [List.getD]
theorem stepsE_get {x : Mach} {B : List (Nat × Nat)} {q : Nat} (hq : q < B.length) : (stepsE x B)[q]? = some ⟨some (B.getD q (0, 0)).1, Flat.cells (gt x.steps q), (B.getD q (0, 0)).2⟩ := by
  unfold stepsE
  rw [List.getElem?_map, List.getElem?_range hq]; rfl
theorem one_flat (l : List Value) : (l.map fun v => [v]).flatten = l := by
  induction l with
  | nil => rfl
  | cons a l ih => simp [ih]
theorem tab_ro {x : Mach} {T N n : Nat} {R : List Nat} {B : List (Nat × Nat)} {e : E} (hN : N = x.states.toNat) (hn : n = x.inputs.toNat) (m : Mem g h (⟨some T, hdrC N n R, 1⟩ :: e :: (rowsE n R B ++ stepsE x B)))
    (hR : R.length = N) (hB : B.length = N * n) (hb : N ≤ 2 ^ 50 ∧ n ≤ 2 ^ 50) : L (frz g.length h) (.slice (some ⟨T, 0, none⟩) N (N + 1)) (tab x) := by
  subst hN hn
  have hrow : ∀ s, s < x.states.toNat → L (frz g.length h) (.slice (some ⟨R.getD s 0, 0, none⟩) x.inputs.toNat (x.inputs.toNat + 1)) ((List.range x.inputs.toNat).map fun i => (⟨gt x.steps (s * x.inputs.toNat + i)⟩ : Bx Stp)) := by
    intro s hs
    refine ⟨(rowC x.inputs.toNat B s).map fun v => [v], by simp [rowC], ?_, fun k h1 h2 => ?_⟩
    · rw [one_flat, List.length_map, List.length_range]
      refine m.retro (k := s + 2) ?_ (by rw [rowC_len]; exact Nat.mul_one _) hb.2 (by unfold capOf; simp)
      show (rowsE _ R B ++ stepsE x B)[s]? = _
      rw [List.getElem?_append_left (by rw [rowsE_len]; omega), rowsE_get (by omega)]
      rfl
    · have hk : k < x.inputs.toNat := by simpa using h2
      have hq : s * x.inputs.toNat + k < B.length := by
        have := Nat.mul_le_mul_right x.inputs.toNat (show s + 1 ≤ x.states.toNat by omega)
        rw [Nat.add_mul, Nat.one_mul] at this
        omega
      refine ⟨_, by rw [List.getElem_map], ?_⟩
      simp only [rowC, List.getElem_map, List.getElem_range]
      rw [List.getElem?_eq_getElem hq]
      refine m.retp (k := R.length + (s * x.inputs.toNat + k) + 2) (sz := (B.getD (s * x.inputs.toNat + k) (0, 0)).2) ?_
      show (rowsE _ R B ++ stepsE x B)[R.length + (s * x.inputs.toNat + k)]? = _
      rw [List.getElem?_append_right (by rw [rowsE_len]; omega), rowsE_len, show R.length + (s * x.inputs.toNat + k) - R.length = s * x.inputs.toNat + k by omega, stepsE_get hq]
      simp [List.getD, hq]
  refine ⟨(hdrC x.states.toNat x.inputs.toNat R).map fun v => [v], by simp [hdrC, tab], ?_, fun k h1 h2 => ?_⟩
  · rw [one_flat]
    have hlen : (tab x).length = x.states.toNat := by simp [tab]
    rw [hlen]
    exact m.retro (k := 0) rfl (by rw [hdrC_len]; exact Nat.mul_one _) hb.1 (by unfold capOf; simp)
  · have hk : k < x.states.toNat := by simpa [tab] using h2
    refine ⟨_, by rw [List.getElem_map], ?_⟩
    have e1 := hdrC_get (n := x.inputs.toNat) (R := R) (s := k) (N := x.states.toNat) (by omega) (by omega)
    rw [List.getElem?_eq_getElem (by rw [hdrC_len]; omega)] at e1
    rw [Option.some.inj e1]
    have := hrow k hk
    simpa [tab] using this
theorem c92 {v : Value} {x : Mach} (s : MacV g v x) (h0 : (chkM x).2 = 0) (hl : (x.steps.length : Int) = x.states * x.inputs) :
    DetP Try.prog 51 [v] g fun v' h' => g <+: h' ∧ ∃ b q N, v' = .slice b N q ∧ N = x.states.toNat ∧ L h' (.slice b N q) (tab x) := by
  refine DetP.freeze ?_
  obtain ⟨tv, rfl, s⟩ := s
  have lt := s.lt
  obtain ⟨b0, q0, rfl, _⟩ := s.shape
  obtain ⟨hh, _, hst⟩ := chk_ok h0
  obtain ⟨d1, d2⟩ := prod_bd hh
  obtain ⟨⟨a1, a2⟩, ⟨a3, a4⟩, _⟩ := hh
  have m := Mem.start g
  refine w92 ?_
  unfold n92
  refine box_a m fun X hX zX pX m => ?_
  ((with_reducible (refine mv_i ?_; refine fao ?_)); (refine ldoA ?_))
  refine mk_g m (by omega) (by omega) fun T hT pT m => ?_
  ((with_reducible (refine mv_i ?_; refine mv_i ?_; refine len_s ?_; refine mv_i ?_)))
  refine loop1 x.states.toNat (fun k h2 => Prec hT h2 ∧ ∃ R : List Nat, R.length = k ∧ Mem g h2 (⟨some T, hdrC x.states.toNat x.inputs.toNat R, 1⟩ :: ⟨some X, [.int .i64 x.states, .int .i64 x.inputs, .int .i64 x.outputs, .int .i64 x.start, .slice b0 x.steps.length q0], zX⟩ :: rowsE x.inputs.toNat R [])) ⟨⟨Stab.refl _⟩, [], rfl, by rw [hdrC_zero]; exact m⟩ ?_
  rintro k h2 _ hk ⟨p2, R, hR, m⟩
  ((with_reducible (refine lss_i (fun hc => ?_) (fun hc => ?_); refine cnd_t ?_; refine mv_i ?_; refine mv_i ?_; refine mv_i ?_; refine mv_i ?_; refine fao ?_)); (refine ldoA ?_); (rotate_left); (with_reducible (refine cnd_f ?_; refine fao ?_)); (refine ldoA ?_); (with_reducible (refine len_g (by assumption) ?_; refine mv_i ?_)); (rotate_left))
  · have hkl : k < x.states.toNat := by omega
    refine mk_g m (by omega) (by omega) fun r hr pr m => ?_
    skip
    refine idxon hkl ?_
    refine sto m (by rw [hdrC_len]; omega) rfl rfl fun h5 p5 m => ?_
    rw [Nat.mul_one, ← hR, ← hdrC_add (by omega)] at m
    ((with_reducible (refine inc_i (by omega) ?_; refine mv_i ?_)))
    refine next1 hkl ⟨⟨Stb.st⟩, R ++ [r], by simp [hR], ?_⟩
    rw [rowsE_add]
    exact m.perm (List.perm_append_singleton _ (_ :: _ :: rowsE _ _ _)).symm
  · have hkk : k = x.states.toNat := by omega
    clear hc
    have en : (x.states.toNat : Int) = x.states := Int.toNat_of_nonneg (by omega)
    have em : (x.inputs.toNat : Int) = x.inputs := Int.toNat_of_nonneg (by omega)
    have hln : x.steps.length = x.states.toNat * x.inputs.toNat := by
      have : ((x.states.toNat * x.inputs.toNat : Nat) : Int) = x.steps.length := by push_cast; rw [en, em, hl]
      omega
    refine loop1 x.steps.length (fun j h3 => Prec h2 h3 ∧ ∃ B : List (Nat × Nat), B.length = j ∧ Mem g h3 (⟨some T, hdrC x.states.toNat x.inputs.toNat R, 1⟩ :: ⟨some X, [.int .i64 x.states, .int .i64 x.inputs, .int .i64 x.outputs, .int .i64 x.start, .slice b0 x.steps.length q0], zX⟩ :: (rowsE x.inputs.toNat R B ++ stepsE x B))) ⟨⟨Stab.refl _⟩, [], rfl, by simpa [stepsE] using m⟩ ?_
    rintro j h3 _ hj ⟨p3, B, hB, m⟩
    ((with_reducible (refine lss_i (fun hc => ?_) (fun hc => ?_); refine cnd_t ?_)); (refine idxA fun p hp => ?_); (refine ldr_w (by assumption) (by with_unfolding_all rfl) ?_); (with_reducible (refine alloc_z (by assumption) fun i h z p m => ?_)); (refine st_w (by assumption) (by infer_instance) (by with_unfolding_all rfl) (by with_unfolding_all rfl) (by first | rfl | exact flat_ones (Flat.flat _)) (by infer_instance) fun h p m => ?_); (with_reducible (refine mv_i ?_; refine fao ?_)); (refine ldoA ?_); (refine vbA ?_); (rotate_left); (with_reducible (refine cnd_f ?_; refine mv_i ?_; refine mv_i ?_; refine ret1 ?_)); (rotate_left))
    · have hjl : j < x.steps.length := by omega
      have hir := (st_ok (hst j hjl)).1
      obtain ⟨⟨f1, f2⟩, _, ⟨f3, f4⟩, _⟩ := hir
      have hcode := full_code h0 hl hjl
      unfold code at hcode
      have hf : (gt x.steps j).frm.toNat < x.states.toNat := by omega
      have hi : (gt x.steps j).inp.toNat < x.inputs.toNat := by omega
      have hBf : B.length = (gt x.steps j).frm.toNat * x.inputs.toNat + (gt x.steps j).inp.toNat := by
        have e1 : ((gt x.steps j).frm.toNat : Int) = (gt x.steps j).frm := Int.toNat_of_nonneg f1
        have e2 : ((gt x.steps j).inp.toNat : Int) = (gt x.steps j).inp := Int.toNat_of_nonneg f3
        have : (((gt x.steps j).frm.toNat * x.inputs.toNat + (gt x.steps j).inp.toNat : Nat) : Int) = j := by push_cast; rw [e1, e2, em, hcode]
        omega
      refine idxo f1 hf ?_
      refine ldo m (by rw [Nat.mul_one]; exact hdrC_get (by omega) (by omega)) ?_
      have hrow : ∀ e1 : E, (e1 :: ⟨some T, hdrC x.states.toNat x.inputs.toNat R, 1⟩ :: ⟨some X, [.int .i64 x.states, .int .i64 x.inputs, .int .i64 x.outputs, .int .i64 x.start, .slice b0 x.steps.length q0], zX⟩ :: (rowsE x.inputs.toNat R B ++ stepsE x B))[(gt x.steps j).frm.toNat + 3]? = some ⟨some (R.getD (gt x.steps j).frm.toNat 0), rowC x.inputs.toNat B (gt x.steps j).frm.toNat, 1⟩ := by
        intro e1
        show (rowsE x.inputs.toNat R B ++ stepsE x B)[(gt x.steps j).frm.toNat]? = _
        rw [List.getElem?_append_left (by rw [rowsE_len]; omega), rowsE_get (by omega)]
      refine ⟨m.lt (List.mem_of_getElem? (hrow _)) rfl, ?_⟩
      ((with_reducible (refine fao ?_)); (refine ldoA ?_); (refine vbA ?_))
      refine idxo f3 hi ?_
      refine sto m (q := ⟨hrow _⟩) (u := ⟨rfl⟩) (by rw [rowC_len, Nat.mul_one]; exact hi) rfl rfl fun h6 p6 m => ?_
      refine ⟨trivial, ?_⟩
      ((with_reducible (refine inc_i (by omega) ?_; refine mv_i ?_)))
      refine next1 hjl ⟨⟨Stb.st⟩, B ++ [(i, z)], by simp [hB], ?_⟩
      rw [rowsE_B hBf hi, stepsE_add, hB]
      simp only [List.set_cons_succ, Nat.mul_one] at m
      rw [List.set_append_left _ _ (by rw [rowsE_len]; omega)] at m
      rw [← List.append_assoc]
      exact m.perm (List.perm_append_singleton _ (_ :: _ :: (_ ++ _))).symm
    · exact ⟨m.pre, _, _, _, rfl, rfl, tab_ro rfl rfl m (by omega) (by omega) ⟨by omega, by omega⟩⟩
end Go.Proofs.Ytgmgmkhenhaniaa

set_option linter.unusedSimpArgs false
set_option linter.unusedVariables false
set_option linter.unnecessarySimpa false
set_option maxRecDepth 100000
set_option maxHeartbeats 4000000
namespace Go.Proofs.Ytgmgmkhenhaniaa
open Go.AM
variable {h g : Heap}
/-! ### small functions -/
theorem bs53_0  (h : Heap) : aBuildSlice Try.prog 37 0 [] h = some (.slice (some ⟨h.length, 0, none⟩) 0 1, newArr h [] 1) := by kernel_rfl
theorem bs36_1 (x1 : Pr) (h : Heap) : aBuildSlice Try.prog 56 1 [(0, (fv x1))] h = some (.slice (some ⟨h.length, 0, none⟩) 1 2, newArr h (flat [x1]) 2) := by kernel_rfl
theorem bs27_1 (x1 : Mut) (h : Heap) : aBuildSlice Try.prog 25 1 [(0, (fv x1))] h = some (.slice (some ⟨h.length, 0, none⟩) 1 2, newArr h (flat [x1]) 3) := by kernel_rfl
theorem osl_i {K : Value → Heap → Prop} {x : Value} {o : Option Nat} {n : Nat} (s : IsSl x o n) (h1 : o = none → K (.bool true) h) (h2 : ∀ i, o = some i → K (.bool false) h) : vK (aBin Try.prog .eql 37 x (.slice none 0 0)) h K := by
  cases o with
  | none => obtain ⟨rfl, _⟩ := s; exact vk_i (v := .bool true) (by kernel_rfl) (h1 rfl)
  | some i => obtain ⟨c, rfl, _⟩ := s; exact vk_i (v := .bool false) (by unfold aBin; rw [Try.underlying37]; rfl) (h2 i rfl)
theorem c90 {v : Value} {x : Mach} (s : MacV g v x) : Runs Try.prog 49 [v] g (.int .i64 (chkM x).2) g := by
  obtain ⟨tv, rfl, s⟩ := s
  have m := Mem.start g
  refine DetP.forget rfl ?_
  refine w90 ?_
  unfold n90
  ((with_reducible (refine box_a (by assumption) fun i h z p m => ?_; refine mv_i ?_)); (refine ldwA ?_); (refine call_r (c75 ⟨_, by with_unfolding_all rfl, L.up (by assumption)⟩) ?_); (with_reducible (refine mv_i ?_)))
  unfold mk2
  ((with_reducible (refine ex2_0 ?_; refine ex2_1 ?_; refine mv_i ?_; refine mv_i ?_; refine mv_i ?_; refine mv_i ?_; refine ret1 ?_)))
  exact ⟨rfl, Mem.pre (by assumption)⟩
theorem c69 {x : Value} {o : Option Nat} {k : Nat} {xs : List Int} {g0 : Base} {Lm : List E} (M : Mem g0 g Lm) (q : EntO Lm o k (flat xs) 1) (s : IsSl x o xs.length) (hb : xs.length ≤ 1048576) : DetP Try.prog 52 [x] g fun v h' => g <+: h' ∧ ∃ o', IsSl v o' xs.length ∧ OwnNew g h' o' (flat xs) 1 := by
  have m := Mem.start g
  refine w69 ?_
  unfold n69
  ((with_reducible (refine mv_i ?_; refine mv_i ?_)))
  refine osl_i s (fun e => ?_) (fun i e => ?_)
  · subst e
    have hx := s.2
    rw [List.length_eq_zero_iff] at hx
    subst hx
    ((with_reducible (refine cnd_t ?_; refine mv_i ?_; refine ret1 ?_)))
    exact ⟨m.pre, none, IsSl.nil, fun _ _ m' => m'.nil 1⟩
  · ((with_reducible (refine cnd_f ?_)); (refine bs_g (bs53_0 _) (by assumption) fun i h p m => ?_); (with_reducible (refine mv_i ?_)))
    refine app_copyO m (by infer_instance) s (M.ext m.pre) q rfl (by decide) (by omega) fun v o2 h2 p2 hv m => ?_
    simp only [List.set_cons_zero] at m
    ((with_reducible (refine mv_i ?_; refine ret1 ?_)))
    exact ⟨m.pre, o2, hv, OwnNew.of m⟩
/-! ### pairs with words -/
structure PrX where
  get : Pr
instance : Rep PrX := ⟨3, fun _ cs p => ∃ v, cs = [.int .i64 p.get.a, .int .i64 p.get.b, v] ∧ v.oneCell' = true, by rintro h cs a ⟨v, rfl, _⟩; rfl, fun _ e => e, by rintro h cs a ⟨v, rfl, e⟩; simp only [List.all_cons, e]; rfl⟩
end Go.Proofs.Ytgmgmkhenhaniaa

set_option linter.unusedSimpArgs false
set_option linter.unusedVariables false
set_option linter.unnecessarySimpa false
set_option maxRecDepth 100000
set_option maxHeartbeats 4000000
namespace Go.Proofs.Ytgmgmkhenhaniaa
open Go.AM
variable {h g : Heap}
/-! ### several mutants: their error -/
/-! ### own copies of several mutants -/
theorem c29 {x y : Value} {xs ys : List Int} (s : L g x xs) (t : L g y ys) : Runs Try.prog 12 [x, y] g (.bool (decide (xs = ys))) g := by
  have lt := s.lt
  have lt2 := t.lt
  refine DetP.runs (w29 ?_)
  unfold n29
  ((with_reducible (refine mv_i ?_; refine mv_i ?_; refine len_g (by assumption) ?_; refine mv_i ?_; refine len_g (by assumption) ?_; refine neq_i (fun hc => ?_) (fun hc => ?_); refine cnd_f ?_; refine mv_i ?_)); (rotate_left); (with_reducible (refine cnd_t ?_; refine mv_i ?_; refine ret1 ?_)); (rotate_left))
  · refine loop1 xs.length (fun k h2 => g = h2 ∧ ∀ j, j < k → gt xs j = gt ys j) ⟨rfl, fun j hj => by omega⟩ ?_
    rintro k _ _ hk ⟨rfl, hJ⟩
    ((with_reducible (refine mv_i ?_; refine mv_i ?_; refine len_g (by assumption) ?_; refine lss_i (fun hc => ?_) (fun hc => ?_); refine cnd_t ?_; refine mv_i ?_; refine mv_i ?_)); (refine idxA fun p hp => ?_); (refine ldgA ?_); (refine vbA ?_); (with_reducible (refine mv_i ?_; refine mv_i ?_)); (refine idxA fun p hp => ?_); (refine ldgA ?_); (refine vbA ?_); (with_reducible (refine neq_i (fun hc => ?_) (fun hc => ?_); refine cnd_f ?_; refine mv_i ?_; refine inc_i (by omega) ?_; refine mv_i ?_)); (rotate_left); (with_reducible (refine cnd_t ?_; refine mv_i ?_; refine ret1 ?_)); (rotate_left); (with_reducible (refine cnd_f ?_; refine mv_i ?_; refine ret1 ?_)); (rotate_left))
    · refine next1 (by omega) ⟨rfl, fun j hj => ?_⟩
      by_cases q : j = k
      · subst q; exact hc
      · exact hJ j (by omega)
    · refine ⟨?_, rfl⟩
      rw [decide_eq_false]
      rintro rfl; exact hc rfl
    · refine ⟨?_, rfl⟩
      rw [decide_eq_true]
      exact List.ext_getElem (by omega) fun j h1 h2 => by rw [gt_at h1, gt_at h2]; exact hJ j (by omega)
  · refine ⟨?_, rfl⟩
    rw [decide_eq_false]
    rintro rfl; exact hc rfl
end Go.Proofs.Ytgmgmkhenhaniaa

set_option linter.unusedVariables false
set_option maxRecDepth 100000
namespace Go.Proofs.Ytgmgmkhenhaniaa
open Go.AM

/-! ### examiner/mutant.RelationOf: function 25 -/
def n32 (a0 a1 : Value) (h : Heap) (R : Value → Heap → Prop) : Prop :=
  okK (some (aBox Try.prog 24 a0 h)) fun v2 h =>
  mvK (Value.slice none 0 0) h fun v4 h =>
  mvK (Value.int IntKind.i64 0) h fun v5 h =>
  vK (aLoad Try.prog 24 v2 h) h fun v14 h =>
  mvK a1 h fun v15 h =>
  okK (aBuildSlice Try.prog 91 1 [(0, v15)] h) fun v16 h =>
  cK Try.prog 30 [v14, v16] h fun v17 h =>
  mvK v17 h fun v6 h =>
  mvK v6 h fun v18 h =>
  vK (aBin Try.prog BinOp.neq 28 v18 (Value.int IntKind.i64 0)) h fun v19 h =>
  cnd v19 (
   mvK v6 h fun v20 h =>
   mvK (Value.slice none 0 0) h fun v4_1 h =>
   mvK v20 h fun v5_1 h =>
   retV [some v4_1, some v5_1] R h) (
   vK (aLoad Try.prog 24 v2 h) h fun v21 h =>
   mvK a1 h fun v22 h =>
   cK Try.prog 31 [v21, v22] h fun v23 h =>
   okK (aAlloc Try.prog 24 h) fun v7 h =>
   okK ((aStore Try.prog 24 v7 v23 h).map (undef, ·)) fun _ h =>
   vK (aFieldAddr Try.prog 24 v2 3) h fun v24 h =>
   vK (aLoad Try.prog 3 v24 h) h fun v25 h =>
   vK (aFieldAddr Try.prog 24 v7 3) h fun v26 h =>
   vK (aLoad Try.prog 3 v26 h) h fun v27 h =>
   vK (aBuild Try.prog 77 [(0, v25), (1, v27)]) h fun v28 h =>
   okK (aBuildSlice Try.prog 56 1 [(0, v28)] h) fun v29 h =>
   mvK v29 h fun v8 h =>
   mvK (Value.int IntKind.i64 0) h fun v9 h =>
   ∃ (I7 : List Value → Heap → Prop) (μ7 : List Value → Heap → Nat), I7 [v8, v9] h ∧
   ∀ (h7 : Heap) (j7 : Tmps) (v8_1 : Value) (v9_1 : Value), I7 [v8_1, v9_1] h7 → (let h := h7
    mvK v9_1 h fun v30 h =>
    mvK v8_1 h fun v31 h =>
    vK (aLen Try.prog 56 v31) h fun v32 h =>
    vK (aBin Try.prog BinOp.lss 3 v30 v32) h fun v33 h =>
    cnd v33 (
     vK (aFieldAddr Try.prog 24 v2 1) h fun v36 h =>
     vK (aLoad Try.prog 3 v36 h) h fun v37 h =>
     mvK (Value.int IntKind.i64 0) h fun v38 h =>
     ∃ (I10 : List Value → Heap → Prop) (μ10 : List Value → Heap → Nat), I10 [v8_1, v38] h ∧
     ∀ (h10 : Heap) (j10 : Tmps) (v8_2 : Value) (v38_1 : Value), I10 [v8_2, v38_1] h10 → (let h := h10
      vK (aBin Try.prog BinOp.lss 3 v38_1 v37) h fun v39 h =>
      cnd v39 (
       seqK (fun k0 =>
        mvK v38_1 h fun v40 h =>
        mvK v40 h fun v10 h =>
        vK (aLoad Try.prog 24 v2 h) h fun v41 g =>
        VB h.length v41 ∧ (let h := g
         mvK v8_2 h fun v42 h =>
         mvK v9_1 h fun v43 h =>
         vK (aIndexAddr Try.prog 56 v42 v43) h fun v44 h =>
         vK (aIndexAddr Try.prog 77 v44 (Value.int IntKind.i64 0)) h fun v45 h =>
         vK (aLoad Try.prog 3 v45 h) h fun v46 g =>
         VB h.length v46 ∧ (let h := g
          mvK v10 h fun v47 h =>
          cKD Try.prog 45 [v41, v46, v47] h fun v48 g =>
          (∃ new, g = h ++ new) ∧ (let h := g
           vK (aLoad Try.prog 24 v7 h) h fun v49 g =>
           VB h.length v49 ∧ (let h := g
            mvK v8_2 h fun v50 h =>
            mvK v9_1 h fun v51 h =>
            vK (aIndexAddr Try.prog 56 v50 v51) h fun v52 h =>
            vK (aIndexAddr Try.prog 77 v52 (Value.int IntKind.i64 1)) h fun v53 h =>
            vK (aLoad Try.prog 3 v53 h) h fun v54 g =>
            VB h.length v54 ∧ (let h := g
             mvK v10 h fun v55 h =>
             cKD Try.prog 45 [v49, v54, v55] h fun v56 g =>
             (∃ new, g = h ++ new) ∧ (let h := g
              okK (aAlloc Try.prog 46 h) fun v11 h =>
              okK (aAlloc Try.prog 46 h) fun v12 h =>
              okK ((aStore Try.prog 46 v11 v48 h).map (undef, ·)) fun _ h =>
              (True) ∧ (
               okK ((aStore Try.prog 46 v12 v56 h).map (undef, ·)) fun _ h =>
               (True) ∧ (
                vK (aFieldAddr Try.prog 46 v11 2) h fun v57 h =>
                vK (aLoad Try.prog 3 v57 h) h fun v58 h =>
                vK (aFieldAddr Try.prog 46 v12 2) h fun v59 h =>
                vK (aLoad Try.prog 3 v59 h) h fun v60 h =>
                vK (aBin Try.prog BinOp.neq 3 v58 v60) h fun v61 h =>
                cnd v61 (
                 mvK (Value.slice none 0 0) h fun v4_2 h =>
                 mvK (Value.int IntKind.i64 23) h fun v5_2 h =>
                 retV [some v4_2, some v5_2] R h) (
                 vK (aFieldAddr Try.prog 46 v11 3) h fun v62 h =>
                 vK (aLoad Try.prog 3 v62 h) h fun v63 h =>
                 vK (aFieldAddr Try.prog 46 v12 3) h fun v64 h =>
                 vK (aLoad Try.prog 3 v64 h) h fun v65 h =>
                 vK (aBuild Try.prog 77 [(0, v63), (1, v65)]) h fun v66 h =>
                 okK (aAlloc Try.prog 77 h) fun v13 h =>
                 okK ((aStore Try.prog 77 v13 v66 h).map (undef, ·)) fun _ h =>
                 mvK v8_2 h fun v67 h =>
                 vK (aLoad Try.prog 77 v13 h) h fun v68 h =>
                 cK Try.prog 46 [v67, v68] h fun v69 h =>
                 vK (aUn UnOp.not v69) h fun v70 h =>
                 cnd v70 (
                  mvK v8_2 h fun v71 h =>
                  vK (aLoad Try.prog 77 v13 h) h fun v72 h =>
                  okK (aBuildSlice Try.prog 56 1 [(0, v72)] h) fun v73 h =>
                  okK (aAppend Try.prog 56 56 v71 v73 h) fun v74 h =>
                  mvK v74 h fun v8_3 h =>
                  k0 [v8_3] h) (
                  k0 [v8_2] h))))))))))) fun x0 h => ∀ jx0 : Tmps,
        let v8_4 : Value := nth x0 0
        vK (aBin Try.prog BinOp.add 3 v38_1 (Value.int IntKind.i64 1)) h fun v75 h =>
        mvK v75 h fun v38_2 h =>
        I10 [v8_4, v38_2] h ∧ μ10 [v8_4, v38_2] h < μ10 [v8_2, v38_1] h10) (
       mvK v9_1 h fun v34 h =>
       vK (aBin Try.prog BinOp.add 3 v34 (Value.int IntKind.i64 1)) h fun v35 h =>
       mvK v35 h fun v9_2 h =>
       I7 [v8_2, v9_2] h ∧ μ7 [v8_2, v9_2] h < μ7 [v8_1, v9_1] h7))) (
     mvK v8_1 h fun v76 h =>
     cK Try.prog 47 [v76, (Value.func (Fn.func 48) #[] #[])] h fun v77 h =>
     mvK v8_1 h fun v78 h =>
     mvK v78 h fun v4_3 h =>
     mvK (Value.int IntKind.i64 0) h fun v5_3 h =>
     retV [some v4_3, some v5_3] R h)))
def lv32 (q : Nat) : List Nat := bif Nat.beq q 14 then [75557863725913249693488, 8, 9] else bif Nat.beq q 20 then [75557863725639445527856, 8, 38] else bif Nat.beq q 37 then [37778931861857650097456, 8] else []
theorem ok32 : lkOK Try.prog lv32 Try.f25 2 (Try.f25.body.getD .skip) 25 = true := by kernel_rfl
theorem e32 (a0 a1 : Value) (h : Heap) (R : Value → Heap → Prop) : n32 a0 a1 h R = wpK Try.prog lv32 (Try.f25.body.getD .skip) (endK Try.prog [.tmp 4, .tmp 5] R) (argT [a0, a1]) h := by kernel_rfl
theorem w32 {a0 a1 : Value} {h : Heap} {R : Value → Heap → Prop} (hn : n32 a0 a1 h R) : DetP Try.prog 25 [a0, a1] h R :=
  DetP.of_code (rs := [.tmp 4, .tmp 5]) (n := 2) Try.func25 (by kernel_rfl) (by kernel_rfl) lv32 ok32 rfl ((e32 a0 a1 h R) ▸ hn)

/-! ### examiner/mutant.MutationsOf$1: function 16 -/
def n44 (a0 a1 a2 : Value) (h : Heap) (R : Value → Heap → Prop) : Prop :=
  okK (some (aBox Try.prog 36 a1 h)) fun v4 h =>
  mvK a0 h fun v5 h =>
  cnd v5 (
   vK (aLoad Try.prog 25 a2 h) h fun v6 h =>
   vK (aLoad Try.prog 36 v4 h) h fun v7 h =>
   okK (aBuildSlice Try.prog 25 1 [(0, v7)] h) fun v8 h =>
   okK (aAppend Try.prog 25 25 v6 v8 h) fun v9 h =>
   okK ((aStore Try.prog 25 a2 v9 h).map (undef, ·)) fun _ h =>
   retV [] R h) (
   retV [] R h)
def lv44 (q : Nat) : List Nat := []
theorem ok44 : lkOK Try.prog lv44 Try.f16 3 (Try.f16.body.getD .skip) 16 = true := by kernel_rfl
theorem e44 (a0 a1 a2 : Value) (h : Heap) (R : Value → Heap → Prop) : n44 a0 a1 a2 h R = wpK Try.prog lv44 (Try.f16.body.getD .skip) (endK Try.prog [] R) (argT [a0, a1, a2]) h := by kernel_rfl
theorem w44 {a0 a1 a2 : Value} {h : Heap} {R : Value → Heap → Prop} (hn : n44 a0 a1 a2 h R) : DetP Try.prog 16 [a0, a1, a2] h R :=
  DetP.of_code (rs := []) (n := 3) Try.func16 (by kernel_rfl) (by kernel_rfl) lv44 ok44 rfl ((e44 a0 a1 a2 h R) ▸ hn)

/-! ### slices.SortFunc[[][2]int,[2]int]: function 47 -/
/-! ### examiner/examinerref37.Answer: function 53 -/
def n95 (a0 a1 a2 : Value) (h : Heap) (R : Value → Heap → Prop) : Prop :=
  okK (some (aBox Try.prog 24 a0 h)) fun v3 h =>
  mvK (Value.slice none 0 0) h fun v6 h =>
  mvK (Value.slice none 0 0) h fun v7 h =>
  mvK (Value.slice none 0 0) h fun v8 h =>
  mvK (Value.slice none 0 0) h fun v9 h =>
  vK (aLoad Try.prog 24 v3 h) h fun v12 h =>
  mvK a1 h fun v13 h =>
  mvK a2 h fun v14 h =>
  cK Try.prog 72 [v12, v13, v14] h fun v15 h =>
  mvK v15 h fun v10 h =>
  mvK (Value.int IntKind.i64 0) h fun v11 h =>
  ∃ (I4 : List Value → Heap → Prop) (μ4 : List Value → Heap → Nat), I4 [v8, v9, v11] h ∧
  ∀ (h4 : Heap) (j4 : Tmps) (v8_1 : Value) (v9_1 : Value) (v11_1 : Value), I4 [v8_1, v9_1, v11_1] h4 → (let h := h4
   mvK v11_1 h fun v16 h =>
   mvK v10 h fun v17 h =>
   vK (aLen Try.prog 37 v17) h fun v18 h =>
   vK (aBin Try.prog BinOp.lss 3 v16 v18) h fun v19 h =>
   cnd v19 (
    mvK v8_1 h fun v22 h =>
    vK (aFieldAddr Try.prog 24 v3 4) h fun v23 h =>
    vK (aLoad Try.prog 22 v23 h) h fun v24 g =>
    VB h.length v24 ∧ (let h := g
     mvK v10 h fun v25 h =>
     mvK v11_1 h fun v26 h =>
     vK (aIndexAddr Try.prog 37 v25 v26) h fun v27 h =>
     vK (aLoad Try.prog 3 v27 h) h fun v28 g =>
     VB h.length v28 ∧ (let h := g
      vK (aIndexAddr Try.prog 22 v24 v28) h fun v29 h =>
      vK (aFieldAddr Try.prog 46 v29 2) h fun v30 h =>
      vK (aLoad Try.prog 3 v30 h) h fun v31 g =>
      VB h.length v31 ∧ (let h := g
       okK (aBuildSlice Try.prog 37 1 [(0, v31)] h) fun v32 h =>
       okK (aAppend Try.prog 37 37 v22 v32 h) fun v33 h =>
       (True) ∧ (
        mvK v9_1 h fun v34 h =>
        vK (aFieldAddr Try.prog 24 v3 4) h fun v35 h =>
        vK (aLoad Try.prog 22 v35 h) h fun v36 g =>
        VB h.length v36 ∧ (let h := g
         mvK v10 h fun v37 h =>
         mvK v11_1 h fun v38 h =>
         vK (aIndexAddr Try.prog 37 v37 v38) h fun v39 h =>
         vK (aLoad Try.prog 3 v39 h) h fun v40 g =>
         VB h.length v40 ∧ (let h := g
          vK (aIndexAddr Try.prog 22 v36 v40) h fun v41 h =>
          vK (aFieldAddr Try.prog 46 v41 3) h fun v42 h =>
          vK (aLoad Try.prog 3 v42 h) h fun v43 g =>
          VB h.length v43 ∧ (let h := g
           okK (aBuildSlice Try.prog 37 1 [(0, v43)] h) fun v44 h =>
           okK (aAppend Try.prog 37 37 v34 v44 h) fun v45 h =>
           (True) ∧ (
            mvK v33 h fun v8_2 h =>
            mvK v45 h fun v9_2 h =>
            mvK v11_1 h fun v20 h =>
            vK (aBin Try.prog BinOp.add 3 v20 (Value.int IntKind.i64 1)) h fun v21 h =>
            mvK v21 h fun v11_2 h =>
            I4 [v8_2, v9_2, v11_2] h ∧ μ4 [v8_2, v9_2, v11_2] h < μ4 [v8_1, v9_1, v11_1] h4))))))))) (
    mvK v8_1 h fun v46 h =>
    mvK v9_1 h fun v47 h =>
    mvK v46 h fun v6_1 h =>
    mvK v47 h fun v7_1 h =>
    retV [some v6_1, some v7_1] R h))
def lv95 (q : Nat) : List Nat := bif Nat.beq q 8 then [70368744114944, 8, 9, 11] else []
theorem ok95 : lkOK Try.prog lv95 Try.f53 3 (Try.f53.body.getD .skip) 53 = true := by kernel_rfl
theorem e95 (a0 a1 a2 : Value) (h : Heap) (R : Value → Heap → Prop) : n95 a0 a1 a2 h R = wpK Try.prog lv95 (Try.f53.body.getD .skip) (endK Try.prog [.tmp 6, .tmp 7] R) (argT [a0, a1, a2]) h := by kernel_rfl
theorem w95 {a0 a1 a2 : Value} {h : Heap} {R : Value → Heap → Prop} (hn : n95 a0 a1 a2 h R) : DetP Try.prog 53 [a0, a1, a2] h R :=
  DetP.of_code (rs := [.tmp 6, .tmp 7]) (n := 3) Try.func53 (by kernel_rfl) (by kernel_rfl) lv95 ok95 rfl ((e95 a0 a1 a2 h R) ▸ hn)

/-! ### examiner/examinerref37.Taken: function 72 -/
def n122 (a0 a1 a2 : Value) (h : Heap) (R : Value → Heap → Prop) : Prop :=
  okK (some (aBox Try.prog 24 a0 h)) fun v3 h =>
  mvK (Value.slice none 0 0) h fun v6 h =>
  mvK (Value.slice none 0 0) h fun v7 h =>
  mvK (Value.int IntKind.i64 0) h fun v8 h =>
  ∃ (I3 : List Value → Heap → Prop) (μ3 : List Value → Heap → Nat), I3 [a1, v7, v8] h ∧
  ∀ (h3 : Heap) (j3 : Tmps) (v1 : Value) (v7_1 : Value) (v8_1 : Value), I3 [v1, v7_1, v8_1] h3 → (let h := h3
   mvK v8_1 h fun v10 h =>
   mvK a2 h fun v11 h =>
   vK (aLen Try.prog 37 v11) h fun v12 h =>
   vK (aBin Try.prog BinOp.lss 3 v10 v12) h fun v13 h =>
   cnd v13 (
    vK (aLoad Try.prog 24 v3 h) h fun v16 g =>
    VB h.length v16 ∧ (let h := g
     mvK v1 h fun v17 h =>
     mvK a2 h fun v18 h =>
     mvK v8_1 h fun v19 h =>
     vK (aIndexAddr Try.prog 37 v18 v19) h fun v20 h =>
     vK (aLoad Try.prog 3 v20 h) h fun v21 g =>
     VB h.length v21 ∧ (let h := g
      cKD Try.prog 34 [v16, v17, v21] h fun v22 g =>
      (∃ new, g = h ++ new) ∧ (let h := g
       mvK v22 h fun v9 h =>
       mvK v9 h fun v23 h =>
       vK (aBin Try.prog BinOp.eql 3 v23 (Value.int IntKind.i64 (-1))) h fun v24 h =>
       cnd v24 (
        mvK v7_1 h fun v25 h =>
        mvK v25 h fun v6_1 h =>
        retV [some v6_1] R h) (
        mvK v7_1 h fun v26 h =>
        mvK v9 h fun v27 h =>
        okK (aBuildSlice Try.prog 37 1 [(0, v27)] h) fun v28 h =>
        okK (aAppend Try.prog 37 37 v26 v28 h) fun v29 h =>
        mvK v29 h fun v7_2 h =>
        vK (aFieldAddr Try.prog 24 v3 4) h fun v30 h =>
        vK (aLoad Try.prog 22 v30 h) h fun v31 h =>
        mvK v9 h fun v32 h =>
        vK (aIndexAddr Try.prog 22 v31 v32) h fun v33 h =>
        vK (aFieldAddr Try.prog 46 v33 3) h fun v34 h =>
        vK (aLoad Try.prog 3 v34 h) h fun v35 h =>
        mvK v35 h fun v1_1 h =>
        mvK v8_1 h fun v14 h =>
        vK (aBin Try.prog BinOp.add 3 v14 (Value.int IntKind.i64 1)) h fun v15 h =>
        mvK v15 h fun v8_2 h =>
        I3 [v1_1, v7_2, v8_2] h ∧ μ3 [v1_1, v7_2, v8_2] h < μ3 [v1, v7_1, v8_1] h3))))) (
    mvK v7_1 h fun v36 h =>
    mvK v36 h fun v6_2 h =>
    retV [some v6_2] R h))
def lv122 (q : Nat) : List Nat := bif Nat.beq q 6 then [68719476674, 1, 7, 8] else []
theorem ok122 : lkOK Try.prog lv122 Try.f72 3 (Try.f72.body.getD .skip) 72 = true := by kernel_rfl
theorem e122 (a0 a1 a2 : Value) (h : Heap) (R : Value → Heap → Prop) : n122 a0 a1 a2 h R = wpK Try.prog lv122 (Try.f72.body.getD .skip) (endK Try.prog [.tmp 6] R) (argT [a0, a1, a2]) h := by kernel_rfl
theorem w122 {a0 a1 a2 : Value} {h : Heap} {R : Value → Heap → Prop} (hn : n122 a0 a1 a2 h R) : DetP Try.prog 72 [a0, a1, a2] h R :=
  DetP.of_code (rs := [.tmp 6]) (n := 3) Try.func72 (by kernel_rfl) (by kernel_rfl) lv122 ok122 rfl ((e122 a0 a1 a2 h R) ▸ hn)

end Go.Proofs.Ytgmgmkhenhaniaa

set_option linter.unusedVariables false
set_option maxRecDepth 100000
namespace Go.Proofs
def Ytgmgmkhenhaniaa.lays66_ren : Go.Shelf.Ren := ⟨fun | 6 => 47 | 15 => 39 | 14 => 71 | 28 => 67 | 29 => 68 | 20 => 82 | 21 => 83 | 22 => 84 | 23 => 85 | 24 => 86 | 25 => 87 | 26 => 88 | 27 => 89 | 46 => 97 | 47 => 78 | 48 => 79 | 49 => 98 | 50 => 99 | 57 => 102 | n => n, fun | 22 => 56 | 24 => 77 | 25 => 81 | 3 => 3 | 39 => 72 | 0 => 0 | 53 => 104 | 55 => 106 | 4 => 4 | 46 => 97 | 45 => 96 | 50 => 101 | 5 => 5 | 9 => 9 | 66 => 114 | 70 => 118 | 76 => 129 | 77 => 32 | n => n, fun | n => n⟩
theorem Ytgmgmkhenhaniaa.lays66 : Go.Proofs.SlLaysF0.n6 Try.prog Ytgmgmkhenhaniaa.lays66_ren where
  mixed := by kernel_rfl
  f6 := ⟨ "slices.SortFunc[[][2]int,[2]int]", by decide, Try.func47.trans (congrArg some (by kernel_rfl))⟩
  f14 := ⟨ "slices.pdqsortCmpFunc[[2]int]", by decide, Try.func71.trans (congrArg some (by kernel_rfl))⟩
  f15 := Try.func39.trans (congrArg some (by kernel_rfl))
  f20 := ⟨ "slices.insertionSortCmpFunc[[2]int]", by decide, Try.func82.trans (congrArg some (by kernel_rfl))⟩
  f21 := ⟨ "slices.heapSortCmpFunc[[2]int]", by decide, Try.func83.trans (congrArg some (by kernel_rfl))⟩
  f22 := ⟨ "slices.breakPatternsCmpFunc[[2]int]", by decide, Try.func84.trans (congrArg some (by kernel_rfl))⟩
  f23 := ⟨ "slices.choosePivotCmpFunc[[2]int]", by decide, Try.func85.trans (congrArg some (by kernel_rfl))⟩
  f24 := ⟨ "slices.reverseRangeCmpFunc[[2]int]", by decide, Try.func86.trans (congrArg some (by kernel_rfl))⟩
  f25 := ⟨ "slices.partialInsertionSortCmpFunc[[2]int]", by decide, Try.func87.trans (congrArg some (by kernel_rfl))⟩
  f26 := ⟨ "slices.partitionEqualCmpFunc[[2]int]", by decide, Try.func88.trans (congrArg some (by kernel_rfl))⟩
  f27 := ⟨ "slices.partitionCmpFunc[[2]int]", by decide, Try.func89.trans (congrArg some (by kernel_rfl))⟩
  f28 := Try.func67.trans (congrArg some (by kernel_rfl))
  f29 := Try.func68.trans (congrArg some (by kernel_rfl))
  f46 := ⟨ "slices.siftDownCmpFunc[[2]int]", by decide, Try.func97.trans (congrArg some (by kernel_rfl))⟩
  f47 := Try.func78.trans (congrArg some (by kernel_rfl))
  f48 := Try.func79.trans (congrArg some (by kernel_rfl))
  f49 := ⟨ "slices.medianAdjacentCmpFunc[[2]int]", by decide, Try.func98.trans (congrArg some (by kernel_rfl))⟩
  f50 := ⟨ "slices.medianCmpFunc[[2]int]", by decide, Try.func99.trans (congrArg some (by kernel_rfl))⟩
  f57 := ⟨ "slices.order2CmpFunc[[2]int]", by decide, Try.func102.trans (congrArg some (by kernel_rfl))⟩
  t0 := Try.underlying0
  a0 := Try.isAgg0
  z0 := Try.sizeOf0
  v0 := Try.zeroValue0
  t3 := Try.underlying3
  a3 := Try.isAgg3
  z3 := Try.sizeOf3
  v3 := Try.zeroValue3
  t4 := Try.underlying4
  a4 := Try.isAgg4
  z4 := Try.sizeOf4
  v4 := Try.zeroValue4
  t5 := Try.underlying5
  a5 := Try.isAgg5
  z5 := Try.sizeOf5
  v5 := Try.zeroValue5
  t9 := Try.underlying9
  a9 := Try.isAgg9
  z9 := Try.sizeOf9
  v9 := Try.zeroValue9
  t22 := Try.underlying56
  a22 := Try.isAgg56
  z22 := Try.sizeOf56
  v22 := Try.zeroValue56
  t25 := Try.underlying81
  a25 := Try.isAgg81
  z25 := Try.sizeOf81
  v25 := Try.zeroValue81
  t39 := Try.underlying72
  a39 := Try.isAgg72
  z39 := Try.sizeOf72
  v39 := Try.zeroValue72
  t45 := Try.underlying96
  a45 := Try.isAgg96
  z45 := Try.sizeOf96
  v45 := Try.zeroValue96
  t46 := Try.underlying97
  a46 := Try.isAgg97
  z46 := Try.sizeOf97
  v46 := Try.zeroValue97
  t50 := Try.underlying101
  a50 := Try.isAgg101
  z50 := Try.sizeOf101
  v50 := Try.zeroValue101
  t53 := Try.underlying104
  a53 := Try.isAgg104
  z53 := Try.sizeOf104
  v53 := Try.zeroValue104
  t55 := Try.underlying106
  a55 := Try.isAgg106
  z55 := Try.sizeOf106
  v55 := Try.zeroValue106
  t66 := Try.underlying114
  a66 := Try.isAgg114
  z66 := Try.sizeOf114
  v66 := Try.zeroValue114
  t70 := Try.underlying118
  a70 := Try.isAgg118
  z70 := Try.sizeOf118
  v70 := Try.zeroValue118
  t76 := Try.underlying129
  a76 := Try.isAgg129
  z76 := Try.sizeOf129
  v76 := Try.zeroValue129
  t77 := Try.underlying32
  a77 := Try.isAgg32
  z77 := Try.sizeOf32
  v77 := Try.zeroValue32
def Ytgmgmkhenhaniaa.lays45_ren : Go.Shelf.Ren := ⟨fun | 6 => 17 | 15 => 39 | 14 => 38 | 28 => 67 | 29 => 68 | 20 => 59 | 21 => 60 | 22 => 61 | 23 => 62 | 24 => 63 | 25 => 64 | 26 => 65 | 27 => 66 | 46 => 77 | 47 => 78 | 48 => 79 | 49 => 80 | 50 => 81 | 57 => 96 | n => n, fun | 22 => 25 | 24 => 36 | 25 => 48 | 3 => 3 | 39 => 72 | 0 => 0 | 53 => 104 | 55 => 106 | 4 => 4 | 46 => 97 | 45 => 96 | 50 => 101 | 5 => 5 | 9 => 9 | 66 => 114 | 70 => 118 | 76 => 129 | 77 => 32 | n => n, fun | n => n⟩
theorem Ytgmgmkhenhaniaa.lays45 : Go.Proofs.SlLaysF0.n6 Try.prog Ytgmgmkhenhaniaa.lays45_ren where
  mixed := by kernel_rfl
  f6 := ⟨ "slices.SortFunc[[]examiner/api.Mutation,examiner/api.Mutation]", by decide, Try.func17.trans (congrArg some (by kernel_rfl))⟩
  f14 := ⟨ "slices.pdqsortCmpFunc[examiner/api.Mutation]", by decide, Try.func38.trans (congrArg some (by kernel_rfl))⟩
  f15 := Try.func39.trans (congrArg some (by kernel_rfl))
  f20 := ⟨ "slices.insertionSortCmpFunc[examiner/api.Mutation]", by decide, Try.func59.trans (congrArg some (by kernel_rfl))⟩
  f21 := ⟨ "slices.heapSortCmpFunc[examiner/api.Mutation]", by decide, Try.func60.trans (congrArg some (by kernel_rfl))⟩
  f22 := ⟨ "slices.breakPatternsCmpFunc[examiner/api.Mutation]", by decide, Try.func61.trans (congrArg some (by kernel_rfl))⟩
  f23 := ⟨ "slices.choosePivotCmpFunc[examiner/api.Mutation]", by decide, Try.func62.trans (congrArg some (by kernel_rfl))⟩
  f24 := ⟨ "slices.reverseRangeCmpFunc[examiner/api.Mutation]", by decide, Try.func63.trans (congrArg some (by kernel_rfl))⟩
  f25 := ⟨ "slices.partialInsertionSortCmpFunc[examiner/api.Mutation]", by decide, Try.func64.trans (congrArg some (by kernel_rfl))⟩
  f26 := ⟨ "slices.partitionEqualCmpFunc[examiner/api.Mutation]", by decide, Try.func65.trans (congrArg some (by kernel_rfl))⟩
  f27 := ⟨ "slices.partitionCmpFunc[examiner/api.Mutation]", by decide, Try.func66.trans (congrArg some (by kernel_rfl))⟩
  f28 := Try.func67.trans (congrArg some (by kernel_rfl))
  f29 := Try.func68.trans (congrArg some (by kernel_rfl))
  f46 := ⟨ "slices.siftDownCmpFunc[examiner/api.Mutation]", by decide, Try.func77.trans (congrArg some (by kernel_rfl))⟩
  f47 := Try.func78.trans (congrArg some (by kernel_rfl))
  f48 := Try.func79.trans (congrArg some (by kernel_rfl))
  f49 := ⟨ "slices.medianAdjacentCmpFunc[examiner/api.Mutation]", by decide, Try.func80.trans (congrArg some (by kernel_rfl))⟩
  f50 := ⟨ "slices.medianCmpFunc[examiner/api.Mutation]", by decide, Try.func81.trans (congrArg some (by kernel_rfl))⟩
  f57 := ⟨ "slices.order2CmpFunc[examiner/api.Mutation]", by decide, Try.func96.trans (congrArg some (by kernel_rfl))⟩
  t0 := Try.underlying0
  a0 := Try.isAgg0
  z0 := Try.sizeOf0
  v0 := Try.zeroValue0
  t3 := Try.underlying3
  a3 := Try.isAgg3
  z3 := Try.sizeOf3
  v3 := Try.zeroValue3
  t4 := Try.underlying4
  a4 := Try.isAgg4
  z4 := Try.sizeOf4
  v4 := Try.zeroValue4
  t5 := Try.underlying5
  a5 := Try.isAgg5
  z5 := Try.sizeOf5
  v5 := Try.zeroValue5
  t9 := Try.underlying9
  a9 := Try.isAgg9
  z9 := Try.sizeOf9
  v9 := Try.zeroValue9
  t22 := Try.underlying25
  a22 := Try.isAgg25
  z22 := Try.sizeOf25
  v22 := Try.zeroValue25
  t25 := Try.underlying48
  a25 := Try.isAgg48
  z25 := Try.sizeOf48
  v25 := Try.zeroValue48
  t39 := Try.underlying72
  a39 := Try.isAgg72
  z39 := Try.sizeOf72
  v39 := Try.zeroValue72
  t45 := Try.underlying96
  a45 := Try.isAgg96
  z45 := Try.sizeOf96
  v45 := Try.zeroValue96
  t46 := Try.underlying97
  a46 := Try.isAgg97
  z46 := Try.sizeOf97
  v46 := Try.zeroValue97
  t50 := Try.underlying101
  a50 := Try.isAgg101
  z50 := Try.sizeOf101
  v50 := Try.zeroValue101
  t53 := Try.underlying104
  a53 := Try.isAgg104
  z53 := Try.sizeOf104
  v53 := Try.zeroValue104
  t55 := Try.underlying106
  a55 := Try.isAgg106
  z55 := Try.sizeOf106
  v55 := Try.zeroValue106
  t66 := Try.underlying114
  a66 := Try.isAgg114
  z66 := Try.sizeOf114
  v66 := Try.zeroValue114
  t70 := Try.underlying118
  a70 := Try.isAgg118
  z70 := Try.sizeOf118
  v70 := Try.zeroValue118
  t76 := Try.underlying129
  a76 := Try.isAgg129
  z76 := Try.sizeOf129
  v76 := Try.zeroValue129
  t77 := Try.underlying32
  a77 := Try.isAgg32
  z77 := Try.sizeOf32
  v77 := Try.zeroValue32
end Go.Proofs

set_option linter.unusedSimpArgs false
set_option linter.unusedVariables false
set_option linter.unnecessarySimpa false
set_option maxRecDepth 100000
set_option maxHeartbeats 4000000
namespace Go.Proofs.Ytgmgmkhenhaniaa
open Go.AM
variable {h g : Heap}
/-! ### sorting -/
instance : Inhabited Pr := ⟨⟨0, 0⟩⟩
instance : Inhabited Mut := ⟨⟨0, 0, 0⟩⟩
theorem cmpP_lt (a b : Pr) : cmpP a b < 0 ↔ a.a < b.a ∨ a.a = b.a ∧ a.b < b.b := by
  rw [cmpP, orOf_cons, orOf_cons, orOf_nil]
  unfold cmpI
  repeat' split
  all_goals omega
theorem ltP (a b : Pr) : Go.Proofs.ltOf cmpP a b = true ↔ a.a < b.a ∨ a.a = b.a ∧ a.b < b.b := by
  unfold Go.Proofs.ltOf
  rw [decide_eq_true_iff, cmpP_lt]
theorem ltPn (a b : Pr) : Go.Proofs.ltOf cmpP a b = false ↔ ¬ (a.a < b.a ∨ a.a = b.a ∧ a.b < b.b) := by
  rw [← ltP, Bool.not_eq_true]
theorem swoP : Go.Sort.SWO (Go.Proofs.ltOf cmpP) := by
  refine ⟨fun x => ?_, fun x y z h1 h2 => ?_, fun x y z h1 h2 => ?_⟩
  · rw [ltPn]; omega
  · rw [ltP] at *; omega
  · rw [ltPn] at *; omega
theorem totP : ∀ x y, Go.Proofs.ltOf cmpP x y = false → Go.Proofs.ltOf cmpP y x = false → x = y := by
  intro x y h1 h2
  rw [ltPn] at h1 h2
  cases x; cases y
  simp only [Pr.mk.injEq] at *
  omega
theorem c66 {i c : Nat} {xs : List Pr} {h0 : Heap} {Lm : List E} {k : Nat} (m : Mem h0 h Lm) (q : Lm[k]? = some ⟨some i, flat xs, 2⟩) (hne : 0 < xs.length) (hlen : xs.length < 4611686018427387904) :
    Runs Try.prog 47 [.slice (some ⟨i, 0, none⟩) xs.length c, .func (.func 48) #[] #[]] h (.tuple #[]) (h.set i (.arr ⟨flat (srt cmpP xs), 2, false⟩)) :=
  sort_run (α := Pr) (g0 := 48) lays66 Try.isAgg77 Try.sizeOf77 cmpP swoP totP (enters_of Try.func48 (by kernel_rfl) rfl) (by kernel_rfl) rfl (fun x y => c49 x y) rfl (by kernel_rfl) (m.get q) hne hlen (by decide)
theorem sort66 {K : Value → Heap → Prop} {v : Value} {i : Nat} {xs : List Pr} {h0 : Heap} {Lm : List E} {k : Nat} (m : Mem h0 h Lm) (s : IsSl v (some i) xs.length) (q : Lm[k]? = some ⟨some i, flat xs, 2⟩) (hne : 0 < xs.length) (hlen : xs.length < 4611686018427387904)
    (hK : ∀ h', Prec h h' → Mem h0 h' (Lm.set k ⟨some i, flat (srt cmpP xs), 2⟩) → K (.tuple #[]) h') : callK Try.prog (some (47, [v, .func (.func 48) #[] #[]])) h K := by
  obtain ⟨c, rfl, _⟩ := s
  exact call_r (c66 m q hne hlen) (hK _ ⟨m.setStab q _⟩ (m.set q _))
end Go.Proofs.Ytgmgmkhenhaniaa

set_option linter.unusedSimpArgs false
set_option linter.unusedVariables false
set_option linter.unnecessarySimpa false
set_option maxRecDepth 100000
set_option maxHeartbeats 4000000
namespace Go.Proofs.Ytgmgmkhenhaniaa
open Go.AM
variable {h g : Heap}
/-! ### reading a table -/
def rowOf (x : Mach) (z : Int) : List (Bx Stp) := (List.range x.inputs.toNat).map fun (i : Nat) => ⟨stO x z (i : Int)⟩
theorem nat_code {z n w : Int} (h0 : 0 ≤ z) (hn : 0 ≤ n) (hw : 0 ≤ w) : (z * n + w).toNat = z.toNat * n.toNat + w.toNat := by
  have e1 : (z.toNat : Int) = z := Int.toNat_of_nonneg h0
  have e2 : (n.toNat : Int) = n := Int.toNat_of_nonneg hn
  have e3 : (w.toNat : Int) = w := Int.toNat_of_nonneg hw
  have : ((z.toNat * n.toNat + w.toNat : Nat) : Int) = z * n + w := by push_cast; rw [e1, e2, e3]
  omega
theorem tab_at {x : Mach} {z : Int} (h0 : 0 ≤ z) (hz : z.toNat < (tab x).length) (hn : 0 ≤ x.inputs) (hl : z ≤ x.states - 1) : (tab x)[z.toNat] = rowOf x z := by
  have h1 : (tab x)[z.toNat]? = some (rowOf x z) := by
    unfold tab
    rw [List.getElem?_map, List.getElem?_range (by omega)]
    simp only [Option.map_some, Option.some.injEq]
    unfold rowOf
    refine List.map_congr_left fun i hi => ?_
    unfold stO
    rw [nat_code h0 hn (by omega)]; simp
  rw [List.getElem?_eq_getElem hz] at h1
  exact Option.some.inj h1
theorem idx_tab {K : Value → Heap → Prop} {h1 : Heap} {v : Value} {x : Mach} {t e sz by_ : Nat} {z : Int} [T : SlT Try.prog t e sz by_] (s : L h1 v (tab x)) (hz : sz = 1) (h0 : 0 ≤ z) (hk : z ≤ x.states - 1) (hn : 0 ≤ x.inputs)
    (hK : ∀ p v, Pt h1 p [v] 0 → L h1 v (rowOf x z) → K p h) : vK (aIndexAddr Try.prog t v (.int .i64 z)) h K := by
  have hl : z.toNat < (tab x).length := by unfold tab; rw [List.length_map, List.length_range]; omega
  refine idx_lz s hz h0 hl fun p v hp hl2 => ?_
  rw [tab_at h0 hl hn hk] at hl2
  exact hK p v hp hl2
theorem idx_row {K : Value → Heap → Prop} {h1 : Heap} {v : Value} {x : Mach} {t e sz by_ : Nat} {z w : Int} [T : SlT Try.prog t e sz by_] (s : L h1 v (rowOf x z)) (hz : sz = 1) (h0 : 0 ≤ w) (hk : w ≤ x.inputs - 1)
    (hK : ∀ p v, Pt h1 p [v] 0 → Pt h1 v (Flat.cells (stO x z w)) 0 → K p h) : vK (aIndexAddr Try.prog t v (.int .i64 w)) h K := by
  have hl : w.toNat < (rowOf x z).length := by unfold rowOf; rw [List.length_map, List.length_range]; omega
  refine idx_b s hz h0 hl fun p v hp hl2 => ?_
  have : ((rowOf x z)[w.toNat]).get = stO x z w := by
    have h1 : (rowOf x z)[w.toNat]? = some ⟨stO x z w⟩ := by
      unfold rowOf
      rw [List.getElem?_map, List.getElem?_range (by omega)]
      simp only [Option.map_some, Option.some.injEq]
      rw [Int.toNat_of_nonneg h0]
    rw [List.getElem?_eq_getElem hl] at h1
    rw [Option.some.inj h1]
  rw [this] at hl2
  exact hK p v hp hl2
theorem ptr135 : ptrB Try.prog 87 = true := by kernel_rfl
/-! ### more of the search -/
theorem gt_pre {α : Type} [Df α] {p q : List α} (hp : p <+: q) {k : Nat} (hk : k < p.length) : gt q k = gt p k := by
  obtain ⟨t, rfl⟩ := hp
  unfold gt
  simp [List.getD, List.getElem?_append_left hk]
theorem bst_wl {x y : Mach} {i n m : Nat} {s : BS} (hs : ∀ w ∈ s.ws, w.length ≤ m) (hi : (s.ws.getD i []).length + 1 ≤ m) : ∀ w ∈ (bst x y i n s).ws, w.length ≤ m := by
  unfold bst
  split
  · exact hs
  · split
    · exact hs
    · split
      · exact hs
      · intro w hw
        rcases List.mem_append.mp hw with hw | hw
        · exact hs w hw
        · rw [List.mem_singleton] at hw; subst hw
          simpa [wrd] using hi
theorem brow_wl {x y : Mach} {i m : Nat} {s : BS} (hs : ∀ w ∈ s.ws, w.length ≤ m) (hi : i < s.ws.length) : ∀ n, ∀ w ∈ (brow x y i s n).ws, w.length ≤ m + 1
  | 0 => fun w hw => by have := hs w hw; omega
  | n + 1 => by
    refine bst_wl (brow_wl hs hi n) ?_
    obtain ⟨t, ht⟩ := (brow_grow (x := x) (y := y) (i := i) (s := s) n).2
    rw [← ht]
    have : (s.ws ++ t).getD i [] = s.ws.getD i [] := by simp [List.getD, List.getElem?_append_left hi]
    rw [this]
    have := hs _ (gd_mem [] hi)
    omega
theorem bfs_wl {x y : Mach} {p0 : Pr} (P : Par x y) (h0 : inP x p0) : ∀ k, ∀ w ∈ (bfs x y p0 k).ws, w.length ≤ k
  | 0 => by intro w hw; simp [bfs] at hw; subst hw; simp
  | k + 1 => by
    unfold bfs
    split
    · rename_i h
      exact brow_wl (bfs_wl P h0 k) (by rw [(BI.all P h0 k).len]; exact h) _
    · intro w hw; have := bfs_wl P h0 k w hw; omega
/-- What Difference gives. -/
def difE (x y : Mach) (p0 : Pr) : Int := if (srch x y p0).fnd = none then 23 else 0
def difW (x y : Mach) (p0 : Pr) : List Int := (srch x y p0).fnd.getD []
theorem c64 {v w : Value} {x y : Mach} (s : MacV g v x) (t : MacV g w y) (P : Par x y) (h0 : inP x ⟨x.start, y.start⟩) :
    DetP Try.prog 26 [v, w] g fun v' h' => g <+: h' ∧ ∃ b n q, v' = .tuple #[.slice b n q, .int .i64 (difE x y ⟨x.start, y.start⟩)] ∧ L h' (.slice b n q) (difW x y ⟨x.start, y.start⟩) := by
  refine DetP.freeze ?_
  obtain ⟨tv, rfl, s⟩ := s
  obtain ⟨uv, rfl, t⟩ := t
  obtain ⟨b0, q0, rfl, _⟩ := s.shape
  obtain ⟨b1, q1, rfl, _⟩ := t.shape
  obtain ⟨⟨a1, a2⟩, ⟨a3, a4⟩, _⟩ := (chk_ok P.cx).1
  have hip : x.inputs = y.inputs := P.ip.symm
  have hst : y.states = x.states := P.st
  have m := Mem.start g
  refine w64 ?_
  unfold n64
  refine box_a m fun ix h1 zx p1 m => ?_
  refine box_a m fun iy h2 zy p2 m => ?_
  ((with_reducible (refine mv_i ?_; refine mv_i ?_)); (refine ldwA ?_); (refine vb_mac (by assumption) ?_))
  have C := fun {h : Heap} {v : Value} (s : MacV h v x) => c90 (g := h) s
  have D := fun {h : Heap} {v : Value} (s : MacV h v y) => c90 (g := h) s
  rw [P.cx] at C
  rw [P.cy] at D
  refine calld_r (C ⟨_, rfl, s.up⟩) ?_
  ((with_reducible (refine new_n ?_)); (refine ldwA ?_); (refine vb_mac (by assumption) ?_))
  refine calld_r (D ⟨_, rfl, t.up⟩) ?_
  ((with_reducible (refine new_n ?_; refine fao ?_)); (refine ldoA ?_); (refine vbA ?_); (with_reducible (refine fao ?_)); (refine ldoA ?_); (refine vbA ?_); (with_reducible (refine eql_h (by first | assumption | decide) ?_)); (refine calld_r (c91 _ _) ?_); (with_reducible (refine new_n ?_)); (refine bs_g (bs141_3 _ _ _ _) (by assumption) fun i h p m => ?_); (refine calld_r (c76 (own_ints (xs := [_, _, _]) (by assumption) (q := by infer_instance) rfl rfl (by decide))) ?_); (with_reducible (refine new_n ?_; refine mv_i ?_; refine mv_i ?_; refine neq_h (by first | assumption | decide) ?_; refine cnd_f ?_)); (refine ldwA ?_); (refine vb_mac (by assumption) ?_))
  refine calld_d (c92 ⟨_, rfl, s.up⟩ P.cx P.lx) m fun v3 h3 p3 p3' m ⟨b3, q3, n3, e3, hn3, s3⟩ => ?_
  subst e3
  refine new_p p3 ?_
  ((refine ldwA ?_); (refine vb_mac (by assumption) ?_))
  refine calld_d (c92 ⟨_, rfl, t.up⟩ P.cy P.ly) m fun v4 h4 p4 p4' m ⟨b4, q4, n4, e4, hn4, s4⟩ => ?_
  subst e4
  refine new_p p4 ?_
  ((with_reducible (refine mv_i ?_; refine mv_i ?_; refine fao ?_)); (refine ldoA ?_); (with_reducible (refine fao ?_)); (refine ldoA ?_); (refine vk_i (bd77_01 _ _) ?_); (refine bs_g (bs36_1 _ _) (by assumption) fun i h p m => ?_); (refine bs_g (bs51_1 _ _ _ _) (by assumption) fun i h p m => ?_); (with_reducible (refine mv_i ?_; refine mv_i ?_; refine mv_i ?_)))
  obtain ⟨hx, rfl⟩ : ∃ q, q = h := ⟨h, rfl⟩
  rename_i o1
  refine loop3 1600 (fun k a b h => (bfs x y ⟨x.start, y.start⟩ k).fnd = none ∧ ∃ o1 o2 vs W, IsSl a (some o1) (bfs x y ⟨x.start, y.start⟩ k).ps.length ∧ IsSl b (some o2) (bfs x y ⟨x.start, y.start⟩ k).ps.length ∧ LL vs W (bfs x y ⟨x.start, y.start⟩ k).ws ∧ Prec hx h ∧
    Mem g h (⟨some o1, flat (bfs x y ⟨x.start, y.start⟩ k).ps, 2⟩ :: ⟨some o2, vs, 1⟩ :: ⟨some iy, [.int .i64 y.states, .int .i64 y.inputs, .int .i64 y.outputs, .int .i64 y.start, .slice b1 y.steps.length q1], zy⟩ :: ⟨some ix, [.int .i64 x.states, .int .i64 x.inputs, .int .i64 x.outputs, .int .i64 x.start, .slice b0 x.steps.length q0], zx⟩ :: rowsW W (bfs x y ⟨x.start, y.start⟩ k).ws)) ⟨rfl, ?_⟩ ?_
  · refine ⟨_, _, [.slice none 0 0], [none], IsSl.some1, IsSl.some1, ⟨rfl, rfl, fun j hj => ?_⟩, ⟨Stab.refl _⟩, ?_⟩
    · have : j = 0 := by simp [bfs] at hj; exact hj
      subst this; exact IsSl.nil
    · have m := m.sub (.cons_cons _ (.cons_cons _ (.cons _ (List.Sublist.refl _))))
      have m2 := (m.nil 1).perm (List.perm_append_singleton (⟨none, [], 1⟩ : E) [_, _, _, _]).symm
      exact m2.perm (List.Perm.swap _ _ _)
  rintro k a b h5 _ hk ⟨hf, o1, o2, vs, W, hs1, hs2, hll, p5, m⟩
  have B0 := BI.all P h0 k
  have W0 := bfs_wl P h0 k
  have hend := @srch_end x y ⟨x.start, y.start⟩ k hk
  have hfnd := fun (n : Nat) => @srch_fnd x y ⟨x.start, y.start⟩ k n
  have hnext := @bfs_next x y ⟨x.start, y.start⟩ k
  generalize hS : bfs x y ⟨x.start, y.start⟩ k = S at *
  have lw := B0.len
  have few := B0.few a2
  ((with_reducible (refine mv_i ?_; refine mv_i ?_; refine len_o (by assumption) ?_; refine lss_i (fun hc => ?_) (fun hc => ?_); refine cnd_t ?_; refine mv_i ?_; refine mv_i ?_)); (refine idx_o (by assumption) (by omega) ?_); (refine ldw_d (by assumption) (by infer_instance) (by with_unfolding_all rfl) (by omega) ?_); (with_reducible (refine alloc_z (by assumption) fun i h z p m => ?_)); (refine st_w (by assumption) (by infer_instance) (by with_unfolding_all rfl) (by with_unfolding_all rfl) (by first | rfl | exact flat_ones (Flat.flat _)) (by infer_instance) fun h p m => ?_); (with_reducible (refine fao ?_)); (refine ldoA ?_); (with_reducible (refine mv_i ?_)); (rotate_left); (with_reducible (refine cnd_f ?_; refine mv_i ?_; refine mv_i ?_; refine ret2 ?_)); (rotate_left))
  · have hkl : k < S.ps.length := by omega
    obtain ⟨⟨r1, r2⟩, r3, r4⟩ := B0.inp _ (gd_mem Df.d hkl)
    change 0 ≤ (gt S.ps k).a at r1
    change (gt S.ps k).a ≤ x.states - 1 at r2
    change 0 ≤ (gt S.ps k).b at r3
    change (gt S.ps k).b ≤ x.states - 1 at r4
    obtain ⟨ip, rfl⟩ : ∃ q, q = i := ⟨i, rfl⟩
    obtain ⟨zp, rfl⟩ : ∃ q, q = z := ⟨z, rfl⟩
    refine loop3 x.inputs.toNat (fun n a b h => (brow x y k S n).fnd = none ∧ ∃ o1 o2 vs W, IsSl a (some o1) (brow x y k S n).ps.length ∧ IsSl b (some o2) (brow x y k S n).ps.length ∧ LL vs W (brow x y k S n).ws ∧ Prec hx h ∧ Mem g h (⟨some o1, flat (brow x y k S n).ps, 2⟩ :: ⟨some o2, vs, 1⟩ :: ⟨some ip, Flat.cells (gt S.ps k), zp⟩ :: ⟨some iy, [.int .i64 y.states, .int .i64 y.inputs, .int .i64 y.outputs, .int .i64 y.start, .slice b1 y.steps.length q1], zy⟩ :: ⟨some ix, [.int .i64 x.states, .int .i64 x.inputs, .int .i64 x.outputs, .int .i64 x.start, .slice b0 x.steps.length q0], zx⟩ :: rowsW W (brow x y k S n).ws)) ⟨hf, o1, o2, vs, W, hs1, hs2, hll, ⟨Stb.st⟩, m.perm ((List.Perm.swap _ _ _).trans (List.Perm.cons _ (List.Perm.swap _ _ _)))⟩ ?_
    rintro n a b h6 _ hn ⟨hf2, o1, o2, vs, W, hs1, hs2, hll, p6, m⟩
    have B1 := B0.row P hkl n hn
    have W1 := brow_wl (x := x) (y := y) (i := k) W0 (by omega) n
    have hgp := gt_pre (brow_grow (x := x) (y := y) (i := k) (s := S) n).1 hkl
    have hlen2 := (brow_grow (x := x) (y := y) (i := k) (s := S) n).1.length_le
    have hfnd2 := hfnd n
    generalize hQ : brow x y k S n = Q at *
    have lw2 := B1.len
    have few2 := B1.few a2
    have hwl := W1 _ (gd_mem [] (show k < Q.ws.length by omega))
    ((with_reducible (refine lss_i (fun hc => ?_) (fun hc => ?_); refine cnd_t ?_)); (rotate_left); (with_reducible (refine cnd_f ?_; refine mv_i ?_; refine inc_i (by omega) ?_; refine mv_i ?_)); (rotate_left))
    · refine seq_J (fun xs h => ∃ a b, xs = [a, b] ∧ (bst x y k n Q).fnd = none ∧ ∃ o1 o2 vs W, IsSl a (some o1) (bst x y k n Q).ps.length ∧ IsSl b (some o2) (bst x y k n Q).ps.length ∧ LL vs W (bst x y k n Q).ws ∧ Prec hx h ∧ Mem g h (⟨some o1, flat (bst x y k n Q).ps, 2⟩ :: ⟨some o2, vs, 1⟩ :: ⟨some ip, Flat.cells (gt S.ps k), zp⟩ :: ⟨some iy, [.int .i64 y.states, .int .i64 y.inputs, .int .i64 y.outputs, .int .i64 y.start, .slice b1 y.steps.length q1], zy⟩ :: ⟨some ix, [.int .i64 x.states, .int .i64 x.inputs, .int .i64 x.outputs, .int .i64 x.start, .slice b0 x.steps.length q0], zx⟩ :: rowsW W (bst x y k n Q).ws)) ?_ ?_
      · rintro _ h7 ⟨a3, b3, rfl, hf3, rest⟩
        (((with_reducible refine fun (_ : Tmps) => ?_); (try dsimp only [nth])); (with_reducible (refine inc_i (by omega) ?_; refine mv_i ?_)))
        refine next3 (by omega) ⟨?_, ?_⟩
        · show (bst x y k n (brow x y k S n)).fnd = none
          rw [hQ]; exact hf3
        · show ∃ o1 o2 vs W, IsSl a3 (some o1) (bst x y k n (brow x y k S n)).ps.length ∧ IsSl b3 (some o2) (bst x y k n (brow x y k S n)).ps.length ∧ LL vs W (bst x y k n (brow x y k S n)).ws ∧ Prec hx h7 ∧ Mem g h7 (⟨some o1, flat (bst x y k n (brow x y k S n)).ps, 2⟩ :: ⟨some o2, vs, 1⟩ :: ⟨some ip, Flat.cells (gt S.ps k), zp⟩ :: ⟨some iy, [.int .i64 y.states, .int .i64 y.inputs, .int .i64 y.outputs, .int .i64 y.start, .slice b1 y.steps.length q1], zy⟩ :: ⟨some ix, [.int .i64 x.states, .int .i64 x.inputs, .int .i64 x.outputs, .int .i64 x.start, .slice b0 x.steps.length q0], zx⟩ :: rowsW W (bst x y k n (brow x y k S n)).ws)
          rw [hQ]; exact rest
      · intro k' hk'
        obtain ⟨vk, hvk, hvs⟩ := hll.at (j := k) (by omega)
        ((with_reducible (refine mv_i ?_; refine mv_i ?_; refine mv_i ?_; refine mv_i ?_)); (refine idx_o (by assumption) (by omega) ?_))
        refine ldo m (k := 1) (q := ⟨rfl⟩) (by rw [Nat.mul_one]; exact hvk) ?_
        skip
        refine call_d (c69 m (o := W.getD k none) (k := k + 5) ⟨by show (rowsW W Q.ws)[k]? = _; exact rowsW_get hll (by omega)⟩ hvs (by omega)) m fun v7 h7 p7 p7' _ ⟨o', hv, hnn⟩ => ?_
        have m := hnn _ _ m
        ((with_reducible (refine mv_i ?_)); (refine bs_g (bs53_1 _ _) (by assumption) fun i h p m => ?_))
        refine app_snoc (a := (n : Int)) (k2 := 0) (j := 0) m hv (by infer_instance) ⟨rfl⟩ rfl ⟨by omega, by omega⟩ fun i2 h8 p8 m => ?_
        simp only [List.set_cons_succ, List.set_cons_zero] at m
        ((with_reducible (refine mv_i ?_; refine mv_i ?_)); (refine ia_o (by omega) (by omega) ?_); (refine ldoA ?_); (refine vbA ?_); (refine idx_tab (by assumption) (by with_unfolding_all rfl) (by omega) (by omega) (by omega) fun p w hp hr => ?_); (refine ldgA ?_); (with_reducible (refine vb_l (by assumption) ?_; refine mv_i ?_)); (refine idx_row (by assumption) (by with_unfolding_all rfl) (by omega) (by omega) fun p w hp hq => ?_); (refine ldgA ?_); (with_reducible (refine vb_pt (by assumption) ?_; refine mv_i ?_)); (refine ia_o (by omega) (by omega) ?_); (refine ldoA ?_); (refine vbA ?_); (refine idx_tab (by assumption) (by with_unfolding_all rfl) (by omega) (by omega) (by omega) fun p w hp hr => ?_); (refine ldgA ?_); (with_reducible (refine vb_l (by assumption) ?_; refine mv_i ?_)); (refine idx_row (by assumption) (by with_unfolding_all rfl) (by omega) (by omega) fun p w hp hq => ?_); (refine ldgA ?_); (with_reducible (refine vb_pt (by assumption) ?_; refine mv_i ?_; refine mv_i ?_; refine mv_i ?_; refine pnil_g ptr135 (by assumption) ?_; refine mv_i ?_; refine gd_ft ?_; refine gd_ft ?_; refine pick_f ?_; refine cnd_f ?_; refine mv_i ?_; refine pnil_g ptr135 (by assumption) ?_; refine mv_i ?_; refine gd_ff ?_; refine mv_i ?_; refine gd_ff ?_; refine pnil_g ptr135 (by assumption) ?_; refine pick_f ?_; refine mv_i ?_; refine gd_ff ?_; refine mv_i ?_; refine gd_ff ?_; refine pnn_g (by assumption) ?_; refine gd_ff ?_; refine fa_g (by assumption) fun p hp => ?_; refine gd_ff ?_)); (refine ldgA ?_); (refine vbA ?_); (with_reducible (refine gd_ff ?_; refine mv_i ?_; refine gd_ff ?_; refine pnn_g (by assumption) ?_; refine gd_ff ?_; refine fa_g (by assumption) fun p hp => ?_; refine gd_ff ?_)); (refine ldgA ?_); (refine vbA ?_); (with_reducible (refine gd_ff ?_; refine neq_i (fun hc => ?_) (fun hc => ?_); refine pick_f ?_; refine cnd_f ?_; refine mv_i ?_; refine pnn_g (by assumption) ?_; refine fa_g (by assumption) fun p hp => ?_)); (refine ldgA ?_); (refine vbA ?_); (with_reducible (refine mv_i ?_; refine pnn_g (by assumption) ?_; refine fa_g (by assumption) fun p hp => ?_)); (refine ldgA ?_); (refine vbA ?_); (refine vk_i (bd77_01 _ _) ?_); (with_reducible (refine alloc_z (by assumption) fun i h z p m => ?_)); (refine st_w (by assumption) (by infer_instance) (by with_unfolding_all rfl) (by with_unfolding_all rfl) (by first | rfl | exact flat_ones (Flat.flat _)) (by infer_instance) fun h p m => ?_); (with_reducible (refine ⟨trivial, ?_⟩; refine mv_i ?_)); (refine ldwA ?_); (rotate_left); (with_reducible (refine pick_f ?_; refine cnd_t ?_; refine mv_i ?_; refine mv_i ?_; refine mv_i ?_; refine ret2 ?_)); (rotate_left))
        · refine call_r (Runs.lent (c51 (hs1.lent m (by infer_instance) (by omega)) _)) ?_
          have hd : same x y (gt Q.ps k) n := by rw [hgp]; exact hc
          have ht : tgt x y (gt Q.ps k) n = ⟨(stO x (gt S.ps k).a n).to, (stO y (gt S.ps k).b n).to⟩ := by rw [hgp]; rfl
          have hwd : (wrd Q k n).length = (Q.ws.getD k []).length + 1 := by simp [wrd]
          ((with_reducible (refine not_d (fun hb => ?_) (fun hb => ?_); refine cnd_f ?_)); (rotate_left); (with_reducible (refine cnd_t ?_; refine mv_i ?_)); (refine ldwA ?_); (refine bs_g (bs36_1 _ _) (by assumption) fun i h p m => ?_); (rotate_left))
          · have e := bst_met hf2 hd (by rw [ht]; exact hb)
            refine hk' _ _ ⟨a, b, rfl, by rw [e]; exact hf2, ?_⟩
            rw [e]
            exact ⟨o1, o2, vs, W, hs1, hs2, hll, ⟨Stb.st⟩, m.tail.tail.tail⟩
          · have e := bst_new hf2 hd (by rw [ht]; exact hb)
            refine app_snoc (a := (⟨(stO x (gt S.ps k).a n).to, (stO y (gt S.ps k).b n).to⟩ : Pr)) (k2 := 0) (j := 0) m hs1 (by infer_instance) ⟨rfl⟩ rfl ⟨by omega, by omega⟩ fun i3 h9 p9 m => ?_
            simp only [List.set_cons_succ, List.set_cons_zero] at m
            ((with_reducible (refine mv_i ?_; refine mv_i ?_)); (refine bs_g (bs51_1 _ _ _ _) (by assumption) fun i h p m => ?_))
            refine app_o m hs2 (by infer_instance) (by rw [Nat.mul_one, ← lw2]; exact hll.1) (src_own m (q := (⟨rfl⟩ : Ent _ _ 0 _ _)) (n := 1) rfl (by decide) (by decide) rfl) ⟨by omega, by omega⟩ fun i4 h10 p10 m => ?_
            simp only [List.set_cons_succ, List.set_cons_zero] at m
            ((with_reducible (refine mv_i ?_; refine mv_i ?_)))
            refine hk' _ _ ⟨_, _, rfl, by rw [e], ?_⟩
            rw [e, ht]
            refine ⟨i3, i4, _, W ++ [some i2], by rw [List.length_append]; exact IsSl.some0, by rw [List.length_append]; exact IsSl.some0, hll.add (by rw [hwd]; exact IsSl.some0), ⟨Stb.st⟩, ?_⟩
            rw [rowsW_add hll]
            exact m.tail.tail.tail.tail.perm (List.perm_append_singleton _ (_ :: _ :: _ :: _ :: _ :: rowsW W Q.ws)).symm
        · have e := hfnd2 hkl hk (by omega) hf2 (by rw [hgp]; exact hc)
          have hwd : (wrd Q k n).length = (Q.ws.getD k []).length + 1 := by simp [wrd]
          refine ⟨m.pre, some ⟨i2, 0, none⟩, (Q.ws.getD k []).length + 1, 0, ?_, ?_⟩
          · rw [difE, e, if_neg (by simp)]
          · rw [difW, e]
            exact IsSl.ro (o := some i2) (xs := wrd Q k n) (by rw [hwd]; exact IsSl.some0) m (k := 1) rfl (by omega)
    · have e : bfs x y ⟨x.start, y.start⟩ (k + 1) = Q := by
        rw [hnext hkl, ← hQ]
        congr 1; omega
      refine next3 (by omega) ⟨?_, ?_⟩
      · show (bfs x y ⟨x.start, y.start⟩ (k + 1)).fnd = none
        rw [e]; exact hf2
      · show ∃ o1 o2 vs W, IsSl a (some o1) (bfs x y ⟨x.start, y.start⟩ (k + 1)).ps.length ∧ IsSl b (some o2) (bfs x y ⟨x.start, y.start⟩ (k + 1)).ps.length ∧ LL vs W (bfs x y ⟨x.start, y.start⟩ (k + 1)).ws ∧ Prec hx _ ∧ Mem g _ (⟨some o1, flat (bfs x y ⟨x.start, y.start⟩ (k + 1)).ps, 2⟩ :: ⟨some o2, vs, 1⟩ :: ⟨some iy, [.int .i64 y.states, .int .i64 y.inputs, .int .i64 y.outputs, .int .i64 y.start, .slice b1 y.steps.length q1], zy⟩ :: ⟨some ix, [.int .i64 x.states, .int .i64 x.inputs, .int .i64 x.outputs, .int .i64 x.start, .slice b0 x.steps.length q0], zx⟩ :: rowsW W (bfs x y ⟨x.start, y.start⟩ (k + 1)).ws)
        rw [e]
        exact ⟨o1, o2, vs, W, hs1, hs2, hll, ⟨Stb.st⟩, m.sub (.cons_cons _ (.cons_cons _ (.cons _ (List.Sublist.refl _))))⟩
  · have e := hend (by omega)
    refine ⟨m.pre, none, 0, 0, ?_, ?_⟩
    · rw [difE, e, if_pos hf]
    · rw [difW, e, hf]; exact L.nil _
end Go.Proofs.Ytgmgmkhenhaniaa

set_option linter.unusedSimpArgs false
set_option linter.unusedVariables false
set_option linter.unnecessarySimpa false
set_option maxRecDepth 100000
set_option maxHeartbeats 4000000
namespace Go.Proofs.Ytgmgmkhenhaniaa
open Go.AM
variable {h g : Heap}
/-! ### the reference's search -/
theorem at_code {x : Mach} (h0 : (chkM x).2 = 0) (hl : (x.steps.length : Int) = x.states * x.inputs) {s i : Int} (hs : 0 ≤ s ∧ s ≤ x.states - 1) (hi : 0 ≤ i ∧ i ≤ x.inputs - 1) : idxOf (atS s i) x.steps = s * x.inputs + i := by
  obtain ⟨e1, e2, e3, e4⟩ := full_at h0 hl hs hi
  have := idxOf_at (p := atS s i) (l := x.steps) (k := (s * x.inputs + i).toNat) (fun j hj => ?_) e2 (by simp [atS, e3, e4])
  · rw [this]; omega
  · have hc := full_code h0 hl (show j < x.steps.length by omega)
    unfold code at hc
    refine decide_eq_false ?_
    rintro ⟨q1, q2⟩
    rw [q1, q2] at hc
    omega
end Go.Proofs.Ytgmgmkhenhaniaa

set_option linter.unusedVariables false
namespace Go.Proofs.Ytgmgmkhenhaniaa
open Go.AM
theorem par_x {x : Mach} {l : List Mut} (hB : bothE x l = 0) : Par x (mutd x l) ∧ inP x ⟨x.start, (mutd x l).start⟩ := by
  obtain ⟨hE, h1⟩ := bothE_ok hB
  obtain ⟨e3, e4, e5, e6⟩ := errM_ok hE
  have A := mutd_alk e3 h1
  obtain ⟨_, _, _, a4⟩ := e4
  exact ⟨⟨e3, A.chk e3, e5, by rw [A.ln, A.st, A.ip]; exact e5, A.st, A.ip⟩, a4, A.hs⟩
end Go.Proofs.Ytgmgmkhenhaniaa

set_option linter.unusedSimpArgs false
set_option linter.unusedVariables false
set_option linter.unnecessarySimpa false
set_option maxRecDepth 100000
set_option maxHeartbeats 4000000
namespace Go.Proofs.Ytgmgmkhenhaniaa
open Go.AM
variable {h g : Heap}
/-- Killing, of a right mutant. -/
theorem c31 {v y : Value} {x : Mach} {l : List Mut} (s : MacV g v x) (t : L g y l) (hB : bothE x l = 0) : DetP Try.prog 10 [v, y] g fun v' h' => g <+: h' ∧ ∃ b n q, v' = .tuple #[.slice b n q, .int .i64 (difE x (mutd x l) ⟨x.start, (mutd x l).start⟩)] ∧ L h' (.slice b n q) (difW x (mutd x l) ⟨x.start, (mutd x l).start⟩) := by
  refine DetP.freeze ?_
  obtain ⟨tv, rfl, s⟩ := s
  obtain ⟨b0, q0, rfl, _⟩ := s.shape
  obtain ⟨b1, q1, rfl, _⟩ := t.shape
  obtain ⟨P, h0⟩ := par_x hB
  obtain ⟨e1, e2⟩ := bothE_ok hB
  obtain ⟨m1, m2⟩ := mutE_ok e2
  have hsm := small e1
  have m := Mem.start g
  refine w31 ?_
  unfold n31
  have C := fun {h : Heap} {v y : Value} (s : MacV h v x) (t : L h y l) => c50 (g := h) s t (by omega) m2
  obtain ⟨ym, hy⟩ : ∃ ym, ym = mutd x l := ⟨_, rfl⟩
  rw [← hy] at P h0 C
  rw [← hy]
  have D := fun {h : Heap} {v w : Value} (s : MacV h v x) (t : MacV h w ym) => c64 (g := h) s t P h0
  generalize difE x ym ⟨x.start, ym.start⟩ = de at D ⊢
  generalize difW x ym ⟨x.start, ym.start⟩ = dw at D ⊢
  ((with_reducible (refine box_a (by assumption) fun i h z p m => ?_; refine mv_i ?_; refine mv_i ?_)); (refine ldwA ?_); (with_reducible (refine mv_i ?_)); (refine bs_g (bs51_1 _ _ _ _) (by assumption) fun i h p m => ?_))
  refine call_r (Runs.lent (c47 (ls := [l]) ⟨_, rfl, s.lent⟩ (lent1 m (by infer_instance) t rfl))) ?_
  rw [all1, hB]
  ((with_reducible (refine mv_i ?_; refine mv_i ?_; refine neq_h (by first | assumption | decide) ?_; refine cnd_f ?_)); (refine ldwA ?_); (refine vb_mac (by assumption) ?_); (refine ldwA ?_); (refine vb_mac (by assumption) ?_); (with_reducible (refine mv_i ?_)))
  refine calld_d (C ⟨_, rfl, s.up⟩ t.up) m fun v2 h2 p1 p2 m ⟨b2, q2, n2, e2, hn2, s2⟩ => ?_
  subst e2
  refine new_p p1 ?_
  skip
  refine calld_d (D ⟨_, rfl, s.up⟩ ⟨_, rfl, s2.up⟩) m fun v3 h3 p3 p4 m ⟨b3, n3, q3, e3, s3⟩ => ?_
  subst e3
  refine new_p p3 ?_
  ((with_reducible (refine ex2_0 ?_; refine ex2_1 ?_; refine mv_i ?_; refine mv_i ?_; refine ret2 ?_)))
  exact ⟨m.pre, b3, n3, q3, rfl, s3.frz⟩
end Go.Proofs.Ytgmgmkhenhaniaa


set_option linter.unusedSimpArgs false
set_option linter.unusedVariables false
set_option linter.unnecessarySimpa false
set_option maxRecDepth 100000
set_option maxHeartbeats 4000000
namespace Go.Proofs.Ytgmgmkhenhaniaa
open Go.AM
variable {h g : Heap}
/-! ### the search: what it finds, and what it means when it finds nothing -/
def rch (x : Mach) : Int → List Int → Int
  | q, [] => q
  | q, n :: w => rch x (stO x q n).to w
def ans (x : Mach) : Int → List Int → List Int
  | _, [] => []
  | q, n :: w => (stO x q n).out :: ans x (stO x q n).to w
theorem rch_snoc (x : Mach) (n : Int) : ∀ (w : List Int) (q : Int), rch x q (w ++ [n]) = (stO x (rch x q w) n).to
  | [], _ => rfl
  | _ :: w, _ => rch_snoc x n w _
theorem ans_snoc (x : Mach) (n : Int) : ∀ (w : List Int) (q : Int), ans x q (w ++ [n]) = ans x q w ++ [(stO x (rch x q w) n).out]
  | [], _ => rfl
  | m :: w, q => by
    have := ans_snoc x n w (stO x q m).to
    simp only [List.cons_append, ans, rch]
    rw [this]
def inW (x : Mach) (w : List Int) : Prop := ∀ n ∈ w, 0 ≤ n ∧ n ≤ x.inputs - 1
structure WI (x y : Mach) (p0 : Pr) (s : BS) : Prop where
  at_ : ∀ j, j < s.ps.length → rch x p0.a (s.ws.getD j []) = (gt s.ps j).a ∧ rch y p0.b (s.ws.getD j []) = (gt s.ps j).b ∧ ans x p0.a (s.ws.getD j []) = ans y p0.b (s.ws.getD j []) ∧ inW x (s.ws.getD j [])
  fd : ∀ w, s.fnd = some w → inW x w ∧ ans x p0.a w ≠ ans y p0.b w ∧ w.length ≤ s.ps.length
theorem gt_app {α : Type} [Df α] {l : List α} {a : α} {j : Nat} (hj : j < l.length) : gt (l ++ [a]) j = gt l j := gt_pre (List.prefix_append _ _) hj
theorem gt_last {α : Type} [Df α] {l : List α} {a : α} : gt (l ++ [a]) l.length = a := by simp [gt]
theorem WI.step {x y : Mach} {p0 : Pr} {s : BS} (W : WI x y p0 s) (hl : s.ws.length = s.ps.length) {i n : Nat} (hi : i < s.ps.length) (hn : n < x.inputs.toNat) (hw : (s.ws.getD i []).length + 1 ≤ s.ps.length) : WI x y p0 (bst x y i n s) := by
  by_cases hf : s.fnd = none
  · obtain ⟨w1, w2, w3, w4⟩ := W.at_ i hi
    have hin : inW x (wrd s i n) := by
      intro m hm
      rcases List.mem_append.mp hm with hm | hm
      · exact w4 m hm
      · rw [List.mem_singleton] at hm; subst hm; omega
    by_cases hs : same x y (gt s.ps i) n
    · by_cases hm : tgt x y (gt s.ps i) n ∈ s.ps
      · rw [bst_met hf hs hm]; exact W
      · rw [bst_new hf hs hm]
        refine ⟨fun j hj => ?_, fun w h => by cases h⟩
        by_cases e : j < s.ps.length
        · have h1 : (s.ws ++ [wrd s i n]).getD j [] = s.ws.getD j [] := by simp [List.getD, List.getElem?_append_left (show j < s.ws.length by omega)]
          show rch x p0.a ((s.ws ++ [wrd s i n]).getD j []) = (gt (s.ps ++ _) j).a ∧ _ = (gt (s.ps ++ _) j).b ∧ ans x p0.a ((s.ws ++ [wrd s i n]).getD j []) = _ ∧ _
          rw [h1, gt_app e]
          exact W.at_ j e
        · have e : j = s.ps.length := by simp at hj; omega
          subst e
          have h1 : (s.ws ++ [wrd s i n]).getD s.ps.length [] = wrd s i n := by rw [← hl]; simp [List.getD]
          show rch x p0.a ((s.ws ++ [wrd s i n]).getD s.ps.length []) = (gt (s.ps ++ _) s.ps.length).a ∧ _ = (gt (s.ps ++ _) s.ps.length).b ∧ ans x p0.a ((s.ws ++ [wrd s i n]).getD s.ps.length []) = _ ∧ _
          rw [h1, gt_last]
          unfold wrd
          rw [rch_snoc, rch_snoc, ans_snoc, ans_snoc, w1, w2, w3]
          refine ⟨rfl, rfl, ?_, hin⟩
          rw [show (stO x (gt s.ps i).a n).out = (stO y (gt s.ps i).b n).out from hs]
    · rw [bst_no hf hs]
      refine ⟨W.at_, fun w h => ?_⟩
      cases h
      refine ⟨hin, fun e => hs ?_, by simpa [wrd] using hw⟩
      unfold wrd at e
      rw [ans_snoc, ans_snoc, w1, w2, w3] at e
      have := List.append_cancel_left e
      have h7 : (stO x (gt s.ps i).a n).out = (stO y (gt s.ps i).b n).out := by simpa using this
      exact h7
  · rw [bst_fnd hf]; exact W
theorem WI.row {x y : Mach} {p0 : Pr} {s : BS} (P : Par x y) (B : BI x s) (W : WI x y p0 s) {i : Nat} (hi : i < s.ps.length) (hw : (s.ws.getD i []).length ≤ i) : ∀ n, n ≤ x.inputs.toNat → WI x y p0 (brow x y i s n)
  | 0, _ => W
  | n + 1, h => by
    have g := brow_grow (x := x) (y := y) (i := i) (s := s) n
    have hgl := g.1.length_le
    refine (WI.row P B W hi hw n (by omega)).step (B.row P hi n (by omega)).len (by omega) (by omega) ?_
    obtain ⟨t, ht⟩ := g.2
    rw [← ht]
    have : (s.ws ++ t).getD i [] = s.ws.getD i [] := by simp [List.getD, List.getElem?_append_left (show i < s.ws.length by rw [B.len]; exact hi)]
    rw [this]; omega
theorem WI.all {x y : Mach} {p0 : Pr} (P : Par x y) (h0 : inP x p0) : ∀ k, WI x y p0 (bfs x y p0 k)
  | 0 => ⟨fun j hj => by
      have : j = 0 := by simp [bfs] at hj; exact hj
      subst this
      exact ⟨rfl, rfl, rfl, fun n hn => by simp [bfs] at hn⟩, fun w h => by simp [bfs] at h⟩
  | k + 1 => by
    unfold bfs
    split
    · rename_i h
      have B := BI.all P h0 k
      refine (WI.all P h0 k).row P B h ?_ _ (Nat.le_refl _)
      exact bfs_wl P h0 k _ (gd_mem [] (by rw [B.len]; exact h))
    · exact WI.all P h0 k
/-- Closed under steps. -/
theorem brow_cl {x y : Mach} {i : Nat} {s : BS} (hi : i < s.ps.length) : ∀ n, (brow x y i s n).fnd = none → s.fnd = none ∧ ∀ m, m < n → same x y (gt s.ps i) m ∧ tgt x y (gt s.ps i) m ∈ (brow x y i s n).ps
  | 0, h => ⟨h, fun m hm => by omega⟩
  | n + 1, h => by
    have g := brow_grow (x := x) (y := y) (i := i) (s := s) n
    have hg := gt_pre g.1 hi
    have hf : (brow x y i s n).fnd = none := by
      cases e : (brow x y i s n).fnd with
      | none => rfl
      | some w =>
        have : brow x y i s (n + 1) = brow x y i s n := bst_fnd (by rw [e]; simp)
        rw [this, e] at h; cases h
    obtain ⟨h1, h2⟩ := brow_cl hi n hf
    refine ⟨h1, fun m hm => ?_⟩
    have hs : same x y (gt s.ps i) n := by
      by_cases hs : same x y (gt (brow x y i s n).ps i) n
      · rwa [hg] at hs
      · have : brow x y i s (n + 1) = _ := bst_no hf hs
        rw [this] at h; cases h
    have hgr : (brow x y i s n).ps <+: (brow x y i s (n + 1)).ps := bst_grow.1
    by_cases e : m = n
    · subst e
      refine ⟨hs, ?_⟩
      by_cases hm : tgt x y (gt (brow x y i s m).ps i) m ∈ (brow x y i s m).ps
      · rw [hg] at hm; exact hgr.subset hm
      · have e : brow x y i s (m + 1) = _ := bst_new hf (by rw [hg]; exact hs) hm
        rw [e, hg]; simp
    · exact ⟨(h2 m (by omega)).1, hgr.subset (h2 m (by omega)).2⟩
theorem bfs_cl {x y : Mach} {p0 : Pr} : ∀ k, (bfs x y p0 k).fnd = none → ∀ j, j < k → j < (bfs x y p0 k).ps.length → ∀ m, m < x.inputs.toNat → same x y (gt (bfs x y p0 k).ps j) m ∧ tgt x y (gt (bfs x y p0 k).ps j) m ∈ (bfs x y p0 k).ps
  | 0, _ => fun j hj => by omega
  | k + 1, h => by
    intro j hj hl m hm
    by_cases hk : k < (bfs x y p0 k).ps.length
    · have e := bfs_next hk
      rw [e] at h hl ⊢
      obtain ⟨h1, h2⟩ := brow_cl hk _ h
      have g := (brow_grow (x := x) (y := y) (i := k) (s := bfs x y p0 k) x.inputs.toNat).1
      by_cases ej : j = k
      · subst ej
        rw [gt_pre g hk]
        exact h2 m hm
      · have hj2 : j < (bfs x y p0 k).ps.length := by omega
        rw [gt_pre g hj2]
        obtain ⟨q1, q2⟩ := bfs_cl k h1 j (by omega) hj2 m hm
        exact ⟨q1, g.subset q2⟩
    · have e : bfs x y p0 (k + 1) = bfs x y p0 k := by
        show (if k < (bfs x y p0 k).ps.length then _ else _) = _
        rw [if_neg hk]
      rw [e] at h hl ⊢
      exact bfs_cl k h j (by omega) hl m hm
theorem bfs_st {x y : Mach} {p0 : Pr} : ∀ k, p0 ∈ (bfs x y p0 k).ps
  | 0 => by simp [bfs]
  | k + 1 => by
    have := bfs_st (x := x) (y := y) (p0 := p0) k
    unfold bfs
    split
    · exact (brow_grow _).1.subset this
    · exact this
theorem srch_is (x y : Mach) (p0 : Pr) : srch x y p0 = bfs x y p0 1601 := rfl
/-- Nothing found: the pairs are closed, and no word shows a difference. -/
theorem srch_cl {x y : Mach} {p0 : Pr} (P : Par x y) (h0 : inP x p0) (hf : (srch x y p0).fnd = none) : p0 ∈ (srch x y p0).ps ∧ ∀ p ∈ (srch x y p0).ps, inP x p ∧ ∀ m : Nat, m < x.inputs.toNat → same x y p m ∧ tgt x y p m ∈ (srch x y p0).ps := by
  have B := BI.all P h0 1601
  have hl := B.few (chk_ok P.cx).1.1.2
  rw [srch_is] at hf ⊢
  refine ⟨bfs_st _, fun p hp => ⟨B.inp p hp, fun m hm => ?_⟩⟩
  obtain ⟨j, hj, rfl⟩ := mem_gt.mp hp
  exact bfs_cl 1601 hf j (by omega) hj m hm
theorem no_word {x y : Mach} {p0 : Pr} (P : Par x y) (h0 : inP x p0) (hf : (srch x y p0).fnd = none) : ∀ (w : List Int), inW x w → ans x p0.a w = ans y p0.b w := by
  obtain ⟨h1, h2⟩ := srch_cl P h0 hf
  have key : ∀ (w : List Int) (p : Pr), p ∈ (srch x y p0).ps → inW x w → ans x p.a w = ans y p.b w := by
    intro w
    induction w with
    | nil => intro p _ _; rfl
    | cons n w ih =>
      intro p hp hw
      have hn := hw n (by simp)
      obtain ⟨q1, q2⟩ := (h2 p hp).2 n.toNat (by omega)
      rw [Int.toNat_of_nonneg hn.1] at q1 q2
      have := ih _ q2 fun m hm => hw m (by simp [hm])
      simp only [ans]
      rw [show (stO x p.a n).out = (stO y p.b n).out from q1]
      congr 1
  exact fun w hw => key w p0 h1 hw
theorem few6 {x : Mach} {s : BS} (b : BI x s) (hN : x.states ≤ 6) : s.ps.length ≤ 36 := by
  have h1 := b.nd.length_le_of_subset (l₂ := allP x.states.toNat) fun p hp => by
    obtain ⟨⟨q1, q2⟩, q3, q4⟩ := b.inp p hp
    refine List.mem_flatMap.mpr ⟨p.a.toNat, List.mem_range.mpr (by omega), List.mem_map.mpr ⟨p.b.toNat, List.mem_range.mpr (by omega), ?_⟩⟩
    cases p
    simp only [Pr.mk.injEq] at *
    omega
  rw [allP_len] at h1
  have h2 : x.states.toNat * x.states.toNat ≤ 6 * 6 := Nat.mul_le_mul (by omega) (by omega)
  omega
theorem srch_some {x y : Mach} {p0 : Pr} (P : Par x y) (h0 : inP x p0) (hN : x.states ≤ 6) {w : List Int} (hf : (srch x y p0).fnd = some w) : inW x w ∧ ans x p0.a w ≠ ans y p0.b w ∧ w.length ≤ 36 := by
  have W := WI.all P h0 1601
  obtain ⟨h1, h2, h3⟩ := W.fd w (by rw [← srch_is]; exact hf)
  exact ⟨h1, h2, Nat.le_trans h3 (few6 (BI.all P h0 1601) hN)⟩
end Go.Proofs.Ytgmgmkhenhaniaa

set_option linter.unusedSimpArgs false
set_option linter.unusedVariables false
set_option linter.unnecessarySimpa false
set_option maxRecDepth 100000
set_option maxHeartbeats 4000000
namespace Go.Proofs.Ytgmgmkhenhaniaa
open Go.AM
variable {h g : Heap}
/-! ### answers -/
def stt (x : Mach) (q : Int) (w : List Int) (k : Nat) : Int := rch x q (w.take k)
theorem stt_next {x : Mach} {q : Int} {w : List Int} {k : Nat} (hk : k < w.length) : stt x q w (k + 1) = (stO x (stt x q w k) (gt w k)).to := by
  unfold stt
  rw [take_gd Df.d hk, rch_snoc]; rfl
theorem stt_in {x : Mach} (h0 : (chkM x).2 = 0) (hl : (x.steps.length : Int) = x.states * x.inputs) {q : Int} (hq : 0 ≤ q ∧ q ≤ x.states - 1) {w : List Int} (hw : inW x w) : ∀ k, k ≤ w.length → 0 ≤ stt x q w k ∧ stt x q w k ≤ x.states - 1
  | 0, _ => hq
  | k + 1, h => by
    rw [stt_next (by omega)]
    exact (stO_ok h0 hl (stt_in h0 hl hq hw k (by omega)) (hw _ (gd_mem Df.d (show k < w.length by omega)))).2.1
def tkn (x : Mach) (q : Int) (w : List Int) (k : Nat) : List Int := (List.range k).map fun j => stt x q w j * x.inputs + gt w j
theorem tkn_len (x : Mach) (q : Int) (w : List Int) (k : Nat) : (tkn x q w k).length = k := by simp [tkn]
theorem tkn_next (x : Mach) (q : Int) (w : List Int) (k : Nat) : tkn x q w (k + 1) = tkn x q w k ++ [stt x q w k * x.inputs + gt w k] := by simp [tkn, List.range_succ]
theorem tkn_at {x : Mach} {q : Int} {w : List Int} {k j : Nat} (hj : j < k) : gt (tkn x q w k) j = stt x q w j * x.inputs + gt w j := by
  rw [← gt_at (by rw [tkn_len]; exact hj)]
  simp [tkn]
def ansN (x : Mach) (q : Int) (w : List Int) (k : Nat) : List Int := (List.range k).map fun j => (stO x (stt x q w j) (gt w j)).out
def stsN (x : Mach) (q : Int) (w : List Int) (k : Nat) : List Int := (List.range k).map fun j => (stO x (stt x q w j) (gt w j)).to
theorem ansN_next (x : Mach) (q : Int) (w : List Int) (k : Nat) : ansN x q w (k + 1) = ansN x q w k ++ [(stO x (stt x q w k) (gt w k)).out] := by simp [ansN, List.range_succ]
theorem stsN_next (x : Mach) (q : Int) (w : List Int) (k : Nat) : stsN x q w (k + 1) = stsN x q w k ++ [(stO x (stt x q w k) (gt w k)).to] := by simp [stsN, List.range_succ]
theorem ansN_len (x : Mach) (q : Int) (w : List Int) (k : Nat) : (ansN x q w k).length = k := by simp [ansN]
theorem stsN_len (x : Mach) (q : Int) (w : List Int) (k : Nat) : (stsN x q w k).length = k := by simp [stsN]
theorem ansN_all {x : Mach} {q : Int} {w : List Int} : ∀ k, k ≤ w.length → ansN x q w k = ans x q (w.take k)
  | 0, _ => rfl
  | k + 1, h => by
    rw [ansN_next, ansN_all k (by omega), take_gd Df.d (show k < w.length by omega), ans_snoc]; rfl
theorem c122 {v y : Value} {x : Mach} {w : List Int} {q : Int} (s : MacV g v x) (t : L g y w) (h0 : (chkM x).2 = 0) (hl : (x.steps.length : Int) = x.states * x.inputs) (hq : 0 ≤ q ∧ q ≤ x.states - 1) (hw : inW x w) (hb : w.length ≤ 1048576) :
    DetP Try.prog 72 [v, .int .i64 q, y] g fun v' h' => g <+: h' ∧ ∃ b n q1, v' = .slice b n q1 ∧ n = w.length ∧ L h' (.slice b n q1) (tkn x q w w.length) := by
  refine DetP.freeze ?_
  obtain ⟨tv, rfl, s⟩ := s
  obtain ⟨b0, q0, rfl, _⟩ := s.shape
  have m := Mem.start g
  refine w122 ?_
  unfold n122
  refine box_a m fun ix hx zx p1 m => ?_
  ((with_reducible (refine mv_i ?_; refine mv_i ?_; refine mv_i ?_)))
  refine loop3 w.length (fun k a b h => a = .int .i64 (stt x q w k) ∧ ∃ o, IsSl b o (tkn x q w k).length ∧ Prec hx h ∧ Mem g h [⟨o, flat (tkn x q w k), 1⟩, ⟨some ix, [.int .i64 x.states, .int .i64 x.inputs, .int .i64 x.outputs, .int .i64 x.start, .slice b0 x.steps.length q0], zx⟩]) ⟨rfl, none, IsSl.nil, ⟨Stab.refl _⟩, m.nil 1⟩ ?_
  rintro k a b h2 _ hk ⟨rfl, o, hs, p2, m⟩
  have tl := tkn_len x q w k
  by_cases hkl : k < w.length
  · have hsi := stt_in h0 hl hq hw k hk
    have hwi := hw _ (gd_mem Df.d hkl)
    change 0 ≤ gt w k ∧ gt w k ≤ x.inputs - 1 at hwi
    obtain ⟨j1, j2, _⟩ := full_at h0 hl hsi hwi
    have iA := at_code h0 hl hsi hwi
    have hneA : ¬ idxOf (atS (stt x q w k) (gt w k)) x.steps = -1 := by rw [iA]; omega
    have jA1 : 0 ≤ idxOf (atS (stt x q w k) (gt w k)) x.steps := by rw [iA]; omega
    have jA2 : (idxOf (atS (stt x q w k) (gt w k)) x.steps).toNat < x.steps.length := by rw [iA]; omega
    ((with_reducible (refine mv_i ?_; refine mv_i ?_; refine len_g (by assumption) ?_; refine lss_i (fun hc => ?_) (fun hc => ?_); refine cnd_t ?_)); (refine ldwA ?_); (refine vb_mac (by assumption) ?_); (with_reducible (refine mv_i ?_; refine mv_i ?_; refine mv_i ?_)); (refine idxA fun p hp => ?_); (refine ldgA ?_); (refine vbA ?_); (refine calld_r (c74 ⟨_, by with_unfolding_all rfl, L.up (by assumption)⟩ _ _) ?_); (with_reducible (refine new_n ?_; refine mv_i ?_; refine mv_i ?_; refine eql_n (by first | assumption | decide) ?_; refine cnd_f ?_; refine mv_i ?_; refine mv_i ?_)); (refine bs_g (bs53_1 _ _) (by assumption) fun i h p m => ?_); (rotate_left); (with_reducible (refine cnd_f ?_; refine mv_i ?_; refine mv_i ?_; refine ret1 ?_)); (rotate_left))
    · refine app_snoc (a := idxOf (atS (stt x q w k) (gt w k)) x.steps) (k2 := 0) (j := 0) m hs (by infer_instance) ⟨rfl⟩ rfl ⟨by omega, by omega⟩ fun i3 h7 p7 m => ?_
      simp only [List.set_cons_succ, List.set_cons_zero] at m
      ((with_reducible (refine mv_i ?_; refine fao ?_)); (refine ldoA ?_); (with_reducible (refine mv_i ?_)); (refine idx_dz (by assumption) (by with_unfolding_all rfl) (by omega) (by omega) fun p hp => ?_); (with_reducible (refine fa_g (by assumption) fun p hp => ?_)); (refine ldgA ?_); (with_reducible (refine mv_i ?_; refine mv_i ?_; refine inc_i (by omega) ?_; refine mv_i ?_)))
      refine next3 hkl ⟨?_, some i3, by rw [tkn_next, List.length_append]; exact IsSl.some0, ⟨Stb.st⟩, by rw [tkn_next, ← iA]; exact m.tail⟩
      rw [stt_next hkl, iA]; rfl
    · exfalso; omega
  · ((with_reducible (refine mv_i ?_; refine mv_i ?_; refine len_g (by assumption) ?_; refine lss_i (fun hc => ?_) (fun hc => ?_); refine cnd_t ?_)); (refine ldwA ?_); (refine vb_mac (by assumption) ?_); (with_reducible (refine mv_i ?_; refine mv_i ?_; refine mv_i ?_)); (refine idxA fun p hp => ?_); (refine ldgA ?_); (refine vbA ?_); (refine calld_r (c74 ⟨_, by with_unfolding_all rfl, L.up (by assumption)⟩ _ _) ?_); (with_reducible (refine new_n ?_; refine mv_i ?_; refine mv_i ?_; refine eql_i (fun hc => ?_) (fun hc => ?_); refine cnd_t ?_; refine mv_i ?_; refine mv_i ?_; refine ret1 ?_)); (rotate_left); (with_reducible (refine cnd_f ?_; refine mv_i ?_; refine mv_i ?_)); (refine bs_g (bs53_1 _ _) (by assumption) fun i h p m => ?_); (rotate_left); (with_reducible (refine cnd_f ?_; refine mv_i ?_; refine mv_i ?_; refine ret1 ?_)); (rotate_left))
    all_goals (try (exfalso; omega))
    have hkk : k = w.length := by omega
    subst hkk
    obtain ⟨b1, c1, rfl⟩ := hs.isS
    exact ⟨m.pre, b1, _, c1, rfl, tl, IsSl.ro hs m (k := 0) rfl (by omega)⟩
theorem c95 {v y : Value} {x : Mach} {w : List Int} {q : Int} (s : MacV g v x) (t : L g y w) (h0 : (chkM x).2 = 0) (hl : (x.steps.length : Int) = x.states * x.inputs) (hq : 0 ≤ q ∧ q ≤ x.states - 1) (hw : inW x w) (hb : w.length ≤ 1048576) :
    DetP Try.prog 53 [v, .int .i64 q, y] g fun v' h' => g <+: h' ∧ ∃ b n q1 b2 n2 q2, v' = .tuple #[.slice b n q1, .slice b2 n2 q2] ∧ L h' (.slice b n q1) (ans x q w) := by
  refine DetP.freeze ?_
  obtain ⟨tv, rfl, s⟩ := s
  obtain ⟨b0, q0, rfl, _⟩ := s.shape
  have m := Mem.start g
  refine w95 ?_
  unfold n95
  refine box_a m fun ix hx0 zx p1 m => ?_
  ((with_reducible (refine mv_i ?_; refine mv_i ?_; refine mv_i ?_; refine mv_i ?_)); (refine ldwA ?_); (with_reducible (refine mv_i ?_; refine mv_i ?_)))
  refine call_d (c122 ⟨_, rfl, s.up⟩ t.up h0 hl hq hw hb) m fun v2 h2 p2 p2' m ⟨b2, n2, q2, e2, hn2, s2⟩ => ?_
  subst e2
  ((with_reducible (refine mv_i ?_; refine mv_i ?_)))
  obtain ⟨hx, rfl⟩ : ∃ q, q = h2 := ⟨h2, rfl⟩
  have tl := tkn_len x q w w.length
  refine loop3 w.length (fun k a b h => ∃ o1 o2, IsSl a o1 (ansN x q w k).length ∧ IsSl b o2 (stsN x q w k).length ∧ Prec hx h ∧ Mem g h [⟨o1, flat (ansN x q w k), 1⟩, ⟨o2, flat (stsN x q w k), 1⟩, ⟨some ix, [.int .i64 x.states, .int .i64 x.inputs, .int .i64 x.outputs, .int .i64 x.start, .slice b0 x.steps.length q0], zx⟩]) ⟨none, none, IsSl.nil, IsSl.nil, ⟨Stab.refl _⟩, (m.nil 1).nil 1⟩ ?_
  rintro k a b h3 _ hk ⟨o1, o2, hs1, hs2, p3, m⟩
  have l1 := ansN_len x q w k
  have l2 := stsN_len x q w k
  by_cases hkl : k < w.length
  · have hsi := stt_in h0 hl hq hw k hk
    have hwi := hw _ (gd_mem Df.d hkl)
    change 0 ≤ gt w k ∧ gt w k ≤ x.inputs - 1 at hwi
    obtain ⟨j1, j2, _⟩ := full_at h0 hl hsi hwi
    have hta := tkn_at (x := x) (q := q) (w := w) hkl
    have hz1 : 0 ≤ gt (tkn x q w w.length) k := by rw [hta]; exact j1
    have hz2 : (gt (tkn x q w w.length) k).toNat < x.steps.length := by rw [hta]; exact j2
    have an := ansN_next x q w k
    have sn := stsN_next x q w k
    rw [show (stO x (stt x q w k) (gt w k)) = gt x.steps (gt (tkn x q w w.length) k).toNat by rw [hta]; rfl] at an sn
    ((with_reducible (refine mv_i ?_; refine mv_i ?_; refine len_g (by assumption) ?_; refine lss_i (fun hc => ?_) (fun hc => ?_); refine cnd_t ?_; refine mv_i ?_; refine fao ?_)); (refine ldoA ?_); (with_reducible (refine vb_l (by assumption) ?_; refine mv_i ?_; refine mv_i ?_)); (refine idxA fun p hp => ?_); (refine ldgA ?_); (refine vbA ?_); (refine idx_dz (by assumption) (by with_unfolding_all rfl) (by omega) (by omega) fun p hp => ?_); (with_reducible (refine fa_g (by assumption) fun p hp => ?_)); (refine ldgA ?_); (refine vbA ?_); (refine bs_g (bs53_1 _ _) (by assumption) fun i h p m => ?_); (rotate_left); (with_reducible (refine cnd_f ?_; refine mv_i ?_; refine mv_i ?_; refine mv_i ?_; refine mv_i ?_; refine ret2 ?_)); (rotate_left))
    · refine app_snoc (a := (gt x.steps (gt (tkn x q w w.length) k).toNat).out) (k2 := 0) (j := 0) m hs1 (by infer_instance) ⟨rfl⟩ rfl ⟨by omega, by omega⟩ fun i3 h7 p7 m => ?_
      simp only [List.set_cons_succ, List.set_cons_zero] at m
      refine ⟨trivial, ?_⟩
      ((with_reducible (refine mv_i ?_; refine fao ?_)); (refine ldoA ?_); (with_reducible (refine vb_l (by assumption) ?_; refine mv_i ?_; refine mv_i ?_)); (refine idxA fun p hp => ?_); (refine ldgA ?_); (refine vbA ?_); (refine idx_dz (by assumption) (by with_unfolding_all rfl) (by omega) (by omega) fun p hp => ?_); (with_reducible (refine fa_g (by assumption) fun p hp => ?_)); (refine ldgA ?_); (refine vbA ?_); (refine bs_g (bs53_1 _ _) (by assumption) fun i h p m => ?_))
      refine app_snoc (a := (gt x.steps (gt (tkn x q w w.length) k).toNat).to) (k2 := 0) (j := 0) m hs2 (by infer_instance) ⟨rfl⟩ rfl ⟨by omega, by omega⟩ fun i4 h8 p8 m => ?_
      simp only [List.set_cons_succ, List.set_cons_zero] at m
      refine ⟨trivial, ?_⟩
      ((with_reducible (refine mv_i ?_; refine mv_i ?_; refine mv_i ?_; refine inc_i (by omega) ?_; refine mv_i ?_)))
      exact next3 hkl ⟨some i3, some i4, by rw [an, List.length_append]; exact IsSl.some0, by rw [sn, List.length_append]; exact IsSl.some0, ⟨Stb.st⟩, by rw [an, sn]; exact m.tail.tail⟩
    all_goals (exfalso; omega)
  · ((with_reducible (refine mv_i ?_; refine mv_i ?_; refine len_g (by assumption) ?_; refine lss_i (fun hc => ?_) (fun hc => ?_); refine cnd_t ?_; refine mv_i ?_; refine fao ?_)); (refine ldoA ?_); (with_reducible (refine vb_l (by assumption) ?_; refine mv_i ?_; refine mv_i ?_)); (refine idxA fun p hp => ?_); (refine ldgA ?_); (refine vbA ?_); (refine idx_dz (by assumption) (by with_unfolding_all rfl) (by omega) (by omega) fun p hp => ?_); (with_reducible (refine fa_g (by assumption) fun p hp => ?_)); (refine ldgA ?_); (refine vbA ?_); (refine bs_g (bs53_1 _ _) (by assumption) fun i h p m => ?_); (rotate_left); (with_reducible (refine cnd_f ?_; refine mv_i ?_; refine mv_i ?_; refine mv_i ?_; refine mv_i ?_; refine ret2 ?_)); (rotate_left))
    all_goals (try (exfalso; omega))
    have hkk : k = w.length := by omega
    subst hkk
    have e : ansN x q w w.length = ans x q w := by rw [ansN_all _ (Nat.le_refl _), List.take_length]
    obtain ⟨b3, c3, rfl⟩ := hs1.isS
    obtain ⟨b4, c4, rfl⟩ := hs2.isS
    refine ⟨m.pre, b3, _, c3, b4, _, c4, rfl, ?_⟩
    rw [← e]
    exact IsSl.ro hs1 m (k := 0) rfl (by omega)
end Go.Proofs.Ytgmgmkhenhaniaa

set_option linter.unusedSimpArgs false
set_option linter.unusedVariables false
set_option linter.unnecessarySimpa false
set_option maxRecDepth 100000
set_option maxHeartbeats 4000000
namespace Go.Proofs.Ytgmgmkhenhaniaa
open Go.AM
variable {h g : Heap}
/-! ### the least relation -/
def relP (x y : Mach) (p0 : Pr) : List Pr := if (srch x y p0).fnd = none then srt cmpP (srch x y p0).ps else []
def relC (x y : Mach) (p0 : Pr) : Int := if (srch x y p0).fnd = none then 0 else 23
theorem bfs_pos (x y : Mach) (p0 : Pr) : ∀ k, 0 < (bfs x y p0 k).ps.length
  | 0 => by simp [bfs]
  | k + 1 => by
    have := bfs_pos x y p0 k
    unfold bfs
    split
    · exact Nat.lt_of_lt_of_le this (brow_grow _).1.length_le
    · exact this
theorem c32 {v y : Value} {x : Mach} {l : List Mut} (s : MacV g v x) (t : L g y l) (hB : bothE x l = 0) : DetP Try.prog 25 [v, y] g fun v' h' => g <+: h' ∧ ∃ b n q, v' = .tuple #[.slice b n q, .int .i64 (relC x (mutd x l) ⟨x.start, (mutd x l).start⟩)] ∧ L h' (.slice b n q) (relP x (mutd x l) ⟨x.start, (mutd x l).start⟩) := by
  refine DetP.freeze ?_
  obtain ⟨tv, rfl, s⟩ := s
  obtain ⟨b0, q0, rfl, _⟩ := s.shape
  obtain ⟨b1, q1, rfl, _⟩ := t.shape
  obtain ⟨P, h0⟩ := par_x hB
  obtain ⟨e1, e2⟩ := bothE_ok hB
  obtain ⟨m1, m2⟩ := mutE_ok e2
  have hsm := small e1
  have m := Mem.start g
  refine w32 ?_
  unfold n32
  have C := fun {h : Heap} {v y : Value} (s : MacV h v x) (t : L h y l) => c50 (g := h) s t (by omega) m2
  obtain ⟨ym, hy⟩ : ∃ ym, ym = mutd x l := ⟨_, rfl⟩
  rw [← hy] at P h0 C
  rw [← hy]
  obtain ⟨⟨a1, a2⟩, ⟨a3, a4⟩, _⟩ := (chk_ok P.cx).1
  have hip : ym.inputs = x.inputs := P.ip
  have hst : ym.states = x.states := P.st
  refine box_a m fun ix hx0 zx p1 m => ?_
  ((with_reducible (refine mv_i ?_; refine mv_i ?_)); (refine ldwA ?_); (with_reducible (refine mv_i ?_)); (refine bs_g (bs51_1 _ _ _ _) (by assumption) fun i h p m => ?_))
  refine call_r (Runs.lent (c47 (ls := [l]) ⟨_, rfl, s.lent⟩ (lent1 m (by infer_instance) t rfl))) ?_
  rw [all1, hB]
  ((with_reducible (refine mv_i ?_; refine mv_i ?_; refine neq_h (by first | assumption | decide) ?_; refine cnd_f ?_)); (refine ldwA ?_); (with_reducible (refine mv_i ?_)))
  refine call_d (C ⟨_, rfl, s.up⟩ t.up) m fun v2 h2 p1 p2 m ⟨b2, q2, n2, e2, hn2, s2⟩ => ?_
  subst e2
  refine alloc_z m fun iy hy0 zy py m => ?_
  ((refine st_w (by assumption) (by infer_instance) (by with_unfolding_all rfl) (by with_unfolding_all rfl) (by first | rfl | exact flat_ones (Flat.flat _)) (by infer_instance) fun h p m => ?_); (with_reducible (refine fao ?_)); (refine ldoA ?_); (with_reducible (refine fao ?_)); (refine ldoA ?_); (refine vk_i (bd77_01 _ _) ?_); (refine bs_g (bs36_1 _ _) (by assumption) fun i h p m => ?_); (with_reducible (refine mv_i ?_; refine mv_i ?_)))
  obtain ⟨hx, rfl⟩ : ∃ q, q = h := ⟨h, rfl⟩
  generalize hp0 : (⟨x.start, ym.start⟩ : Pr) = p0 at *
  refine loop2 1600 (fun k a h => (bfs x ym p0 k).fnd = none ∧ ∃ o1, IsSl a (some o1) (bfs x ym p0 k).ps.length ∧ Prec hx h ∧ Mem g h [⟨some o1, flat (bfs x ym p0 k).ps, 2⟩, ⟨some iy, [.int .i64 ym.states, .int .i64 ym.inputs, .int .i64 ym.outputs, .int .i64 ym.start, .slice b2 n2 q2], zy⟩, ⟨some ix, [.int .i64 x.states, .int .i64 x.inputs, .int .i64 x.outputs, .int .i64 x.start, .slice b0 x.steps.length q0], zx⟩]) ⟨rfl, _, IsSl.some1, ⟨Stab.refl _⟩, m.sub (.cons_cons _ (.cons_cons _ (.cons _ (List.Sublist.refl _))))⟩ ?_
  rintro k a h5 _ hk ⟨hf, o1, hs1, p5, m⟩
  have B0 := BI.all P h0 k
  have hpos := bfs_pos x ym p0 k
  have hend := @srch_end x ym p0 k hk
  have hfnd := fun (n : Nat) => @srch_fnd x ym p0 k n
  have hnext := @bfs_next x ym p0 k
  generalize hS : bfs x ym p0 k = S at *
  have few := B0.few a2
  ((with_reducible (refine mv_i ?_; refine mv_i ?_; refine len_o (by assumption) ?_; refine lss_i (fun hc => ?_) (fun hc => ?_); refine cnd_t ?_; refine fao ?_)); (refine ldoA ?_); (with_reducible (refine mv_i ?_)); (rotate_left); (with_reducible (refine cnd_f ?_; refine mv_i ?_)); (rotate_left))
  · have hkl : k < S.ps.length := by omega
    obtain ⟨⟨r1, r2⟩, r3, r4⟩ := B0.inp _ (gd_mem Df.d hkl)
    change 0 ≤ (gt S.ps k).a at r1
    change (gt S.ps k).a ≤ x.states - 1 at r2
    change 0 ≤ (gt S.ps k).b at r3
    change (gt S.ps k).b ≤ x.states - 1 at r4
    refine loop2 x.inputs.toNat (fun n a h => (brow x ym k S n).fnd = none ∧ ∃ o1, IsSl a (some o1) (brow x ym k S n).ps.length ∧ Prec hx h ∧ Mem g h [⟨some o1, flat (brow x ym k S n).ps, 2⟩, ⟨some iy, [.int .i64 ym.states, .int .i64 ym.inputs, .int .i64 ym.outputs, .int .i64 ym.start, .slice b2 n2 q2], zy⟩, ⟨some ix, [.int .i64 x.states, .int .i64 x.inputs, .int .i64 x.outputs, .int .i64 x.start, .slice b0 x.steps.length q0], zx⟩]) ⟨hf, o1, hs1, ⟨Stb.st⟩, m⟩ ?_
    rintro n a h6 _ hn ⟨hf2, o1, hs1, p6, m⟩
    have B1 := B0.row P hkl n hn
    have hgp := gt_pre (brow_grow (x := x) (y := ym) (i := k) (s := S) n).1 hkl
    have hlen2 := (brow_grow (x := x) (y := ym) (i := k) (s := S) n).1.length_le
    have hfnd2 := hfnd n
    rw [← hgp] at r1 r2 r3 r4
    generalize hQ : brow x ym k S n = Q at *
    have few2 := B1.few a2
    ((with_reducible (refine lss_i (fun hc => ?_) (fun hc => ?_); refine cnd_t ?_)); (rotate_left); (with_reducible (refine cnd_f ?_; refine mv_i ?_; refine inc_i (by omega) ?_; refine mv_i ?_)); (rotate_left))
    · refine seq_J (fun xs h => ∃ a, xs = [a] ∧ (bst x ym k n Q).fnd = none ∧ ∃ o1, IsSl a (some o1) (bst x ym k n Q).ps.length ∧ Prec hx h ∧ Mem g h [⟨some o1, flat (bst x ym k n Q).ps, 2⟩, ⟨some iy, [.int .i64 ym.states, .int .i64 ym.inputs, .int .i64 ym.outputs, .int .i64 ym.start, .slice b2 n2 q2], zy⟩, ⟨some ix, [.int .i64 x.states, .int .i64 x.inputs, .int .i64 x.outputs, .int .i64 x.start, .slice b0 x.steps.length q0], zx⟩]) ?_ ?_
      · rintro _ h7 ⟨a3, rfl, hf3, rest⟩
        (((with_reducible refine fun (_ : Tmps) => ?_); (try dsimp only [nth])); (with_reducible (refine inc_i (by omega) ?_; refine mv_i ?_)))
        refine next2 (by omega) ⟨?_, ?_⟩
        · show (bst x ym k n (brow x ym k S n)).fnd = none
          rw [hQ]; exact hf3
        · show ∃ o1, IsSl a3 (some o1) (bst x ym k n (brow x ym k S n)).ps.length ∧ Prec hx h7 ∧ Mem g h7 [⟨some o1, flat (bst x ym k n (brow x ym k S n)).ps, 2⟩, ⟨some iy, [.int .i64 ym.states, .int .i64 ym.inputs, .int .i64 ym.outputs, .int .i64 ym.start, .slice b2 n2 q2], zy⟩, ⟨some ix, [.int .i64 x.states, .int .i64 x.inputs, .int .i64 x.outputs, .int .i64 x.start, .slice b0 x.steps.length q0], zx⟩]
          rw [hQ]; exact rest
      · intro k' hk'
        ((with_reducible (refine mv_i ?_; refine mv_i ?_)); (refine ldwA ?_); (refine vb_mac (by assumption) ?_); (with_reducible (refine mv_i ?_; refine mv_i ?_)); (refine idx_o (by assumption) (by omega) ?_); (refine ia_o (by omega) (by omega) ?_); (refine ldf_d (by assumption) (by infer_instance) (by with_unfolding_all rfl) (by omega) (by with_unfolding_all exact Nat.le_of_ble_eq_true rfl) (by with_unfolding_all rfl) ?_); (refine vbA ?_); (with_reducible (refine mv_i ?_)))
        refine calld_r (c52 ⟨_, rfl, s.up⟩ P.cx P.lx (q := (gt Q.ps k).a) (w := (n : Int)) ⟨r1, r2⟩ ⟨by omega, by omega⟩) ?_
        ((with_reducible (refine new_n ?_)); (refine ldwA ?_); (refine vb_mac (by assumption) ?_); (with_reducible (refine mv_i ?_; refine mv_i ?_)); (refine idx_o (by assumption) (by omega) ?_); (refine ia_o (by omega) (by omega) ?_); (refine ldf_d (by assumption) (by infer_instance) (by with_unfolding_all rfl) (by omega) (by with_unfolding_all exact Nat.le_of_ble_eq_true rfl) (by with_unfolding_all rfl) ?_); (refine vbA ?_); (with_reducible (refine mv_i ?_)))
        refine calld_r (c52 ⟨_, rfl, s2.up⟩ P.cy P.ly (q := (gt Q.ps k).b) (w := (n : Int)) ⟨r3, by omega⟩ ⟨by omega, by omega⟩) ?_
        ((with_reducible (refine new_n ?_; refine alloc_z (by assumption) fun i h z p m => ?_; refine alloc_z (by assumption) fun i h z p m => ?_)); (refine st_w (by assumption) (by infer_instance) (by with_unfolding_all rfl) (by with_unfolding_all rfl) (by first | rfl | exact flat_ones (Flat.flat _)) (by infer_instance) fun h p m => ?_); (with_reducible (refine ⟨trivial, ?_⟩)); (refine st_w (by assumption) (by infer_instance) (by with_unfolding_all rfl) (by with_unfolding_all rfl) (by first | rfl | exact flat_ones (Flat.flat _)) (by infer_instance) fun h p m => ?_); (with_reducible (refine ⟨trivial, ?_⟩; refine fao ?_)); (refine ldoA ?_); (with_reducible (refine fao ?_)); (refine ldoA ?_); (with_reducible (refine neq_i (fun hc => ?_) (fun hc => ?_); refine cnd_f ?_; refine fao ?_)); (refine ldoA ?_); (with_reducible (refine fao ?_)); (refine ldoA ?_); (refine vk_i (bd77_01 _ _) ?_); (with_reducible (refine alloc_z (by assumption) fun i h z p m => ?_)); (refine st_w (by assumption) (by infer_instance) (by with_unfolding_all rfl) (by with_unfolding_all rfl) (by first | rfl | exact flat_ones (Flat.flat _)) (by infer_instance) fun h p m => ?_); (with_reducible (refine mv_i ?_)); (refine ldwA ?_); (rotate_left); (with_reducible (refine cnd_t ?_; refine mv_i ?_; refine mv_i ?_; refine ret2 ?_)); (rotate_left))
        · have hd : same x ym (gt Q.ps k) n := hc
          refine call_r (Runs.lent (c51 (hs1.lent m (by infer_instance) (by omega)) _)) ?_
          ((with_reducible (refine not_d (fun hb => ?_) (fun hb => ?_); refine cnd_f ?_)); (rotate_left); (with_reducible (refine cnd_t ?_; refine mv_i ?_)); (refine ldwA ?_); (refine bs_g (bs36_1 _ _) (by assumption) fun i h p m => ?_); (rotate_left))
          · have e := bst_met hf2 hd hb
            refine hk' _ _ ⟨a, rfl, by rw [e]; exact hf2, ?_⟩
            rw [e]
            exact ⟨o1, hs1, ⟨Stb.st⟩, m.tail.tail.tail⟩
          · have e := bst_new hf2 hd hb
            refine app_snoc (a := tgt x ym (gt Q.ps k) n) (k2 := 0) (j := 0) m hs1 (by infer_instance) ⟨rfl⟩ rfl ⟨by omega, by omega⟩ fun i3 h9 p9 m => ?_
            simp only [List.set_cons_succ, List.set_cons_zero] at m
            ((with_reducible (refine mv_i ?_)))
            refine hk' _ _ ⟨_, rfl, by rw [e], ?_⟩
            rw [e]
            exact ⟨i3, by rw [List.length_append]; exact IsSl.some0, ⟨Stb.st⟩, m.tail.tail.tail.tail⟩
        · have e := hfnd2 hkl hk (by omega) hf2 hc
          refine ⟨m.pre, none, 0, 0, ?_, ?_⟩
          · rw [relC, e, if_neg (by simp)]
          · rw [relP, e, if_neg (by simp)]; exact L.nil _
    · have e : bfs x ym p0 (k + 1) = Q := by
        rw [hnext hkl, ← hQ]
        congr 1; omega
      refine next2 (by omega) ⟨?_, ?_⟩
      · show (bfs x ym p0 (k + 1)).fnd = none
        rw [e]; exact hf2
      · show ∃ o1, IsSl a (some o1) (bfs x ym p0 (k + 1)).ps.length ∧ Prec hx _ ∧ Mem g _ [⟨some o1, flat (bfs x ym p0 (k + 1)).ps, 2⟩, ⟨some iy, [.int .i64 ym.states, .int .i64 ym.inputs, .int .i64 ym.outputs, .int .i64 ym.start, .slice b2 n2 q2], zy⟩, ⟨some ix, [.int .i64 x.states, .int .i64 x.inputs, .int .i64 x.outputs, .int .i64 x.start, .slice b0 x.steps.length q0], zx⟩]
        rw [e]
        exact ⟨o1, hs1, ⟨Stb.st⟩, m⟩
  · have e := hend (by omega)
    have hsl : (srt cmpP S.ps).length = S.ps.length := by simp [srt]
    refine sort66 m hs1 (k := 0) rfl hpos (by omega) fun h7 p7 m => ?_
    simp only [List.set_cons_zero] at m
    ((with_reducible (refine mv_i ?_; refine mv_i ?_; refine mv_i ?_; refine ret2 ?_)))
    obtain ⟨c1, hac⟩ : ∃ c1, a = .slice (some ⟨o1, 0, none⟩) S.ps.length c1 := by obtain ⟨c1, e, _⟩ := hs1; exact ⟨c1, e⟩
    refine ⟨m.pre, some ⟨o1, 0, none⟩, S.ps.length, c1, by rw [relC, e, if_pos hf, ← hac], ?_⟩
    rw [relP, e, if_pos hf, ← hac]
    exact IsSl.ro (xs := srt cmpP S.ps) (by rw [hsl]; exact hs1) m (k := 0) rfl (by omega)
end Go.Proofs.Ytgmgmkhenhaniaa

set_option linter.unusedVariables false
set_option linter.unusedSimpArgs false
namespace Go.Proofs.Ytgmgmkhenhaniaa
open Go.AM
variable {h g : Heap}
theorem ps_nd {x y : Mach} (P : Par x y) {p0 : Pr} (h0 : inP x p0) : (srch x y p0).ps.Nodup ∧ (srch x y p0).ps.length ≤ 1600 := by
  have B := BI.all P h0 1601
  exact ⟨B.nd, B.few (chk_ok P.cx).1.1.2⟩
end Go.Proofs.Ytgmgmkhenhaniaa

set_option linter.unusedSimpArgs false
set_option linter.unusedVariables false
set_option linter.unnecessarySimpa false
set_option maxRecDepth 100000
set_option maxHeartbeats 4000000
namespace Go.Proofs.Ytgmgmkhenhaniaa
open Go.AM
variable {h g : Heap}
/-! ### the relation that is found is accepted -/
theorem srt_perm (ps : List Pr) : (srt cmpP ps).Perm ps := List.mergeSort_perm _ _
theorem srt_pw {ps : List Pr} (hn : ps.Nodup) : ∀ j k, j < k → k < (srt cmpP ps).length → cmpP (gt (srt cmpP ps) j) (gt (srt cmpP ps) k) < 0 := by
  intro j k hj hk
  have h1 : (srt cmpP ps).Pairwise fun x y => (!(Go.Proofs.ltOf cmpP) y x) = true := List.pairwise_mergeSort (fun a b c h1 h2 => by
    simp only [Bool.not_eq_true'] at *
    exact swoP.ntrans _ _ _ h2 h1) (fun a b => by
    cases e1 : Go.Proofs.ltOf cmpP b a with
    | false => rfl
    | true =>
      have : Go.Proofs.ltOf cmpP a b = false := by rw [ltP] at e1; rw [ltPn]; omega
      simp [this]) ps
  have h2 := List.pairwise_iff_getElem.mp h1 j k (by omega) hk hj
  have h3 := List.pairwise_iff_getElem.mp ((srt_perm ps).nodup_iff.mpr hn) j k (by omega) hk hj
  rw [gt_at, gt_at] at h2 h3
  simp only [Bool.not_eq_true', ltPn] at h2
  rw [cmpP_lt]
  generalize gt (srt cmpP ps) j = a at *
  generalize gt (srt cmpP ps) k = b at *
  have h3 : ¬ a = b := h3
  cases a; cases b
  simp only [Pr.mk.injEq] at *
  omega
theorem rel_srt {x y : Mach} {p0 : Pr} (P : Par x y) (h0 : inP x p0) (hf : (srch x y p0).fnd = none) (hp : p0 = ⟨x.start, y.start⟩) : relE x y (srt cmpP (srch x y p0).ps) = ((srt cmpP (srch x y p0).ps).length, 0) := by
  obtain ⟨h1, h2⟩ := srch_cl P h0 hf
  obtain ⟨hnd, _⟩ := ps_nd P h0
  generalize (srch x y p0).ps = ps at *
  have hm : ∀ p, p ∈ srt cmpP ps ↔ p ∈ ps := fun p => (srt_perm ps).mem_iff
  have hpw := srt_pw hnd
  refine rel_n (fun j hj => ?_) ((hm _).mpr (hp ▸ h1)) fun j hj => ?_
  · have hin := (h2 _ ((hm _).mp (gd_mem Df.d hj))).1
    refine pr_n hin ?_
    rintro ⟨q1, q2⟩
    have := hpw (j - 1) j (by omega) hj
    omega
  · refine prf_no (n := x.inputs.toNat) (Nat.le_refl _) fun w hw => ?_
    obtain ⟨q1, q2⟩ := (h2 _ ((hm _).mp (gd_mem Df.d hj))).2 w hw
    exact And.intro q1 ((hm _).mpr q2)
end Go.Proofs.Ytgmgmkhenhaniaa

set_option linter.unusedVariables false
set_option maxRecDepth 100000
namespace Go.Proofs.Ytgmgmkhenhaniaa
open Go.AM

/-! ### examiner/mutant.MutationsOf: function 6 -/
def n13 (a0 : Value) (h : Heap) (R : Value → Heap → Prop) : Prop :=
  okK (some (aBox Try.prog 24 a0 h)) fun v1 h =>
  mvK (Value.slice none 0 0) h fun v2 h =>
  mvK (Value.int IntKind.i64 0) h fun v3 h =>
  vK (aLoad Try.prog 24 v1 h) h fun v13 h =>
  cK Try.prog 15 [v13] h fun v14 h =>
  mvK v14 h fun v4 h =>
  mvK v4 h fun v15 h =>
  vK (aBin Try.prog BinOp.neq 28 v15 (Value.int IntKind.i64 0)) h fun v16 h =>
  cnd v16 (
   mvK v4 h fun v17 h =>
   mvK (Value.slice none 0 0) h fun v2_1 h =>
   mvK v17 h fun v3_1 h =>
   retV [some v2_1, some v3_1] R h) (
   okK (aAlloc Try.prog 25 h) fun v5 h =>
   mvK (Value.func (Fn.func 16) #[] #[v5]) h fun v18 h =>
   mvK v18 h fun v6 h =>
   vK (aFieldAddr Try.prog 24 v1 4) h fun v19 h =>
   vK (aLoad Try.prog 22 v19 h) h fun v20 h =>
   vK (aLen Try.prog 22 v20) h fun v21 h =>
   mvK (Value.int IntKind.i64 0) h fun v22 h =>
   ∃ (I7 : List Value → Heap → Prop) (μ7 : List Value → Heap → Nat), I7 [v22] h ∧
   ∀ (h7 : Heap) (j7 : Tmps) (v22_1 : Value), I7 [v22_1] h7 → (let h := h7
    vK (aBin Try.prog BinOp.lss 3 v22_1 v21) h fun v23 h =>
    cnd v23 (
     mvK v22_1 h fun v24 h =>
     vK (aIndexAddr Try.prog 22 v20 v22_1) h fun v25 h =>
     vK (aLoad Try.prog 46 v25 h) h fun v26 h =>
     okK (aAlloc Try.prog 46 h) fun v8 h =>
     mvK v24 h fun v7 h =>
     okK ((aStore Try.prog 46 v8 v26 h).map (undef, ·)) fun _ h =>
     vK (aFieldAddr Try.prog 24 v1 2) h fun v27 h =>
     vK (aLoad Try.prog 3 v27 h) h fun v28 h =>
     mvK (Value.int IntKind.i64 0) h fun v29 h =>
     ∃ (I10 : List Value → Heap → Prop) (μ10 : List Value → Heap → Nat), I10 [v29] h ∧
     ∀ (h10 : Heap) (j10 : Tmps) (v29_1 : Value), I10 [v29_1] h10 → (let h := h10
      vK (aBin Try.prog BinOp.lss 3 v29_1 v28) h fun v30 h =>
      cnd v30 (
       mvK v29_1 h fun v31 h =>
       mvK v31 h fun v9 h =>
       mvK v6 h fun v32 h =>
       mvK v9 h fun v33 h =>
       vK (aFieldAddr Try.prog 46 v8 2) h fun v34 h =>
       vK (aLoad Try.prog 3 v34 h) h fun v35 h =>
       vK (aBin Try.prog BinOp.neq 3 v33 v35) h fun v36 h =>
       mvK v7 h fun v37 h =>
       mvK v9 h fun v38 h =>
       vK (aBuild Try.prog 36 [(0, (Value.int IntKind.i64 0)), (1, v37), (2, v38)]) h fun v39 h =>
       callK Try.prog (fnOf v32 [v36, v39]) h fun v40 h =>
       vK (aBin Try.prog BinOp.add 3 v29_1 (Value.int IntKind.i64 1)) h fun v41 h =>
       mvK v41 h fun v29_2 h =>
       I10 [v29_2] h ∧ μ10 [v29_2] h < μ10 [v29_1] h10) (
       vK (aFieldAddr Try.prog 24 v1 0) h fun v42 h =>
       vK (aLoad Try.prog 3 v42 h) h fun v43 h =>
       mvK (Value.int IntKind.i64 0) h fun v44 h =>
       ∃ (I15 : List Value → Heap → Prop) (μ15 : List Value → Heap → Nat), I15 [v44] h ∧
       ∀ (h15 : Heap) (j15 : Tmps) (v44_1 : Value), I15 [v44_1] h15 → (let h := h15
        vK (aBin Try.prog BinOp.lss 3 v44_1 v43) h fun v45 h =>
        cnd v45 (
         mvK v44_1 h fun v46 h =>
         mvK v46 h fun v10 h =>
         mvK v6 h fun v47 h =>
         mvK v10 h fun v48 h =>
         vK (aFieldAddr Try.prog 46 v8 3) h fun v49 h =>
         vK (aLoad Try.prog 3 v49 h) h fun v50 h =>
         vK (aBin Try.prog BinOp.neq 3 v48 v50) h fun v51 h =>
         mvK v7 h fun v52 h =>
         mvK v10 h fun v53 h =>
         vK (aBuild Try.prog 36 [(0, (Value.int IntKind.i64 1)), (1, v52), (2, v53)]) h fun v54 h =>
         callK Try.prog (fnOf v47 [v51, v54]) h fun v55 h =>
         vK (aBin Try.prog BinOp.add 3 v44_1 (Value.int IntKind.i64 1)) h fun v56 h =>
         mvK v56 h fun v44_2 h =>
         I15 [v44_2] h ∧ μ15 [v44_2] h < μ15 [v44_1] h15) (
         mvK v7 h fun v57 h =>
         vK (aBin Try.prog BinOp.add 3 v57 (Value.int IntKind.i64 1)) h fun v58 h =>
         mvK v58 h fun v11 h =>
         ∃ (I20 : List Value → Heap → Prop) (μ20 : List Value → Heap → Nat), I20 [v11] h ∧
         ∀ (h20 : Heap) (j20 : Tmps) (v11_1 : Value), I20 [v11_1] h20 → (let h := h20
          mvK v11_1 h fun v59 h =>
          vK (aFieldAddr Try.prog 24 v1 4) h fun v60 h =>
          vK (aLoad Try.prog 22 v60 h) h fun v61 h =>
          vK (aLen Try.prog 22 v61) h fun v62 h =>
          vK (aBin Try.prog BinOp.lss 3 v59 v62) h fun v63 h =>
          cnd v63 (
           mvK v6 h fun v66 h =>
           vK (aFieldAddr Try.prog 24 v1 4) h fun v67 h =>
           vK (aLoad Try.prog 22 v67 h) h fun v68 g =>
           VB h.length v68 ∧ (let h := g
            mvK v11_1 h fun v69 h =>
            vK (aIndexAddr Try.prog 22 v68 v69) h fun v70 h =>
            vK (aFieldAddr Try.prog 46 v70 3) h fun v71 h =>
            vK (aLoad Try.prog 3 v71 h) h fun v72 g =>
            VB h.length v72 ∧ (let h := g
             vK (aFieldAddr Try.prog 46 v8 3) h fun v73 h =>
             vK (aLoad Try.prog 3 v73 h) h fun v74 g =>
             VB h.length v74 ∧ (let h := g
              vK (aBin Try.prog BinOp.neq 3 v72 v74) h fun v75 h =>
              mvK v7 h fun v76 h =>
              mvK v11_1 h fun v77 h =>
              vK (aBuild Try.prog 36 [(0, (Value.int IntKind.i64 3)), (1, v76), (2, v77)]) h fun v78 h =>
              callK Try.prog (fnOf v66 [v75, v78]) h fun v79 h =>
              mvK v11_1 h fun v64 h =>
              vK (aBin Try.prog BinOp.add 3 v64 (Value.int IntKind.i64 1)) h fun v65 h =>
              mvK v65 h fun v11_2 h =>
              I20 [v11_2] h ∧ μ20 [v11_2] h < μ20 [v11_1] h20)))) (
           vK (aBin Try.prog BinOp.add 3 v22_1 (Value.int IntKind.i64 1)) h fun v80 h =>
           mvK v80 h fun v22_2 h =>
           I7 [v22_2] h ∧ μ7 [v22_2] h < μ7 [v22_1] h7))))))) (
     vK (aFieldAddr Try.prog 24 v1 0) h fun v81 h =>
     vK (aLoad Try.prog 3 v81 h) h fun v82 h =>
     mvK (Value.int IntKind.i64 0) h fun v83 h =>
     ∃ (I25 : List Value → Heap → Prop) (μ25 : List Value → Heap → Nat), I25 [v83] h ∧
     ∀ (h25 : Heap) (j25 : Tmps) (v83_1 : Value), I25 [v83_1] h25 → (let h := h25
      vK (aBin Try.prog BinOp.lss 3 v83_1 v82) h fun v84 h =>
      cnd v84 (
       mvK v83_1 h fun v85 h =>
       mvK v85 h fun v12 h =>
       mvK v6 h fun v86 h =>
       mvK v12 h fun v87 h =>
       vK (aFieldAddr Try.prog 24 v1 3) h fun v88 h =>
       vK (aLoad Try.prog 3 v88 h) h fun v89 h =>
       vK (aBin Try.prog BinOp.neq 3 v87 v89) h fun v90 h =>
       mvK v12 h fun v91 h =>
       vK (aBuild Try.prog 36 [(0, (Value.int IntKind.i64 2)), (2, v91)]) h fun v92 h =>
       callK Try.prog (fnOf v86 [v90, v92]) h fun v93 h =>
       vK (aBin Try.prog BinOp.add 3 v83_1 (Value.int IntKind.i64 1)) h fun v94 h =>
       mvK v94 h fun v83_2 h =>
       I25 [v83_2] h ∧ μ25 [v83_2] h < μ25 [v83_1] h25) (
       vK (aLoad Try.prog 25 v5 h) h fun v95 h =>
       cK Try.prog 17 [v95, (Value.func (Fn.func 18) #[] #[])] h fun v96 h =>
       vK (aLoad Try.prog 25 v5 h) h fun v97 h =>
       mvK v97 h fun v2_2 h =>
       mvK (Value.int IntKind.i64 0) h fun v3_2 h =>
       retV [some v2_2, some v3_2] R h)))))
def lv13 (q : Nat) : List Nat := bif Nat.beq q 14 then [2417851639229258345222016, 22] else bif Nat.beq q 20 then [4397509640704, 29] else bif Nat.beq q 30 then [144097595889812480, 44] else bif Nat.beq q 40 then [1208925243153876871284736, 11] else bif Nat.beq q 50 then [39604409850575251763374329856, 83] else []
theorem ok13 : lkOK Try.prog lv13 Try.f6 1 (Try.f6.body.getD .skip) 6 = true := by kernel_rfl
theorem e13 (a0 : Value) (h : Heap) (R : Value → Heap → Prop) : n13 a0 h R = wpK Try.prog lv13 (Try.f6.body.getD .skip) (endK Try.prog [.tmp 2, .tmp 3] R) (argT [a0]) h := by kernel_rfl
theorem w13 {a0 : Value} {h : Heap} {R : Value → Heap → Prop} (hn : n13 a0 h R) : DetP Try.prog 6 [a0] h R :=
  DetP.of_code (rs := [.tmp 2, .tmp 3]) (n := 1) Try.func6 (by kernel_rfl) (by kernel_rfl) lv13 ok13 rfl ((e13 a0 h R) ▸ hn)

end Go.Proofs.Ytgmgmkhenhaniaa

set_option linter.unusedSimpArgs false
set_option linter.unusedVariables false
set_option linter.unnecessarySimpa false
set_option maxRecDepth 100000
set_option maxHeartbeats 4000000
namespace Go.Proofs.Ytgmgmkhenhaniaa
open Go.AM
variable {h g : Heap}
/-! ### sorting mutations -/
def ltm (a b : Mut) : Prop := a.kind < b.kind ∨ a.kind = b.kind ∧ (a.step < b.step ∨ a.step = b.step ∧ a.to < b.to)
instance (a b : Mut) : Decidable (ltm a b) := by unfold ltm; infer_instance
theorem cmpM_lt (a b : Mut) : cmpM a b < 0 ↔ ltm a b := by
  rw [cmpM, orOf_cons, orOf_cons, orOf_cons, orOf_nil]
  unfold cmpI ltm
  repeat' split
  all_goals omega
theorem ltM (a b : Mut) : Go.Proofs.ltOf cmpM a b = true ↔ ltm a b := by
  unfold Go.Proofs.ltOf
  rw [decide_eq_true_iff, cmpM_lt]
theorem ltMn (a b : Mut) : Go.Proofs.ltOf cmpM a b = false ↔ ¬ ltm a b := by
  rw [← ltM, Bool.not_eq_true]
theorem swoM : Go.Sort.SWO (Go.Proofs.ltOf cmpM) := by
  refine ⟨fun x => ?_, fun x y z h1 h2 => ?_, fun x y z h1 h2 => ?_⟩
  · rw [ltMn]; unfold ltm; omega
  · rw [ltM] at *; unfold ltm at *; omega
  · rw [ltMn] at *; unfold ltm at *; omega
theorem totM : ∀ x y, Go.Proofs.ltOf cmpM x y = false → Go.Proofs.ltOf cmpM y x = false → x = y := by
  intro x y h1 h2
  rw [ltMn] at h1 h2
  unfold ltm at *
  cases x; cases y
  simp only [Mut.mk.injEq] at *
  omega
theorem c45 {i c : Nat} {xs : List Mut} {h0 : Heap} {Lm : List E} {k : Nat} (m : Mem h0 h Lm) (q : Lm[k]? = some ⟨some i, flat xs, 3⟩) (hne : 0 < xs.length) (hlen : xs.length < 4611686018427387904) :
    Runs Try.prog 17 [.slice (some ⟨i, 0, none⟩) xs.length c, .func (.func 18) #[] #[]] h (.tuple #[]) (h.set i (.arr ⟨flat (srt cmpM xs), 3, false⟩)) :=
  sort_run (α := Mut) (g0 := 18) lays45 Try.isAgg36 Try.sizeOf36 cmpM swoM totM (enters_of Try.func18 (by kernel_rfl) rfl) (by kernel_rfl) rfl (fun x y => c46 x y) rfl (by kernel_rfl) (m.get q) hne hlen (by decide)
theorem sort45 {K : Value → Heap → Prop} {v : Value} {i : Nat} {xs : List Mut} {h0 : Heap} {Lm : List E} {k : Nat} (m : Mem h0 h Lm) (s : IsSl v (some i) xs.length) (q : Lm[k]? = some ⟨some i, flat xs, 3⟩) (hne : 0 < xs.length) (hlen : xs.length < 4611686018427387904)
    (hK : ∀ h', Prec h h' → Mem h0 h' (Lm.set k ⟨some i, flat (srt cmpM xs), 3⟩) → K (.tuple #[]) h') : callK Try.prog (some (17, [v, .func (.func 18) #[] #[]])) h K := by
  obtain ⟨c, rfl, _⟩ := s
  exact call_r (c45 m q hne hlen) (hK _ ⟨m.setStab q _⟩ (m.set q _))
/-- Nothing to sort. -/
theorem c45n {y : Value} {o : Option Nat} (s : IsSl y o 0) : Runs Try.prog 17 [y, .func (.func 18) #[] #[]] h (.tuple #[]) h := by
  intro ρ w cargs G R rl
  obtain ⟨c0, c1, rfl⟩ : ∃ c0 c1, cargs = [c0, c1] := by
    match cargs, rl.1 with
    | [a, b], _ => exact ⟨a, b, rfl⟩
  have r0 := rl.2 0
  have r1 := rl.2 1
  simp only [List.getD, List.getElem?_cons_zero, Option.getD_some, List.getElem?_cons_succ] at r0 r1
  have hc0 : ∃ p cap, c0 = .slice p 0 cap := by
    cases o with
    | none => obtain ⟨rfl, _⟩ := s; cases r0; exact ⟨_, _, rfl⟩
    | some i => obtain ⟨c, rfl, _⟩ := s; cases r0; exact ⟨_, _, rfl⟩
  obtain ⟨p, cap, rfl⟩ := hc0
  have hc1 : c1 = .func (.func 18) #[] #[] := by
    cases r1 with
    | func _ h1 _ h3 _ => rw [Array.eq_empty_of_size_eq_zero h1.symm, Array.eq_empty_of_size_eq_zero h3.symm]
  subst hc1
  refine .inl ⟨by kernel_rfl, (Go.Proofs.AnyF.slices_SortFunc_none lays45 p cap (.func (.func 18) #[] #[]) w).mono ?_⟩
  rintro e w' ⟨rfl, rfl⟩
  exact ⟨.tuple #[], h, ρ, .tuple #[], ⟨rfl, rfl⟩, rfl, R, Step.refl _ _ _, .tuple rfl fun j hj => absurd hj (by simp)⟩
/-- The closure that adds a real mutation. -/
theorem c44 {ib zb : Nat} {o : Option Nat} {y : Value} {xs : List Mut} {h0 : Heap} {Lm : List E} (m : Mem h0 h (⟨some ib, [y], zb⟩ :: ⟨o, flat xs, 3⟩ :: Lm)) (s : IsSl y o xs.length) (hb : xs.length ≤ 1048576) (real : Bool) (t : Mut) :
    DetP Try.prog 16 [.bool real, fv t, .pointer (some ⟨ib, 0, none⟩)] h fun v' h' => v' = .tuple #[] ∧ Prec h h' ∧ ∃ o' y', IsSl y' o' (if real then xs ++ [t] else xs).length ∧ Mem h0 h' (⟨some ib, [y'], zb⟩ :: ⟨o', flat (if real then xs ++ [t] else xs), 3⟩ :: Lm) := by
  obtain ⟨ya, yc, hy⟩ := s.isS
  refine w44 ?_
  unfold n44
  refine box_a m fun it ht zt pt m => ?_
  cases real
  · ((with_reducible (refine mv_i ?_; refine cnd_f ?_; refine ret0 ?_)))
    exact ⟨rfl, ⟨Stb.st⟩, o, y, s, m.tail⟩
  · ((with_reducible (refine mv_i ?_; refine cnd_t ?_)); (refine ldoA ?_); (refine ldwA ?_); (refine bs_g (bs27_1 _ _) (by assumption) fun i h p m => ?_))
    refine app_snoc (a := t) (k2 := 0) (j := 0) m s (by infer_instance) ⟨rfl⟩ rfl ⟨by omega, by omega⟩ fun i3 h7 p7 m => ?_
    simp only [List.set_cons_succ, List.set_cons_zero] at m
    ((refine sto (by assumption) (q := by infer_instance) (by with_unfolding_all exact Nat.le_of_ble_eq_true rfl) rfl rfl (u := by infer_instance) fun h p m => ?_); (with_reducible (refine ret0 ?_)))
    exact ⟨rfl, ⟨Stb.st⟩, some i3, _, by rw [if_pos rfl, List.length_append]; exact IsSl.some0, m.tail.tail⟩
end Go.Proofs.Ytgmgmkhenhaniaa

set_option linter.unusedSimpArgs false
set_option linter.unusedVariables false
set_option linter.unnecessarySimpa false
set_option maxRecDepth 100000
set_option maxHeartbeats 4000000
namespace Go.Proofs.Ytgmgmkhenhaniaa
open Go.AM
variable {h g : Heap}
theorem bd34_012 (a b c : Int) : aBuild Try.prog 36 [(0, .int .i64 a), (1, .int .i64 b), (2, .int .i64 c)] = some (fv (⟨a, b, c⟩ : Mut)) := by kernel_rfl
theorem bd34_02 (a c : Int) : aBuild Try.prog 36 [(0, .int .i64 a), (2, .int .i64 c)] = some (fv (⟨a, 0, c⟩ : Mut)) := by kernel_rfl
/-! ### real mutations -/
def Rl (x : Mach) (m : Mut) : Prop :=
  (m.kind = 0 ∧ (0 ≤ m.step ∧ m.step < x.steps.length) ∧ (0 ≤ m.to ∧ m.to < x.outputs) ∧ m.to ≠ (gt x.steps m.step.toNat).out) ∨
  (m.kind = 1 ∧ (0 ≤ m.step ∧ m.step < x.steps.length) ∧ (0 ≤ m.to ∧ m.to < x.states) ∧ m.to ≠ (gt x.steps m.step.toNat).to) ∨
  (m.kind = 2 ∧ m.step = 0 ∧ (0 ≤ m.to ∧ m.to < x.states) ∧ m.to ≠ x.start) ∨
  (m.kind = 3 ∧ (0 ≤ m.step ∧ m.step < x.steps.length) ∧ (m.step < m.to ∧ m.to < x.steps.length) ∧ (gt x.steps m.to.toNat).to ≠ (gt x.steps m.step.toNat).to)
/-- What is in the list while it grows. -/
def stg (A R : Mut → Prop) (kd si : Int) (n : Nat) (m : Mut) : Prop := A m ∨ (m.kind = kd ∧ m.step = si ∧ m.to < n ∧ R m)
theorem stg_add {A R : Mut → Prop} {kd si : Int} {n : Nat} {ys : List Mut} {real : Bool} (hn : ys.Nodup) (hm : ∀ m, m ∈ ys ↔ stg A R kd si n m) (hA : ¬ A ⟨kd, si, n⟩) (hR : real = true ↔ R ⟨kd, si, n⟩) :
    (if real then ys ++ [⟨kd, si, n⟩] else ys).Nodup ∧ ∀ m, m ∈ (if real then ys ++ [⟨kd, si, n⟩] else ys) ↔ stg A R kd si (n + 1) m := by
  have hni : ¬ (⟨kd, si, n⟩ : Mut) ∈ ys := by
    rw [hm]
    rintro (h | ⟨_, _, h, _⟩)
    · exact hA h
    · simp at h
  have key : ∀ m : Mut, stg A R kd si (n + 1) m ↔ stg A R kd si n m ∨ (m = ⟨kd, si, n⟩ ∧ R ⟨kd, si, n⟩) := by
    intro m
    unfold stg
    constructor
    · rintro (h | ⟨h1, h2, h3, h4⟩)
      · exact .inl (.inl h)
      · by_cases e : m.to = n
        · refine .inr ?_
          have : m = ⟨kd, si, n⟩ := by cases m; simp only [Mut.mk.injEq] at *; exact ⟨h1, h2, e⟩
          subst this; exact ⟨rfl, h4⟩
        · exact .inl (.inr ⟨h1, h2, by omega, h4⟩)
    · rintro ((h | ⟨h1, h2, h3, h4⟩) | ⟨rfl, h⟩)
      · exact .inl h
      · exact .inr ⟨h1, h2, by omega, h4⟩
      · exact .inr ⟨rfl, rfl, by simp; omega, h⟩
  cases real with
  | true =>
    refine ⟨?_, fun m => ?_⟩
    · rw [if_pos rfl, List.nodup_append]
      exact ⟨hn, by simp, by intro a ha b hb e; rw [List.mem_singleton] at hb; subst hb; subst e; exact hni ha⟩
    · rw [if_pos rfl, key, List.mem_append, hm, List.mem_singleton]
      exact or_congr_right ⟨fun h => ⟨h, hR.mp rfl⟩, fun h => h.1⟩
  | false =>
    refine ⟨hn, fun m => ?_⟩
    show m ∈ ys ↔ _
    rw [key, hm]
    exact ⟨.inl, fun h => h.resolve_right fun q => by have := hR.mpr q.2; cases this⟩
theorem stg_base {A R : Mut → Prop} {kd si : Int} {n : Nat} (h : ∀ m : Mut, R m → m.kind = kd → m.step = si → (n : Int) ≤ m.to) (m : Mut) : stg A R kd si n m ↔ A m :=
  ⟨fun q => q.elim id fun ⟨h1, h2, h3, h4⟩ => by have := h m h4 h1 h2; omega, .inl⟩
theorem stg_end {A R : Mut → Prop} {kd si : Int} {n : Nat} (h : ∀ m : Mut, R m → m.kind = kd → m.step = si → m.to < n) (m : Mut) : stg A R kd si n m ↔ A m ∨ (m.kind = kd ∧ m.step = si ∧ R m) :=
  ⟨fun q => q.imp id fun ⟨h1, h2, _, h4⟩ => ⟨h1, h2, h4⟩, fun q => q.imp id fun ⟨h1, h2, h4⟩ => ⟨h1, h2, h m h4 h1 h2, h4⟩⟩
theorem add_len {ys : List Mut} {real : Bool} {t : Mut} {n : Nat} (h : ys.length ≤ n) : (if real then ys ++ [t] else ys).length ≤ n + 1 := by
  split
  · simp; omega
  · omega
theorem Rl_le {x : Mach} {m : Mut} (h : Rl x m) : 0 ≤ m.to := by unfold Rl at h; omega
def stA (x : Mach) (i : Nat) (m : Mut) : Prop := m.kind ≠ 2 ∧ m.step < i ∧ Rl x m
def stB (x : Mach) (i : Nat) (m : Mut) : Prop := stA x i m ∨ (m.kind = 0 ∧ m.step = i ∧ Rl x m)
def stC (x : Mach) (i : Nat) (m : Mut) : Prop := stB x i m ∨ (m.kind = 1 ∧ m.step = i ∧ Rl x m)
theorem Rl0 {x : Mach} {i k : Nat} (hi : i < x.steps.length) (hk : (k : Int) < x.outputs) : Rl x ⟨0, i, k⟩ ↔ ¬ (k : Int) = (gt x.steps i).out := by
  constructor
  · rintro (⟨_, _, _, h⟩ | ⟨h, _⟩ | ⟨h, _⟩ | ⟨h, _⟩)
    · simpa using h
    all_goals (exfalso; simp at h)
  · intro h; exact .inl ⟨rfl, ⟨by simp, by simpa using hi⟩, ⟨by simp, hk⟩, by simpa using h⟩
theorem Rl1 {x : Mach} {i k : Nat} (hi : i < x.steps.length) (hk : (k : Int) < x.states) : Rl x ⟨1, i, k⟩ ↔ ¬ (k : Int) = (gt x.steps i).to := by
  constructor
  · rintro (⟨h, _⟩ | ⟨_, _, _, h⟩ | ⟨h, _⟩ | ⟨h, _⟩)
    · exfalso; simp at h
    · simpa using h
    all_goals (exfalso; simp at h)
  · intro h; exact .inr (.inl ⟨rfl, ⟨by simp, by simpa using hi⟩, ⟨by simp, hk⟩, by simpa using h⟩)
theorem Rl2 {x : Mach} {k : Nat} (hk : (k : Int) < x.states) : Rl x ⟨2, 0, k⟩ ↔ ¬ (k : Int) = x.start := by
  constructor
  · rintro (⟨h, _⟩ | ⟨h, _⟩ | ⟨_, _, _, h⟩ | ⟨h, _⟩)
    · exfalso; simp at h
    · exfalso; simp at h
    · exact h
    · exfalso; simp at h
  · intro h; exact .inr (.inr (.inl ⟨rfl, rfl, ⟨by simp, hk⟩, h⟩))
theorem Rl3 {x : Mach} {i k : Nat} (hi : i < k) (hk : k < x.steps.length) : Rl x ⟨3, i, k⟩ ↔ ¬ (gt x.steps k).to = (gt x.steps i).to := by
  constructor
  · rintro (⟨h, _⟩ | ⟨h, _⟩ | ⟨h, _⟩ | ⟨_, _, _, h⟩)
    · exfalso; simp at h
    · exfalso; simp at h
    · exfalso; simp at h
    · simpa using h
  · intro h; exact .inr (.inr (.inr ⟨rfl, ⟨by simp, by simp; omega⟩, ⟨by simpa using hi, by simpa using hk⟩, by simpa using h⟩))
def stD (x : Mach) (m : Mut) : Prop := m.kind ≠ 2 ∧ Rl x m
theorem nA {x : Mach} {i : Nat} {kd t : Int} : ¬ stA x i ⟨kd, i, t⟩ := fun q => by have := q.2.1; simp at this
theorem nB {x : Mach} {i : Nat} {kd t : Int} (h : kd ≠ 0) : ¬ stB x i ⟨kd, i, t⟩ := fun q => q.elim nA fun q => h q.1
theorem nC {x : Mach} {i : Nat} {kd t : Int} (h : kd ≠ 0) (h2 : kd ≠ 1) : ¬ stC x i ⟨kd, i, t⟩ := fun q => q.elim (nB h) fun q => h2 q.1
theorem endC {x : Mach} {i : Nat} (m : Mut) : (stC x i m ∨ (m.kind = 3 ∧ m.step = i ∧ Rl x m)) ↔ stA x (i + 1) m := by
  unfold stC stB stA
  constructor
  · rintro (((⟨h1, h2, h3⟩ | ⟨h1, h2, h3⟩) | ⟨h1, h2, h3⟩) | ⟨h1, h2, h3⟩)
    · exact ⟨h1, by omega, h3⟩
    all_goals exact ⟨by omega, by omega, h3⟩
  · rintro ⟨h1, h2, h3⟩
    by_cases e : m.step < i
    · exact .inl (.inl (.inl ⟨h1, e, h3⟩))
    · have hk : m.kind = 0 ∨ m.kind = 1 ∨ m.kind = 3 := by have := h3; unfold Rl at this; omega
      rcases hk with hk | hk | hk
      · exact .inl (.inl (.inr ⟨hk, by omega, h3⟩))
      · exact .inl (.inr ⟨hk, by omega, h3⟩)
      · exact .inr ⟨hk, by omega, h3⟩
theorem endA {x : Mach} (m : Mut) : stA x x.steps.length m ↔ stD x m := by
  unfold stA stD
  exact ⟨fun h => ⟨h.1, h.2.2⟩, fun h => ⟨h.1, by have := h.2; unfold Rl at this; have := h.1; omega, h.2⟩⟩
theorem endD {x : Mach} (m : Mut) : (stD x m ∨ (m.kind = 2 ∧ m.step = 0 ∧ Rl x m)) ↔ Rl x m := by
  unfold stD
  constructor
  · rintro (h | h)
    · exact h.2
    · exact h.2.2
  · intro h
    by_cases e : m.kind = 2
    · exact .inr ⟨e, by have := h; unfold Rl at this; omega, h⟩
    · exact .inl ⟨e, h⟩
theorem c13 {v : Value} {x : Mach} (s : MacV g v x) (hE : errM x = 0) : DetP Try.prog 6 [v] g fun v' h' => g <+: h' ∧ ∃ b n q ys, v' = .tuple #[.slice b n q, .int .i64 0] ∧ ys.Nodup ∧ (∀ m, m ∈ ys ↔ Rl x m) ∧ L h' (.slice b n q) (srt cmpM ys) := by
  refine DetP.freeze ?_
  obtain ⟨tv, rfl, s⟩ := s
  have lt := s.lt
  obtain ⟨b0, q0, rfl, _⟩ := s.shape
  obtain ⟨e3, e4, e5, e6⟩ := errM_ok hE
  have hsm := small hE
  obtain ⟨⟨a1, a2⟩, ⟨a3, a4⟩, ⟨a5, a6⟩, a7, a8⟩ := e4
  have m := Mem.start g
  refine w13 ?_
  unfold n13
  refine box_a m fun ix hx0 zx p1 m => ?_
  ((with_reducible (refine mv_i ?_; refine mv_i ?_)); (refine ldwA ?_); (refine call_r (c43 ⟨_, by with_unfolding_all rfl, L.up (by assumption)⟩) ?_); (with_reducible (refine mv_i ?_; refine mv_i ?_; refine neq_h (by first | assumption | decide) ?_; refine cnd_f ?_; refine alloc_z (by assumption) fun i h z p m => ?_; refine mv_i ?_; refine mv_i ?_; refine fao ?_)); (refine ldoA ?_); (with_reducible (refine len_g (by assumption) ?_; refine mv_i ?_)))
  obtain ⟨ib, rfl⟩ : ∃ q, q = i := ⟨i, rfl⟩
  obtain ⟨zb, rfl⟩ : ∃ q, q = z := ⟨z, rfl⟩
  obtain ⟨hx, rfl⟩ : ∃ q, q = h := ⟨h, rfl⟩
  have m := (m.nil 3).perm (List.Perm.swap _ _ _)
  refine loop1 x.steps.length (fun n0 h => ∃ y o ys, IsSl y o ys.length ∧ (ys.Nodup ∧ ∀ m, m ∈ ys ↔ stA x n0 m) ∧ ys.length ≤ n0 * 368 ∧ Prec hx h ∧ Mem g h [⟨some ib, [y], zb⟩, ⟨o, flat ys, 3⟩, ⟨some ix, [.int .i64 x.states, .int .i64 x.inputs, .int .i64 x.outputs, .int .i64 x.start, .slice b0 x.steps.length q0], zx⟩]) ⟨.slice none 0 0, none, [], IsSl.nil, ⟨List.nodup_nil, fun m => ?_⟩, by simp, ⟨Stab.refl _⟩, m⟩ ?_
  · constructor
    · intro h; cases h
    · rintro ⟨_, h2, h3⟩; unfold Rl at h3; exfalso; simp at h2; omega
  rintro n0 h2 _ hi ⟨y, o, ys, hs, hmm, hyl, p2, m⟩
  ((with_reducible (refine lss_i (fun hc => ?_) (fun hc => ?_); refine cnd_t ?_; refine mv_i ?_)); (refine idxA fun p hp => ?_); (refine ldr_w (by assumption) (by with_unfolding_all rfl) ?_); (with_reducible (refine alloc_z (by assumption) fun i h z p m => ?_; refine mv_i ?_)); (refine st_w (by assumption) (by infer_instance) (by with_unfolding_all rfl) (by with_unfolding_all rfl) (by first | rfl | exact flat_ones (Flat.flat _)) (by infer_instance) fun h p m => ?_); (with_reducible (refine fao ?_)); (refine ldoA ?_); (with_reducible (refine mv_i ?_)); (rotate_left); (with_reducible (refine cnd_f ?_; refine fao ?_)); (refine ldoA ?_); (with_reducible (refine mv_i ?_)); (rotate_left))
  · have hn0 : n0 < x.steps.length := by omega
    obtain ⟨ib2, rfl⟩ : ∃ q, q = i := ⟨i, rfl⟩
    obtain ⟨zb2, rfl⟩ : ∃ q, q = z := ⟨z, rfl⟩
    have m := m.perm ((List.Perm.swap _ _ _).trans (List.Perm.cons _ (List.Perm.swap _ _ _)))
    refine loop1 x.outputs.toNat (fun k h => ∃ y o ys, IsSl y o ys.length ∧ (ys.Nodup ∧ ∀ m, m ∈ ys ↔ stg (stA x n0) (Rl x) 0 n0 k m) ∧ ys.length ≤ n0 * 368 + k ∧ Prec hx h ∧ Mem g h [⟨some ib, [y], zb⟩, ⟨o, flat ys, 3⟩, ⟨some ib2, Flat.cells (gt x.steps n0), zb2⟩, ⟨some ix, [.int .i64 x.states, .int .i64 x.inputs, .int .i64 x.outputs, .int .i64 x.start, .slice b0 x.steps.length q0], zx⟩]) ⟨y, o, ys, hs, ⟨hmm.1, fun m => by rw [hmm.2, stg_base fun m h _ _ => Rl_le h]⟩, by omega, ⟨Stb.st⟩, m⟩ ?_
    rintro k h3 _ hk ⟨y, o, ys, hs, hmm, hyl, p3, m⟩
    ((with_reducible (refine lss_i (fun hc => ?_) (fun hc => ?_); refine cnd_t ?_; refine mv_i ?_; refine mv_i ?_; refine mv_i ?_; refine mv_i ?_; refine fao ?_)); (refine ldoA ?_); (with_reducible (refine neq_i (fun hc => ?_) (fun hc => ?_); refine mv_i ?_; refine mv_i ?_)); (refine vk_i (bd34_012 _ _ _) ?_); (rotate_left); (with_reducible (refine mv_i ?_; refine mv_i ?_)); (refine vk_i (bd34_012 _ _ _) ?_); (rotate_left); (with_reducible (refine cnd_f ?_; refine fao ?_)); (refine ldoA ?_); (with_reducible (refine mv_i ?_)); (rotate_left))
    · have hkk : (k : Int) < x.outputs := by assumption
      refine call_i (c44 m hs (by omega) false (⟨0, n0, k⟩ : Mut)) fun v4 h4 ⟨hv, p4, o', y', hs', m⟩ => ?_
      subst hv
      ((with_reducible (refine inc_i (by omega) ?_; refine mv_i ?_)))
      refine next1 (by omega) ⟨y', o', _, hs', stg_add hmm.1 hmm.2 (nA) (⟨fun q => (by cases q), fun q => ((Rl0 hn0 hkk).mp q hc).elim⟩), add_len hyl, ⟨Stb.st⟩, m⟩
    · have hkk : (k : Int) < x.outputs := by assumption
      refine call_i (c44 m hs (by omega) true (⟨0, n0, k⟩ : Mut)) fun v4 h4 ⟨hv, p4, o', y', hs', m⟩ => ?_
      subst hv
      ((with_reducible (refine inc_i (by omega) ?_; refine mv_i ?_)))
      refine next1 (by omega) ⟨y', o', _, hs', stg_add hmm.1 hmm.2 (nA) (⟨fun _ => (Rl0 hn0 hkk).mpr hc, fun _ => rfl⟩), add_len hyl, ⟨Stb.st⟩, m⟩
    · have hmB : ∀ m, m ∈ ys ↔ stB x n0 m := fun m => by rw [hmm.2, stg_end fun m h h1 h2 => by unfold Rl at h; omega]; rfl
      have hnd := hmm.1
      refine loop1 x.states.toNat (fun k h => ∃ y o ys, IsSl y o ys.length ∧ (ys.Nodup ∧ ∀ m, m ∈ ys ↔ stg (stB x n0) (Rl x) 1 n0 k m) ∧ ys.length ≤ n0 * 368 + 8 + k ∧ Prec hx h ∧ Mem g h [⟨some ib, [y], zb⟩, ⟨o, flat ys, 3⟩, ⟨some ib2, Flat.cells (gt x.steps n0), zb2⟩, ⟨some ix, [.int .i64 x.states, .int .i64 x.inputs, .int .i64 x.outputs, .int .i64 x.start, .slice b0 x.steps.length q0], zx⟩]) ⟨y, o, ys, hs, ⟨hnd, fun m => by rw [hmB, stg_base fun m h _ _ => Rl_le h]⟩, by omega, ⟨Stb.st⟩, m⟩ ?_
      rintro k h4 _ hk ⟨y, o, ys, hs, hmm, hyl, p4, m⟩
      ((with_reducible (refine lss_i (fun hc => ?_) (fun hc => ?_); refine cnd_t ?_; refine mv_i ?_; refine mv_i ?_; refine mv_i ?_; refine mv_i ?_; refine fao ?_)); (refine ldoA ?_); (with_reducible (refine neq_i (fun hc => ?_) (fun hc => ?_); refine mv_i ?_; refine mv_i ?_)); (refine vk_i (bd34_012 _ _ _) ?_); (rotate_left); (with_reducible (refine mv_i ?_; refine mv_i ?_)); (refine vk_i (bd34_012 _ _ _) ?_); (rotate_left); (with_reducible (refine cnd_f ?_; refine mv_i ?_; refine inc_i (by omega) ?_; refine mv_i ?_)); (rotate_left))
      · have hkk : (k : Int) < x.states := by assumption
        refine call_i (c44 m hs (by omega) false (⟨1, n0, k⟩ : Mut)) fun v4 h4 ⟨hv, p4, o', y', hs', m⟩ => ?_
        subst hv
        ((with_reducible (refine inc_i (by omega) ?_; refine mv_i ?_)))
        refine next1 (by omega) ⟨y', o', _, hs', stg_add hmm.1 hmm.2 (nB (by decide)) (⟨fun q => (by cases q), fun q => ((Rl1 hn0 hkk).mp q hc).elim⟩), add_len hyl, ⟨Stb.st⟩, m⟩
      · have hkk : (k : Int) < x.states := by assumption
        refine call_i (c44 m hs (by omega) true (⟨1, n0, k⟩ : Mut)) fun v4 h4 ⟨hv, p4, o', y', hs', m⟩ => ?_
        subst hv
        ((with_reducible (refine inc_i (by omega) ?_; refine mv_i ?_)))
        refine next1 (by omega) ⟨y', o', _, hs', stg_add hmm.1 hmm.2 (nB (by decide)) (⟨fun _ => (Rl1 hn0 hkk).mpr hc, fun _ => rfl⟩), add_len hyl, ⟨Stb.st⟩, m⟩
      · have hmC : ∀ m, m ∈ ys ↔ stC x n0 m := fun m => by rw [hmm.2, stg_end fun m h h1 h2 => by unfold Rl at h; omega]; rfl
        have hnd := hmm.1
        refine ⟨fun vs h => ∃ k : Nat, vs = [.int .i64 (k : Int)] ∧ n0 + 1 ≤ k ∧ k ≤ x.steps.length ∧ ∃ y o ys, IsSl y o ys.length ∧ (ys.Nodup ∧ ∀ m, m ∈ ys ↔ stg (stC x n0) (Rl x) 3 n0 k m) ∧ ys.length ≤ n0 * 368 + 48 + k ∧ Prec hx h ∧ Mem g h [⟨some ib, [y], zb⟩, ⟨o, flat ys, 3⟩, ⟨some ib2, Flat.cells (gt x.steps n0), zb2⟩, ⟨some ix, [.int .i64 x.states, .int .i64 x.inputs, .int .i64 x.outputs, .int .i64 x.start, .slice b0 x.steps.length q0], zx⟩], fun vs _ => match vs with | [.int _ n] => x.steps.length - n.toNat | _ => 0, ⟨n0 + 1, rfl, Nat.le_refl _, hn0, y, o, ys, hs, ⟨hnd, fun m => by rw [hmC, stg_base fun m h h1 h2 => by unfold Rl at h; omega]⟩, by omega, ⟨Stb.st⟩, m⟩, ?_⟩
        rintro h5 _ v5 ⟨k, e5, hk1, hk2, y, o, ys, hs, hmm, hyl, p5, m⟩
        cases e5
        ((with_reducible (refine mv_i ?_; refine fao ?_)); (refine ldoA ?_); (with_reducible (refine len_g (by assumption) ?_; refine lss_i (fun hc => ?_) (fun hc => ?_); refine cnd_t ?_; refine mv_i ?_; refine fao ?_)); (refine ldoA ?_); (with_reducible (refine vb_l (by assumption) ?_; refine mv_i ?_)); (refine idxA fun p hp => ?_); (with_reducible (refine fa_g (by assumption) fun p hp => ?_)); (refine ldgA ?_); (refine vbA ?_); (with_reducible (refine fao ?_)); (refine ldoA ?_); (refine vbA ?_); (with_reducible (refine neq_i (fun hc => ?_) (fun hc => ?_); refine mv_i ?_; refine mv_i ?_)); (refine vk_i (bd34_012 _ _ _) ?_); (rotate_left); (with_reducible (refine mv_i ?_; refine mv_i ?_)); (refine vk_i (bd34_012 _ _ _) ?_); (rotate_left); (with_reducible (refine cnd_f ?_; refine inc_i (by omega) ?_; refine mv_i ?_)); (rotate_left))
        · have hkk : k < x.steps.length := by omega
          refine call_i (c44 m hs (by omega) false (⟨3, n0, k⟩ : Mut)) fun v4 h4 ⟨hv, p4, o', y', hs', m⟩ => ?_
          subst hv
          ((with_reducible (refine mv_i ?_; refine inc_i (by omega) ?_; refine mv_i ?_)))
          refine ⟨⟨k + 1, rfl, by omega, by omega, y', o', _, hs', stg_add hmm.1 hmm.2 (nC (by decide) (by decide)) (⟨fun q => (by cases q), fun q => ((Rl3 (by omega) hkk).mp q hc).elim⟩), add_len hyl, ⟨Stb.st⟩, m⟩, ?_⟩
          show x.steps.length - ((k + 1 : Nat) : Int).toNat < x.steps.length - (k : Int).toNat
          omega
        · have hkk : k < x.steps.length := by omega
          refine call_i (c44 m hs (by omega) true (⟨3, n0, k⟩ : Mut)) fun v4 h4 ⟨hv, p4, o', y', hs', m⟩ => ?_
          subst hv
          ((with_reducible (refine mv_i ?_; refine inc_i (by omega) ?_; refine mv_i ?_)))
          refine ⟨⟨k + 1, rfl, by omega, by omega, y', o', _, hs', stg_add hmm.1 hmm.2 (nC (by decide) (by decide)) (⟨fun _ => (Rl3 (by omega) hkk).mpr hc, fun _ => rfl⟩), add_len hyl, ⟨Stb.st⟩, m⟩, ?_⟩
          show x.steps.length - ((k + 1 : Nat) : Int).toNat < x.steps.length - (k : Int).toNat
          omega
        · refine next1 (by omega) ⟨y, o, ys, hs, ⟨hmm.1, fun m => ?_⟩, by omega, ⟨Stb.st⟩, m.sub (.cons_cons _ (.cons_cons _ (.cons _ (List.Sublist.refl _))))⟩
          rw [hmm.2, stg_end (fun m h h1 h2 => by unfold Rl at h; omega), endC]
  · have hnn : n0 = x.steps.length := by omega
    subst hnn
    refine loop1 x.states.toNat (fun k h => ∃ y o ys, IsSl y o ys.length ∧ (ys.Nodup ∧ ∀ m, m ∈ ys ↔ stg (stD x) (Rl x) 2 0 k m) ∧ ys.length ≤ 320 * 368 + k ∧ Prec hx h ∧ Mem g h [⟨some ib, [y], zb⟩, ⟨o, flat ys, 3⟩, ⟨some ix, [.int .i64 x.states, .int .i64 x.inputs, .int .i64 x.outputs, .int .i64 x.start, .slice b0 x.steps.length q0], zx⟩]) ⟨y, o, ys, hs, ⟨hmm.1, fun m => by rw [hmm.2, endA, stg_base fun m h _ _ => Rl_le h]⟩, by omega, ⟨Stb.st⟩, m⟩ ?_
    rintro k h4 _ hk ⟨y, o, ys, hs, hmm, hyl, p4, m⟩
    ((with_reducible (refine lss_i (fun hc => ?_) (fun hc => ?_); refine cnd_t ?_; refine mv_i ?_; refine mv_i ?_; refine mv_i ?_; refine mv_i ?_; refine fao ?_)); (refine ldoA ?_); (with_reducible (refine neq_i (fun hc => ?_) (fun hc => ?_); refine mv_i ?_)); (refine vk_i (bd34_02 _ _) ?_); (rotate_left); (with_reducible (refine mv_i ?_)); (refine vk_i (bd34_02 _ _) ?_); (rotate_left); (with_reducible (refine cnd_f ?_)); (refine ldoA ?_); (rotate_left))
    · have hkk : (k : Int) < x.states := by assumption
      refine call_i (c44 m hs (by omega) false (⟨2, 0, k⟩ : Mut)) fun v4 h4 ⟨hv, p4, o', y', hs', m⟩ => ?_
      subst hv
      ((with_reducible (refine inc_i (by omega) ?_; refine mv_i ?_)))
      refine next1 (by omega) ⟨y', o', _, hs', stg_add hmm.1 hmm.2 (fun q => q.1 rfl) (⟨fun q => (by cases q), fun q => ((Rl2 hkk).mp q hc).elim⟩), add_len hyl, ⟨Stb.st⟩, m⟩
    · have hkk : (k : Int) < x.states := by assumption
      refine call_i (c44 m hs (by omega) true (⟨2, 0, k⟩ : Mut)) fun v4 h4 ⟨hv, p4, o', y', hs', m⟩ => ?_
      subst hv
      ((with_reducible (refine inc_i (by omega) ?_; refine mv_i ?_)))
      refine next1 (by omega) ⟨y', o', _, hs', stg_add hmm.1 hmm.2 (fun q => q.1 rfl) (⟨fun _ => (Rl2 hkk).mpr hc, fun _ => rfl⟩), add_len hyl, ⟨Stb.st⟩, m⟩
    · have hmR : ∀ m, m ∈ ys ↔ Rl x m := fun m => by rw [hmm.2, stg_end (fun m h h1 h2 => by unfold Rl at h; omega), endD]
      have hnd := hmm.1
      have hsl : (srt cmpM ys).length = ys.length := by simp [srt]
      rcases Nat.eq_zero_or_pos ys.length with e0 | e0
      · have e1 : ys = [] := List.length_eq_zero_iff.mp e0
        subst e1
        refine call_r (c45n hs) ?_
        ((refine ldoA ?_); (with_reducible (refine mv_i ?_; refine mv_i ?_; refine ret2 ?_)))
        obtain ⟨b3, c3, rfl⟩ := hs.isS
        refine ⟨m.pre, b3, _, c3, [], rfl, hnd, hmR, ?_⟩
        have e2 : srt cmpM ([] : List Mut) = [] := by simp [srt]
        rw [e2]
        exact IsSl.ro hs m (k := 1) rfl (by simp)
      · obtain ⟨i9, rfl⟩ := m.isSome (k := 1) ⟨rfl⟩ (by decide) e0
        refine sort45 m hs (k := 1) rfl e0 (by omega) fun h7 p7 m => ?_
        simp only [List.set_cons_succ, List.set_cons_zero] at m
        ((refine ldoA ?_); (with_reducible (refine mv_i ?_; refine mv_i ?_; refine ret2 ?_)))
        obtain ⟨b3, c3, hye⟩ := hs.isS
        subst hye
        exact ⟨m.pre, b3, _, c3, ys, rfl, hnd, hmR, IsSl.ro (xs := srt cmpM ys) (by rw [hsl]; exact hs) m (k := 1) rfl (by omega)⟩
end Go.Proofs.Ytgmgmkhenhaniaa

set_option linter.unusedSimpArgs false
set_option linter.unusedVariables false
set_option linter.unnecessarySimpa false
set_option maxRecDepth 100000
set_option maxHeartbeats 4000000
namespace Go.Proofs.Ytgmgmkhenhaniaa
open Go.AM
variable {h g : Heap}
/-! ### a mutation that is right and changes the machine is a real one -/
theorem mutE_1 (x : Mach) (m : Mut) : (mutE x [m]).2 = 0 ↔ (0 ≤ m.kind ∧ m.kind ≤ 3) ∧ rightS x m ∧ (m.kind ≠ 3 ∨ m.step < m.to) := by
  have h1 : mutE x [m] = firstErr (muE x [m]) 1 := by unfold mutE; rw [if_neg (by simp)]; rfl
  have hg : gt [m] 0 = m := rfl
  have ho : ordS [m] 0 ↔ (m.kind ≠ 3 ∨ m.step < m.to) := by unfold ordS; rw [hg]; simp
  have ha : ¬ agn [m] 0 := by unfold agn; simp [idxOf]
  have h2 : (firstErr (muE x [m]) 1).2 = 0 ↔ muE x [m] 0 = 0 := by
    unfold firstErr firstErr
    by_cases e : muE x [m] 0 = 0 <;> simp [e]
  rw [h1, h2]
  unfold muE
  rw [hg]
  by_cases c1 : 0 ≤ m.kind ∧ m.kind ≤ 3
  · by_cases c2 : rightS x m
    · by_cases c3 : m.kind ≠ 3 ∨ m.step < m.to
      · simp only [c1, c2, ho.mpr c3, ha, c3]; simp
      · have : ¬ ordS [m] 0 := fun q => c3 (ho.mp q)
        simp only [c1, c2, this, c3]; simp
    · simp only [c1, c2]; simp
  · simp only [c1]; simp
theorem set_same {l : List Stp} {k : Nat} {a : Stp} (hk : k < l.length) : l.set k a = l ↔ gt l k = a := by
  constructor
  · intro h
    have := gst (j := k) (a := a) hk
    rw [h, if_pos rfl] at this; exact this
  · rintro rfl
    refine List.ext_getElem (by simp) fun j h1 h2 => ?_
    rw [List.getElem_set]
    split
    · rename_i e; subst e; rw [gt_at]
    · rfl
theorem stp_out (t : Stp) (v : Int) : ({ t with out := v } : Stp) = t ↔ v = t.out := by cases t; simp
theorem stp_to (t : Stp) (v : Int) : ({ t with to := v } : Stp) = t ↔ v = t.to := by cases t; simp
theorem mac_st (x : Mach) (l : List Stp) : ({ x with steps := l } : Mach) = x ↔ l = x.steps := by cases x; simp
theorem mac_start (x : Mach) (v : Int) : ({ x with start := v } : Mach) = x ↔ v = x.start := by cases x; simp
theorem real_iff (x : Mach) (m : Mut) : ((mutE x [m]).2 = 0 ∧ ¬ mutd x [m] = x) ↔ Rl x m := by
  rw [mutE_1, show mutd x [m] = ap1 x x m from rfl]
  constructor
  · rintro ⟨⟨⟨k1, k2⟩, hr, ho⟩, hne⟩
    unfold rightS at hr
    unfold ap1 at hne
    split at hr
    · rename_i e
      rw [if_pos e, mac_st] at hne
      unfold setOut at hne
      rw [set_same (by omega), eq_comm, stp_out] at hne
      exact .inl ⟨e, by omega, by omega, hne⟩
    · rename_i n0
      rw [if_neg n0] at hne
      split at hr
      · rename_i e
        rw [if_pos e, mac_st] at hne
        unfold setTo at hne
        rw [set_same (by omega), eq_comm, stp_to] at hne
        exact .inr (.inl ⟨e, by omega, by omega, hne⟩)
      · rename_i n1
        rw [if_neg n1] at hne
        split at hr
        · rename_i e
          rw [if_pos e, mac_start] at hne
          exact .inr (.inr (.inl ⟨e, by omega, by omega, hne⟩))
        · rename_i n2
          rw [if_neg n2, mac_st] at hne
          refine .inr (.inr (.inr ⟨by omega, by omega, by omega, fun q => hne ?_⟩))
          have e1 : setTo x.steps m.step.toNat (gt x.steps m.to.toNat).to = x.steps := by
            unfold setTo; rw [set_same (by omega), eq_comm, stp_to]; exact q
          rw [e1]
          unfold setTo; rw [set_same (by omega), eq_comm, stp_to]; exact q.symm
  · intro h
    unfold rightS ap1
    rcases h with ⟨e, h1, h2, h3⟩ | ⟨e, h1, h2, h3⟩ | ⟨e, h1, h2, h3⟩ | ⟨e, h1, h2, h3⟩
    · rw [if_pos e, if_pos e, mac_st]
      refine ⟨⟨by omega, by omega, by omega⟩, ?_⟩
      unfold setOut
      rw [set_same (by omega), eq_comm, stp_out]; exact h3
    · have n0 : ¬ m.kind = 0 := by omega
      rw [if_neg n0, if_neg n0, if_pos e, if_pos e, mac_st]
      refine ⟨⟨by omega, by omega, by omega⟩, ?_⟩
      unfold setTo
      rw [set_same (by omega), eq_comm, stp_to]; exact h3
    · have n0 : ¬ m.kind = 0 := by omega
      have n1 : ¬ m.kind = 1 := by omega
      rw [if_neg n0, if_neg n0, if_neg n1, if_neg n1, if_pos e, if_pos e, mac_start]
      exact ⟨⟨by omega, by omega, by omega⟩, h3⟩
    · have n0 : ¬ m.kind = 0 := by omega
      have n1 : ¬ m.kind = 1 := by omega
      have n2 : ¬ m.kind = 2 := by omega
      rw [if_neg n0, if_neg n0, if_neg n1, if_neg n1, if_neg n2, if_neg n2, mac_st]
      refine ⟨⟨by omega, by omega, by omega⟩, fun q => h3 ?_⟩
      have hlen : (setTo x.steps m.step.toNat (gt x.steps m.to.toNat).to).length = x.steps.length := by simp [setTo]
      have h5 : gt (setTo (setTo x.steps m.step.toNat (gt x.steps m.to.toNat).to) m.to.toNat (gt x.steps m.step.toNat).to) m.to.toNat = gt x.steps m.to.toNat := by rw [q]
      have h6 : (gt (setTo (setTo x.steps m.step.toNat (gt x.steps m.to.toNat).to) m.to.toNat (gt x.steps m.step.toNat).to) m.to.toNat).to = (gt x.steps m.step.toNat).to := by
        rw [show setTo (setTo x.steps m.step.toNat (gt x.steps m.to.toNat).to) m.to.toNat (gt x.steps m.step.toNat).to = (setTo x.steps m.step.toNat (gt x.steps m.to.toNat).to).set m.to.toNat { gt (setTo x.steps m.step.toNat (gt x.steps m.to.toNat).to) m.to.toNat with to := (gt x.steps m.step.toNat).to } from rfl, gst (by omega), if_pos rfl]
      rw [h5] at h6
      exact h6
end Go.Proofs.Ytgmgmkhenhaniaa

set_option linter.unusedSimpArgs false
set_option linter.unusedVariables false
set_option linter.unnecessarySimpa false
set_option maxRecDepth 100000
set_option maxHeartbeats 4000000
namespace Go.Proofs.Ytgmgmkhenhaniaa
open Go.AM
variable {h g : Heap}
/-! ### unlike answers -/
theorem cdif {v u y : Value} {x zm : Mach} {wd : List Int} (s : MacV g v x) (s' : MacV g u zm) (t : L g y wd) (P : Par x zm) (hi : inP x ⟨x.start, zm.start⟩) (hw : inW x wd) (hb : wd.length ≤ 1048576) : Runs Try.prog 27 [v, u, y] g (.bool (!decide (ans x x.start wd = ans zm zm.start wd))) g := by
  obtain ⟨tv, rfl, s⟩ := s
  obtain ⟨uv, rfl, s'⟩ := s'
  obtain ⟨b0, q0, rfl, _⟩ := s.shape
  obtain ⟨b1, q1, rfl, _⟩ := s'.shape
  have m := Mem.start g
  refine DetP.forget rfl ?_
  refine w1027 ?_
  unfold n1027
  ((with_reducible (refine box_a (by assumption) fun i h z p m => ?_; refine box_a (by assumption) fun i h z p m => ?_; refine mv_i ?_)); (refine ldwA ?_); (with_reducible (refine fao ?_)); (refine ldoA ?_); (with_reducible (refine mv_i ?_)))
  refine call_d (c95 ⟨_, rfl, s.up⟩ t.up P.cx P.lx hi.1 hw hb) m fun v2 h2 p2 p2' m ⟨b2, n2, q2, b3, n3, q3, e2, s2⟩ => ?_
  subst e2
  ((with_reducible (refine mv_i ?_; refine ex2_0 ?_; refine ex2_1 ?_; refine mv_i ?_; refine mv_i ?_)); (refine ldwA ?_); (with_reducible (refine fao ?_)); (refine ldoA ?_); (with_reducible (refine mv_i ?_)))
  refine call_d (c95 (x := zm) ⟨_, rfl, s'.up⟩ t.up P.cy P.ly (by rw [P.st]; exact hi.2) (fun n hn => by rw [P.ip]; exact hw n hn) hb) m fun v3 h3 p3 p3' m ⟨b4, n4, q4, b5, n5, q5, e3, s3⟩ => ?_
  subst e3
  ((with_reducible (refine mv_i ?_; refine ex2_0 ?_; refine ex2_1 ?_; refine mv_i ?_; refine mv_i ?_; refine mv_i ?_; refine mv_i ?_)))
  refine call_r (c29 s2.up s3.up) ?_
  refine not_i ?_
  ((with_reducible (refine mv_i ?_; refine ret1 ?_)))
  exact ⟨rfl, m.pre⟩
theorem c70n {x : Value} {l : List Int} (s : L g x l) (hb : l.length ≤ 1048576) : DetP Try.prog 55 [x] g fun v h' => g <+: h' ∧ ∃ o', IsSl v o' l.length ∧ OwnNew g h' o' (flat l) 1 := by
  have m := Mem.start g
  refine w70 ?_
  unfold n70
  ((with_reducible (refine mv_i ?_)); (refine bs_g (bs53_0 _) (by assumption) fun i h p m => ?_); (with_reducible (refine mv_i ?_)))
  refine app_copy m (by infer_instance) s rfl ⟨by omega, by omega⟩ fun v o h2 p2 hv m => ?_
  simp only [List.set_cons_zero] at m
  ((with_reducible (refine mv_i ?_; refine ret1 ?_)))
  exact ⟨m.pre, o, hv, OwnNew.of m⟩
theorem cdby0 {x zm : Mach} (P : Par x zm) (hi : inP x ⟨x.start, zm.start⟩) (hno : ∀ w, inW x w → ans x x.start w = ans zm zm.start w) {g : Heap} {v u y : Value} {wd : List Int} (s : MacV g v x) (s' : MacV g u zm) (t : L g y wd) (hw : inW x wd) (hl : wd.length = 5) : Runs Try.prog 29 [v, u, y] g (.bool false) g := by
  obtain ⟨⟨a1, a2⟩, ⟨a3, a4⟩, _⟩ := (chk_ok P.cx).1
  obtain ⟨tv, rfl, s⟩ := s
  obtain ⟨uv, rfl, s'⟩ := s'
  have m := Mem.start g
  refine DetP.forget rfl ?_
  refine w1029 ?_
  unfold n1029
  have C := fun {h : Heap} {v u y : Value} (s : MacV h v x) (s' : MacV h u zm) (t : L h y wd) => cdif (g := h) s s' t P hi hw (by omega)
  rw [decide_eq_true (hno wd hw)] at C
  simp only [Bool.not_true] at C
  obtain ⟨b0, q0, rfl, _⟩ := s.shape
  obtain ⟨b1, q1, rfl, _⟩ := s'.shape
  refine box_a m fun i0 h0 z0 p0 m => ?_
  refine box_a m fun i1 h1 z1 p1 m => ?_
  ((with_reducible (refine mv_i ?_)); (refine ldwA ?_); (refine ldwA ?_); (with_reducible (refine mv_i ?_)))
  refine call_r (C ⟨_, rfl, s.up⟩ ⟨_, rfl, s'.up⟩ t.up) ?_
  ((with_reducible (refine cnd_f ?_; refine mv_i ?_)))
  refine loop1 x.inputs.toNat (fun k h2 => Prec h1 h2 ∧ Mem g h2 [⟨some i1, [.int .i64 zm.states, .int .i64 zm.inputs, .int .i64 zm.outputs, .int .i64 zm.start, .slice b1 zm.steps.length q1], z1⟩, ⟨some i0, [.int .i64 x.states, .int .i64 x.inputs, .int .i64 x.outputs, .int .i64 x.start, .slice b0 x.steps.length q0], z0⟩]) ⟨⟨Stab.refl _⟩, m⟩ ?_
  rintro k h2 _ hk ⟨p2, m⟩
  ((with_reducible (refine mv_i ?_; refine fao ?_)); (refine ldoA ?_); (with_reducible (refine lss_i (fun hc => ?_) (fun hc => ?_); refine mv_i ?_; refine gd_tt ?_; refine mv_i ?_; refine gd_tt ?_; refine len_g (by assumption) ?_; refine gd_tt ?_; refine lss_i (fun hc => ?_) (fun hc => ?_); refine pick_t ?_; refine cnd_t ?_)); (refine ldwA ?_); (refine vb_mac (by assumption) ?_); (refine ldwA ?_); (refine vb_mac (by assumption) ?_); (with_reducible (refine mv_i ?_)); (rotate_left); (with_reducible (refine pick_t ?_; refine cnd_f ?_; refine mv_i ?_; refine ret1 ?_)); (rotate_left); (with_reducible (refine mv_i ?_; refine gd_ft ?_; refine gd_ft ?_; refine gd_ft ?_; refine pick_f ?_; refine cnd_f ?_; refine mv_i ?_; refine ret1 ?_)); (rotate_left))
  all_goals first | exact ⟨rfl, m.pre⟩ | (exfalso; omega)
theorem cdbyS {x zm : Mach} (P : Par x zm) (hi : inP x ⟨x.start, zm.start⟩) (hno : ∀ w, inW x w → ans x x.start w = ans zm zm.start w) {n : Nat} (ih : ∀ {g : Heap} {v u y : Value} {wd : List Int}, MacV g v x → MacV g u zm → L g y wd → inW x wd → wd.length + n = 5 → Runs Try.prog 29 [v, u, y] g (.bool false) g) {g : Heap} {v u y : Value} {wd : List Int} (s : MacV g v x) (s' : MacV g u zm) (t : L g y wd) (hw : inW x wd) (hl : wd.length + (n + 1) = 5) : Runs Try.prog 29 [v, u, y] g (.bool false) g := by
  obtain ⟨⟨a1, a2⟩, ⟨a3, a4⟩, _⟩ := (chk_ok P.cx).1
  obtain ⟨tv, rfl, s⟩ := s
  obtain ⟨uv, rfl, s'⟩ := s'
  have m := Mem.start g
  refine DetP.forget rfl ?_
  refine w1029 ?_
  unfold n1029
  have C := fun {h : Heap} {v u y : Value} (s : MacV h v x) (s' : MacV h u zm) (t : L h y wd) => cdif (g := h) s s' t P hi hw (by omega)
  rw [decide_eq_true (hno wd hw)] at C
  simp only [Bool.not_true] at C
  obtain ⟨b0, q0, rfl, _⟩ := s.shape
  obtain ⟨b1, q1, rfl, _⟩ := s'.shape
  refine box_a m fun i0 h0 z0 p0 m => ?_
  refine box_a m fun i1 h1 z1 p1 m => ?_
  ((with_reducible (refine mv_i ?_)); (refine ldwA ?_); (refine ldwA ?_); (with_reducible (refine mv_i ?_)))
  refine call_r (C ⟨_, rfl, s.up⟩ ⟨_, rfl, s'.up⟩ t.up) ?_
  ((with_reducible (refine cnd_f ?_; refine mv_i ?_)))
  refine loop1 x.inputs.toNat (fun k h2 => Prec h1 h2 ∧ Mem g h2 [⟨some i1, [.int .i64 zm.states, .int .i64 zm.inputs, .int .i64 zm.outputs, .int .i64 zm.start, .slice b1 zm.steps.length q1], z1⟩, ⟨some i0, [.int .i64 x.states, .int .i64 x.inputs, .int .i64 x.outputs, .int .i64 x.start, .slice b0 x.steps.length q0], z0⟩]) ⟨⟨Stab.refl _⟩, m⟩ ?_
  rintro k h2 _ hk ⟨p2, m⟩
  ((with_reducible (refine mv_i ?_; refine fao ?_)); (refine ldoA ?_); (with_reducible (refine lss_i (fun hc => ?_) (fun hc => ?_); refine mv_i ?_; refine gd_tt ?_; refine mv_i ?_; refine gd_tt ?_; refine len_g (by assumption) ?_; refine gd_tt ?_; refine lss_i (fun hc => ?_) (fun hc => ?_); refine pick_t ?_; refine cnd_t ?_)); (refine ldwA ?_); (refine vb_mac (by assumption) ?_); (refine ldwA ?_); (refine vb_mac (by assumption) ?_); (with_reducible (refine mv_i ?_)); (rotate_left); (with_reducible (refine pick_t ?_; refine cnd_f ?_; refine mv_i ?_; refine ret1 ?_)); (rotate_left); (with_reducible (refine mv_i ?_; refine gd_ft ?_; refine gd_ft ?_; refine gd_ft ?_; refine pick_f ?_; refine cnd_f ?_; refine mv_i ?_; refine ret1 ?_)); (rotate_left))
  · refine calld_d (c70n t.up (by omega)) m fun v7 h7 p7 p7' _ ⟨o', hv, hnn⟩ => ?_
    have m := hnn _ _ m
    refine new_p p7 ?_
    ((with_reducible (refine mv_i ?_)); (refine bs_g (bs53_1 _ _) (by assumption) fun i h p m => ?_))
    refine app_snoc (a := (k : Int)) (k2 := 0) (j := 0) m hv (by infer_instance) ⟨rfl⟩ rfl ⟨by omega, by omega⟩ fun i3 h8 p8 m => ?_
    simp only [List.set_cons_succ, List.set_cons_zero] at m
    skip
    refine ⟨⟨by rw [load_w (n := 5) m (i := i1) (by infer_instance) rfl]; rfl, by rw [load_w (n := 5) m (i := i0) (by infer_instance) rfl]; rfl, trivial⟩, ?_⟩
    refine call_r (Runs.lent (ih (wd := wd ++ [(k : Int)]) ⟨_, rfl, s.lent⟩ ⟨_, rfl, s'.lent⟩ (IsSl.lent (o := some i3) (by rw [List.length_append]; exact IsSl.some0) m (by infer_instance) (by rw [List.length_append]; simp; omega)) (by
      intro a ha
      rcases List.mem_append.mp ha with ha | ha
      · exact hw a ha
      · rw [List.mem_singleton] at ha; subst ha; omega) (by rw [List.length_append]; simp; omega))) ?_
    ((with_reducible (refine cnd_f ?_; refine mv_i ?_; refine inc_i (by omega) ?_; refine mv_i ?_)))
    exact next1 (by omega) ⟨⟨Stb.st⟩, m.sub (by simp)⟩
  · exfalso; omega
  · exact ⟨rfl, m.pre⟩
theorem cdby {x zm : Mach} (P : Par x zm) (hi : inP x ⟨x.start, zm.start⟩) (hno : ∀ w, inW x w → ans x x.start w = ans zm zm.start w) : ∀ (n : Nat) {g : Heap} {v u y : Value} {wd : List Int}, MacV g v x → MacV g u zm → L g y wd → inW x wd → wd.length + n = 5 → Runs Try.prog 29 [v, u, y] g (.bool false) g
  | 0, _, _, _, _, _, s, s', t, hw, hl => cdby0 P hi hno s s' t hw hl
  | n + 1, _, _, _, _, _, s, s', t, hw, hl => cdbyS P hi hno (cdby P hi hno n) s s' t hw hl
end Go.Proofs.Ytgmgmkhenhaniaa
