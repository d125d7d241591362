import Derived.Test.YtomiejfeclefaaaPb
import Derived.Test.YtomiejfeclefaaaPa
import Derived.Test.YtomiejfeclefaaaAnG
import Derived.Test.YtomiejfeclefaaaBulk
import Derived.Test.YtomiejfeclefaaaChecked
import Derived.WalkKit
import Derived.ProofKit
set_option linter.unusedSimpArgs false
set_option linter.unusedVariables false
set_option linter.unnecessarySimpa false
set_option maxRecDepth 100000
set_option maxHeartbeats 4000000
namespace Go.Proofs.Ytomiejfeclefaaa
open Go.AM
variable {h g : Heap}
theorem errM_ok {x : Mach} (h0 : errM x = 0) : (chkM x).2 = 0 ∧ headOK x ∧ (x.steps.length : Int) = x.states * x.inputs ∧ x.states ≤ 12 := by
  unfold errM at h0
  split at h0
  · contradiction
  · rename_i h1
    have h1 : (chkM x).2 = 0 := by simpa using h1
    split at h0
    · cases h0
    · split at h0
      · rename_i h2 h3
        exact ⟨h1, (chk_ok h1).1, (opn_iff h1).mp h3, by omega⟩
      · cases h0
noncomputable def bothE (x : Mach) (l : List Mut) : Int := if errM x ≠ 0 then errM x else (mutE x l).2
theorem c20 {v y : Value} {x : Mach} {l : List Mut} (s : MacV g v x) (t : L g y l) : Runs Try.prog 20 [v, y] g (if errM x ≠ 0 then mk2 0 (errM x) else mk2 (mutE x l).1 (mutE x l).2) g := by
  obtain ⟨tv, rfl, s⟩ := s
  have m := Mem.start g
  refine DetP.forget (by split <;> rfl) ?_
  refine w20 ?_
  unfold n20
  ((with_reducible (refine box_a (by assumption) fun i h z p m => ?_; refine mv_i ?_; refine mv_i ?_));
      (refine ldo_w (by assumption) (by infer_instance) (by with_unfolding_all rfl) ?_);
      (refine call_r (c43 ⟨_, by with_unfolding_all rfl, L.up (by assumption)⟩) ?_);
      (with_reducible (refine mv_i ?_; refine mv_i ?_; refine neq_i (fun hc => ?_) (fun hc => ?_); refine cnd_f ?_));
      (refine ldo_w (by assumption) (by infer_instance) (by with_unfolding_all rfl) ?_);
      (with_reducible (refine mv_i ?_));
      (rotate_left);
      (with_reducible (refine cnd_t ?_; refine mv_i ?_; refine mv_i ?_; refine mv_i ?_; refine ret2 ?_));
      (rotate_left))
  · refine call_r (c57 ⟨_, rfl, s.up⟩ t.up (errM_ok hc).2.1) ?_
    unfold mk2
    ((with_reducible (refine ex2_0 ?_; refine ex2_1 ?_; refine mv_i ?_; refine mv_i ?_; refine ret2 ?_)))
    exact ⟨by rw [if_neg (by simpa using hc)], Mem.pre (by assumption)⟩
  · exact ⟨by rw [if_pos hc]; rfl, Mem.pre (by assumption)⟩
/-! ### several mutants -/
noncomputable def allE (x : Mach) : List (List Mut) → Int
  | [] => 0
  | l :: ls => if (mutE x l).2 ≠ 0 then (mutE x l).2 else allE x ls
theorem allE_at {x : Mach} {ls : List (List Mut)} {k : Nat} (hJ : ∀ j (hj : j < k) (hl : j < ls.length), (mutE x ls[j]).2 = 0) (hk : k < ls.length) (he : (mutE x ls[k]).2 ≠ 0) : allE x ls = (mutE x ls[k]).2 := by
  induction ls generalizing k with
  | nil => simp at hk
  | cons l ls ih =>
    unfold allE
    cases k with
    | zero => rw [if_pos (by simpa using he)]; rfl
    | succ k =>
      have := hJ 0 (by omega) (by simp)
      rw [if_neg (by simpa using this)]
      exact ih (k := k) (fun j hj hl => hJ (j + 1) (by omega) (by simpa using hl)) (by simpa using hk) (by simpa using he)
theorem allE_no {x : Mach} {ls : List (List Mut)} (hJ : ∀ j (hl : j < ls.length), (mutE x ls[j]).2 = 0) : allE x ls = 0 := by
  induction ls with
  | nil => rfl
  | cons l ls ih =>
    unfold allE
    have := hJ 0 (by simp)
    rw [if_neg (by simpa using this)]
    exact ih fun j hl => hJ (j + 1) (by simpa using hl)
theorem c47 {v y : Value} {x : Mach} {ls : List (List Mut)} (s : MacV g v x) (t : L g y ls) : Runs Try.prog 47 [v, y] g (.int .i64 (if errM x ≠ 0 then errM x else allE x ls)) g := by
  obtain ⟨tv, rfl, s⟩ := s
  have lt := t.lt
  have m := Mem.start g
  refine DetP.forget rfl ?_
  refine w47 ?_
  unfold n47
  refine box_a m fun i0 h0 z0 p0 m => ?_
  ((with_reducible (refine mv_i ?_));
      (refine ldo_w (by assumption) (by infer_instance) (by with_unfolding_all rfl) ?_);
      (refine call_r (c43 ⟨_, by with_unfolding_all rfl, L.up (by assumption)⟩) ?_);
      (with_reducible (refine mv_i ?_; refine mv_i ?_; refine neq_i (fun hc => ?_) (fun hc => ?_); refine cnd_f ?_; refine mv_i ?_; refine len_g (by assumption) ?_; refine mv_i ?_));
      (rotate_left);
      (with_reducible (refine cnd_t ?_; refine mv_i ?_; refine mv_i ?_; refine ret1 ?_));
      (rotate_left))
  · rw [if_neg (by simpa using hc)]
    have hm := (errM_ok hc).2.1
    refine loop1 ls.length (fun k h2 => Prec h0 h2 ∧ Mem g h2 [⟨some i0, [.int .i64 x.states, .int .i64 x.inputs, .int .i64 x.outputs, .int .i64 x.start, tv], z0⟩] ∧ ∀ j (hj : j < k) (hl : j < ls.length), (mutE x ls[j]).2 = 0) ⟨⟨Stab.refl _⟩, m, fun j hj => by omega⟩ ?_
    rintro k h2 _ hk ⟨p2, m, hJ⟩
    ((with_reducible (refine lss_i (fun hc => ?_) (fun hc => ?_); refine cnd_t ?_));
        (rotate_left);
        (with_reducible (refine cnd_f ?_; refine mv_i ?_; refine ret1 ?_));
        (rotate_left))
    · have hkl : k < ls.length := by omega
      refine idx_l t rfl hkl fun p y1 hp s1 => ?_
      ((refine ld_g (by assumption) (by with_unfolding_all rfl) ?_);
          (with_reducible (refine mv_i ?_));
          (refine ldo_w (by assumption) (by infer_instance) (by with_unfolding_all rfl) ?_);
          (with_reducible (refine mv_i ?_)))
      refine call_r (c57 ⟨_, rfl, s.up⟩ s1.up hm) ?_
      unfold mk2
      ((with_reducible (refine mv_i ?_; refine ex2_0 ?_; refine ex2_1 ?_; refine mv_i ?_; refine mv_i ?_; refine mv_i ?_; refine neq_i (fun hc => ?_) (fun hc => ?_); refine cnd_f ?_; refine inc_i (by omega) ?_; refine mv_i ?_));
          (rotate_left);
          (with_reducible (refine cnd_t ?_; refine mv_i ?_; refine mv_i ?_; refine ret1 ?_));
          (rotate_left))
      · refine next1 hkl ⟨⟨Stb.st⟩, m, fun j hj hl => ?_⟩
        by_cases e : j = k
        · subst e; assumption
        · exact hJ j (by omega) hl
      · exact ⟨by rw [allE_at hJ hkl (by assumption)], Mem.pre (by assumption)⟩
    · exact ⟨by rw [allE_no fun j hl => hJ j (by omega) hl], Mem.pre (by assumption)⟩
  · exact ⟨by rw [if_pos hc], Mem.pre (by assumption)⟩
/-! ### lists of one's own, lent -/
theorem lent1 {l : List E} {i k c : Nat} {y : Value} {xs : List Mut} {h1 h0 : Heap} (m : Mem h0 h l) (q : Ent l i k [y] 1) [S : Stb h1 h] (s : L h1 y xs) (hc : c = 2) : L (frz 0 h) (.slice (some ⟨i, 0, none⟩) 1 c) [xs] := by
  subst hc
  exact ⟨[[y]], rfl, m.lent0 (n := 1) q.ok rfl (by decide) (by decide), fun k h1 h2 => by
    have : k = 0 := by simp at h1; exact h1
    subst this
    exact ⟨y, rfl, s.lent⟩⟩
theorem all1 (x : Mach) (l : List Mut) : (if errM x ≠ 0 then errM x else allE x [l]) = bothE x l := by
  unfold bothE allE allE
  by_cases h : (mutE x l).2 = 0 <;> simp [h]
end Go.Proofs.Ytomiejfeclefaaa

set_option linter.unusedSimpArgs false
set_option linter.unusedVariables false
set_option linter.unnecessarySimpa false
set_option maxRecDepth 100000
set_option maxHeartbeats 4000000
namespace Go.Proofs.Ytomiejfeclefaaa
open Go.AM
variable {h g : Heap}
/-! ### mutants as machines -/
def setOut (l : List Stp) (k : Nat) (v : Int) : List Stp := l.set k { gt l k with out := v }
def setTo (l : List Stp) (k : Nat) (v : Int) : List Stp := l.set k { gt l k with to := v }
def ap1 (x cur : Mach) (m : Mut) : Mach :=
  if m.kind = 0 then { cur with steps := setOut cur.steps m.step.toNat m.to }
  else if m.kind = 1 then { cur with steps := setTo cur.steps m.step.toNat m.to }
  else if m.kind = 2 then { cur with start := m.to }
  else { cur with steps := setTo (setTo cur.steps m.step.toNat (gt x.steps m.to.toNat).to) m.to.toNat (gt x.steps m.step.toNat).to }
def muts (x : Mach) (l : List Mut) (k : Nat) : Mach := (l.take k).foldl (ap1 x) x
def mutd (x : Mach) (l : List Mut) : Mach := l.foldl (ap1 x) x
theorem ap1_same (x cur : Mach) (m : Mut) : (ap1 x cur m).states = cur.states ∧ (ap1 x cur m).inputs = cur.inputs ∧ (ap1 x cur m).outputs = cur.outputs ∧ (ap1 x cur m).steps.length = cur.steps.length := by
  unfold ap1 setOut setTo
  repeat' split
  all_goals simp
theorem muts_next {x : Mach} {l : List Mut} {k : Nat} (hk : k < l.length) : muts x l (k + 1) = ap1 x (muts x l k) (gt l k) := by
  unfold muts
  rw [take_gd Df.d hk, List.foldl_append]
  rfl
theorem muts_same (x : Mach) (l : List Mut) : ∀ k, (muts x l k).states = x.states ∧ (muts x l k).inputs = x.inputs ∧ (muts x l k).outputs = x.outputs ∧ (muts x l k).steps.length = x.steps.length := by
  intro k
  induction k with
  | zero => simp [muts]
  | succ k ih =>
    by_cases hk : k < l.length
    · rw [muts_next hk]
      have := ap1_same x (muts x l k) (gt l k)
      omega
    · have : muts x l (k + 1) = muts x l k := by
        unfold muts
        rw [List.take_of_length_le (by omega), List.take_of_length_le (by omega)]
      rw [this]; exact ih
/-- The program's mutant. -/
theorem c50 {v y : Value} {x : Mach} {l : List Mut} (s : MacV g v x) (t : L g y l) (hb : x.steps.length ≤ 1048576) (hv : ∀ k, k < l.length → (0 ≤ (gt l k).kind ∧ (gt l k).kind ≤ 3) ∧ rightS x (gt l k)) :
    DetP Try.prog 50 [v, y] g fun v' h' => g <+: h' ∧ ∃ b q n, v' = .agg #[.int .i64 (mutd x l).states, .int .i64 (mutd x l).inputs, .int .i64 (mutd x l).outputs, .int .i64 (mutd x l).start, .slice b n q] ∧ n = (mutd x l).steps.length ∧ L h' (.slice b n q) (mutd x l).steps := by
  refine DetP.freeze ?_
  obtain ⟨tv, rfl, s⟩ := s
  have lt := t.lt
  obtain ⟨b0, q0, rfl, _⟩ := s.shape
  have m := Mem.start g
  refine w50 ?_
  unfold n50
  refine box_a m fun i0 h0 z0 p0 m => ?_
  refine alloc_z m fun i1 h1 z1 p1 m => ?_
  ((refine ldo_w (by assumption) (by infer_instance) (by with_unfolding_all rfl) ?_);
      (with_reducible (refine alloc_z (by assumption) fun i h z p m => ?_));
      (refine st_w (by assumption) (by infer_instance) (by with_unfolding_all rfl) (by with_unfolding_all rfl) (by first | rfl | exact flat_ones (Flat.flat _)) (by infer_instance) fun h p m => ?_);
      (with_reducible (refine fao ?_));
      (refine ldo (by assumption) (q := by infer_instance) (by with_unfolding_all rfl) ?_))
  refine call_d (c82 s.up hb) m fun y1 h3 p3 p4 _ ⟨o, hs, hn⟩ => ?_
  have m := hn _ _ m
  obtain ⟨a, d, rfl⟩ := hs.isS
  ((with_reducible (refine fao ?_));
      (refine sto (by assumption) (q := by infer_instance) (by with_unfolding_all exact Nat.le_of_ble_eq_true rfl) rfl rfl (u := by infer_instance) fun h p m => ?_);
      (with_reducible (refine mv_i ?_; refine len_g (by assumption) ?_; refine mv_i ?_)))
  refine loop1 l.length (fun k h5 => Prec h h5 ∧ Mem g h5 [⟨o, flat (muts x l k).steps, 4⟩, ⟨some i, [.int .i64 x.states, .int .i64 x.inputs, .int .i64 x.outputs, .int .i64 (muts x l k).start, .slice a x.steps.length d], z⟩, ⟨some i1, [.int .i64 0, .int .i64 0, .int .i64 0, .int .i64 0, .slice none 0 0], z1⟩, ⟨some i0, [.int .i64 x.states, .int .i64 x.inputs, .int .i64 x.outputs, .int .i64 x.start, .slice b0 x.steps.length q0], z0⟩]) ⟨⟨Stab.refl _⟩, m⟩ ?_
  rintro k h5 _ hk ⟨p5, m⟩
  obtain ⟨u1, u2, u3, u4⟩ := muts_same x l k
  have hs0 := hs
  have hs : IsSl (.slice a x.steps.length d) o (muts x l k).steps.length := by rw [u4]; exact hs
  by_cases hkl : k < l.length
  · have hnx := muts_next (x := x) hkl
    obtain ⟨r1, r2⟩ := hv k hkl
    ((with_reducible (refine lss_i (fun hc => ?_) (fun hc => ?_); refine cnd_t ?_));
        (rotate_left);
        (with_reducible (refine cnd_f ?_));
        (refine ldo_w (by assumption) (by infer_instance) (by with_unfolding_all rfl) ?_);
        (refine st_w (by assumption) (by infer_instance) (by with_unfolding_all rfl) (by with_unfolding_all rfl) (by first | rfl | exact flat_ones (Flat.flat _)) (by infer_instance) fun h p m => ?_);
        (refine rt_w1 (by assumption) (by infer_instance) (by with_unfolding_all rfl) ?_);
        (with_reducible (refine ret1 ?_));
        (rotate_left))
    · refine seq_J (fun xs h6 => xs = [] ∧ Prec h h6 ∧ Mem g h6 [⟨o, flat (muts x l (k + 1)).steps, 4⟩, ⟨some i, [.int .i64 x.states, .int .i64 x.inputs, .int .i64 x.outputs, .int .i64 (muts x l (k + 1)).start, .slice a x.steps.length d], z⟩, ⟨some i1, [.int .i64 0, .int .i64 0, .int .i64 0, .int .i64 0, .slice none 0 0], z1⟩, ⟨some i0, [.int .i64 x.states, .int .i64 x.inputs, .int .i64 x.outputs, .int .i64 x.start, .slice b0 x.steps.length q0], z0⟩]) ?_ ?_
      · rintro _ h6 ⟨rfl, p6, m⟩
        (((with_reducible refine fun (_ : Tmps) => ?_); (try dsimp only [nth]));
            (with_reducible (refine inc_i (by omega) ?_; refine mv_i ?_)))
        exact next1 hkl ⟨p6, m⟩
      · intro k' hk'
        have hk2 : (gt l k).kind = 0 ∨ (gt l k).kind = 1 ∨ (gt l k).kind = 2 ∨ (gt l k).kind = 3 := by omega
        rcases hk2 with e | e | e | e
        · rw [rightS, if_pos e] at r2
          obtain ⟨r2, r3⟩ := r2
          have hap : ap1 x (muts x l k) (gt l k) = { muts x l k with steps := setOut (muts x l k).steps (gt l k).step.toNat (gt l k).to } := by rw [ap1, if_pos e]
          rw [hap] at hnx
          ((refine idx_d (by assumption) (by with_unfolding_all rfl) (by omega) fun p hp => ?_);
              (refine ldr_w (by assumption) (by with_unfolding_all rfl) ?_);
              (with_reducible (refine alloc_z (by assumption) fun i h z p m => ?_));
              (refine st_w (by assumption) (by infer_instance) (by with_unfolding_all rfl) (by with_unfolding_all rfl) (by first | rfl | exact flat_ones (Flat.flat _)) (by infer_instance) fun h p m => ?_);
              (with_reducible (refine fao ?_));
              (refine ldo (by assumption) (q := by infer_instance) (by with_unfolding_all rfl) ?_);
              (with_reducible (refine eql_h (by first | assumption | decide) ?_; refine mv_i ?_; refine cnd_t ?_; refine fao ?_));
              (refine ldo (by assumption) (q := by infer_instance) (by with_unfolding_all rfl) ?_);
              (with_reducible (refine fao ?_));
              (refine ldo (by assumption) (q := by infer_instance) (by with_unfolding_all rfl) ?_);
              (with_reducible (refine fao ?_));
              (refine ldo (by assumption) (q := by infer_instance) (by with_unfolding_all rfl) ?_);
              (refine idx_oz (by assumption) (by omega) (by omega) ?_);
              (with_reducible (refine fao_e ?_)))
          refine stf_d { gt (muts x l k).steps (gt l k).step.toNat with out := (gt l k).to } m (by infer_instance) rfl (by omega) (by decide) rfl rfl rfl (by infer_instance) fun h p m => ?_
          exact hk' _ _ ⟨rfl, ⟨Stb.st⟩, by rw [hnx]; exact m.tail⟩
        · have n0 : ¬ (gt l k).kind = 0 := by omega
          rw [rightS, if_neg n0, if_pos e] at r2
          obtain ⟨r2, r3⟩ := r2
          have hap : ap1 x (muts x l k) (gt l k) = { muts x l k with steps := setTo (muts x l k).steps (gt l k).step.toNat (gt l k).to } := by rw [ap1, if_neg n0, if_pos e]
          rw [hap] at hnx
          ((refine idx_d (by assumption) (by with_unfolding_all rfl) (by omega) fun p hp => ?_);
              (refine ldr_w (by assumption) (by with_unfolding_all rfl) ?_);
              (with_reducible (refine alloc_z (by assumption) fun i h z p m => ?_));
              (refine st_w (by assumption) (by infer_instance) (by with_unfolding_all rfl) (by with_unfolding_all rfl) (by first | rfl | exact flat_ones (Flat.flat _)) (by infer_instance) fun h p m => ?_);
              (with_reducible (refine fao ?_));
              (refine ldo (by assumption) (q := by infer_instance) (by with_unfolding_all rfl) ?_);
              (with_reducible (refine eql_n (by first | assumption | decide) ?_; refine mv_i ?_; refine cnd_f ?_; refine eql_h (by first | assumption | decide) ?_; refine mv_i ?_; refine cnd_t ?_; refine fao ?_));
              (refine ldo (by assumption) (q := by infer_instance) (by with_unfolding_all rfl) ?_);
              (with_reducible (refine fao ?_));
              (refine ldo (by assumption) (q := by infer_instance) (by with_unfolding_all rfl) ?_);
              (with_reducible (refine fao ?_));
              (refine ldo (by assumption) (q := by infer_instance) (by with_unfolding_all rfl) ?_);
              (refine idx_oz (by assumption) (by omega) (by omega) ?_);
              (with_reducible (refine fao_e ?_)))
          refine stf_d { gt (muts x l k).steps (gt l k).step.toNat with to := (gt l k).to } m (by infer_instance) rfl (by omega) (by decide) rfl rfl rfl (by infer_instance) fun h p m => ?_
          exact hk' _ _ ⟨rfl, ⟨Stb.st⟩, by rw [hnx]; exact m.tail⟩
        · have n0 : ¬ (gt l k).kind = 0 := by omega
          have n1 : ¬ (gt l k).kind = 1 := by omega
          have hap : ap1 x (muts x l k) (gt l k) = { muts x l k with start := (gt l k).to } := by rw [ap1, if_neg n0, if_neg n1, if_pos e]
          rw [hap] at hnx
          ((refine idx_d (by assumption) (by with_unfolding_all rfl) (by omega) fun p hp => ?_);
              (refine ldr_w (by assumption) (by with_unfolding_all rfl) ?_);
              (with_reducible (refine alloc_z (by assumption) fun i h z p m => ?_));
              (refine st_w (by assumption) (by infer_instance) (by with_unfolding_all rfl) (by with_unfolding_all rfl) (by first | rfl | exact flat_ones (Flat.flat _)) (by infer_instance) fun h p m => ?_);
              (with_reducible (refine fao ?_));
              (refine ldo (by assumption) (q := by infer_instance) (by with_unfolding_all rfl) ?_);
              (with_reducible (refine eql_n (by first | assumption | decide) ?_; refine mv_i ?_; refine cnd_f ?_; refine eql_n (by first | assumption | decide) ?_; refine mv_i ?_; refine cnd_f ?_; refine eql_h (by first | assumption | decide) ?_; refine mv_i ?_; refine cnd_t ?_; refine fao ?_));
              (refine ldo (by assumption) (q := by infer_instance) (by with_unfolding_all rfl) ?_);
              (with_reducible (refine fao ?_));
              (refine sto (by assumption) (q := by infer_instance) (by with_unfolding_all exact Nat.le_of_ble_eq_true rfl) rfl rfl (u := by infer_instance) fun h p m => ?_))
          exact hk' _ _ ⟨rfl, ⟨Stb.st⟩, by rw [hnx]; exact m.tail⟩
        · have n0 : ¬ (gt l k).kind = 0 := by omega
          have n1 : ¬ (gt l k).kind = 1 := by omega
          have n2 : ¬ (gt l k).kind = 2 := by omega
          rw [rightS, if_neg n0, if_neg n1, if_neg n2] at r2
          obtain ⟨r2, r3⟩ := r2
          have hap : ap1 x (muts x l k) (gt l k) = { muts x l k with steps := setTo (setTo (muts x l k).steps (gt l k).step.toNat (gt x.steps (gt l k).to.toNat).to) (gt l k).to.toNat (gt x.steps (gt l k).step.toNat).to } := by rw [ap1, if_neg n0, if_neg n1, if_neg n2]
          rw [hap] at hnx
          ((refine idx_d (by assumption) (by with_unfolding_all rfl) (by omega) fun p hp => ?_);
              (refine ldr_w (by assumption) (by with_unfolding_all rfl) ?_);
              (with_reducible (refine alloc_z (by assumption) fun i h z p m => ?_));
              (refine st_w (by assumption) (by infer_instance) (by with_unfolding_all rfl) (by with_unfolding_all rfl) (by first | rfl | exact flat_ones (Flat.flat _)) (by infer_instance) fun h p m => ?_);
              (with_reducible (refine fao ?_));
              (refine ldo (by assumption) (q := by infer_instance) (by with_unfolding_all rfl) ?_);
              (with_reducible (refine eql_n (by first | assumption | decide) ?_; refine mv_i ?_; refine cnd_f ?_; refine eql_n (by first | assumption | decide) ?_; refine mv_i ?_; refine cnd_f ?_; refine eql_n (by first | assumption | decide) ?_; refine mv_i ?_; refine cnd_f ?_; refine eql_h (by first | assumption | decide) ?_; refine mv_i ?_; refine cnd_t ?_; refine fao ?_));
              (refine ldo (by assumption) (q := by infer_instance) (by with_unfolding_all rfl) ?_);
              (refine IsSl.vb (by assumption) (by assumption) (by infer_instance) ?_);
              (with_reducible (refine fao ?_));
              (refine ldo (by assumption) (q := by infer_instance) (by with_unfolding_all rfl) ?_);
              (refine vb_n (by with_unfolding_all rfl) ?_);
              (with_reducible (refine fao ?_));
              (refine ldo (by assumption) (q := by infer_instance) (by with_unfolding_all rfl) ?_);
              (refine IsSl.vb (by assumption) (by assumption) (by infer_instance) ?_);
              (with_reducible (refine fao ?_));
              (refine ldo (by assumption) (q := by infer_instance) (by with_unfolding_all rfl) ?_);
              (refine vb_n (by with_unfolding_all rfl) ?_);
              (with_reducible (refine fao ?_));
              (refine ldo (by assumption) (q := by infer_instance) (by with_unfolding_all rfl) ?_);
              (with_reducible (refine vb_l (by assumption) ?_; refine fao ?_));
              (refine ldo (by assumption) (q := by infer_instance) (by with_unfolding_all rfl) ?_);
              (refine vb_n (by with_unfolding_all rfl) ?_);
              (refine idx_dz (by assumption) (by with_unfolding_all rfl) (by omega) (by omega) fun p hp => ?_);
              (with_reducible (refine fa_g (by assumption) fun p hp => ?_));
              (refine ld_g (by assumption) (by with_unfolding_all rfl) ?_);
              (refine vb_n (by with_unfolding_all rfl) ?_);
              (with_reducible (refine fao ?_));
              (refine ldo (by assumption) (q := by infer_instance) (by with_unfolding_all rfl) ?_);
              (with_reducible (refine vb_l (by assumption) ?_; refine fao ?_));
              (refine ldo (by assumption) (q := by infer_instance) (by with_unfolding_all rfl) ?_);
              (refine vb_n (by with_unfolding_all rfl) ?_);
              (refine idx_dz (by assumption) (by with_unfolding_all rfl) (by omega) (by omega) fun p hp => ?_);
              (with_reducible (refine fa_g (by assumption) fun p hp => ?_));
              (refine ld_g (by assumption) (by with_unfolding_all rfl) ?_);
              (refine vb_n (by with_unfolding_all rfl) ?_);
              (refine idx_oz (by assumption) (by omega) (by omega) ?_);
              (with_reducible (refine fao_e ?_)))
          refine stf_d { gt (muts x l k).steps (gt l k).step.toNat with to := (gt x.steps (gt l k).to.toNat).to } m (by infer_instance) rfl (by omega) (by decide) rfl rfl rfl (by infer_instance) fun h p m => ?_
          ((refine pd_c (by assumption) (by infer_instance) (by with_unfolding_all rfl) ?_);
              (refine pd_c (by assumption) (by infer_instance) (by with_unfolding_all rfl) ?_);
              (with_reducible (refine ⟨trivial, ?_⟩));
              (refine idx_oz (by assumption) (by omega) (by omega) ?_);
              (with_reducible (refine fao_e ?_)))
          have hl2 : (setTo (muts x l k).steps (gt l k).step.toNat (gt x.steps (gt l k).to.toNat).to).length = x.steps.length := by unfold setTo; rw [List.length_set, u4]
          change Mem g h (_ :: ⟨o, flat (setTo (muts x l k).steps (gt l k).step.toNat (gt x.steps (gt l k).to.toNat).to), 4⟩ :: _) at m
          refine stf_d { gt (setTo (muts x l k).steps (gt l k).step.toNat (gt x.steps (gt l k).to.toNat).to) (gt l k).to.toNat with to := (gt x.steps (gt l k).step.toNat).to } m (by infer_instance) rfl (by omega) (by decide) rfl rfl rfl (by infer_instance) fun h p m => ?_
          refine ⟨trivial, ?_⟩
          exact hk' _ _ ⟨rfl, ⟨Stb.st⟩, by rw [hnx]; exact m.tail⟩
    · exfalso; omega
  · ((with_reducible (refine lss_i (fun hc => ?_) (fun hc => ?_); refine cnd_t ?_; refine seq_i ?_));
      (refine idx_d (by assumption) (by with_unfolding_all rfl) (by omega) fun p hp => ?_);
      (refine ldr_w (by assumption) (by with_unfolding_all rfl) ?_);
      (with_reducible (refine alloc_z (by assumption) fun i h z p m => ?_));
      (refine st_w (by assumption) (by infer_instance) (by with_unfolding_all rfl) (by with_unfolding_all rfl) (by first | rfl | exact flat_ones (Flat.flat _)) (by infer_instance) fun h p m => ?_);
      (with_reducible (refine fao ?_));
      (refine ldo (by assumption) (q := by infer_instance) (by with_unfolding_all rfl) ?_);
      (with_reducible (refine eql_i (fun hc => ?_) (fun hc => ?_); refine mv_i ?_; refine cnd_t ?_; refine fao ?_));
      (refine ldo (by assumption) (q := by infer_instance) (by with_unfolding_all rfl) ?_);
      (with_reducible (refine fao ?_));
      (refine ldo (by assumption) (q := by infer_instance) (by with_unfolding_all rfl) ?_);
      (with_reducible (refine fao ?_));
      (refine ldo (by assumption) (q := by infer_instance) (by with_unfolding_all rfl) ?_);
      (refine idx_oz (by assumption) (by omega) (by omega) ?_);
      (with_reducible (refine fao_e ?_));
      (rotate_left);
      (with_reducible (refine mv_i ?_; refine cnd_f ?_; refine eql_i (fun hc => ?_) (fun hc => ?_); refine mv_i ?_; refine cnd_t ?_; refine fao ?_));
      (refine ldo (by assumption) (q := by infer_instance) (by with_unfolding_all rfl) ?_);
      (with_reducible (refine fao ?_));
      (refine ldo (by assumption) (q := by infer_instance) (by with_unfolding_all rfl) ?_);
      (with_reducible (refine fao ?_));
      (refine ldo (by assumption) (q := by infer_instance) (by with_unfolding_all rfl) ?_);
      (refine idx_oz (by assumption) (by omega) (by omega) ?_);
      (with_reducible (refine fao_e ?_));
      (rotate_left);
      (with_reducible (refine mv_i ?_; refine cnd_f ?_; refine eql_i (fun hc => ?_) (fun hc => ?_); refine mv_i ?_; refine cnd_t ?_; refine fao ?_));
      (refine ldo (by assumption) (q := by infer_instance) (by with_unfolding_all rfl) ?_);
      (with_reducible (refine fao ?_));
      (refine sto (by assumption) (q := by infer_instance) (by with_unfolding_all exact Nat.le_of_ble_eq_true rfl) rfl rfl (u := by infer_instance) fun h p m => ?_);
      ((with_reducible refine fun (_ : Tmps) => ?_); (try dsimp only [nth]));
      (with_reducible (refine inc_i (by omega) ?_; refine mv_i ?_));
      (rotate_left);
      (with_reducible (refine mv_i ?_; refine cnd_f ?_; refine eql_i (fun hc => ?_) (fun hc => ?_); refine mv_i ?_; refine cnd_t ?_; refine fao ?_));
      (refine ldo (by assumption) (q := by infer_instance) (by with_unfolding_all rfl) ?_);
      (refine IsSl.vb (by assumption) (by assumption) (by infer_instance) ?_);
      (with_reducible (refine fao ?_));
      (refine ldo (by assumption) (q := by infer_instance) (by with_unfolding_all rfl) ?_);
      (refine vb_n (by with_unfolding_all rfl) ?_);
      (with_reducible (refine fao ?_));
      (refine ldo (by assumption) (q := by infer_instance) (by with_unfolding_all rfl) ?_);
      (refine IsSl.vb (by assumption) (by assumption) (by infer_instance) ?_);
      (with_reducible (refine fao ?_));
      (refine ldo (by assumption) (q := by infer_instance) (by with_unfolding_all rfl) ?_);
      (refine vb_n (by with_unfolding_all rfl) ?_);
      (with_reducible (refine fao ?_));
      (refine ldo (by assumption) (q := by infer_instance) (by with_unfolding_all rfl) ?_);
      (with_reducible (refine vb_l (by assumption) ?_; refine fao ?_));
      (refine ldo (by assumption) (q := by infer_instance) (by with_unfolding_all rfl) ?_);
      (refine vb_n (by with_unfolding_all rfl) ?_);
      (refine idx_dz (by assumption) (by with_unfolding_all rfl) (by omega) (by omega) fun p hp => ?_);
      (with_reducible (refine fa_g (by assumption) fun p hp => ?_));
      (refine ld_g (by assumption) (by with_unfolding_all rfl) ?_);
      (refine vb_n (by with_unfolding_all rfl) ?_);
      (with_reducible (refine fao ?_));
      (refine ldo (by assumption) (q := by infer_instance) (by with_unfolding_all rfl) ?_);
      (with_reducible (refine vb_l (by assumption) ?_; refine fao ?_));
      (refine ldo (by assumption) (q := by infer_instance) (by with_unfolding_all rfl) ?_);
      (refine vb_n (by with_unfolding_all rfl) ?_);
      (refine idx_dz (by assumption) (by with_unfolding_all rfl) (by omega) (by omega) fun p hp => ?_);
      (with_reducible (refine fa_g (by assumption) fun p hp => ?_));
      (refine ld_g (by assumption) (by with_unfolding_all rfl) ?_);
      (refine vb_n (by with_unfolding_all rfl) ?_);
      (refine idx_oz (by assumption) (by omega) (by omega) ?_);
      (with_reducible (refine fao_e ?_));
      (rotate_left);
      (with_reducible (refine mv_i ?_; refine cnd_f ?_));
      ((with_reducible refine fun (_ : Tmps) => ?_); (try dsimp only [nth]));
      (with_reducible (refine inc_i (by omega) ?_; refine mv_i ?_));
      (rotate_left);
      (with_reducible (refine cnd_f ?_));
      (refine ldo_w (by assumption) (by infer_instance) (by with_unfolding_all rfl) ?_);
      (refine st_w (by assumption) (by infer_instance) (by with_unfolding_all rfl) (by with_unfolding_all rfl) (by first | rfl | exact flat_ones (Flat.flat _)) (by infer_instance) fun h p m => ?_);
      (refine rt_w1 (by assumption) (by infer_instance) (by with_unfolding_all rfl) ?_);
      (with_reducible (refine ret1 ?_));
      (rotate_left))
    all_goals (try (exfalso; omega))
    have hkk : k = l.length := by omega
    have e1 : muts x l k = mutd x l := by rw [hkk]; simp [muts, mutd]
    refine ⟨m.pre, a, d, x.steps.length, by rw [← e1, u1, u2, u3], by rw [← e1, u4], ?_⟩
    rw [← e1]
    exact IsSl.ro hs m (k := 0) rfl (by omega)
end Go.Proofs.Ytomiejfeclefaaa

set_option linter.unusedSimpArgs false
set_option linter.unusedVariables false
set_option linter.unnecessarySimpa false
set_option maxRecDepth 100000
set_option maxHeartbeats 4000000
namespace Go.Proofs.Ytomiejfeclefaaa
open Go.AM
variable {h g : Heap}
theorem mutE_ok {x : Mach} {l : List Mut} (h0 : (mutE x l).2 = 0) : l.length ≤ 4 ∧ ∀ k, k < l.length → (0 ≤ (gt l k).kind ∧ (gt l k).kind ≤ 3) ∧ rightS x (gt l k) := by
  unfold mutE at h0
  split at h0
  · cases h0
  · exact ⟨by omega, fun k hk => ⟨(muE_ok (firstErr_zero h0 k hk)).1, (muE_ok (firstErr_zero h0 k hk)).2.1⟩⟩
theorem bothE_ok {x : Mach} {l : List Mut} (h0 : bothE x l = 0) : errM x = 0 ∧ (mutE x l).2 = 0 := by
  unfold bothE at h0
  split at h0
  · contradiction
  · rename_i h1; exact ⟨by simpa using h1, h0⟩
theorem small {x : Mach} (h0 : errM x = 0) : x.steps.length ≤ 320 := by
  obtain ⟨h1, h2, h3, _⟩ := errM_ok h0
  have := prod_bd h2
  omega
/-- A machine and an error. -/
def MeV (h : Heap) (v : Value) (x : Mach) (e : Int) : Prop := ∃ b q n, v = .tuple #[.agg #[.int .i64 x.states, .int .i64 x.inputs, .int .i64 x.outputs, .int .i64 x.start, .slice b n q], .int .i64 e] ∧ n = x.steps.length ∧ L h (.slice b n q) x.steps
noncomputable def mutC (x : Mach) (l : List Mut) : Mach := if bothE x l ≠ 0 then ⟨0, 0, 0, 0, []⟩ else mutd x l
theorem c22 {v y : Value} {x : Mach} {l : List Mut} (s : MacV g v x) (t : L g y l) : DetP Try.prog 22 [v, y] g fun v' h' => g <+: h' ∧ MeV h' v' (mutC x l) (bothE x l) := by
  refine DetP.freeze ?_
  obtain ⟨tv, rfl, s⟩ := s
  obtain ⟨b0, q0, rfl, _⟩ := s.shape
  obtain ⟨b1, q1, rfl, _⟩ := t.shape
  have m := Mem.start g
  refine w22 ?_
  unfold n22
  ((with_reducible (refine box_a (by assumption) fun i h z p m => ?_; refine alloc_z (by assumption) fun i h z p m => ?_; refine mv_i ?_));
      (refine ldo_w (by assumption) (by infer_instance) (by with_unfolding_all rfl) ?_);
      (with_reducible (refine mv_i ?_));
      (refine bs_g (bs51_1 _ _ _ _) (by assumption) fun i h p m => ?_))
  refine call_r (Runs.lent (c47 (ls := [l]) ⟨_, rfl, s.lent⟩ (lent1 m (by infer_instance) t rfl))) ?_
  rw [all1]
  by_cases h0 : bothE x l = 0
  · obtain ⟨h1, h2⟩ := bothE_ok h0
    obtain ⟨h3, h4⟩ := mutE_ok h2
    have h5 := small h1
    have e : mutC x l = mutd x l := by rw [mutC, if_neg (by simpa using h0)]
    rw [e, h0]
    ((with_reducible (refine mv_i ?_; refine mv_i ?_; refine neq_h (by first | assumption | decide) ?_; refine cnd_f ?_));
        (refine ldo_w (by assumption) (by infer_instance) (by with_unfolding_all rfl) ?_);
        (with_reducible (refine mv_i ?_)))
    refine call_d (c50 ⟨_, rfl, s.up⟩ t.up (by omega) h4) m fun v2 h2 p1 p2 m ⟨b2, q2, n2, e2, hn2, s2⟩ => ?_
    subst e2
    ((refine st_w (by assumption) (by infer_instance) (by with_unfolding_all rfl) (by with_unfolding_all rfl) (by first | rfl | exact flat_ones (Flat.flat _)) (by infer_instance) fun h p m => ?_);
        (with_reducible (refine mv_i ?_));
        (refine rt_w1 (by assumption) (by infer_instance) (by with_unfolding_all rfl) ?_);
        (with_reducible (refine ret2 ?_)))
    exact ⟨m.pre, b2, q2, n2, rfl, hn2, s2.up.frz⟩
  · have e : mutC x l = ⟨0, 0, 0, 0, []⟩ := by rw [mutC, if_pos h0]
    rw [e]
    ((with_reducible (refine mv_i ?_; refine mv_i ?_; refine neq_n (by first | assumption | decide) ?_; refine cnd_t ?_));
        (refine vk_i (bd24_z) ?_);
        (with_reducible (refine mv_i ?_));
        (refine st_w (by assumption) (by infer_instance) (by with_unfolding_all rfl) (by with_unfolding_all rfl) (by first | rfl | exact flat_ones (Flat.flat _)) (by infer_instance) fun h p m => ?_);
        (with_reducible (refine mv_i ?_));
        (refine rt_w1 (by assumption) (by infer_instance) (by with_unfolding_all rfl) ?_);
        (with_reducible (refine ret2 ?_)))
    exact ⟨m.pre, _, _, _, rfl, rfl, L.nil _⟩
/-- The reference's mutant. -/
theorem c24 {v y : Value} {x : Mach} {l : List Mut} (s : MacV g v x) (t : L g y l) (hb : x.steps.length ≤ 1048576) (hv : ∀ k, k < l.length → (0 ≤ (gt l k).kind ∧ (gt l k).kind ≤ 3) ∧ rightS x (gt l k)) :
    DetP Try.prog 24 [v, y] g fun v' h' => g <+: h' ∧ ∃ b q n, v' = .agg #[.int .i64 (mutd x l).states, .int .i64 (mutd x l).inputs, .int .i64 (mutd x l).outputs, .int .i64 (mutd x l).start, .slice b n q] ∧ n = (mutd x l).steps.length ∧ L h' (.slice b n q) (mutd x l).steps := by
  refine DetP.freeze ?_
  obtain ⟨tv, rfl, s⟩ := s
  have lt := t.lt
  obtain ⟨b0, q0, rfl, _⟩ := s.shape
  have m := Mem.start g
  refine w24 ?_
  unfold n24
  refine box_a m fun i0 h0 z0 p0 m => ?_
  refine alloc_z m fun i1 h1 z1 p1 m => ?_
  ((refine ldo_w (by assumption) (by infer_instance) (by with_unfolding_all rfl) ?_))
  refine call_d (c14o ⟨_, rfl, s.up⟩ hb) m fun y1 h3 p3 p4 _ ⟨y1, o, ev, hs, hn⟩ => ?_
  subst ev
  have m := hn _ _ m
  obtain ⟨a, d, rfl⟩ := hs.isS
  ((with_reducible (refine alloc_z (by assumption) fun i h z p m => ?_));
      (refine st_w (by assumption) (by infer_instance) (by with_unfolding_all rfl) (by with_unfolding_all rfl) (by first | rfl | exact flat_ones (Flat.flat _)) (by infer_instance) fun h p m => ?_);
      (with_reducible (refine mv_i ?_)))
  refine loop1 l.length (fun k h5 => Prec h h5 ∧ Mem g h5 [⟨some i, [.int .i64 x.states, .int .i64 x.inputs, .int .i64 x.outputs, .int .i64 (muts x l k).start, .slice a x.steps.length d], z⟩, ⟨o, flat (muts x l k).steps, 4⟩, ⟨some i1, [.int .i64 0, .int .i64 0, .int .i64 0, .int .i64 0, .slice none 0 0], z1⟩, ⟨some i0, [.int .i64 x.states, .int .i64 x.inputs, .int .i64 x.outputs, .int .i64 x.start, .slice b0 x.steps.length q0], z0⟩]) ⟨⟨Stab.refl _⟩, m⟩ ?_
  rintro k h5 _ hk ⟨p5, m⟩
  obtain ⟨u1, u2, u3, u4⟩ := muts_same x l k
  have hs0 := hs
  have hs : IsSl (.slice a x.steps.length d) o (muts x l k).steps.length := by rw [u4]; exact hs
  by_cases hkl : k < l.length
  · have hnx := muts_next (x := x) hkl
    obtain ⟨r1, r2⟩ := hv k hkl
    have hk2 : (gt l k).kind = 0 ∨ (gt l k).kind = 1 ∨ (gt l k).kind = 2 ∨ (gt l k).kind = 3 := by omega
    rcases hk2 with e | e | e | e
    · rw [rightS, if_pos e] at r2
      obtain ⟨r2, r3⟩ := r2
      have n1 : ¬ (gt l k).kind = 1 := by omega
      have n2 : ¬ (gt l k).kind = 2 := by omega
      have n3 : ¬ (gt l k).kind = 3 := by omega
      have hap : ap1 x (muts x l k) (gt l k) = { muts x l k with steps := setOut (muts x l k).steps (gt l k).step.toNat (gt l k).to } := by rw [ap1, if_pos e]
      rw [hap] at hnx
      ((with_reducible (refine mv_i ?_; refine mv_i ?_; refine len_g (by assumption) ?_; refine lss_i (fun hc => ?_) (fun hc => ?_); refine cnd_t ?_; refine seq_i ?_; refine seq_i ?_; refine mv_i ?_; refine mv_i ?_));
          (refine idx_d (by assumption) (by with_unfolding_all rfl) (by omega) fun p hp => ?_);
          (with_reducible (refine fa_g (by assumption) fun p hp => ?_));
          (refine ld_g (by assumption) (by with_unfolding_all rfl) ?_);
          (with_reducible (refine eql_h (by first | assumption | decide) ?_; refine cnd_t ?_; refine fao ?_));
          (refine ldo (by assumption) (q := by infer_instance) (by with_unfolding_all rfl) ?_);
          (refine IsSl.vb (by assumption) (by assumption) (by infer_instance) ?_);
          (with_reducible (refine mv_i ?_; refine mv_i ?_));
          (refine idx_d (by assumption) (by with_unfolding_all rfl) (by omega) fun p hp => ?_);
          (with_reducible (refine fa_g (by assumption) fun p hp => ?_));
          (refine ld_g (by assumption) (by with_unfolding_all rfl) ?_);
          (refine vb_n (by with_unfolding_all rfl) ?_);
          (with_reducible (refine mv_i ?_; refine mv_i ?_));
          (refine idx_d (by assumption) (by with_unfolding_all rfl) (by omega) fun p hp => ?_);
          (with_reducible (refine fa_g (by assumption) fun p hp => ?_));
          (refine ld_g (by assumption) (by with_unfolding_all rfl) ?_);
          (refine vb_n (by with_unfolding_all rfl) ?_);
          (refine idx_oz (by assumption) (by omega) (by omega) ?_);
          (with_reducible (refine fao_e ?_));
          (rotate_left);
          (with_reducible (refine cnd_f ?_));
          (refine ldo_w (by assumption) (by infer_instance) (by with_unfolding_all rfl) ?_);
          (refine st_w (by assumption) (by infer_instance) (by with_unfolding_all rfl) (by with_unfolding_all rfl) (by first | rfl | exact flat_ones (Flat.flat _)) (by infer_instance) fun h p m => ?_);
          (refine rt_w1 (by assumption) (by infer_instance) (by with_unfolding_all rfl) ?_);
          (with_reducible (refine ret1 ?_));
          (rotate_left))
      rotate_left
      · exfalso; omega
      refine stf_d { gt (muts x l k).steps (gt l k).step.toNat with out := (gt l k).to } m (by infer_instance) rfl (by omega) (by decide) rfl rfl rfl (by infer_instance) fun h p m => ?_
      ((with_reducible (refine ⟨trivial, ?_⟩));
          ((with_reducible refine fun (_ : Tmps) => ?_); (try dsimp only [nth]));
          (with_reducible (refine seq_i ?_; refine mv_i ?_; refine mv_i ?_));
          (refine idx_d (by assumption) (by with_unfolding_all rfl) (by omega) fun p hp => ?_);
          (with_reducible (refine fa_g (by assumption) fun p hp => ?_));
          (refine ld_g (by assumption) (by with_unfolding_all rfl) ?_);
          (with_reducible (refine eql_n (by first | assumption | decide) ?_; refine cnd_f ?_));
          ((with_reducible refine fun (_ : Tmps) => ?_); (try dsimp only [nth]));
          (with_reducible (refine seq_i ?_; refine mv_i ?_; refine mv_i ?_));
          (refine idx_d (by assumption) (by with_unfolding_all rfl) (by omega) fun p hp => ?_);
          (with_reducible (refine fa_g (by assumption) fun p hp => ?_));
          (refine ld_g (by assumption) (by with_unfolding_all rfl) ?_);
          (with_reducible (refine eql_n (by first | assumption | decide) ?_; refine cnd_f ?_));
          ((with_reducible refine fun (_ : Tmps) => ?_); (try dsimp only [nth]));
          (with_reducible (refine mv_i ?_; refine mv_i ?_));
          (refine idx_d (by assumption) (by with_unfolding_all rfl) (by omega) fun p hp => ?_);
          (with_reducible (refine fa_g (by assumption) fun p hp => ?_));
          (refine ld_g (by assumption) (by with_unfolding_all rfl) ?_);
          (with_reducible (refine eql_n (by first | assumption | decide) ?_; refine cnd_f ?_));
          ((with_reducible refine fun (_ : Tmps) => ?_); (try dsimp only [nth]));
          (with_reducible (refine mv_i ?_; refine inc_i (by omega) ?_; refine mv_i ?_)))
      exact next1 hkl ⟨⟨Stb.st⟩, by rw [hnx]; exact m⟩
    · have n0 : ¬ (gt l k).kind = 0 := by omega
      have n2 : ¬ (gt l k).kind = 2 := by omega
      have n3 : ¬ (gt l k).kind = 3 := by omega
      rw [rightS, if_neg n0, if_pos e] at r2
      obtain ⟨r2, r3⟩ := r2
      have hap : ap1 x (muts x l k) (gt l k) = { muts x l k with steps := setTo (muts x l k).steps (gt l k).step.toNat (gt l k).to } := by rw [ap1, if_neg n0, if_pos e]
      rw [hap] at hnx
      ((with_reducible (refine mv_i ?_; refine mv_i ?_; refine len_g (by assumption) ?_; refine lss_i (fun hc => ?_) (fun hc => ?_); refine cnd_t ?_; refine seq_i ?_; refine seq_i ?_; refine mv_i ?_; refine mv_i ?_));
          (refine idx_d (by assumption) (by with_unfolding_all rfl) (by omega) fun p hp => ?_);
          (with_reducible (refine fa_g (by assumption) fun p hp => ?_));
          (refine ld_g (by assumption) (by with_unfolding_all rfl) ?_);
          (with_reducible (refine eql_n (by first | assumption | decide) ?_; refine cnd_f ?_));
          ((with_reducible refine fun (_ : Tmps) => ?_); (try dsimp only [nth]));
          (with_reducible (refine seq_i ?_; refine mv_i ?_; refine mv_i ?_));
          (refine idx_d (by assumption) (by with_unfolding_all rfl) (by omega) fun p hp => ?_);
          (with_reducible (refine fa_g (by assumption) fun p hp => ?_));
          (refine ld_g (by assumption) (by with_unfolding_all rfl) ?_);
          (with_reducible (refine eql_h (by first | assumption | decide) ?_; refine cnd_t ?_; refine fao ?_));
          (refine ldo (by assumption) (q := by infer_instance) (by with_unfolding_all rfl) ?_);
          (refine IsSl.vb (by assumption) (by assumption) (by infer_instance) ?_);
          (with_reducible (refine mv_i ?_; refine mv_i ?_));
          (refine idx_d (by assumption) (by with_unfolding_all rfl) (by omega) fun p hp => ?_);
          (with_reducible (refine fa_g (by assumption) fun p hp => ?_));
          (refine ld_g (by assumption) (by with_unfolding_all rfl) ?_);
          (refine vb_n (by with_unfolding_all rfl) ?_);
          (with_reducible (refine mv_i ?_; refine mv_i ?_));
          (refine idx_d (by assumption) (by with_unfolding_all rfl) (by omega) fun p hp => ?_);
          (with_reducible (refine fa_g (by assumption) fun p hp => ?_));
          (refine ld_g (by assumption) (by with_unfolding_all rfl) ?_);
          (refine vb_n (by with_unfolding_all rfl) ?_);
          (refine idx_oz (by assumption) (by omega) (by omega) ?_);
          (with_reducible (refine fao_e ?_));
          (rotate_left);
          (with_reducible (refine cnd_f ?_));
          (refine ldo_w (by assumption) (by infer_instance) (by with_unfolding_all rfl) ?_);
          (refine st_w (by assumption) (by infer_instance) (by with_unfolding_all rfl) (by with_unfolding_all rfl) (by first | rfl | exact flat_ones (Flat.flat _)) (by infer_instance) fun h p m => ?_);
          (refine rt_w1 (by assumption) (by infer_instance) (by with_unfolding_all rfl) ?_);
          (with_reducible (refine ret1 ?_));
          (rotate_left))
      rotate_left
      · exfalso; omega
      refine stf_d { gt (muts x l k).steps (gt l k).step.toNat with to := (gt l k).to } m (by infer_instance) rfl (by omega) (by decide) rfl rfl rfl (by infer_instance) fun h p m => ?_
      ((with_reducible (refine ⟨trivial, ?_⟩));
          ((with_reducible refine fun (_ : Tmps) => ?_); (try dsimp only [nth]));
          (with_reducible (refine seq_i ?_; refine mv_i ?_; refine mv_i ?_));
          (refine idx_d (by assumption) (by with_unfolding_all rfl) (by omega) fun p hp => ?_);
          (with_reducible (refine fa_g (by assumption) fun p hp => ?_));
          (refine ld_g (by assumption) (by with_unfolding_all rfl) ?_);
          (with_reducible (refine eql_n (by first | assumption | decide) ?_; refine cnd_f ?_));
          ((with_reducible refine fun (_ : Tmps) => ?_); (try dsimp only [nth]));
          (with_reducible (refine mv_i ?_; refine mv_i ?_));
          (refine idx_d (by assumption) (by with_unfolding_all rfl) (by omega) fun p hp => ?_);
          (with_reducible (refine fa_g (by assumption) fun p hp => ?_));
          (refine ld_g (by assumption) (by with_unfolding_all rfl) ?_);
          (with_reducible (refine eql_n (by first | assumption | decide) ?_; refine cnd_f ?_));
          ((with_reducible refine fun (_ : Tmps) => ?_); (try dsimp only [nth]));
          (with_reducible (refine mv_i ?_; refine inc_i (by omega) ?_; refine mv_i ?_)))
      exact next1 hkl ⟨⟨Stb.st⟩, by rw [hnx]; exact m⟩
    · have n0 : ¬ (gt l k).kind = 0 := by omega
      have n1 : ¬ (gt l k).kind = 1 := by omega
      have n3 : ¬ (gt l k).kind = 3 := by omega
      have hap : ap1 x (muts x l k) (gt l k) = { muts x l k with start := (gt l k).to } := by rw [ap1, if_neg n0, if_neg n1, if_pos e]
      rw [hap] at hnx
      ((with_reducible (refine mv_i ?_; refine mv_i ?_; refine len_g (by assumption) ?_; refine lss_i (fun hc => ?_) (fun hc => ?_); refine cnd_t ?_; refine seq_i ?_; refine seq_i ?_; refine mv_i ?_; refine mv_i ?_));
          (refine idx_d (by assumption) (by with_unfolding_all rfl) (by omega) fun p hp => ?_);
          (with_reducible (refine fa_g (by assumption) fun p hp => ?_));
          (refine ld_g (by assumption) (by with_unfolding_all rfl) ?_);
          (with_reducible (refine eql_n (by first | assumption | decide) ?_; refine cnd_f ?_));
          ((with_reducible refine fun (_ : Tmps) => ?_); (try dsimp only [nth]));
          (with_reducible (refine seq_i ?_; refine mv_i ?_; refine mv_i ?_));
          (refine idx_d (by assumption) (by with_unfolding_all rfl) (by omega) fun p hp => ?_);
          (with_reducible (refine fa_g (by assumption) fun p hp => ?_));
          (refine ld_g (by assumption) (by with_unfolding_all rfl) ?_);
          (with_reducible (refine eql_n (by first | assumption | decide) ?_; refine cnd_f ?_));
          ((with_reducible refine fun (_ : Tmps) => ?_); (try dsimp only [nth]));
          (with_reducible (refine seq_i ?_; refine mv_i ?_; refine mv_i ?_));
          (refine idx_d (by assumption) (by with_unfolding_all rfl) (by omega) fun p hp => ?_);
          (with_reducible (refine fa_g (by assumption) fun p hp => ?_));
          (refine ld_g (by assumption) (by with_unfolding_all rfl) ?_);
          (with_reducible (refine eql_h (by first | assumption | decide) ?_; refine cnd_t ?_; refine mv_i ?_; refine mv_i ?_));
          (refine idx_d (by assumption) (by with_unfolding_all rfl) (by omega) fun p hp => ?_);
          (with_reducible (refine fa_g (by assumption) fun p hp => ?_));
          (refine ld_g (by assumption) (by with_unfolding_all rfl) ?_);
          (with_reducible (refine fao ?_));
          (refine sto (by assumption) (q := by infer_instance) (by with_unfolding_all exact Nat.le_of_ble_eq_true rfl) rfl rfl (u := by infer_instance) fun h p m => ?_);
          ((with_reducible refine fun (_ : Tmps) => ?_); (try dsimp only [nth]));
          (with_reducible (refine mv_i ?_; refine mv_i ?_));
          (refine idx_d (by assumption) (by with_unfolding_all rfl) (by omega) fun p hp => ?_);
          (with_reducible (refine fa_g (by assumption) fun p hp => ?_));
          (refine ld_g (by assumption) (by with_unfolding_all rfl) ?_);
          (with_reducible (refine eql_n (by first | assumption | decide) ?_; refine cnd_f ?_));
          ((with_reducible refine fun (_ : Tmps) => ?_); (try dsimp only [nth]));
          (with_reducible (refine mv_i ?_; refine inc_i (by omega) ?_; refine mv_i ?_));
          (rotate_left);
          (with_reducible (refine cnd_f ?_));
          (refine ldo_w (by assumption) (by infer_instance) (by with_unfolding_all rfl) ?_);
          (refine st_w (by assumption) (by infer_instance) (by with_unfolding_all rfl) (by with_unfolding_all rfl) (by first | rfl | exact flat_ones (Flat.flat _)) (by infer_instance) fun h p m => ?_);
          (refine rt_w1 (by assumption) (by infer_instance) (by with_unfolding_all rfl) ?_);
          (with_reducible (refine ret1 ?_));
          (rotate_left))
      · exact next1 hkl ⟨⟨Stb.st⟩, by rw [hnx]; exact m⟩
      · exfalso; omega
    · have n0 : ¬ (gt l k).kind = 0 := by omega
      have n1 : ¬ (gt l k).kind = 1 := by omega
      have n2 : ¬ (gt l k).kind = 2 := by omega
      rw [rightS, if_neg n0, if_neg n1, if_neg n2] at r2
      obtain ⟨r2, r3⟩ := r2
      have hap : ap1 x (muts x l k) (gt l k) = { muts x l k with steps := setTo (setTo (muts x l k).steps (gt l k).step.toNat (gt x.steps (gt l k).to.toNat).to) (gt l k).to.toNat (gt x.steps (gt l k).step.toNat).to } := by rw [ap1, if_neg n0, if_neg n1, if_neg n2]
      rw [hap] at hnx
      ((with_reducible (refine mv_i ?_; refine mv_i ?_; refine len_g (by assumption) ?_; refine lss_i (fun hc => ?_) (fun hc => ?_); refine cnd_t ?_; refine seq_i ?_; refine seq_i ?_; refine mv_i ?_; refine mv_i ?_));
          (refine idx_d (by assumption) (by with_unfolding_all rfl) (by omega) fun p hp => ?_);
          (with_reducible (refine fa_g (by assumption) fun p hp => ?_));
          (refine ld_g (by assumption) (by with_unfolding_all rfl) ?_);
          (with_reducible (refine eql_n (by first | assumption | decide) ?_; refine cnd_f ?_));
          ((with_reducible refine fun (_ : Tmps) => ?_); (try dsimp only [nth]));
          (with_reducible (refine seq_i ?_; refine mv_i ?_; refine mv_i ?_));
          (refine idx_d (by assumption) (by with_unfolding_all rfl) (by omega) fun p hp => ?_);
          (with_reducible (refine fa_g (by assumption) fun p hp => ?_));
          (refine ld_g (by assumption) (by with_unfolding_all rfl) ?_);
          (with_reducible (refine eql_n (by first | assumption | decide) ?_; refine cnd_f ?_));
          ((with_reducible refine fun (_ : Tmps) => ?_); (try dsimp only [nth]));
          (with_reducible (refine seq_i ?_; refine mv_i ?_; refine mv_i ?_));
          (refine idx_d (by assumption) (by with_unfolding_all rfl) (by omega) fun p hp => ?_);
          (with_reducible (refine fa_g (by assumption) fun p hp => ?_));
          (refine ld_g (by assumption) (by with_unfolding_all rfl) ?_);
          (with_reducible (refine eql_n (by first | assumption | decide) ?_; refine cnd_f ?_));
          ((with_reducible refine fun (_ : Tmps) => ?_); (try dsimp only [nth]));
          (with_reducible (refine mv_i ?_; refine mv_i ?_));
          (refine idx_d (by assumption) (by with_unfolding_all rfl) (by omega) fun p hp => ?_);
          (with_reducible (refine fa_g (by assumption) fun p hp => ?_));
          (refine ld_g (by assumption) (by with_unfolding_all rfl) ?_);
          (with_reducible (refine eql_h (by first | assumption | decide) ?_; refine cnd_t ?_; refine fao ?_));
          (refine ldo (by assumption) (q := by infer_instance) (by with_unfolding_all rfl) ?_);
          (refine IsSl.vb (by assumption) (by assumption) (by infer_instance) ?_);
          (with_reducible (refine mv_i ?_; refine mv_i ?_));
          (refine idx_d (by assumption) (by with_unfolding_all rfl) (by omega) fun p hp => ?_);
          (with_reducible (refine fa_g (by assumption) fun p hp => ?_));
          (refine ld_g (by assumption) (by with_unfolding_all rfl) ?_);
          (refine vb_n (by with_unfolding_all rfl) ?_);
          (with_reducible (refine fao ?_));
          (refine ldo (by assumption) (q := by infer_instance) (by with_unfolding_all rfl) ?_);
          (refine IsSl.vb (by assumption) (by assumption) (by infer_instance) ?_);
          (with_reducible (refine mv_i ?_; refine mv_i ?_));
          (refine idx_d (by assumption) (by with_unfolding_all rfl) (by omega) fun p hp => ?_);
          (with_reducible (refine fa_g (by assumption) fun p hp => ?_));
          (refine ld_g (by assumption) (by with_unfolding_all rfl) ?_);
          (refine vb_n (by with_unfolding_all rfl) ?_);
          (with_reducible (refine fao ?_));
          (refine ldo (by assumption) (q := by infer_instance) (by with_unfolding_all rfl) ?_);
          (with_reducible (refine vb_l (by assumption) ?_; refine mv_i ?_; refine mv_i ?_));
          (refine idx_d (by assumption) (by with_unfolding_all rfl) (by omega) fun p hp => ?_);
          (with_reducible (refine fa_g (by assumption) fun p hp => ?_));
          (refine ld_g (by assumption) (by with_unfolding_all rfl) ?_);
          (refine vb_n (by with_unfolding_all rfl) ?_);
          (refine idx_dz (by assumption) (by with_unfolding_all rfl) (by omega) (by omega) fun p hp => ?_);
          (with_reducible (refine fa_g (by assumption) fun p hp => ?_));
          (refine ld_g (by assumption) (by with_unfolding_all rfl) ?_);
          (refine vb_n (by with_unfolding_all rfl) ?_);
          (with_reducible (refine fao ?_));
          (refine ldo (by assumption) (q := by infer_instance) (by with_unfolding_all rfl) ?_);
          (with_reducible (refine vb_l (by assumption) ?_; refine mv_i ?_; refine mv_i ?_));
          (refine idx_d (by assumption) (by with_unfolding_all rfl) (by omega) fun p hp => ?_);
          (with_reducible (refine fa_g (by assumption) fun p hp => ?_));
          (refine ld_g (by assumption) (by with_unfolding_all rfl) ?_);
          (refine vb_n (by with_unfolding_all rfl) ?_);
          (refine idx_dz (by assumption) (by with_unfolding_all rfl) (by omega) (by omega) fun p hp => ?_);
          (with_reducible (refine fa_g (by assumption) fun p hp => ?_));
          (refine ld_g (by assumption) (by with_unfolding_all rfl) ?_);
          (refine vb_n (by with_unfolding_all rfl) ?_);
          (refine idx_oz (by assumption) (by omega) (by omega) ?_);
          (with_reducible (refine fao_e ?_));
          (rotate_left);
          (with_reducible (refine cnd_f ?_));
          (refine ldo_w (by assumption) (by infer_instance) (by with_unfolding_all rfl) ?_);
          (refine st_w (by assumption) (by infer_instance) (by with_unfolding_all rfl) (by with_unfolding_all rfl) (by first | rfl | exact flat_ones (Flat.flat _)) (by infer_instance) fun h p m => ?_);
          (refine rt_w1 (by assumption) (by infer_instance) (by with_unfolding_all rfl) ?_);
          (with_reducible (refine ret1 ?_));
          (rotate_left))
      rotate_left
      · exfalso; omega
      refine stf_d { gt (muts x l k).steps (gt l k).step.toNat with to := (gt x.steps (gt l k).to.toNat).to } m (by infer_instance) rfl (by omega) (by decide) rfl rfl rfl (by infer_instance) fun h p m => ?_
      ((refine pd_c (by assumption) (by infer_instance) (by with_unfolding_all rfl) ?_);
          (with_reducible (refine ⟨trivial, ?_⟩));
          (refine idx_oz (by assumption) (by omega) (by omega) ?_);
          (with_reducible (refine fao_e ?_)))
      have hl2 : (setTo (muts x l k).steps (gt l k).step.toNat (gt x.steps (gt l k).to.toNat).to).length = x.steps.length := by unfold setTo; rw [List.length_set, u4]
      change Mem g h (_ :: ⟨o, flat (setTo (muts x l k).steps (gt l k).step.toNat (gt x.steps (gt l k).to.toNat).to), 4⟩ :: _) at m
      refine stf_d { gt (setTo (muts x l k).steps (gt l k).step.toNat (gt x.steps (gt l k).to.toNat).to) (gt l k).to.toNat with to := (gt x.steps (gt l k).step.toNat).to } m (by infer_instance) rfl (by omega) (by decide) rfl rfl rfl (by infer_instance) fun h p m => ?_
      ((with_reducible (refine ⟨trivial, ?_⟩));
          ((with_reducible refine fun (_ : Tmps) => ?_); (try dsimp only [nth]));
          (with_reducible (refine mv_i ?_; refine inc_i (by omega) ?_; refine mv_i ?_)))
      exact next1 hkl ⟨⟨Stb.st⟩, by rw [hnx]; exact m⟩
  · ((with_reducible (refine mv_i ?_; refine mv_i ?_; refine len_g (by assumption) ?_; refine lss_i (fun hc => ?_) (fun hc => ?_); refine cnd_t ?_; refine seq_i ?_; refine seq_i ?_; refine mv_i ?_; refine mv_i ?_));
      (refine idx_d (by assumption) (by with_unfolding_all rfl) (by omega) fun p hp => ?_);
      (with_reducible (refine fa_g (by assumption) fun p hp => ?_));
      (refine ld_g (by assumption) (by with_unfolding_all rfl) ?_);
      (with_reducible (refine eql_i (fun hc => ?_) (fun hc => ?_); refine cnd_t ?_; refine fao ?_));
      (refine ldo (by assumption) (q := by infer_instance) (by with_unfolding_all rfl) ?_);
      (refine IsSl.vb (by assumption) (by assumption) (by infer_instance) ?_);
      (with_reducible (refine mv_i ?_; refine mv_i ?_));
      (refine idx_d (by assumption) (by with_unfolding_all rfl) (by omega) fun p hp => ?_);
      (with_reducible (refine fa_g (by assumption) fun p hp => ?_));
      (refine ld_g (by assumption) (by with_unfolding_all rfl) ?_);
      (refine vb_n (by with_unfolding_all rfl) ?_);
      (with_reducible (refine mv_i ?_; refine mv_i ?_));
      (refine idx_d (by assumption) (by with_unfolding_all rfl) (by omega) fun p hp => ?_);
      (with_reducible (refine fa_g (by assumption) fun p hp => ?_));
      (refine ld_g (by assumption) (by with_unfolding_all rfl) ?_);
      (refine vb_n (by with_unfolding_all rfl) ?_);
      (refine idx_oz (by assumption) (by omega) (by omega) ?_);
      (with_reducible (refine fao_e ?_));
      (rotate_left);
      (with_reducible (refine cnd_f ?_));
      ((with_reducible refine fun (_ : Tmps) => ?_); (try dsimp only [nth]));
      (with_reducible (refine seq_i ?_; refine mv_i ?_; refine mv_i ?_));
      (refine idx_d (by assumption) (by with_unfolding_all rfl) (by omega) fun p hp => ?_);
      (with_reducible (refine fa_g (by assumption) fun p hp => ?_));
      (refine ld_g (by assumption) (by with_unfolding_all rfl) ?_);
      (with_reducible (refine eql_i (fun hc => ?_) (fun hc => ?_); refine cnd_t ?_; refine fao ?_));
      (refine ldo (by assumption) (q := by infer_instance) (by with_unfolding_all rfl) ?_);
      (refine IsSl.vb (by assumption) (by assumption) (by infer_instance) ?_);
      (with_reducible (refine mv_i ?_; refine mv_i ?_));
      (refine idx_d (by assumption) (by with_unfolding_all rfl) (by omega) fun p hp => ?_);
      (with_reducible (refine fa_g (by assumption) fun p hp => ?_));
      (refine ld_g (by assumption) (by with_unfolding_all rfl) ?_);
      (refine vb_n (by with_unfolding_all rfl) ?_);
      (with_reducible (refine mv_i ?_; refine mv_i ?_));
      (refine idx_d (by assumption) (by with_unfolding_all rfl) (by omega) fun p hp => ?_);
      (with_reducible (refine fa_g (by assumption) fun p hp => ?_));
      (refine ld_g (by assumption) (by with_unfolding_all rfl) ?_);
      (refine vb_n (by with_unfolding_all rfl) ?_);
      (refine idx_oz (by assumption) (by omega) (by omega) ?_);
      (with_reducible (refine fao_e ?_));
      (rotate_left);
      (with_reducible (refine cnd_f ?_));
      ((with_reducible refine fun (_ : Tmps) => ?_); (try dsimp only [nth]));
      (with_reducible (refine seq_i ?_; refine mv_i ?_; refine mv_i ?_));
      (refine idx_d (by assumption) (by with_unfolding_all rfl) (by omega) fun p hp => ?_);
      (with_reducible (refine fa_g (by assumption) fun p hp => ?_));
      (refine ld_g (by assumption) (by with_unfolding_all rfl) ?_);
      (with_reducible (refine eql_i (fun hc => ?_) (fun hc => ?_); refine cnd_t ?_; refine mv_i ?_; refine mv_i ?_));
      (refine idx_d (by assumption) (by with_unfolding_all rfl) (by omega) fun p hp => ?_);
      (with_reducible (refine fa_g (by assumption) fun p hp => ?_));
      (refine ld_g (by assumption) (by with_unfolding_all rfl) ?_);
      (with_reducible (refine fao ?_));
      (refine sto (by assumption) (q := by infer_instance) (by with_unfolding_all exact Nat.le_of_ble_eq_true rfl) rfl rfl (u := by infer_instance) fun h p m => ?_);
      ((with_reducible refine fun (_ : Tmps) => ?_); (try dsimp only [nth]));
      (with_reducible (refine mv_i ?_; refine mv_i ?_));
      (refine idx_d (by assumption) (by with_unfolding_all rfl) (by omega) fun p hp => ?_);
      (with_reducible (refine fa_g (by assumption) fun p hp => ?_));
      (refine ld_g (by assumption) (by with_unfolding_all rfl) ?_);
      (with_reducible (refine eql_i (fun hc => ?_) (fun hc => ?_); refine cnd_t ?_; refine fao ?_));
      (refine ldo (by assumption) (q := by infer_instance) (by with_unfolding_all rfl) ?_);
      (refine IsSl.vb (by assumption) (by assumption) (by infer_instance) ?_);
      (with_reducible (refine mv_i ?_; refine mv_i ?_));
      (refine idx_d (by assumption) (by with_unfolding_all rfl) (by omega) fun p hp => ?_);
      (with_reducible (refine fa_g (by assumption) fun p hp => ?_));
      (refine ld_g (by assumption) (by with_unfolding_all rfl) ?_);
      (refine vb_n (by with_unfolding_all rfl) ?_);
      (with_reducible (refine fao ?_));
      (refine ldo (by assumption) (q := by infer_instance) (by with_unfolding_all rfl) ?_);
      (refine IsSl.vb (by assumption) (by assumption) (by infer_instance) ?_);
      (with_reducible (refine mv_i ?_; refine mv_i ?_));
      (refine idx_d (by assumption) (by with_unfolding_all rfl) (by omega) fun p hp => ?_);
      (with_reducible (refine fa_g (by assumption) fun p hp => ?_));
      (refine ld_g (by assumption) (by with_unfolding_all rfl) ?_);
      (refine vb_n (by with_unfolding_all rfl) ?_);
      (with_reducible (refine fao ?_));
      (refine ldo (by assumption) (q := by infer_instance) (by with_unfolding_all rfl) ?_);
      (with_reducible (refine vb_l (by assumption) ?_; refine mv_i ?_; refine mv_i ?_));
      (refine idx_d (by assumption) (by with_unfolding_all rfl) (by omega) fun p hp => ?_);
      (with_reducible (refine fa_g (by assumption) fun p hp => ?_));
      (refine ld_g (by assumption) (by with_unfolding_all rfl) ?_);
      (refine vb_n (by with_unfolding_all rfl) ?_);
      (refine idx_dz (by assumption) (by with_unfolding_all rfl) (by omega) (by omega) fun p hp => ?_);
      (with_reducible (refine fa_g (by assumption) fun p hp => ?_));
      (refine ld_g (by assumption) (by with_unfolding_all rfl) ?_);
      (refine vb_n (by with_unfolding_all rfl) ?_);
      (with_reducible (refine fao ?_));
      (refine ldo (by assumption) (q := by infer_instance) (by with_unfolding_all rfl) ?_);
      (with_reducible (refine vb_l (by assumption) ?_; refine mv_i ?_; refine mv_i ?_));
      (refine idx_d (by assumption) (by with_unfolding_all rfl) (by omega) fun p hp => ?_);
      (with_reducible (refine fa_g (by assumption) fun p hp => ?_));
      (refine ld_g (by assumption) (by with_unfolding_all rfl) ?_);
      (refine vb_n (by with_unfolding_all rfl) ?_);
      (refine idx_dz (by assumption) (by with_unfolding_all rfl) (by omega) (by omega) fun p hp => ?_);
      (with_reducible (refine fa_g (by assumption) fun p hp => ?_));
      (refine ld_g (by assumption) (by with_unfolding_all rfl) ?_);
      (refine vb_n (by with_unfolding_all rfl) ?_);
      (refine idx_oz (by assumption) (by omega) (by omega) ?_);
      (with_reducible (refine fao_e ?_));
      (rotate_left);
      (with_reducible (refine cnd_f ?_));
      ((with_reducible refine fun (_ : Tmps) => ?_); (try dsimp only [nth]));
      (with_reducible (refine mv_i ?_; refine inc_i (by omega) ?_; refine mv_i ?_));
      (rotate_left);
      (with_reducible (refine cnd_f ?_));
      ((with_reducible refine fun (_ : Tmps) => ?_); (try dsimp only [nth]));
      (with_reducible (refine mv_i ?_; refine mv_i ?_));
      (refine idx_d (by assumption) (by with_unfolding_all rfl) (by omega) fun p hp => ?_);
      (with_reducible (refine fa_g (by assumption) fun p hp => ?_));
      (refine ld_g (by assumption) (by with_unfolding_all rfl) ?_);
      (with_reducible (refine eql_i (fun hc => ?_) (fun hc => ?_); refine cnd_t ?_; refine fao ?_));
      (refine ldo (by assumption) (q := by infer_instance) (by with_unfolding_all rfl) ?_);
      (refine IsSl.vb (by assumption) (by assumption) (by infer_instance) ?_);
      (with_reducible (refine mv_i ?_; refine mv_i ?_));
      (refine idx_d (by assumption) (by with_unfolding_all rfl) (by omega) fun p hp => ?_);
      (with_reducible (refine fa_g (by assumption) fun p hp => ?_));
      (refine ld_g (by assumption) (by with_unfolding_all rfl) ?_);
      (refine vb_n (by with_unfolding_all rfl) ?_);
      (with_reducible (refine fao ?_));
      (refine ldo (by assumption) (q := by infer_instance) (by with_unfolding_all rfl) ?_);
      (refine IsSl.vb (by assumption) (by assumption) (by infer_instance) ?_);
      (with_reducible (refine mv_i ?_; refine mv_i ?_));
      (refine idx_d (by assumption) (by with_unfolding_all rfl) (by omega) fun p hp => ?_);
      (with_reducible (refine fa_g (by assumption) fun p hp => ?_));
      (refine ld_g (by assumption) (by with_unfolding_all rfl) ?_);
      (refine vb_n (by with_unfolding_all rfl) ?_);
      (with_reducible (refine fao ?_));
      (refine ldo (by assumption) (q := by infer_instance) (by with_unfolding_all rfl) ?_);
      (with_reducible (refine vb_l (by assumption) ?_; refine mv_i ?_; refine mv_i ?_));
      (refine idx_d (by assumption) (by with_unfolding_all rfl) (by omega) fun p hp => ?_);
      (with_reducible (refine fa_g (by assumption) fun p hp => ?_));
      (refine ld_g (by assumption) (by with_unfolding_all rfl) ?_);
      (refine vb_n (by with_unfolding_all rfl) ?_);
      (refine idx_dz (by assumption) (by with_unfolding_all rfl) (by omega) (by omega) fun p hp => ?_);
      (with_reducible (refine fa_g (by assumption) fun p hp => ?_));
      (refine ld_g (by assumption) (by with_unfolding_all rfl) ?_);
      (refine vb_n (by with_unfolding_all rfl) ?_);
      (with_reducible (refine fao ?_));
      (refine ldo (by assumption) (q := by infer_instance) (by with_unfolding_all rfl) ?_);
      (with_reducible (refine vb_l (by assumption) ?_; refine mv_i ?_; refine mv_i ?_));
      (refine idx_d (by assumption) (by with_unfolding_all rfl) (by omega) fun p hp => ?_);
      (with_reducible (refine fa_g (by assumption) fun p hp => ?_));
      (refine ld_g (by assumption) (by with_unfolding_all rfl) ?_);
      (refine vb_n (by with_unfolding_all rfl) ?_);
      (refine idx_dz (by assumption) (by with_unfolding_all rfl) (by omega) (by omega) fun p hp => ?_);
      (with_reducible (refine fa_g (by assumption) fun p hp => ?_));
      (refine ld_g (by assumption) (by with_unfolding_all rfl) ?_);
      (refine vb_n (by with_unfolding_all rfl) ?_);
      (refine idx_oz (by assumption) (by omega) (by omega) ?_);
      (with_reducible (refine fao_e ?_));
      (rotate_left);
      (with_reducible (refine cnd_f ?_));
      ((with_reducible refine fun (_ : Tmps) => ?_); (try dsimp only [nth]));
      (with_reducible (refine mv_i ?_; refine inc_i (by omega) ?_; refine mv_i ?_));
      (rotate_left);
      (with_reducible (refine cnd_f ?_));
      (refine ldo_w (by assumption) (by infer_instance) (by with_unfolding_all rfl) ?_);
      (refine st_w (by assumption) (by infer_instance) (by with_unfolding_all rfl) (by with_unfolding_all rfl) (by first | rfl | exact flat_ones (Flat.flat _)) (by infer_instance) fun h p m => ?_);
      (refine rt_w1 (by assumption) (by infer_instance) (by with_unfolding_all rfl) ?_);
      (with_reducible (refine ret1 ?_));
      (rotate_left))
    all_goals (try (exfalso; omega))
    have hkk : k = l.length := by omega
    have e1 : muts x l k = mutd x l := by rw [hkk]; simp [muts, mutd]
    refine ⟨m.pre, a, d, x.steps.length, by rw [← e1, u1, u2, u3], by rw [← e1, u4], ?_⟩
    rw [← e1]
    exact IsSl.ro hs m (k := 1) rfl (by omega)
end Go.Proofs.Ytomiejfeclefaaa

set_option linter.unusedSimpArgs false
set_option linter.unusedVariables false
set_option linter.unnecessarySimpa false
set_option maxRecDepth 100000
set_option maxHeartbeats 4000000
namespace Go.Proofs.Ytomiejfeclefaaa
open Go.AM
variable {h g : Heap}
theorem c5 {v y : Value} {x : Mach} {l : List Mut} (s : MacV g v x) (t : L g y l) (hb : x.steps.length ≤ 1048576) (hl : l.length ≤ 1048576) : DetP Try.prog 5 [v, y] g fun v' _ => v' = .bool true := by
  obtain ⟨tv, rfl, s⟩ := s
  obtain ⟨b0, q0, rfl, _⟩ := s.shape
  have m := Mem.start g
  refine w5 ?_
  unfold n5
  by_cases hE : errM x = 0
  · have hbo : bothE x l = (mutE x l).2 := by rw [bothE, if_neg (by simpa using hE)]
    ((with_reducible (refine box_a (by assumption) fun i h z p m => ?_; refine mv_i ?_));
        (refine call_r c11 ?_);
        (with_reducible (refine not_t ?_; refine cnd_f ?_));
        (refine ldo_w (by assumption) (by infer_instance) (by with_unfolding_all rfl) ?_))
    refine call_d (c14 ⟨_, rfl, s.up⟩ hb) m fun v1 h1 p1 p2 m ⟨b1, q1, n1, e1, hn1, s1⟩ => ?_
    subst e1
    ((with_reducible (refine mv_i ?_)))
    refine call_d (c17 t.up hl) m fun v2 h2 p3 p4 m ⟨b2, q2, n2, e2, hn2, s2⟩ => ?_
    subst e2
    skip
    have C := c20 (g := h2) (x := x) (l := l) ⟨_, rfl, s1.up⟩ s2
    rw [if_neg (by simpa using hE)] at C
    refine call_r C ?_
    unfold mk2
    ((with_reducible (refine mv_i ?_; refine ex2_0 ?_; refine ex2_1 ?_; refine mv_i ?_; refine mv_i ?_));
        (refine ldo_w (by assumption) (by infer_instance) (by with_unfolding_all rfl) ?_);
        (refine call_r (c12 ⟨_, by with_unfolding_all rfl, L.up (by assumption)⟩) ?_);
        (with_reducible (refine mv_i ?_; refine mv_i ?_; refine seq_i ?_; refine mv_i ?_; refine eql_h (by first | assumption | decide) ?_; refine cnd_t ?_));
        (refine ldo_w (by assumption) (by infer_instance) (by with_unfolding_all rfl) ?_);
        (with_reducible (refine mv_i ?_)))
    refine call_r (c21 ⟨_, rfl, s.up⟩ t.up (errM_ok hE).2.1) ?_
    unfold mk2
    ((with_reducible (refine mv_i ?_; refine ex2_0 ?_; refine ex2_1 ?_; refine mv_i ?_; refine mv_i ?_));
        ((with_reducible refine fun (_ : Tmps) => ?_); (try dsimp only [nth]));
        (refine ldo_w (by assumption) (by infer_instance) (by with_unfolding_all rfl) ?_))
    refine call_d (c14 ⟨_, rfl, s.up⟩ hb) m fun v1 h1 p1 p2 m ⟨b1, q1, n1, e1, hn1, s1⟩ => ?_
    subst e1
    ((with_reducible (refine mv_i ?_)))
    refine call_d (c17 t.up hl) m fun v2 h2 p3 p4 m ⟨b2, q2, n2, e2, hn2, s2⟩ => ?_
    subst e2
    skip
    refine call_d (c22 (x := x) (l := l) ⟨_, rfl, s1.up⟩ s2) m fun v3 h3 p5 p6 m ⟨b3, q3, n3, e3, hn3, s3⟩ => ?_
    subst e3
    rw [hbo]
    by_cases hM : (mutE x l).2 = 0
    · have hC : mutC x l = mutd x l := by rw [mutC, if_neg (by rw [hbo]; simpa using hM)]
      obtain ⟨hm1, hm2⟩ := mutE_ok hM
      ((with_reducible (refine mv_i ?_; refine ex2_0 ?_; refine ex2_1 ?_; refine alloc_z (by assumption) fun i h z p m => ?_));
          (refine st_w (by assumption) (by infer_instance) (by with_unfolding_all rfl) (by with_unfolding_all rfl) (by first | rfl | exact flat_ones (Flat.flat _)) (by infer_instance) fun h p m => ?_);
          (with_reducible (refine mv_i ?_; refine mv_i ?_; refine mv_i ?_; refine neq_i (fun hc => ?_) (fun hc => ?_); refine mv_i ?_; refine gd_ff ?_; refine mv_i ?_; refine gd_ff ?_; refine mv_i ?_; refine gd_ff ?_; refine neq_i (fun hc => ?_) (fun hc => ?_); refine pick_f ?_; refine mv_i ?_; refine gd_ff ?_; refine mv_i ?_; refine gd_ff ?_; refine mv_i ?_; refine gd_ff ?_; refine neq_h (by first | assumption | decide) ?_; refine pick_f ?_; refine cnd_f ?_; refine mv_i ?_; refine neq_h (by first | assumption | decide) ?_; refine cnd_f ?_));
          (refine ldo_w (by assumption) (by infer_instance) (by with_unfolding_all rfl) ?_);
          (refine vb_mac (by assumption) ?_);
          (refine ldo_w (by assumption) (by infer_instance) (by with_unfolding_all rfl) ?_);
          (refine vb_mac (by assumption) ?_);
          (with_reducible (refine mv_i ?_));
          (rotate_left);
          (with_reducible (refine pick_f ?_; refine mv_i ?_; refine gd_tf ?_; refine gd_tf ?_; refine gd_tf ?_; refine pick_t ?_; refine cnd_t ?_; refine mv_i ?_; refine ret1 ?_));
          (rotate_left);
          (with_reducible (refine mv_i ?_; refine gd_tf ?_; refine gd_tf ?_; refine gd_tf ?_; refine pick_t ?_; refine mv_i ?_; refine gd_tf ?_; refine gd_tf ?_; refine gd_tf ?_; refine pick_t ?_; refine cnd_t ?_; refine mv_i ?_; refine ret1 ?_));
          (rotate_left))
      all_goals (try exact absurd rfl hc)
      refine calld_d (c24 ⟨_, rfl, s.up⟩ t.up hb hm2) m fun v4 h4 p7 p8 m ⟨b4, q4, n4, e4, hn4, s4⟩ => ?_
      subst e4
      refine new_p p7 ?_
      rw [hC] at s3
      refine calld_r (c23 (a := mutd x l) (b := mutd x l) ⟨_, by rw [hC], s3.up⟩ ⟨_, rfl, s4⟩) ?_
      rw [decide_eq_true rfl]
      ((with_reducible (refine new_n ?_; refine mv_i ?_; refine ret1 ?_)))
      rfl
    · have hC : mutC x l = ⟨0, 0, 0, 0, []⟩ := by rw [mutC, if_pos (by rw [hbo]; exact hM)]
      ((with_reducible (refine mv_i ?_; refine ex2_0 ?_; refine ex2_1 ?_; refine alloc_z (by assumption) fun i h z p m => ?_));
          (refine st_w (by assumption) (by infer_instance) (by with_unfolding_all rfl) (by with_unfolding_all rfl) (by first | rfl | exact flat_ones (Flat.flat _)) (by infer_instance) fun h p m => ?_);
          (with_reducible (refine mv_i ?_; refine mv_i ?_; refine mv_i ?_; refine neq_i (fun hc => ?_) (fun hc => ?_); refine mv_i ?_; refine gd_ff ?_; refine mv_i ?_; refine gd_ff ?_; refine mv_i ?_; refine gd_ff ?_; refine neq_i (fun hc => ?_) (fun hc => ?_); refine pick_f ?_; refine mv_i ?_; refine gd_ff ?_; refine mv_i ?_; refine gd_ff ?_; refine mv_i ?_; refine gd_ff ?_; refine neq_h (by first | assumption | decide) ?_; refine pick_f ?_; refine cnd_f ?_; refine mv_i ?_; refine neq_n (by first | assumption | decide) ?_; refine cnd_t ?_));
          (refine ldo_w (by assumption) (by infer_instance) (by with_unfolding_all rfl) ?_);
          (refine vk_i (bd24_z) ?_);
          (rotate_left);
          (with_reducible (refine pick_f ?_; refine mv_i ?_; refine gd_tf ?_; refine gd_tf ?_; refine gd_tf ?_; refine pick_t ?_; refine cnd_t ?_; refine mv_i ?_; refine ret1 ?_));
          (rotate_left);
          (with_reducible (refine mv_i ?_; refine gd_tf ?_; refine gd_tf ?_; refine gd_tf ?_; refine pick_t ?_; refine mv_i ?_; refine gd_tf ?_; refine gd_tf ?_; refine gd_tf ?_; refine pick_t ?_; refine cnd_t ?_; refine mv_i ?_; refine ret1 ?_));
          (rotate_left))
      all_goals (try exact absurd rfl hc)
      rw [hC] at s3
      refine call_r (c23 (a := ⟨0, 0, 0, 0, []⟩) (b := ⟨0, 0, 0, 0, []⟩) ⟨_, by rw [hC], s3.up⟩ ⟨_, rfl, L.nil _⟩) ?_
      rw [decide_eq_true rfl]
      ((with_reducible (refine mv_i ?_; refine ret1 ?_)))
      rfl
  · have hbo : bothE x l = errM x := by rw [bothE, if_pos hE]
    have hC : mutC x l = ⟨0, 0, 0, 0, []⟩ := by rw [mutC, if_pos (by rw [hbo]; exact hE)]
    ((with_reducible (refine box_a (by assumption) fun i h z p m => ?_; refine mv_i ?_));
        (refine call_r c11 ?_);
        (with_reducible (refine not_t ?_; refine cnd_f ?_));
        (refine ldo_w (by assumption) (by infer_instance) (by with_unfolding_all rfl) ?_))
    refine call_d (c14 ⟨_, rfl, s.up⟩ hb) m fun v1 h1 p1 p2 m ⟨b1, q1, n1, e1, hn1, s1⟩ => ?_
    subst e1
    ((with_reducible (refine mv_i ?_)))
    refine call_d (c17 t.up hl) m fun v2 h2 p3 p4 m ⟨b2, q2, n2, e2, hn2, s2⟩ => ?_
    subst e2
    skip
    have C := c20 (g := h2) (x := x) (l := l) ⟨_, rfl, s1.up⟩ s2
    rw [if_pos hE] at C
    refine call_r C ?_
    unfold mk2
    ((with_reducible (refine mv_i ?_; refine ex2_0 ?_; refine ex2_1 ?_; refine mv_i ?_; refine mv_i ?_));
        (refine ldo_w (by assumption) (by infer_instance) (by with_unfolding_all rfl) ?_);
        (refine call_r (c12 ⟨_, by with_unfolding_all rfl, L.up (by assumption)⟩) ?_);
        (with_reducible (refine mv_i ?_; refine mv_i ?_; refine seq_i ?_; refine mv_i ?_; refine eql_n (by first | assumption | decide) ?_; refine cnd_f ?_));
        ((with_reducible refine fun (_ : Tmps) => ?_); (try dsimp only [nth]));
        (refine ldo_w (by assumption) (by infer_instance) (by with_unfolding_all rfl) ?_))
    refine call_d (c14 ⟨_, rfl, s.up⟩ hb) m fun v1 h1 p1 p2 m ⟨b1, q1, n1, e1, hn1, s1⟩ => ?_
    subst e1
    ((with_reducible (refine mv_i ?_)))
    refine call_d (c17 t.up hl) m fun v2 h2 p3 p4 m ⟨b2, q2, n2, e2, hn2, s2⟩ => ?_
    subst e2
    skip
    refine call_d (c22 (x := x) (l := l) ⟨_, rfl, s1.up⟩ s2) m fun v3 h3 p5 p6 m ⟨b3, q3, n3, e3, hn3, s3⟩ => ?_
    subst e3
    rw [hbo]
    ((with_reducible (refine mv_i ?_; refine ex2_0 ?_; refine ex2_1 ?_; refine alloc_z (by assumption) fun i h z p m => ?_));
        (refine st_w (by assumption) (by infer_instance) (by with_unfolding_all rfl) (by with_unfolding_all rfl) (by first | rfl | exact flat_ones (Flat.flat _)) (by infer_instance) fun h p m => ?_);
        (with_reducible (refine mv_i ?_; refine mv_i ?_; refine mv_i ?_; refine neq_i (fun hc => ?_) (fun hc => ?_); refine mv_i ?_; refine gd_ff ?_; refine mv_i ?_; refine gd_ff ?_; refine mv_i ?_; refine gd_ff ?_; refine neq_h (by first | assumption | decide) ?_; refine pick_f ?_; refine mv_i ?_; refine gd_ff ?_; refine mv_i ?_; refine gd_ff ?_; refine mv_i ?_; refine gd_ff ?_; refine neq_h (by first | assumption | decide) ?_; refine pick_f ?_; refine cnd_f ?_; refine mv_i ?_; refine neq_n (by first | assumption | decide) ?_; refine cnd_t ?_));
        (refine ldo_w (by assumption) (by infer_instance) (by with_unfolding_all rfl) ?_);
        (refine vk_i (bd24_z) ?_);
        (rotate_left);
        (with_reducible (refine mv_i ?_; refine gd_tf ?_; refine gd_tf ?_; refine gd_tf ?_; refine pick_t ?_; refine mv_i ?_; refine gd_tf ?_; refine gd_tf ?_; refine gd_tf ?_; refine pick_t ?_; refine cnd_t ?_; refine mv_i ?_; refine ret1 ?_));
        (rotate_left))
    all_goals (try exact absurd rfl hc)
    rw [hC] at s3
    refine call_r (c23 (a := ⟨0, 0, 0, 0, []⟩) (b := ⟨0, 0, 0, 0, []⟩) ⟨_, by rw [hC], s3.up⟩ ⟨_, rfl, L.nil _⟩) ?_
    rw [decide_eq_true rfl]
    ((with_reducible (refine mv_i ?_; refine ret1 ?_)))
    rfl
end Go.Proofs.Ytomiejfeclefaaa

set_option linter.unusedSimpArgs false
set_option linter.unusedVariables false
set_option linter.unnecessarySimpa false
set_option maxRecDepth 100000
namespace Go.Proofs.Ytomiejfeclefaaa
open Go.AM
open Go.ChangeShapes Go.WideShapes Go.ChangeAt Go.RowKit
theorem laid : laidOutB Try.prog = true := by kernel_rfl
theorem own : ownKnob Try.prog.godebug = none := by kernel_rfl
def dStp {H : Type} : DataW H → Stp | .agg [a, b, c, d] => ⟨dint a, dint b, dint c, dint d⟩ | _ => Df.d
def dMut {H : Type} : DataW H → Mut | .agg [a, b, c] => ⟨dint a, dint b, dint c⟩ | _ => Df.d
def dMac {H : Type} : DataW H → Mach | .agg [a, b, c, d, e] => ⟨dint a, dint b, dint c, dint d, dlist dStp e⟩ | _ => ⟨0, 0, 0, 0, []⟩
theorem ARd_stp {H : Type} {h : Heap} {cs : List Value} {d : DataW H} (q : ARd Try.prog h 82 cs d) : cs = Flat.cells (dStp d) := by
  obtain ⟨parts, rfl, hl, hp, hf⟩ := q.fields Try.underlying82
  have hl : cs.length = 4 := hl
  obtain ⟨a, b, c, d, rfl⟩ : ∃ a b c d, parts = [a, b, c, d] := by
    match parts, hp with
    | [a, b, c, d], _ => exact ⟨a, b, c, d, rfl⟩
  have g0 : cs[0]? = some (.int .i64 (dint a)) := ARd.f_int (hf 0 _ a rfl rfl) Try.underlying3
  have g1 : cs[1]? = some (.int .i64 (dint b)) := ARd.f_int (hf 1 _ b rfl rfl) Try.underlying3
  have g2 : cs[2]? = some (.int .i64 (dint c)) := ARd.f_int (hf 2 _ c rfl rfl) Try.underlying3
  have g3 : cs[3]? = some (.int .i64 (dint d)) := ARd.f_int (hf 3 _ d rfl rfl) Try.underlying3
  refine List.ext_getElem? fun j => ?_
  by_cases hj : j < 4
  · match j, hj with
    | 0, _ => rw [g0]; rfl
    | 1, _ => rw [g1]; rfl
    | 2, _ => rw [g2]; rfl
    | 3, _ => rw [g3]; rfl
  · rw [List.getElem?_eq_none (by omega), List.getElem?_eq_none (by rw [Flat.len]; show 4 ≤ j; omega)]
theorem ARd_mut {H : Type} {h : Heap} {cs : List Value} {d : DataW H} (q : ARd Try.prog h 34 cs d) : cs = Flat.cells (dMut d) := by
  obtain ⟨parts, rfl, hl, hp, hf⟩ := q.fields Try.underlying34
  have hl : cs.length = 3 := hl
  obtain ⟨a, b, c, rfl⟩ : ∃ a b c, parts = [a, b, c] := by
    match parts, hp with
    | [a, b, c], _ => exact ⟨a, b, c, rfl⟩
  have g0 : cs[0]? = some (.int .i64 (dint a)) := ARd.f_int (hf 0 _ a rfl rfl) Try.underlying3
  have g1 : cs[1]? = some (.int .i64 (dint b)) := ARd.f_int (hf 1 _ b rfl rfl) Try.underlying3
  have g2 : cs[2]? = some (.int .i64 (dint c)) := ARd.f_int (hf 2 _ c rfl rfl) Try.underlying3
  refine List.ext_getElem? fun j => ?_
  by_cases hj : j < 3
  · match j, hj with
    | 0, _ => rw [g0]; rfl
    | 1, _ => rw [g1]; rfl
    | 2, _ => rw [g2]; rfl
  · rw [List.getElem?_eq_none (by omega), List.getElem?_eq_none (by rw [Flat.len]; show 3 ≤ j; omega)]
theorem dl_le {H α : Type} (de : DataW H → α) (d : DataW H) : (dlist de d).length ≤ Rows.uptoBulk d := by
  cases d with
  | slice elems spare =>
    have := bulks.length_le elems
    have := bulks.slice_elems elems spare
    simp only [dlist, List.length_map]; omega
  | lit l => simp [dlist]
  | nil => simp [dlist]
  | ptr d => simp [dlist]
  | agg parts => simp [dlist]
  | iface t d => simp [dlist]
  | map entries => simp [dlist]
  | held h => simp [dlist]
theorem mac_le {H : Type} (d : DataW H) : (dMac d).steps.length ≤ Rows.uptoBulk d := by
  unfold dMac
  split
  · rename_i a b c d e
    have := dl_le dStp e
    simp only [Rows.uptoBulk, Rows.uptoBulkAll]
    omega
  · simp
theorem ARd_mac {H : Type} {h : Heap} {cs : List Value} {d : DataW H} (q : ARd Try.prog h 24 cs d) (hb : (dMac d).steps.length ≤ 2 ^ 50) : MacV h (absV Try.prog 24 cs) (dMac d) := by
  obtain ⟨parts, rfl, hl, hp, hf⟩ := q.fields Try.underlying24
  have hl : cs.length = 5 := hl
  obtain ⟨a, b, c, d, e, rfl⟩ : ∃ a b c d e, parts = [a, b, c, d, e] := by
    match parts, hp with
    | [a, b, c, d, e], _ => exact ⟨a, b, c, d, e, rfl⟩
  have g0 : cs[0]? = some (.int .i64 (dint a)) := ARd.f_int (hf 0 _ a rfl rfl) Try.underlying3
  have g1 : cs[1]? = some (.int .i64 (dint b)) := ARd.f_int (hf 1 _ b rfl rfl) Try.underlying3
  have g2 : cs[2]? = some (.int .i64 (dint c)) := ARd.f_int (hf 2 _ c rfl rfl) Try.underlying3
  have g3 : cs[3]? = some (.int .i64 (dint d)) := ARd.f_int (hf 3 _ d rfl rfl) Try.underlying3
  obtain ⟨o, l, c', e', s⟩ := ARd.list dStp (hf 4 _ e rfl rfl) Try.underlying22 (by kernel_rfl) (fun cs d r => ARd_stp r) hb
  have g4 : cs[4]? = some (.slice o l c') := drop_one e'
  refine ⟨_, ?_, s⟩
  simp only [absV, Try.underlying24]
  congr 1
  have : cs = [.int .i64 (dint a), .int .i64 (dint b), .int .i64 (dint c), .int .i64 (dint d), .slice o l c'] := by
    refine List.ext_getElem? fun j => ?_
    by_cases hj : j < 5
    · match j, hj with
      | 0, _ => rw [g0]; rfl
      | 1, _ => rw [g1]; rfl
      | 2, _ => rw [g2]; rfl
      | 3, _ => rw [g3]; rfl
      | 4, _ => rw [g4]; rfl
    · rw [List.getElem?_eq_none (by omega), List.getElem?_eq_none (by simp; omega)]
  rw [this]; rfl
end Go.Proofs.Ytomiejfeclefaaa
