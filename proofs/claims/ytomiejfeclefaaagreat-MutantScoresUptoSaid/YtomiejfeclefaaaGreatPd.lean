import Derived.Test.YtomiejfeclefaaaGreatPc
import Derived.Test.YtomiejfeclefaaaGreatPa
import Derived.Test.YtomiejfeclefaaaGreatAnM
import Derived.Test.YtomiejfeclefaaaGreatAnG
import Derived.Test.YtomiejfeclefaaaGreatBulk
import Derived.Test.YtomiejfeclefaaaGreatChecked
import Derived.WalkKit
import Derived.ProofKit
set_option linter.unusedSimpArgs false
set_option linter.unusedVariables false
set_option linter.unnecessarySimpa false
set_option maxRecDepth 100000
set_option maxHeartbeats 4000000
namespace Go.Proofs.YtomiejfeclefaaaGreat
open Go.AM
variable {h g : Heap}
def wordE (ws : List Int) (N M : Int) : Int := if M < ws.length then 2 else if ws.all (fun n => decide (0 ≤ n ∧ n ≤ N - 1)) = true then 0 else 3
theorem c36 {v : Value} {ws : List Int} (s : L g v ws) (N M : Int) (hN : 0 ≤ N ∧ N ≤ 8) : Runs Tryz.prog 22 [v, .int .i64 N, .int .i64 M] g (.int .i64 (wordE ws N M)) g := by
  have lt := s.lt
  refine DetP.runs (w36 ?_)
  unfold n36
  ((with_reducible (refine mv_i ?_; refine mv_i ?_; refine len_g (by assumption) ?_; refine mv_i ?_; refine gtr_i (fun hc => ?_) (fun hc => ?_); refine cnd_t ?_; refine mv_i ?_; refine ret1 ?_)); (rotate_left); (with_reducible (refine cnd_f ?_; refine mv_i ?_)); (rotate_left))
  · exact ⟨by rw [wordE, if_pos (by assumption)], rfl⟩
  · have hM : ¬ M < ws.length := by assumption
    refine loop1 ws.length (fun k h2 => g = h2 ∧ ∀ j, j < k → 0 ≤ gt ws j ∧ gt ws j ≤ N - 1) ⟨rfl, fun j hj => by omega⟩ ?_
    rintro k _ _ hk ⟨rfl, hJ⟩
    ((with_reducible (refine mv_i ?_; refine mv_i ?_; refine len_g (by assumption) ?_; refine lss_i (fun hc => ?_) (fun hc => ?_); refine cnd_t ?_; refine mv_i ?_; refine mv_i ?_)); (refine idxA fun p hp => ?_); (refine ldgA ?_); (with_reducible (refine mv_i ?_; refine sub_a (by assumption) (by decide) (by decide) ?_)); (refine call_r (c53 _ _ _) ?_); (with_reducible (refine not_d (fun hb => ?_) (fun hb => ?_); refine cnd_f ?_; refine mv_i ?_; refine inc_i (by omega) ?_; refine mv_i ?_)); (rotate_left); (with_reducible (refine cnd_t ?_; refine mv_i ?_; refine ret1 ?_)); (rotate_left); (with_reducible (refine cnd_f ?_; refine mv_i ?_; refine ret1 ?_)); (rotate_left))
    · refine next1 (by omega) ⟨rfl, fun j hj => ?_⟩
      by_cases q : j = k
      · subst q; assumption
      · exact hJ j (by omega)
    · refine ⟨?_, rfl⟩
      rw [wordE, if_neg hM, if_neg]
      intro hall
      have := List.all_eq_true.mp hall (gt ws k) (gd_mem _ (by omega))
      exact (by assumption : ¬ (0 ≤ gt ws k ∧ gt ws k ≤ N - 1)) (by simpa using this)
    · refine ⟨?_, rfl⟩
      rw [wordE, if_neg hM, if_pos]
      rw [List.all_eq_true]
      intro n hn
      obtain ⟨j, hj, rfl⟩ := mem_gt.mp hn
      simpa using hJ j (by omega)
theorem wordE_ok {ws : List Int} {x : Mach} {M : Int} (h : wordE ws x.inputs M = 0) : inW x ws ∧ ws.length ≤ M := by
  unfold wordE at h
  split at h
  · cases h
  · split at h
    · rename_i h1 h2
      refine ⟨fun n hn => ?_, by omega⟩
      simpa using List.all_eq_true.mp h2 n hn
    · cases h
theorem wordE_in {ws : List Int} {x : Mach} {M : Int} (h : inW x ws) (hl : ws.length ≤ M) : wordE ws x.inputs M = 0 := by
  unfold wordE
  rw [if_neg (by omega), if_pos]
  rw [List.all_eq_true]
  intro n hn
  simpa using h n hn
/-! ### answers -/
def stt (x : Mach) (q : Int) (w : List Int) (k : Nat) : Int := rch x q (w.take k)
theorem stt_next {x : Mach} {q : Int} {w : List Int} {k : Nat} (hk : k < w.length) : stt x q w (k + 1) = (stO x (stt x q w k) (gt w k)).to := by
  unfold stt
  rw [take_gd Df.d hk, rch_snoc]; rfl
theorem stt_in {x : Mach} (h0 : (chkM x).2 = 0) (hl : (x.steps.length : Int) = x.states * x.inputs) {q : Int} (hq : 0 ≤ q ∧ q ≤ x.states - 1) {w : List Int} (hw : inW x w) : ∀ k, k ≤ w.length → 0 ≤ stt x q w k ∧ stt x q w k ≤ x.states - 1
  | 0, _ => hq
  | k + 1, h => by
    rw [stt_next (by omega)]
    exact (stO_ok h0 hl (stt_in h0 hl hq hw k (by omega)) (hw _ (gd_mem Df.d (show k < w.length by omega)))).2.1
def tkn (x : Mach) (q : Int) (w : List Int) (k : Nat) : List Int := (List.range k).map fun j => stt x q w j * x.inputs + gt w j
theorem tkn_len (x : Mach) (q : Int) (w : List Int) (k : Nat) : (tkn x q w k).length = k := by simp [tkn]
theorem tkn_next (x : Mach) (q : Int) (w : List Int) (k : Nat) : tkn x q w (k + 1) = tkn x q w k ++ [stt x q w k * x.inputs + gt w k] := by simp [tkn, List.range_succ]
theorem tkn_at {x : Mach} {q : Int} {w : List Int} {k j : Nat} (hj : j < k) : gt (tkn x q w k) j = stt x q w j * x.inputs + gt w j := by
  rw [← gt_at (by rw [tkn_len]; exact hj)]
  simp [tkn]
def ansN (x : Mach) (q : Int) (w : List Int) (k : Nat) : List Int := (List.range k).map fun j => (stO x (stt x q w j) (gt w j)).out
def stsN (x : Mach) (q : Int) (w : List Int) (k : Nat) : List Int := (List.range k).map fun j => (stO x (stt x q w j) (gt w j)).to
theorem ansN_next (x : Mach) (q : Int) (w : List Int) (k : Nat) : ansN x q w (k + 1) = ansN x q w k ++ [(stO x (stt x q w k) (gt w k)).out] := by simp [ansN, List.range_succ]
theorem stsN_next (x : Mach) (q : Int) (w : List Int) (k : Nat) : stsN x q w (k + 1) = stsN x q w k ++ [(stO x (stt x q w k) (gt w k)).to] := by simp [stsN, List.range_succ]
theorem ansN_len (x : Mach) (q : Int) (w : List Int) (k : Nat) : (ansN x q w k).length = k := by simp [ansN]
theorem stsN_len (x : Mach) (q : Int) (w : List Int) (k : Nat) : (stsN x q w k).length = k := by simp [stsN]
theorem ansN_all {x : Mach} {q : Int} {w : List Int} : ∀ k, k ≤ w.length → ansN x q w k = ans x q (w.take k)
  | 0, _ => rfl
  | k + 1, h => by
    rw [ansN_next, ansN_all k (by omega), take_gd Df.d (show k < w.length by omega), ans_snoc]; rfl
theorem c122 {v y : Value} {x : Mach} {w : List Int} {q : Int} (s : MacV g v x) (t : L g y w) (h0 : (chkM x).2 = 0) (hl : (x.steps.length : Int) = x.states * x.inputs) (hq : 0 ≤ q ∧ q ≤ x.states - 1) (hw : inW x w) (hb : w.length ≤ 1048576) :
    DetP Tryz.prog 118 [v, .int .i64 q, y] g fun v' h' => g <+: h' ∧ ∃ b n q1, v' = .slice b n q1 ∧ n = w.length ∧ L h' (.slice b n q1) (tkn x q w w.length) := by
  refine DetP.freeze ?_
  obtain ⟨tv, rfl, s⟩ := s
  obtain ⟨b0, q0, rfl, _⟩ := s.shape
  have m := Mem.start g
  refine w122 ?_
  unfold n122
  refine box_a m fun ix hx zx p1 m => ?_
  ((with_reducible (refine mv_i ?_; refine mv_i ?_; refine mv_i ?_)))
  refine loop3 w.length (fun k a b h => a = .int .i64 (stt x q w k) ∧ ∃ o, IsSl b o (tkn x q w k).length ∧ Prec hx h ∧ Mem g h [⟨o, flat (tkn x q w k), 1⟩, ⟨some ix, [.int .i64 x.states, .int .i64 x.inputs, .int .i64 x.outputs, .int .i64 x.start, .slice b0 x.steps.length q0], zx⟩]) ⟨rfl, none, IsSl.nil, ⟨Stab.refl _⟩, m.nil 1⟩ ?_
  rintro k a b h2 _ hk ⟨rfl, o, hs, p2, m⟩
  have tl := tkn_len x q w k
  by_cases hkl : k < w.length
  · have hsi := stt_in h0 hl hq hw k hk
    have hwi := hw _ (gd_mem Df.d hkl)
    change 0 ≤ gt w k ∧ gt w k ≤ x.inputs - 1 at hwi
    obtain ⟨j1, j2, _⟩ := full_at h0 hl hsi hwi
    have iA := at_code h0 hl hsi hwi
    have hneA : ¬ idxOf (atS (stt x q w k) (gt w k)) x.steps = -1 := by rw [iA]; omega
    have jA1 : 0 ≤ idxOf (atS (stt x q w k) (gt w k)) x.steps := by rw [iA]; omega
    have jA2 : (idxOf (atS (stt x q w k) (gt w k)) x.steps).toNat < x.steps.length := by rw [iA]; omega
    ((with_reducible (refine mv_i ?_; refine mv_i ?_; refine len_g (by assumption) ?_; refine lss_i (fun hc => ?_) (fun hc => ?_); refine cnd_t ?_)); (refine ldwA ?_); (refine vb_mac (by assumption) ?_); (with_reducible (refine mv_i ?_; refine mv_i ?_; refine mv_i ?_)); (refine idxA fun p hp => ?_); (refine ldgA ?_); (refine vbA ?_); (refine calld_r (c74 ⟨_, by with_unfolding_all rfl, L.up (by assumption)⟩ _ _) ?_); (with_reducible (refine new_n ?_; refine mv_i ?_; refine mv_i ?_; refine eql_n (by first | assumption | decide) ?_; refine cnd_f ?_; refine mv_i ?_; refine mv_i ?_)); (refine bs_g (bs53_1 _ _) (by assumption) fun i h p m => ?_); (rotate_left); (with_reducible (refine cnd_f ?_; refine mv_i ?_; refine mv_i ?_; refine ret1 ?_)); (rotate_left))
    · refine app_snoc (a := idxOf (atS (stt x q w k) (gt w k)) x.steps) (k2 := 0) (j := 0) m hs (by infer_instance) ⟨rfl⟩ rfl ⟨by omega, by omega⟩ fun i3 h7 p7 m => ?_
      simp only [List.set_cons_succ, List.set_cons_zero] at m
      ((with_reducible (refine mv_i ?_; refine fao ?_)); (refine ldoA ?_); (with_reducible (refine mv_i ?_)); (refine idx_dz (by assumption) (by with_unfolding_all rfl) (by omega) (by omega) fun p hp => ?_); (with_reducible (refine fa_g (by assumption) fun p hp => ?_)); (refine ldgA ?_); (with_reducible (refine mv_i ?_; refine mv_i ?_; refine inc_i (by omega) ?_; refine mv_i ?_)))
      refine next3 hkl ⟨?_, some i3, by rw [tkn_next, List.length_append]; exact IsSl.some0, ⟨Stb.st⟩, by rw [tkn_next, ← iA]; exact m.tail⟩
      rw [stt_next hkl, iA]; rfl
    · exfalso; omega
  · ((with_reducible (refine mv_i ?_; refine mv_i ?_; refine len_g (by assumption) ?_; refine lss_i (fun hc => ?_) (fun hc => ?_); refine cnd_t ?_)); (refine ldwA ?_); (refine vb_mac (by assumption) ?_); (with_reducible (refine mv_i ?_; refine mv_i ?_; refine mv_i ?_)); (refine idxA fun p hp => ?_); (refine ldgA ?_); (refine vbA ?_); (refine calld_r (c74 ⟨_, by with_unfolding_all rfl, L.up (by assumption)⟩ _ _) ?_); (with_reducible (refine new_n ?_; refine mv_i ?_; refine mv_i ?_; refine eql_i (fun hc => ?_) (fun hc => ?_); refine cnd_t ?_; refine mv_i ?_; refine mv_i ?_; refine ret1 ?_)); (rotate_left); (with_reducible (refine cnd_f ?_; refine mv_i ?_; refine mv_i ?_)); (refine bs_g (bs53_1 _ _) (by assumption) fun i h p m => ?_); (rotate_left); (with_reducible (refine cnd_f ?_; refine mv_i ?_; refine mv_i ?_; refine ret1 ?_)); (rotate_left))
    all_goals (try (exfalso; omega))
    have hkk : k = w.length := by omega
    subst hkk
    obtain ⟨b1, c1, rfl⟩ := hs.isS
    exact ⟨m.pre, b1, _, c1, rfl, tl, IsSl.ro hs m (k := 0) rfl (by omega)⟩
theorem c95 {v y : Value} {x : Mach} {w : List Int} {q : Int} (s : MacV g v x) (t : L g y w) (h0 : (chkM x).2 = 0) (hl : (x.steps.length : Int) = x.states * x.inputs) (hq : 0 ≤ q ∧ q ≤ x.states - 1) (hw : inW x w) (hb : w.length ≤ 1048576) :
    DetP Tryz.prog 93 [v, .int .i64 q, y] g fun v' h' => g <+: h' ∧ ∃ b n q1 b2 n2 q2, v' = .tuple #[.slice b n q1, .slice b2 n2 q2] ∧ L h' (.slice b n q1) (ans x q w) := by
  refine DetP.freeze ?_
  obtain ⟨tv, rfl, s⟩ := s
  obtain ⟨b0, q0, rfl, _⟩ := s.shape
  have m := Mem.start g
  refine w95 ?_
  unfold n95
  refine box_a m fun ix hx0 zx p1 m => ?_
  ((with_reducible (refine mv_i ?_; refine mv_i ?_; refine mv_i ?_; refine mv_i ?_)); (refine ldwA ?_); (with_reducible (refine mv_i ?_; refine mv_i ?_)))
  refine call_d (c122 ⟨_, rfl, s.up⟩ t.up h0 hl hq hw hb) m fun v2 h2 p2 p2' m ⟨b2, n2, q2, e2, hn2, s2⟩ => ?_
  subst e2
  ((with_reducible (refine mv_i ?_; refine mv_i ?_)))
  obtain ⟨hx, rfl⟩ : ∃ q, q = h2 := ⟨h2, rfl⟩
  have tl := tkn_len x q w w.length
  refine loop3 w.length (fun k a b h => ∃ o1 o2, IsSl a o1 (ansN x q w k).length ∧ IsSl b o2 (stsN x q w k).length ∧ Prec hx h ∧ Mem g h [⟨o1, flat (ansN x q w k), 1⟩, ⟨o2, flat (stsN x q w k), 1⟩, ⟨some ix, [.int .i64 x.states, .int .i64 x.inputs, .int .i64 x.outputs, .int .i64 x.start, .slice b0 x.steps.length q0], zx⟩]) ⟨none, none, IsSl.nil, IsSl.nil, ⟨Stab.refl _⟩, (m.nil 1).nil 1⟩ ?_
  rintro k a b h3 _ hk ⟨o1, o2, hs1, hs2, p3, m⟩
  have l1 := ansN_len x q w k
  have l2 := stsN_len x q w k
  by_cases hkl : k < w.length
  · have hsi := stt_in h0 hl hq hw k hk
    have hwi := hw _ (gd_mem Df.d hkl)
    change 0 ≤ gt w k ∧ gt w k ≤ x.inputs - 1 at hwi
    obtain ⟨j1, j2, _⟩ := full_at h0 hl hsi hwi
    have hta := tkn_at (x := x) (q := q) (w := w) hkl
    have hz1 : 0 ≤ gt (tkn x q w w.length) k := by rw [hta]; exact j1
    have hz2 : (gt (tkn x q w w.length) k).toNat < x.steps.length := by rw [hta]; exact j2
    have an := ansN_next x q w k
    have sn := stsN_next x q w k
    rw [show (stO x (stt x q w k) (gt w k)) = gt x.steps (gt (tkn x q w w.length) k).toNat by rw [hta]; rfl] at an sn
    ((with_reducible (refine mv_i ?_; refine mv_i ?_; refine len_g (by assumption) ?_; refine lss_i (fun hc => ?_) (fun hc => ?_); refine cnd_t ?_; refine mv_i ?_; refine fao ?_)); (refine ldoA ?_); (with_reducible (refine vb_l (by assumption) ?_; refine mv_i ?_; refine mv_i ?_)); (refine idxA fun p hp => ?_); (refine ldgA ?_); (refine vbA ?_); (refine idx_dz (by assumption) (by with_unfolding_all rfl) (by omega) (by omega) fun p hp => ?_); (with_reducible (refine fa_g (by assumption) fun p hp => ?_)); (refine ldgA ?_); (refine vbA ?_); (refine bs_g (bs53_1 _ _) (by assumption) fun i h p m => ?_); (rotate_left); (with_reducible (refine cnd_f ?_; refine mv_i ?_; refine mv_i ?_; refine mv_i ?_; refine mv_i ?_; refine ret2 ?_)); (rotate_left))
    · refine app_snoc (a := (gt x.steps (gt (tkn x q w w.length) k).toNat).out) (k2 := 0) (j := 0) m hs1 (by infer_instance) ⟨rfl⟩ rfl ⟨by omega, by omega⟩ fun i3 h7 p7 m => ?_
      simp only [List.set_cons_succ, List.set_cons_zero] at m
      refine ⟨trivial, ?_⟩
      ((with_reducible (refine mv_i ?_; refine fao ?_)); (refine ldoA ?_); (with_reducible (refine vb_l (by assumption) ?_; refine mv_i ?_; refine mv_i ?_)); (refine idxA fun p hp => ?_); (refine ldgA ?_); (refine vbA ?_); (refine idx_dz (by assumption) (by with_unfolding_all rfl) (by omega) (by omega) fun p hp => ?_); (with_reducible (refine fa_g (by assumption) fun p hp => ?_)); (refine ldgA ?_); (refine vbA ?_); (refine bs_g (bs53_1 _ _) (by assumption) fun i h p m => ?_))
      refine app_snoc (a := (gt x.steps (gt (tkn x q w w.length) k).toNat).to) (k2 := 0) (j := 0) m hs2 (by infer_instance) ⟨rfl⟩ rfl ⟨by omega, by omega⟩ fun i4 h8 p8 m => ?_
      simp only [List.set_cons_succ, List.set_cons_zero] at m
      refine ⟨trivial, ?_⟩
      ((with_reducible (refine mv_i ?_; refine mv_i ?_; refine mv_i ?_; refine inc_i (by omega) ?_; refine mv_i ?_)))
      exact next3 hkl ⟨some i3, some i4, by rw [an, List.length_append]; exact IsSl.some0, by rw [sn, List.length_append]; exact IsSl.some0, ⟨Stb.st⟩, by rw [an, sn]; exact m.tail.tail⟩
    all_goals (exfalso; omega)
  · ((with_reducible (refine mv_i ?_; refine mv_i ?_; refine len_g (by assumption) ?_; refine lss_i (fun hc => ?_) (fun hc => ?_); refine cnd_t ?_; refine mv_i ?_; refine fao ?_)); (refine ldoA ?_); (with_reducible (refine vb_l (by assumption) ?_; refine mv_i ?_; refine mv_i ?_)); (refine idxA fun p hp => ?_); (refine ldgA ?_); (refine vbA ?_); (refine idx_dz (by assumption) (by with_unfolding_all rfl) (by omega) (by omega) fun p hp => ?_); (with_reducible (refine fa_g (by assumption) fun p hp => ?_)); (refine ldgA ?_); (refine vbA ?_); (refine bs_g (bs53_1 _ _) (by assumption) fun i h p m => ?_); (rotate_left); (with_reducible (refine cnd_f ?_; refine mv_i ?_; refine mv_i ?_; refine mv_i ?_; refine mv_i ?_; refine ret2 ?_)); (rotate_left))
    all_goals (try (exfalso; omega))
    have hkk : k = w.length := by omega
    subst hkk
    have e : ansN x q w w.length = ans x q w := by rw [ansN_all _ (Nat.le_refl _), List.take_length]
    obtain ⟨b3, c3, rfl⟩ := hs1.isS
    obtain ⟨b4, c4, rfl⟩ := hs2.isS
    refine ⟨m.pre, b3, _, c3, b4, _, c4, rfl, ?_⟩
    rw [← e]
    exact IsSl.ro hs1 m (k := 0) rfl (by omega)
theorem c68 {v u y : Value} {x z : Mach} {w : List Int} (s : MacV g v x) (s' : MacV g u z) (t : L g y w) (P : Par x z) (hi : inP x ⟨x.start, z.start⟩) (hw : inW x w) (hb : w.length ≤ 1048576) : Runs Tryz.prog 75 [v, u, y] g (.bool (!decide (ans x x.start w = ans z z.start w))) g := by
  obtain ⟨tv, rfl, s⟩ := s
  obtain ⟨b0, q0, rfl, _⟩ := s.shape
  obtain ⟨uv, rfl, s'⟩ := s'
  obtain ⟨b1, q1, rfl, _⟩ := s'.shape
  have m := Mem.start g
  refine DetP.forget rfl ?_
  refine w68 ?_
  unfold n68
  have hwz : inW z w := fun n hn => by rw [P.ip]; exact hw n hn
  have A := fun {h : Heap} {v y : Value} (s : MacV h v x) (t : L h y w) => c95 (g := h) s t P.cx P.lx hi.1 hw hb
  have B := fun {h : Heap} {v y : Value} (s : MacV h v z) (t : L h y w) => c95 (g := h) s t P.cy P.ly (by rw [P.st]; exact hi.2) hwz hb
  generalize ans x x.start w = ra at A ⊢
  generalize ans z z.start w = rb at B ⊢
  ((with_reducible (refine box_a (by assumption) fun i h z p m => ?_; refine box_a (by assumption) fun i h z p m => ?_; refine mv_i ?_)); (refine ldwA ?_); (with_reducible (refine fao ?_)); (refine ldoA ?_); (with_reducible (refine mv_i ?_)))
  refine call_d (A ⟨_, rfl, s.up⟩ t.up) m fun v2 h2 p2 p2' m ⟨b2, n2, q2, b3, n3, q3, e2, s2⟩ => ?_
  subst e2
  ((with_reducible (refine mv_i ?_; refine ex2_0 ?_; refine ex2_1 ?_; refine mv_i ?_; refine mv_i ?_)); (refine ldwA ?_); (with_reducible (refine fao ?_)); (refine ldoA ?_); (with_reducible (refine mv_i ?_)))
  refine call_d (B ⟨_, rfl, s'.up⟩ t.up) m fun v4 h4 p4 p4' m ⟨b4, n4, q4, b5, n5, q5, e4, s4⟩ => ?_
  subst e4
  ((with_reducible (refine mv_i ?_; refine ex2_0 ?_; refine ex2_1 ?_; refine mv_i ?_; refine mv_i ?_; refine mv_i ?_; refine mv_i ?_)); (refine call_r (c29 (L.up (by assumption)) (L.up (by assumption))) ?_); (with_reducible (refine not_d (fun hb => ?_) (fun hb => ?_); refine mv_i ?_; refine ret1 ?_)); (rotate_left); (with_reducible (refine mv_i ?_; refine ret1 ?_)); (rotate_left))
  all_goals exact ⟨by simp [hb], Mem.pre (by assumption)⟩
end Go.Proofs.YtomiejfeclefaaaGreat

set_option linter.unusedSimpArgs false
set_option linter.unusedVariables false
set_option linter.unnecessarySimpa false
set_option maxRecDepth 100000
set_option maxHeartbeats 4000000
namespace Go.Proofs.YtomiejfeclefaaaGreat
open Go.AM
variable {h g : Heap}
theorem bs100_1 (a1 : Int) (h : Heap) : aBuildSlice Tryz.prog 100 1 [(0, (.int .i64 a1))] h = some (.slice (some ⟨h.length, 0, none⟩) 1 2, newArr h [(.int .i64 a1)] 1) := by kernel_rfl
theorem bs100_2 (a1 : Int) (a2 : Int) (h : Heap) : aBuildSlice Tryz.prog 100 2 [(0, (.int .i64 a1)), (1, (.int .i64 a2))] h = some (.slice (some ⟨h.length, 0, none⟩) 2 3, newArr h [(.int .i64 a1), (.int .i64 a2)] 1) := by kernel_rfl
theorem bd33_z  : aBuild Tryz.prog 33 [] = some (.agg #[(.int .i64 0), (.int .i64 0), (.slice none 0 0)]) := by kernel_rfl
/-! ### words -/
theorem c1042 {x y : Value} {xs ys : List Int} (s : L g x xs) (t : L g y ys) : Runs Tryz.prog 42 [x, y] g (.bool (decide (xs = ys))) g := by
  have lt := s.lt
  have lt2 := t.lt
  refine DetP.runs (w1042 ?_)
  unfold n1042
  ((with_reducible (refine mv_i ?_; refine mv_i ?_; refine len_g (by assumption) ?_; refine mv_i ?_; refine len_g (by assumption) ?_; refine neq_i (fun hc => ?_) (fun hc => ?_); refine cnd_f ?_; refine mv_i ?_; refine len_g (by assumption) ?_; refine mv_i ?_)); (rotate_left); (with_reducible (refine cnd_t ?_; refine mv_i ?_; refine ret1 ?_)); (rotate_left))
  · refine loop1 xs.length (fun k h2 => g = h2 ∧ ∀ j, j < k → gt xs j = gt ys j) ⟨rfl, fun j hj => by omega⟩ ?_
    rintro k _ _ hk ⟨rfl, hJ⟩
    ((with_reducible (refine lss_i (fun hc => ?_) (fun hc => ?_); refine cnd_t ?_; refine mv_i ?_; refine mv_i ?_; refine mv_i ?_; refine mv_i ?_)); (refine idxA fun p hp => ?_); (refine ldgA ?_); (refine vbA ?_); (with_reducible (refine mv_i ?_; refine mv_i ?_)); (refine idxA fun p hp => ?_); (refine ldgA ?_); (refine vbA ?_); (with_reducible (refine neq_i (fun hc => ?_) (fun hc => ?_); refine cnd_f ?_; refine inc_i (by omega) ?_; refine mv_i ?_)); (rotate_left); (with_reducible (refine cnd_t ?_; refine mv_i ?_; refine ret1 ?_)); (rotate_left); (with_reducible (refine cnd_f ?_; refine mv_i ?_; refine ret1 ?_)); (rotate_left))
    · refine next1 (by omega) ⟨rfl, fun j hj => ?_⟩
      by_cases q : j = k
      · subst q; exact hc
      · exact hJ j (by omega)
    · refine ⟨?_, rfl⟩
      rw [decide_eq_false]
      rintro rfl; exact hc rfl
    · refine ⟨?_, rfl⟩
      rw [decide_eq_true]
      exact List.ext_getElem (by omega) fun j h1 h2 => by rw [gt_at h1, gt_at h2]; exact hJ j (by omega)
  · refine ⟨?_, rfl⟩
    rw [decide_eq_false]
    rintro rfl; exact hc rfl
def oddB (N : Int) (n : Int) : Bool := !decide (0 ≤ n ∧ n ≤ N - 1)
theorem c1117 {i k z : Nat} {N : Int} {g0 : Base} {Lm : List E} (M : Mem g0 g Lm) (q : Ent Lm i k [.int .i64 N] z) (n : Int) (hN : 0 ≤ N ∧ N ≤ 8) : Runs Tryz.prog 117 [.int .i64 n, .pointer (some ⟨i, 0, none⟩)] g (.bool (oddB N n)) g := by
  refine DetP.runs (w1117 ?_)
  unfold n1117
  ((with_reducible (refine mv_i ?_; refine mv_i ?_)); (refine ldoA ?_); (with_reducible (refine sub_a (by assumption) (by decide) (by decide) ?_)); (refine call_r (c96 _ _ _) ?_); (with_reducible (refine not_d (fun hb => ?_) (fun hb => ?_); refine mv_i ?_; refine ret1 ?_)); (rotate_left); (with_reducible (refine mv_i ?_; refine ret1 ?_)); (rotate_left))
  all_goals exact ⟨by simp [oddB, *], rfl⟩
theorem c1066 {i k z : Nat} {a N b c : Int} {u : Value} {g0 : Base} {Lm : List E} (M : Mem g0 g Lm) (q : Ent Lm i k [.int .i64 a, .int .i64 N, .int .i64 b, .int .i64 c, u] z) (n : Int) (hN : 0 ≤ N ∧ N ≤ 8) : Runs Tryz.prog 66 [.int .i64 n, .pointer (some ⟨i, 0, none⟩)] g (.bool (oddB N n)) g := by
  refine DetP.runs (w1066 ?_)
  unfold n1066
  ((with_reducible (refine mv_i ?_; refine mv_i ?_; refine fao ?_)); (refine ldoA ?_); (with_reducible (refine sub_a (by assumption) (by decide) (by decide) ?_)); (refine call_r (c48 _ _ _) ?_); (with_reducible (refine not_d (fun hb => ?_) (fun hb => ?_); refine mv_i ?_; refine ret1 ?_)); (rotate_left); (with_reducible (refine mv_i ?_; refine ret1 ?_)); (rotate_left))
  all_goals exact ⟨by simp [oddB, *], rfl⟩
theorem odd_all {N : Int} : ∀ (ws : List Int), (idxOf (oddB N) ws = -1 ↔ ws.all (fun n => decide (0 ≤ n ∧ n ≤ N - 1)) = true) := by
  intro ws
  rcases idxOf_spec (oddB N) ws with ⟨e, ho⟩ | ⟨k, hk, e, ho, _⟩
  · rw [e]
    refine ⟨fun _ => ?_, fun _ => rfl⟩
    rw [List.all_eq_true]
    intro n hn
    have := ho n hn
    unfold oddB at this
    simpa using this
  · rw [e]
    refine ⟨fun q => by omega, fun q => ?_⟩
    have h1 := List.all_eq_true.mp q (gt ws k) (mem_gt.mpr ⟨k, hk, rfl⟩)
    unfold oddB at ho
    rw [h1] at ho; cases ho
end Go.Proofs.YtomiejfeclefaaaGreat

set_option linter.unusedSimpArgs false
set_option linter.unusedVariables false
set_option linter.unnecessarySimpa false
set_option maxRecDepth 100000
set_option maxHeartbeats 4000000
namespace Go.Proofs.YtomiejfeclefaaaGreat
open Go.AM
variable {h g : Heap}
instance : Df (List Int) := ⟨[]⟩
/-- The program's error of a word. -/
theorem c1092 {v : Value} {ws : List Int} (s : L g v ws) (N : Int) (hN : 0 ≤ N ∧ N ≤ 8) : Runs Tryz.prog 92 [v, .int .i64 N] g (.int .i64 (wordE ws N 60)) g := by
  have lt := s.lt
  have m := Mem.start g
  refine DetP.forget rfl ?_
  refine w1092 ?_
  unfold n1092
  refine box_1 m rfl fun i0 h0 z0 p0 m => ?_
  ((with_reducible (refine mv_i ?_; refine mv_i ?_; refine mv_i ?_; refine mv_i ?_; refine len_g (by assumption) ?_; refine gtr_i (fun hc => ?_) (fun hc => ?_); refine cnd_t ?_; refine mv_i ?_; refine ret1 ?_)); (rotate_left); (with_reducible (refine cnd_f ?_; refine mv_i ?_; refine mv_i ?_)); (rotate_left))
  · exact ⟨by rw [wordE, if_pos (by omega)], Mem.pre (by assumption)⟩
  · refine call_r (c110 (p := oddB N) s.up fun n => c1117 m (by infer_instance) n hN) ?_
    have ho := odd_all (N := N) ws
    rcases idxOf_spec (oddB N) ws with ⟨e, _⟩ | ⟨k, hk, e, _⟩
    · rw [e, show decide (0 ≤ (-1 : Int)) = false from rfl]
      ((with_reducible (refine not_f ?_)); (refine call_r (c91 _ _) ?_); (with_reducible (refine mv_i ?_; refine ret1 ?_)))
      exact ⟨by rw [wordE, if_neg (by omega), if_pos (ho.mp e)]; rfl, Mem.pre (by assumption)⟩
    · rw [e, decide_eq_true (show 0 ≤ (k : Int) by omega)]
      ((with_reducible (refine not_t ?_)); (refine call_r (c91 _ _) ?_); (with_reducible (refine mv_i ?_; refine ret1 ?_)))
      exact ⟨by rw [wordE, if_neg (by omega), if_neg (fun q => by have := ho.mpr q; omega)]; rfl, Mem.pre (by assumption)⟩
/-- The error of words. -/
def suE (ws : List (List Int)) (N : Int) : Int := if 2000 < ws.length then 2 else (firstErr (fun k => wordE (gt ws k) N 60) ws.length).2
theorem gtl {α : Type} [Df α] {l : List α} {k : Nat} (hk : k < l.length) : l[k] = gt l k := by unfold gt; simp [List.getD, hk]
theorem c1008 {v : Value} {ws : List (List Int)} (s : L g v ws) (N : Int) (hN : 0 ≤ N ∧ N ≤ 8) : Runs Tryz.prog 8 [v, .int .i64 N] g (.int .i64 (suE ws N)) g := by
  have lt := s.lt
  refine DetP.runs (w1008 ?_)
  unfold n1008
  ((with_reducible (refine mv_i ?_; refine mv_i ?_; refine len_g (by assumption) ?_; refine gtr_i (fun hc => ?_) (fun hc => ?_); refine cnd_t ?_; refine mv_i ?_; refine ret1 ?_)); (rotate_left); (with_reducible (refine cnd_f ?_; refine mv_i ?_)); (rotate_left))
  · exact ⟨by rw [suE, if_pos (by omega)], rfl⟩
  · have hl := hc
    refine loop1 ws.length (fun k h2 => g = h2 ∧ ∀ j, j < k → wordE (gt ws j) N 60 = 0) ⟨rfl, fun j hj => by omega⟩ ?_
    rintro k _ _ hk ⟨rfl, hJ⟩
    ((with_reducible (refine mv_i ?_; refine mv_i ?_; refine len_g (by assumption) ?_; refine lss_i (fun hc => ?_) (fun hc => ?_); refine cnd_t ?_; refine mv_i ?_; refine mv_i ?_)); (rotate_left); (with_reducible (refine cnd_f ?_; refine mv_i ?_; refine ret1 ?_)); (rotate_left))
    · have hkl : k < ws.length := by omega
      refine idx_l s rfl hkl fun p y1 hp s1 => ?_
      ((refine ldgA ?_); (with_reducible (refine mv_i ?_)))
      refine call_r (c36 s1.up N 60 hN) ?_
      rw [gtl hkl]
      ((with_reducible (refine mv_i ?_; refine mv_i ?_; refine neq_i (fun hc => ?_) (fun hc => ?_); refine cnd_f ?_; refine mv_i ?_; refine inc_i (by omega) ?_; refine mv_i ?_)); (rotate_left); (with_reducible (refine cnd_t ?_; refine mv_i ?_; refine mv_i ?_; refine ret1 ?_)); (rotate_left))
      · refine next1 hkl ⟨rfl, fun j hj => ?_⟩
        by_cases e : j = k
        · subst e; assumption
        · exact hJ j (by omega)
      · exact ⟨by rw [suE, if_neg (by omega), firstErr_at hJ hkl (by assumption)], rfl⟩
    · exact ⟨by rw [suE, if_neg (by omega), firstErr_no fun j hj => hJ j (by omega)], rfl⟩
theorem wordE_or {w : List Int} {N : Int} (b1 b2 : Bool) (h1 : b1 = decide ((w.length : Int) ≤ 60)) (h2 : b2 = !decide (0 ≤ idxOf (oddB N) w)) : orOf [unl b1 2, unl b2 3] = wordE w N 60 := by
  subst h1 h2
  have ho := odd_all (N := N) w
  rw [orOf_cons, orOf_cons, orOf_nil]
  unfold wordE unl
  by_cases q1 : (w.length : Int) ≤ 60
  · have : ¬ (60 : Int) < w.length := by omega
    rcases idxOf_spec (oddB N) w with ⟨e, _⟩ | ⟨k, hk, e, _⟩
    · have h3 := ho.mp e
      simp only [q1, e, this, h3, decide_true, if_true, if_false]; decide
    · have h3 : ¬ w.all (fun n => decide (0 ≤ n ∧ n ≤ N - 1)) = true := fun q => by have := ho.mpr q; omega
      have h4 : 0 ≤ (k : Int) := by omega
      simp only [q1, e, this, h3, h4, decide_true, if_true, if_false]; decide
  · have : (60 : Int) < w.length := by omega
    simp [q1, this]
theorem c1025 {v y : Value} {x : Mach} {ws : List (List Int)} (s : MacV g v x) (t : L g y ws) (hN : 0 ≤ x.inputs ∧ x.inputs ≤ 8) : Runs Tryz.prog 25 [v, y] g (.int .i64 (suE ws x.inputs)) g := by
  obtain ⟨tv, rfl, s⟩ := s
  obtain ⟨b0, q0, rfl, _⟩ := s.shape
  have lt := t.lt
  have m := Mem.start g
  refine DetP.forget rfl ?_
  refine w1025 ?_
  unfold n1025
  refine box_a m fun i0 h0 z0 p0 m => ?_
  ((with_reducible (refine mv_i ?_; refine mv_i ?_; refine len_g (by assumption) ?_; refine gtr_i (fun hc => ?_) (fun hc => ?_); refine cnd_t ?_; refine mv_i ?_; refine ret1 ?_)); (rotate_left); (with_reducible (refine cnd_f ?_; refine mv_i ?_; refine len_g (by assumption) ?_; refine mv_i ?_)); (rotate_left))
  · exact ⟨by rw [suE, if_pos (by omega)], Mem.pre (by assumption)⟩
  · have hl := hc
    refine loop1 ws.length (fun k h2 => Prec h0 h2 ∧ Mem g h2 [⟨some i0, [.int .i64 x.states, .int .i64 x.inputs, .int .i64 x.outputs, .int .i64 x.start, .slice b0 x.steps.length q0], z0⟩] ∧ ∀ j, j < k → wordE (gt ws j) x.inputs 60 = 0) ⟨⟨Stab.refl _⟩, m, fun j hj => by omega⟩ ?_
    rintro k h2 _ hk ⟨p2, m, hJ⟩
    ((with_reducible (refine lss_i (fun hc => ?_) (fun hc => ?_); refine cnd_t ?_)); (rotate_left); (with_reducible (refine cnd_f ?_; refine mv_i ?_; refine ret1 ?_)); (rotate_left))
    · have hkl : k < ws.length := by omega
      refine idx_l t rfl hkl fun p y1 hp s1 => ?_
      rw [gtl hkl] at s1
      have lt1 := s1.lt
      ((refine ldgA ?_); (with_reducible (refine mv_i ?_; refine mv_i ?_; refine mv_i ?_; refine mv_i ?_; refine len_g (by assumption) ?_; refine leq_i (fun hc => ?_) (fun hc => ?_))); (refine call_r (c77 _ _) ?_); (with_reducible (refine mv_i ?_; refine mv_i ?_)); (rotate_left); (refine call_r (c77 _ _) ?_); (with_reducible (refine mv_i ?_; refine mv_i ?_)); (rotate_left))
      all_goals
        refine call_r (c110 (p := oddB x.inputs) s1.up fun n => c1066 m (by infer_instance) n hN) ?_
        refine not_i ?_
        (repeat' (first|((with_reducible refine is_callf 54 ?_); refine call_r (c48 _ _ _) ?_)|((with_reducible refine is_calldf 54 ?_); refine calld_r (c48 _ _ _) ?_)|((with_reducible refine is_callf 64 ?_); refine call_r (c53 _ _ _) ?_)|((with_reducible refine is_calldf 64 ?_); refine calld_r (c53 _ _ _) ?_)|((with_reducible refine is_callf 91 ?_); refine call_r (c96 _ _ _) ?_)|((with_reducible refine is_calldf 91 ?_); refine calld_r (c96 _ _ _) ?_)|((with_reducible refine is_callf 52 ?_); refine call_r c72t ?_)|((with_reducible refine is_calldf 52 ?_); refine calld_r c72t ?_)|((with_reducible refine is_callf 52 ?_); refine call_r c72f ?_)|((with_reducible refine is_calldf 52 ?_); refine calld_r c72f ?_)|((with_reducible refine is_callf 52 ?_); refine call_r (c72 _) ?_)|((with_reducible refine is_calldf 52 ?_); refine calld_r (c72 _) ?_)|((with_reducible refine is_callf 65 ?_); refine call_r (c77 _ _) ?_)|((with_reducible refine is_calldf 65 ?_); refine calld_r (c77 _ _) ?_)|((with_reducible refine is_callf 72 ?_); refine call_r (c91 _ _) ?_)|((with_reducible refine is_calldf 72 ?_); refine calld_r (c91 _ _) ?_)|((with_reducible refine is_callf 79 ?_); refine call_r (c107 _) ?_)|((with_reducible refine is_calldf 79 ?_); refine calld_r (c107 _) ?_)|((with_reducible refine is_callf 39 ?_); refine call_r (c81 _ _) ?_)|((with_reducible refine is_calldf 39 ?_); refine calld_r (c81 _ _) ?_)|((with_reducible refine is_callf 23 ?_); refine call_r (c76 (own_ints (xs := [_, _, _]) (by assumption) (q := by infer_instance) rfl rfl (by decide))) ?_)|((with_reducible refine is_calldf 23 ?_); refine calld_r (c76 (own_ints (xs := [_, _, _]) (by assumption) (q := by infer_instance) rfl rfl (by decide))) ?_)|((with_reducible refine is_callf 38 ?_); refine call_r (c80 (own_ints (xs := [_, _, _]) (by assumption) (q := by infer_instance) rfl rfl (by decide))) ?_)|((with_reducible refine is_calldf 38 ?_); refine calld_r (c80 (own_ints (xs := [_, _, _]) (by assumption) (q := by infer_instance) rfl rfl (by decide))) ?_)|((with_reducible refine is_callf 38 ?_); refine call_r (c80 (own_ints (xs := [_, _]) (by assumption) (q := by infer_instance) rfl rfl (by decide))) ?_)|((with_reducible refine is_calldf 38 ?_); refine calld_r (c80 (own_ints (xs := [_, _]) (by assumption) (q := by infer_instance) rfl rfl (by decide))) ?_)|((with_reducible refine is_callf 51 ?_); refine call_r (c46 _ _) ?_)|((with_reducible refine is_calldf 51 ?_); refine calld_r (c46 _ _) ?_)|((with_reducible refine is_callf 55 ?_); refine call_r (c49 _ _) ?_)|((with_reducible refine is_calldf 55 ?_); refine calld_r (c49 _ _) ?_)|((with_reducible refine is_callf 61 ?_); refine call_r (c54 (own_ints (xs := [_, _]) (by assumption) (q := by infer_instance) rfl rfl (by decide)) (own_ints (xs := [_, _]) (by assumption) (q := by infer_instance) rfl rfl (by decide))) ?_)|((with_reducible refine is_calldf 61 ?_); refine calld_r (c54 (own_ints (xs := [_, _]) (by assumption) (q := by infer_instance) rfl rfl (by decide)) (own_ints (xs := [_, _]) (by assumption) (q := by infer_instance) rfl rfl (by decide))) ?_)|((with_reducible refine is_callf 87 ?_); refine call_r (c74 ⟨_, by with_unfolding_all rfl, L.up (by assumption)⟩ _ _) ?_)|((with_reducible refine is_calldf 87 ?_); refine calld_r (c74 ⟨_, by with_unfolding_all rfl, L.up (by assumption)⟩ _ _) ?_)|((with_reducible refine is_callf 86 ?_); refine call_r (c73 ⟨_, by with_unfolding_all rfl, L.up (by assumption)⟩) ?_)|((with_reducible refine is_callf 82 ?_); refine call_r (c75 ⟨_, by with_unfolding_all rfl, L.up (by assumption)⟩) ?_)|((with_reducible refine is_calldf 62 ?_); refine calld_d (c59 _) (by assumption) fun v h p1 p m s1 => ?_)|((with_reducible refine is_calldf 61 ?_); refine calld_r (c54 (L.ints (L.up (by assumption))) (L.ints (L.up (by assumption)))) ?_)|((with_reducible refine is_callf 63 ?_); refine call_r (c60 _ _) ?_)|((with_reducible refine is_calldf 63 ?_); refine calld_r (c60 _ _) ?_)|((with_reducible refine is_callf 20 ?_); refine call_r (c12 ⟨_, by with_unfolding_all rfl, L.up (by assumption)⟩) ?_)|((with_reducible refine is_callf 48 ?_); refine call_r (c43 ⟨_, by with_unfolding_all rfl, L.up (by assumption)⟩) ?_)|((with_reducible refine is_callf 23 ?_); refine call_r (c76 (own_ints (xs := [_]) (by assumption) (q := by infer_instance) rfl rfl (by decide))) ?_)|((with_reducible refine is_callf 23 ?_); refine call_r (c76 (own_ints (xs := [_, _]) (by assumption) (q := by infer_instance) rfl rfl (by decide))) ?_)|((with_reducible refine is_calldf 23 ?_); refine calld_r (c76 (own_ints (xs := [_, _]) (by assumption) (q := by infer_instance) rfl rfl (by decide))) ?_)|((with_reducible refine is_rl1 ?_); first|(refine rt_w1 (by assumption) (by infer_instance) (by with_unfolding_all rfl) ?_)|(refine rt_11 (by assumption) (by infer_instance) (by with_unfolding_all rfl) ?_))|((with_reducible refine is_rl2 ?_); first|(refine rt_w2 (by assumption) (by infer_instance) (by with_unfolding_all rfl) ?_)|(refine rt_12 (by assumption) (by infer_instance) (by with_unfolding_all rfl) ?_))|((with_reducible refine is_vk ?_); first|(with_reducible refine not_dh (by assumption) ?_)|(with_reducible refine not_dn (by assumption) ?_)|(with_reducible refine not_d (fun hb => ?_) (fun hb => ?_))|(with_reducible refine pick_dh (by assumption) ?_)|(with_reducible refine pick_dn (by assumption) ?_)|(with_reducible refine pick_d (fun hb => ?_) (fun hb => ?_))|(refine len_x (by assumption) ?_)|(with_reducible refine pnn_g (by assumption) ?_)|(with_reducible refine len_o (by assumption) ?_)|(with_reducible refine nil_i ?_)|(with_reducible refine ex2_0 ?_)|(with_reducible refine ex2_1 ?_)|(with_reducible refine ex3_0 ?_)|(with_reducible refine ex3_1 ?_)|(with_reducible refine ex3_2 ?_)|(with_reducible refine pick_t ?_)|(with_reducible refine pick_f ?_)|(with_reducible refine not_t ?_)|(with_reducible refine not_f ?_)|(with_reducible refine pick_h (by assumption) ?_)|(with_reducible refine pick_n (by assumption) ?_)|(with_reducible refine not_h (by assumption) ?_)|(with_reducible refine not_n (by assumption) ?_)|(with_reducible refine not_s (fun hb => ?_) (fun hb => ?_))|(with_reducible refine pick_s (fun hb => ?_) (fun hb => ?_))|(with_reducible refine len_g (by assumption) ?_)|(with_reducible refine slen_i ?_)|(with_reducible refine len_s ?_)|(refine fld_g (by with_unfolding_all rfl) ?_)|(with_reducible refine leni_t (by assumption) ?_))|((with_reducible refine is_gd ?_); first|(with_reducible refine gd_dht (by assumption) ?_)|(with_reducible refine gd_dnt (by assumption) ?_)|(with_reducible refine gd_dhf (by assumption) ?_)|(with_reducible refine gd_dnf (by assumption) ?_)|(with_reducible refine gd_dt (fun hb => ?_) (fun hb => ?_))|(with_reducible refine gd_df (fun hb => ?_) (fun hb => ?_))|(with_reducible refine gd_tt ?_)|(with_reducible refine gd_ff ?_)|(with_reducible refine gd_tf ?_)|(with_reducible refine gd_ft ?_)|(with_reducible refine gd_u ?_)|(with_reducible refine gd_ht (by assumption) ?_)|(with_reducible refine gd_hf (by assumption) ?_)|(with_reducible refine gd_nt (by assumption) ?_)|(with_reducible refine gd_nf (by assumption) ?_)|(with_reducible refine gd_st (fun hb => ?_) (fun hb => ?_))|(with_reducible refine gd_sf (fun hb => ?_) (fun hb => ?_)))|((with_reducible refine is_cnd ?_); first|(with_reducible refine cnd_dh (by assumption) ?_)|(with_reducible refine cnd_dn (by assumption) ?_)|(with_reducible refine cnd_d (fun hb => ?_) (fun hb => ?_))|(with_reducible refine cnd_t ?_)|(with_reducible refine cnd_f ?_)|(with_reducible refine cnd_h (by assumption) ?_)|(with_reducible refine cnd_n (by assumption) ?_)|(with_reducible refine cnd_b (fun hb => ?_) (fun hb => ?_)))|((with_reducible refine is_bin ?_); first|(with_reducible refine sub_a (by assumption) (by decide) (by decide) ?_)|(with_reducible refine snil_i (fun hn => ?_) (fun hn => ?_))|(with_reducible refine prq_i (fun hc => ?_) (fun hc => ?_))|(refine mul_j (by omega) (by omega) ?_)|(with_reducible refine stne_i (fun hc => ?_) (fun hc => ?_))|(with_reducible refine pnil_g ptr135 (by assumption) ?_)|(with_reducible refine eql_h (by first | assumption | decide) ?_)|(with_reducible refine eql_n (by first | assumption | decide) ?_)|(with_reducible refine neq_h (by first | assumption | decide) ?_)|(with_reducible refine neq_n (by first | assumption | decide) ?_)|(with_reducible refine lss_i (fun hc => ?_) (fun hc => ?_))|(with_reducible refine leq_i (fun hc => ?_) (fun hc => ?_))|(with_reducible refine gtr_i (fun hc => ?_) (fun hc => ?_))|(with_reducible refine geq_i (fun hc => ?_) (fun hc => ?_))|(with_reducible refine eql_i (fun hc => ?_) (fun hc => ?_))|(with_reducible refine neq_i (fun hc => ?_) (fun hc => ?_))|(with_reducible refine seq_s (fun hc => ?_) (fun hc => ?_))|(with_reducible refine sne_s (fun hc => ?_) (fun hc => ?_))|(with_reducible refine sls_i ?_)|(with_reducible refine inc_i (by omega) ?_)|(with_reducible refine sub_j (by omega) (by omega) ?_)|(with_reducible refine add_j (by omega) (by omega) ?_))|((with_reducible refine is_six ?_); first|(with_reducible refine sidx_0 (by omega) ?_))|((with_reducible refine is_idx ?_); first|(refine ia_g (by assumption) (by omega) (by omega) fun p hp => ?_)|(refine ia_o (by omega) (by omega) ?_)|(refine idx_x (by assumption) (by with_unfolding_all rfl) (by omega) fun p w hp => ?_)|(refine idx_tab (by assumption) (by with_unfolding_all rfl) (by omega) (by omega) (by omega) fun p w hp hr => ?_)|(refine idx_row (by assumption) (by with_unfolding_all rfl) (by omega) (by omega) fun p w hp hq => ?_)|(refine idxA fun p hp => ?_)|(refine idx_dp (by assumption) (by with_unfolding_all rfl) (by omega) (by omega) fun p hp => ?_)|(refine idx_dz (by assumption) (by with_unfolding_all rfl) (by omega) (by omega) fun p hp => ?_)|(refine idx_f (by assumption) (by with_unfolding_all rfl) (by omega) fun p hp => ?_)|(refine idx_fz (by assumption) (by with_unfolding_all rfl) (by omega) (by omega) fun p hp => ?_)|(refine idxi_t (by assumption) (by omega) ?_)|(refine idx_o (by assumption) (by omega) ?_)|(refine idx_oz (by assumption) (by omega) (by omega) ?_))|((with_reducible refine is_fa ?_); first|(with_reducible refine fa_g (by assumption) fun p hp => ?_)|(with_reducible refine fao_e ?_)|(with_reducible refine fao ?_))|((with_reducible refine is_ldo ?_); first|(refine ldoA ?_)|(refine ldwA ?_)|(refine ldor (by assumption) (q := by infer_instance) (by with_unfolding_all rfl) (by with_unfolding_all exact Nat.le_refl _) ?_)|(refine ldf_d (by assumption) (by infer_instance) (by with_unfolding_all rfl) (by omega) (by with_unfolding_all exact Nat.le_of_ble_eq_true rfl) (by with_unfolding_all rfl) ?_)|(refine ldw_d (by assumption) (by infer_instance) (by with_unfolding_all rfl) (by omega) ?_))|((with_reducible refine is_ld ?_); first|(refine ldgA ?_)|(refine ldr_w (by assumption) (by with_unfolding_all rfl) ?_)|(refine ldr_g (by assumption) (by with_unfolding_all rfl) (by with_unfolding_all exact Nat.le_refl _) ?_)|(refine ldi_t (by assumption) (by omega) ?_))|((with_reducible refine is_box ?_); first|(with_reducible refine box_a (by assumption) fun i h z p m => ?_)|(refine box_1 (by assumption) (by with_unfolding_all rfl) fun i h z p m => ?_))|((with_reducible refine is_ok ?_); first|(with_reducible refine alloc_z (by assumption) fun i h z p m => ?_))|((with_reducible refine is_st ?_); first|(refine sto (by assumption) (q := by infer_instance) (by with_unfolding_all exact Nat.le_of_ble_eq_true rfl) rfl rfl (u := by infer_instance) fun h p m => ?_)|(refine st_w (by assumption) (by infer_instance) (by with_unfolding_all rfl) (by with_unfolding_all rfl) (by first | rfl | exact flat_ones (Flat.flat _)) (by infer_instance) fun h p m => ?_)|(refine stw_o (by assumption) (by infer_instance) (by with_unfolding_all rfl) (by omega) (by infer_instance) fun h p m => ?_))|((with_reducible refine is_new ?_); first|(with_reducible refine new_n ?_)|(with_reducible refine new_p (by assumption) ?_))|((with_reducible refine is_pd ?_); first|(refine pd_p (by assumption) (by with_unfolding_all rfl) ?_)|(refine pd_c (by assumption) (by infer_instance) (by with_unfolding_all rfl) ?_)|(refine pd_o (by assumption) (by infer_instance) (by with_unfolding_all rfl) ?_))|((with_reducible refine is_vb ?_); first|(refine vb_mac (by assumption) ?_)|(with_reducible refine vb_pt (by assumption) ?_)|(with_reducible refine vb_f ?_)|(refine vbA ?_)|(with_reducible refine vb_l (by assumption) ?_)|(refine vb_as rfl (by assumption) ?_)|(refine vb_ao rfl (by assumption) (by assumption) (by infer_instance) ?_)|(refine IsSl.vb (by assumption) (by assumption) (by infer_instance) ?_))|((with_reducible refine is_tru ?_); first|(with_reducible refine ⟨trivial, ?_⟩))|((with_reducible refine is_ret ?_); first|(with_reducible refine ret1 ?_)|(with_reducible refine ret2 ?_)|(with_reducible refine ret3 ?_)|(with_reducible refine ret0 ?_))|((with_reducible refine is_bld ?_); first|(refine vk_i (bd24_z) ?_)|(refine vk_i (bd77_01 _ _) ?_)|(refine vk_i (bd104_01 _ _) ?_)|(refine vk_i (bd104_012 _ _ _ _ _) ?_)|(refine vk_i (bd33_z) ?_))|((with_reducible refine is_bsl ?_); first|(refine bs_g (bs36_0 _) (by assumption) fun i h p m => ?_)|(refine bs_g (bs22_0 _) (by assumption) fun i h p m => ?_)|(refine bs_g (bs51_1 _ _ _ _) (by assumption) fun i h p m => ?_)|(refine bs_g (bs27_0 _) (by assumption) fun i h p m => ?_)|(refine bs_g (bs53_2 _ _ _) (by assumption) fun i h p m => ?_)|(refine bs_g (bs141_3 _ _ _ _) (by assumption) fun i h p m => ?_)|(refine bs_g (bs53_3 _ _ _ _) (by assumption) fun i h p m => ?_)|(refine bs_g (bs53_1 _ _) (by assumption) fun i h p m => ?_)|(refine bs_g (bs97_1 _ _ _ _ _ _ _ _) (by assumption) fun i h p m => ?_)|(refine bs_g (bs109_1 _ _ _ _) (by assumption) fun i h p m => ?_)|(refine bs_g (bs63_1 _ _ _ _ _ _) (by assumption) fun i h p m => ?_)|(refine bs_g (bs53_0 _) (by assumption) fun i h p m => ?_)|(refine bs_g (bs27_1 _ _) (by assumption) fun i h p m => ?_)|(refine bs_g (bs36_1 _ _) (by assumption) fun i h p m => ?_)|(refine bs_g (bs100_1 _ _) (by assumption) fun i h p m => ?_)|(refine bs_g (bs100_2 _ _ _) (by assumption) fun i h p m => ?_))|(with_reducible refine mv_i ?_)|(with_reducible refine seq_i ?_)|((with_reducible refine fun (_ : Tmps) => ?_); (try dsimp only [nth]))))
      all_goals
        have hq := wordE_or (w := gt ws k) (N := x.inputs) _ (!decide (0 ≤ idxOf (oddB x.inputs) (gt ws k))) (by first | exact (decide_eq_true (by assumption)).symm | exact (decide_eq_false (by assumption)).symm) rfl
        rw [hq] at hc
        first
          | (refine next1 hkl ⟨⟨Stb.st⟩, m.sub (by simp), fun j hj => ?_⟩
             by_cases e : j = k
             · subst e; exact hc
             · exact hJ j (by omega))
          | exact ⟨by rw [hq, suE, if_neg (by omega), firstErr_at hJ hkl (by assumption)], Mem.pre (by assumption)⟩
    · exact ⟨by rw [suE, if_neg (by omega), firstErr_no fun j hj => hJ j (by omega)], Mem.pre (by assumption)⟩
/-! ### searches among words -/
theorem c1069 {x : Value} {l : List (List Int)} {f : FuncId} {cap : Array Value} (s : L g x l) {p : List Int → Bool} (hpp : ∀ w ∈ l, ∀ v, L g v w → Runs Tryz.prog f ([v] ++ cap.toList) g (.bool (p w)) g) :
    Runs Tryz.prog 69 [x, .func (.func f) #[] cap] g (.int .i64 (idxOf p l)) g := by
  have lt := s.lt
  refine DetP.runs (w1069 ?_)
  unfold n1069
  ((with_reducible (refine mv_i ?_; refine mv_i ?_; refine len_g (by assumption) ?_; refine mv_i ?_)))
  refine loop1 l.length (fun k h2 => g = h2 ∧ ∀ j, j < k → p (gt l j) = false) ⟨rfl, fun j hj => by omega⟩ ?_
  rintro k _ _ hk ⟨rfl, hJ⟩
  ((with_reducible (refine lss_i (fun hc => ?_) (fun hc => ?_); refine cnd_t ?_; refine mv_i ?_; refine mv_i ?_; refine mv_i ?_; refine mv_i ?_; refine mv_i ?_)); (rotate_left); (with_reducible (refine cnd_f ?_; refine mv_i ?_; refine ret1 ?_)); (rotate_left))
  · have hkl : k < l.length := by omega
    refine idx_l s rfl hkl fun q y1 hp s1 => ?_
    rw [gtl hkl] at s1
    ((refine ldgA ?_))
    refine call_r (hpp _ (mem_gt.mpr ⟨k, hkl, rfl⟩) _ s1) ?_
    ((with_reducible (refine cnd_b (fun hb => ?_) (fun hb => ?_); refine mv_i ?_; refine mv_i ?_; refine ret1 ?_)); (rotate_left); (with_reducible (refine inc_i (by omega) ?_; refine mv_i ?_)); (rotate_left))
    · exact ⟨by rw [idxOf_at hJ (by omega) hb], rfl⟩
    · refine next1 (by omega) ⟨rfl, fun j hj => ?_⟩
      by_cases q : j = k
      · subst q; exact hb
      · exact hJ j (by omega)
  · exact ⟨by rw [idxOf_no fun j hj => hJ j (by omega)], rfl⟩
theorem c1027 {x : Value} {l : List (List Int)} {f : FuncId} {cap : Array Value} (s : L g x l) {p : List Int → Bool} (hpp : ∀ w ∈ l, ∀ v, L g v w → Runs Tryz.prog f ([v] ++ cap.toList) g (.bool (p w)) g) :
    Runs Tryz.prog 27 [x, .func (.func f) #[] cap] g (.bool (l.any p)) g := by
  refine DetP.runs (w1027 ?_)
  unfold n1027
  ((with_reducible (refine mv_i ?_; refine mv_i ?_; refine mv_i ?_)))
  refine call_r (c1069 s hpp) ?_
  rcases idxOf_spec p l with ⟨e, h1⟩ | ⟨k, hk, e, h1, _⟩
  · have e2 : l.any p = false := by rw [List.any_eq_false]; intro t ht; rw [h1 t ht]; simp
    rw [e, e2]
    ((with_reducible (refine geq_i (fun hc => ?_) (fun hc => ?_); refine mv_i ?_; refine ret1 ?_)); (rotate_left); (with_reducible (refine mv_i ?_; refine ret1 ?_)); (rotate_left))
    · omega
    · exact ⟨rfl, rfl⟩
  · have e2 : l.any p = true := List.any_eq_true.mpr ⟨gt l k, mem_gt.mpr ⟨k, hk, rfl⟩, h1⟩
    rw [e, e2]
    ((with_reducible (refine geq_i (fun hc => ?_) (fun hc => ?_); refine mv_i ?_; refine ret1 ?_)); (rotate_left); (with_reducible (refine mv_i ?_; refine ret1 ?_)); (rotate_left))
    · exact ⟨rfl, rfl⟩
    · omega
/-- Words, copied. -/
theorem c70r {x : Value} {l : List Int} (s : L g x l) (hb : l.length ≤ 1048576) : DetP Tryz.prog 32 [x] g fun v h' => g <+: h' ∧ ∃ b q n, v = .slice b n q ∧ n = l.length ∧ L h' (.slice b n q) l := by
  refine DetP.freeze ?_
  have m := Mem.start g
  refine w70 ?_
  unfold n70
  ((with_reducible (refine mv_i ?_)); (refine bs_g (bs53_0 _) (by assumption) fun i h p m => ?_); (with_reducible (refine mv_i ?_)))
  refine app_copy m (by infer_instance) s rfl ⟨by omega, by omega⟩ fun v o h2 p2 hv m => ?_
  simp only [List.set_cons_zero] at m
  ((with_reducible (refine mv_i ?_; refine ret1 ?_)))
  obtain ⟨b, c, rfl⟩ := hv.isS
  exact ⟨m.pre, b, c, _, rfl, rfl, IsSl.ro hv m (k := 0) rfl (by omega)⟩
theorem c1012 {y : Value} {ls : List (List Int)} (t : L g y ls) (hb : ls.length ≤ 1048576) (hl : ∀ l ∈ ls, l.length ≤ 1048576) : DetP Tryz.prog 12 [y] g fun v h' => g <+: h' ∧ ∃ b n q, v = .slice b n q ∧ n = ls.length ∧ L h' (.slice b n q) ls := by
  refine DetP.freeze ?_
  have m := Mem.start g
  refine w1012 ?_
  unfold n1012
  ((with_reducible (refine mv_i ?_; refine mv_i ?_; refine mv_i ?_)))
  refine loop2 ls.length (fun k a h => ∃ o cs, IsSl a o (ls.take k).length ∧ RdL h cs (ls.take k) ∧ Prec g h ∧ Mem g h [⟨o, cs, 1⟩]) ⟨none, [], IsSl.nil, RdL.nil _, ⟨Stab.refl _⟩, m.nil 1⟩ ?_
  rintro k a h2 _ hk ⟨o, cs, hs, hr, p2, m⟩
  have lt := t.lt
  ((with_reducible (refine mv_i ?_; refine mv_i ?_; refine len_g (by assumption) ?_; refine lss_i (fun hc => ?_) (fun hc => ?_); refine cnd_t ?_; refine mv_i ?_; refine mv_i ?_; refine mv_i ?_)); (rotate_left); (with_reducible (refine cnd_f ?_; refine mv_i ?_; refine mv_i ?_; refine ret1 ?_)); (rotate_left))
  · have hkl : k < ls.length := by omega
    refine idx_l t rfl hkl fun p y1 hp s1 => ?_
    ((refine ldgA ?_))
    refine call_d (c70r s1.up (hl _ (List.getElem_mem _))) m fun v2 h3 p3 p3' m ⟨b2, q2, n2, e2, hn2, s2⟩ => ?_
    subst e2
    ((refine bs_g (bs51_1 _ _ _ _) (by assumption) fun i h p m => ?_))
    have hrr : @Rep.rd (List Int) _ h [.slice b2 n2 q2] ls[k] := ⟨_, rfl, s2.up⟩
    refine app_snocR (k2 := 0) (j := 0) (a := ls[k]) m hs (by infer_instance) hr.up ⟨rfl⟩ hrr rfl ⟨by rw [List.length_take]; omega, by rw [List.length_take]; omega⟩ fun i3 h4 p4 m hr => ?_
    simp only [List.set_cons_succ, List.set_cons_zero] at m
    ((with_reducible (refine mv_i ?_; refine mv_i ?_; refine inc_i (by omega) ?_; refine mv_i ?_)))
    have e : ls.take (k + 1) = ls.take k ++ [ls[k]] := by rw [List.take_add_one]; simp [hkl]
    refine next2 hkl ⟨some i3, cs ++ [.slice b2 n2 q2], ?_, by rw [e]; exact hr, ⟨Stb.st⟩, m.tail⟩
    rw [e, List.length_append]
    exact IsSl.some0
  · have e : ls.take k = ls := List.take_of_length_le (by omega)
    rw [e] at hs hr
    obtain ⟨b, q, rfl⟩ := hs.isS
    exact ⟨m.pre, b, _, q, rfl, rfl, IsSl.roR hs m (k := 0) rfl rfl hr (by omega)⟩
theorem c1070 {v y : Value} {x : Mach} {wd : List Int} {q : Int} (s : MacV g v x) (t : L g y wd) (h0 : (chkM x).2 = 0) (hl : (x.steps.length : Int) = x.states * x.inputs) (hq : 0 ≤ q ∧ q ≤ x.states - 1) (hw : inW x wd) (hb : wd.length ≤ 60) :
    DetP Tryz.prog 70 [v, .int .i64 q, y] g fun v' h' => g <+: h' ∧ ∃ b n q1 b2 n2 q2, v' = .tuple #[.slice b n q1, .slice b2 n2 q2, .int .i64 0] ∧ L h' (.slice b n q1) (ans x q wd) := by
  refine DetP.freeze ?_
  obtain ⟨tv, rfl, s⟩ := s
  obtain ⟨b0, q0, rfl, _⟩ := s.shape
  obtain ⟨⟨a1, a2⟩, ⟨a3, a4⟩, _⟩ := (chk_ok h0).1
  have m := Mem.start g
  refine w1070 ?_
  unfold n1070
  refine box_a m fun ix hx0 zx p1 m => ?_
  have C := fun {h : Heap} {v : Value} (s : MacV h v x) => c90 (g := h) s
  rw [h0] at C
  have hwe : wordE wd x.inputs 60 = 0 := wordE_in hw (by omega)
  have D := fun {h : Heap} {v : Value} (t : L h v wd) => c1092 (g := h) t x.inputs ⟨by omega, a4⟩
  rw [hwe] at D
  ((with_reducible (refine mv_i ?_; refine mv_i ?_; refine mv_i ?_)); (refine ldwA ?_); (refine vb_mac (by assumption) ?_))
  refine calld_r (C ⟨_, rfl, s.up⟩) ?_
  ((with_reducible (refine new_n ?_; refine mv_i ?_; refine fao ?_)); (refine ldoA ?_); (refine vbA ?_); (with_reducible (refine sub_j (by omega) (by omega) ?_)); (refine calld_r (c96 _ _ _) ?_); (with_reducible (refine new_n ?_)); (refine calld_r (c91 _ _) ?_); (with_reducible (refine new_n ?_; refine mv_i ?_; refine fao ?_)); (refine ldoA ?_); (refine vbA ?_))
  refine calld_r (D t.up) ?_
  rw [decide_eq_true hq]
  ((with_reducible (refine new_n ?_)); (refine bs_g (bs141_3 _ _ _ _) (by assumption) fun i h p m => ?_); (refine calld_r (c76 (own_ints (xs := [_, _, _]) (by assumption) (q := by infer_instance) rfl rfl (by decide))) ?_); (with_reducible (refine new_n ?_; refine mv_i ?_; refine mv_i ?_; refine neq_h (by first | assumption | decide) ?_; refine cnd_f ?_)); (refine ldwA ?_))
  refine call_d (c92 ⟨_, rfl, s.up⟩ h0 hl) m fun v3 h3 p3 p3' m ⟨b3, q3, n3, e3, hn3, s3⟩ => ?_
  subst e3
  ((with_reducible (refine mv_i ?_; refine mv_i ?_; refine mv_i ?_)))
  refine seq_J (fun xs h => ∃ a b o1 o2, xs = [a, b] ∧ IsSl a o1 wd.length ∧ IsSl b o2 wd.length ∧ Mem g h [⟨o1, flat (ansN x q wd wd.length), 1⟩, ⟨o2, flat (stsN x q wd wd.length), 1⟩]) ?_ ?_
  · rintro _ h7 ⟨a, b, o1, o2, rfl, hs1, hs2, m⟩
    (((with_reducible refine fun (_ : Tmps) => ?_); (try dsimp only [nth])); (with_reducible (refine mv_i ?_; refine mv_i ?_; refine mv_i ?_; refine mv_i ?_; refine mv_i ?_; refine ret3 ?_)))
    obtain ⟨c1, d1, rfl⟩ := hs1.isS
    obtain ⟨c2, d2, rfl⟩ := hs2.isS
    have e := ansN_all (x := x) (q := q) (w := wd) wd.length (Nat.le_refl _)
    rw [List.take_length] at e
    refine ⟨m.pre, c1, _, d1, c2, _, d2, rfl, ?_⟩
    rw [← e]
    exact IsSl.ro (xs := ansN x q wd wd.length) (by rw [ansN_len]; exact hs1) m (k := 0) rfl (by rw [ansN_len]; omega)
  · intro k' hk'
    obtain ⟨hx, rfl⟩ : ∃ q, q = h3 := ⟨h3, rfl⟩
    have m := m.sub (List.sublist_cons_self _ _)
    ((with_reducible (refine mv_i ?_; refine len_g (by assumption) ?_; refine mv_i ?_)))
    refine loop4 wd.length (fun k a b c h => a = .int .i64 (stt x q wd k) ∧ ∃ o1 o2, IsSl b o1 (ansN x q wd k).length ∧ IsSl c o2 (stsN x q wd k).length ∧ Prec hx h ∧ Mem g h [⟨o1, flat (ansN x q wd k), 1⟩, ⟨o2, flat (stsN x q wd k), 1⟩, ⟨some ix, [.int .i64 x.states, .int .i64 x.inputs, .int .i64 x.outputs, .int .i64 x.start, .slice b0 x.steps.length q0], zx⟩]) ⟨rfl, none, none, IsSl.nil, IsSl.nil, ⟨Stab.refl _⟩, (m.nil 1).nil 1⟩ ?_
    rintro k a b c h2 _ hk ⟨rfl, o1, o2, hs1, hs2, p2, m⟩
    have tl1 := ansN_len x q wd k
    have tl2 := stsN_len x q wd k
    by_cases hkl : k < wd.length
    · have hsi := stt_in h0 hl hq hw k hk
      have hwi := hw _ (gd_mem Df.d hkl)
      change 0 ≤ gt wd k ∧ gt wd k ≤ x.inputs - 1 at hwi
      ((with_reducible (refine lss_i (fun hc => ?_) (fun hc => ?_); refine cnd_t ?_)); (refine idxA fun p hp => ?_); (refine ldgA ?_); (with_reducible (refine mv_i ?_; refine mv_i ?_; refine mv_i ?_)); (refine idx_tab (by assumption) (by with_unfolding_all rfl) (by omega) (by omega) (by omega) fun p w hp hr => ?_); (refine ldgA ?_); (with_reducible (refine mv_i ?_)); (refine idx_row (by assumption) (by with_unfolding_all rfl) (by omega) (by omega) fun p w hp hq => ?_); (refine ldgA ?_); (with_reducible (refine mv_i ?_; refine mv_i ?_; refine pnil_g ptr135 (by assumption) ?_; refine cnd_f ?_; refine mv_i ?_; refine pnn_g (by assumption) ?_; refine fa_g (by assumption) fun p hp => ?_)); (refine ldgA ?_); (with_reducible (refine mv_i ?_; refine mv_i ?_; refine mv_i ?_; refine pnn_g (by assumption) ?_; refine fa_g (by assumption) fun p hp => ?_)); (refine ldgA ?_); (refine bs_g (bs53_1 _ _) (by assumption) fun i h p m => ?_); (rotate_left); (with_reducible (refine cnd_f ?_)); (rotate_left))
      all_goals (try (exfalso; omega))
      refine app_snoc (a := (stO x (stt x q wd k) (gt wd k)).out) (k2 := 0) (j := 0) m hs1 (by infer_instance) ⟨rfl⟩ rfl ⟨by omega, by omega⟩ fun i3 h7 p7 m => ?_
      simp only [List.set_cons_succ, List.set_cons_zero] at m
      ((with_reducible (refine mv_i ?_; refine mv_i ?_)); (refine bs_g (bs53_1 _ _) (by assumption) fun i h p m => ?_))
      refine app_snoc (a := (stO x (stt x q wd k) (gt wd k)).to) (k2 := 0) (j := 0) m hs2 (by infer_instance) ⟨rfl⟩ rfl ⟨by omega, by omega⟩ fun i4 h8 p8 m => ?_
      simp only [List.set_cons_succ, List.set_cons_zero] at m
      ((with_reducible (refine mv_i ?_; refine mv_i ?_; refine inc_i (by omega) ?_; refine mv_i ?_)))
      refine next4 hkl ⟨by rw [stt_next hkl], some i3, some i4, by rw [ansN_next, List.length_append]; exact IsSl.some0, by rw [stsN_next, List.length_append]; exact IsSl.some0, ⟨Stb.st⟩, by rw [ansN_next, stsN_next]; exact m.tail.tail⟩
    · ((with_reducible (refine lss_i (fun hc => ?_) (fun hc => ?_); refine cnd_t ?_)); (refine idxA fun p hp => ?_); (refine ldgA ?_); (with_reducible (refine mv_i ?_; refine mv_i ?_; refine mv_i ?_)); (refine idx_tab (by assumption) (by with_unfolding_all rfl) (by omega) (by omega) (by omega) fun p w hp hr => ?_); (refine ldgA ?_); (with_reducible (refine mv_i ?_)); (refine idx_row (by assumption) (by with_unfolding_all rfl) (by omega) (by omega) fun p w hp hq => ?_); (refine ldgA ?_); (with_reducible (refine mv_i ?_; refine mv_i ?_; refine pnil_g ptr135 (by assumption) ?_; refine cnd_f ?_; refine mv_i ?_; refine pnn_g (by assumption) ?_; refine fa_g (by assumption) fun p hp => ?_)); (refine ldgA ?_); (with_reducible (refine mv_i ?_; refine mv_i ?_; refine mv_i ?_; refine pnn_g (by assumption) ?_; refine fa_g (by assumption) fun p hp => ?_)); (refine ldgA ?_); (refine bs_g (bs53_1 _ _) (by assumption) fun i h p m => ?_); (rotate_left); (with_reducible (refine cnd_f ?_)); (rotate_left))
      all_goals (try (exfalso; omega))
      have hkk : k = wd.length := by omega
      subst hkk
      exact hk' _ _ ⟨_, _, o1, o2, rfl, by rw [← tl1]; exact hs1, by rw [← tl2]; exact hs2, m.sub (by simp)⟩
end Go.Proofs.YtomiejfeclefaaaGreat

set_option linter.unusedSimpArgs false
set_option linter.unusedVariables false
set_option linter.unnecessarySimpa false
set_option maxRecDepth 100000
set_option maxHeartbeats 4000000
namespace Go.Proofs.YtomiejfeclefaaaGreat
open Go.AM
variable {h g : Heap}
instance : Df (List Mut) := ⟨[]⟩
/-! ### which mutants words kill -/
def kb (x z : Mach) (w : List Int) : Bool := !decide (ans x x.start w = ans z z.start w)
theorem c1029 {v u y : Value} {x zm : Mach} {w : List Int} (s : MacV g v x) (s' : MacV g u zm) (t : L g y w) (P : Par x zm) (hi : inP x ⟨x.start, zm.start⟩) (hw : inW x w) (hb : w.length ≤ 60) : Runs Tryz.prog 29 [v, u, y] g (.bool (kb x zm w)) g := by
  obtain ⟨tv, rfl, s⟩ := s
  obtain ⟨uv, rfl, s'⟩ := s'
  obtain ⟨b0, q0, rfl, _⟩ := s.shape
  obtain ⟨b1, q1, rfl, _⟩ := s'.shape
  have m := Mem.start g
  refine DetP.forget rfl ?_
  refine w1029 ?_
  unfold n1029
  ((with_reducible (refine box_a (by assumption) fun i h z p m => ?_; refine box_a (by assumption) fun i h z p m => ?_; refine mv_i ?_)); (refine ldwA ?_); (with_reducible (refine fao ?_)); (refine ldoA ?_); (with_reducible (refine mv_i ?_)))
  refine call_d (c1070 ⟨_, rfl, s.up⟩ t.up P.cx P.lx hi.1 hw hb) m fun v2 h2 p2 p2' m ⟨b2, n2, q2, b3, n3, q3, e2, s2⟩ => ?_
  subst e2
  ((with_reducible (refine mv_i ?_; refine ex3_0 ?_; refine ex3_1 ?_; refine ex3_2 ?_; refine mv_i ?_; refine mv_i ?_; refine mv_i ?_)); (refine ldwA ?_); (with_reducible (refine fao ?_)); (refine ldoA ?_); (with_reducible (refine mv_i ?_)))
  refine call_d (c1070 (x := zm) ⟨_, rfl, s'.up⟩ t.up P.cy P.ly (by rw [P.st]; exact hi.2) (fun n hn => by rw [P.ip]; exact hw n hn) hb) m fun v3 h3 p3 p3' m ⟨b4, n4, q4, b5, n5, q5, e3, s3⟩ => ?_
  subst e3
  ((with_reducible (refine mv_i ?_; refine ex3_0 ?_; refine ex3_1 ?_; refine ex3_2 ?_; refine mv_i ?_; refine mv_i ?_; refine mv_i ?_; refine mv_i ?_; refine mv_i ?_)))
  refine call_r (c1042 s2.up s3.up) ?_
  refine not_i ?_
  ((with_reducible (refine mv_i ?_; refine ret1 ?_)))
  exact ⟨rfl, m.pre⟩
theorem c1028 {i j k1 k2 z1 z2 : Nat} {x z : Mach} {b0 b1 : Option Addr} {n0 q0 n1 q1 : Nat} {g0 : Base} {Lm : List E} {w : List Int} {y : Value} (M : Mem g0 g Lm)
    (e1 : Ent Lm i k1 [.int .i64 x.states, .int .i64 x.inputs, .int .i64 x.outputs, .int .i64 x.start, .slice b0 n0 q0] z1) (e2 : Ent Lm j k2 [.int .i64 z.states, .int .i64 z.inputs, .int .i64 z.outputs, .int .i64 z.start, .slice b1 n1 q1] z2)
    (s : L g (.slice b0 n0 q0) x.steps) (s' : L g (.slice b1 n1 q1) z.steps) (t : L g y w) (P : Par x z) (hi : inP x ⟨x.start, z.start⟩) (hw : inW x w) (hb : w.length ≤ 60) :
    Runs Tryz.prog 28 [y, .pointer (some ⟨i, 0, none⟩), .pointer (some ⟨j, 0, none⟩)] g (.bool (kb x z w)) g := by
  refine DetP.runs (w1028 ?_)
  unfold n1028
  ((with_reducible (refine mv_i ?_)); (refine ldwA ?_); (refine ldwA ?_); (with_reducible (refine mv_i ?_)))
  refine call_r (c1029 ⟨_, rfl, s⟩ ⟨_, rfl, s'⟩ t P hi hw hb) ?_
  ((with_reducible (refine mv_i ?_; refine ret1 ?_)))
  exact ⟨rfl, rfl⟩
structure SS where
  k : Int
  e : Int
  al : List Int
def scS (x : Mach) (ls : List (List Mut)) (ws : List (List Int)) : Nat → SS
  | 0 => ⟨0, 0, []⟩
  | n + 1 => if ws.any (kb x (mutd x (gt ls n))) = true then { scS x ls ws n with k := (scS x ls ws n).k + 1 }
    else if difE x (mutd x (gt ls n)) ⟨x.start, (mutd x (gt ls n)).start⟩ = 23 then { scS x ls ws n with e := (scS x ls ws n).e + 1 }
    else { scS x ls ws n with al := (scS x ls ws n).al ++ [(n : Int)] }
theorem scS_le (x : Mach) (ls : List (List Mut)) (ws : List (List Int)) : ∀ n, (0 ≤ (scS x ls ws n).k ∧ (scS x ls ws n).k ≤ n) ∧ (0 ≤ (scS x ls ws n).e ∧ (scS x ls ws n).e ≤ n) ∧ (scS x ls ws n).al.length ≤ n
  | 0 => by simp [scS]
  | n + 1 => by
    obtain ⟨h1, h2, h3⟩ := scS_le x ls ws n
    unfold scS
    split
    · exact ⟨by simp only; omega, by simp only; omega, by simp only; omega⟩
    · split
      · exact ⟨by simp only; omega, by simp only; omega, by simp only; omega⟩
      · exact ⟨by simp only; omega, by simp only; omega, by simp only [List.length_append, List.length_cons, List.length_nil]; omega⟩
theorem suE_ok {ws : List (List Int)} {x : Mach} (h : suE ws x.inputs = 0) : ws.length ≤ 2000 ∧ ∀ w ∈ ws, inW x w ∧ w.length ≤ 60 := by
  unfold suE at h
  split at h
  · cases h
  · refine ⟨by omega, fun w hw => ?_⟩
    obtain ⟨j, hj, rfl⟩ := mem_gt.mp hw
    obtain ⟨h1, h2⟩ := wordE_ok (firstErr_zero h j hj)
    exact ⟨h1, by omega⟩
theorem c1009 {v y u : Value} {x : Mach} {ls : List (List Mut)} {ws : List (List Int)} (s : MacV g v x) (t : L g y ls) (r : L g u ws) (hL : listE x ls = 0) (hS : suE ws x.inputs = 0) :
    DetP Tryz.prog 9 [v, y, u] g fun v' h' => g <+: h' ∧ ∃ b n q, v' = .tuple #[.agg #[.int .i64 (scS x ls ws ls.length).k, .int .i64 (scS x ls ws ls.length).e, .slice b n q], .int .i64 0] ∧ L h' (.slice b n q) (scS x ls ws ls.length).al := by
  refine DetP.freeze ?_
  obtain ⟨tv, rfl, s⟩ := s
  obtain ⟨b0, q0, rfl, _⟩ := s.shape
  obtain ⟨hE, hlen, hM⟩ := listE_ok hL
  obtain ⟨hx0, ⟨⟨a1, a2⟩, ⟨a3, a4⟩, _⟩, hl, hN⟩ := errM_ok hE
  have hsm := small hE
  have hws := suE_ok hS
  have m := Mem.start g
  refine w1009 ?_
  unfold n1009
  have C61 := fun {h : Heap} {v y : Value} (s : MacV h v x) (t : L h y ls) => c61 (g := h) s t
  rw [hL] at C61
  have C25 := fun {h : Heap} {v y : Value} (s : MacV h v x) (t : L h y ws) => c1025 (g := h) s t ⟨by omega, a4⟩
  rw [hS] at C25
  refine box_a m fun ix hx0 zx p1 m => ?_
  refine alloc_z m fun i6 h6 z6 p6 m => ?_
  ((with_reducible (refine mv_i ?_)); (refine ldwA ?_); (with_reducible (refine mv_i ?_)))
  refine call_r (C61 ⟨_, rfl, s.up⟩ t.up) ?_
  ((refine bs_g (bs53_1 _ _) (by assumption) fun i h p m => ?_); (refine call_r (c76 (own_ints (xs := [_]) (by assumption) (q := by infer_instance) rfl rfl (by decide))) ?_); (with_reducible (refine mv_i ?_; refine mv_i ?_; refine neq_h (by first | assumption | decide) ?_; refine cnd_f ?_)); (refine ldwA ?_); (with_reducible (refine mv_i ?_)))
  refine call_r (C25 ⟨_, rfl, s.up⟩ r.up) ?_
  ((with_reducible (refine mv_i ?_; refine mv_i ?_; refine neq_h (by first | assumption | decide) ?_; refine cnd_f ?_; refine alloc_z (by assumption) fun i h z p m => ?_; refine mv_i ?_; refine len_g (by assumption) ?_; refine mv_i ?_)))
  obtain ⟨i10, rfl⟩ : ∃ q, q = i := ⟨i, rfl⟩
  obtain ⟨z10, rfl⟩ : ∃ q, q = z := ⟨z, rfl⟩
  obtain ⟨hb0, rfl⟩ : ∃ q, q = h := ⟨h, rfl⟩
  refine loop1 ls.length (fun k h2 => ∃ a o1, IsSl a o1 (scS x ls ws k).al.length ∧ Prec hb0 h2 ∧ Mem g h2 [⟨some i10, [.int .i64 (scS x ls ws k).k, .int .i64 (scS x ls ws k).e, a], z10⟩, ⟨o1, flat (scS x ls ws k).al, 1⟩, ⟨some i6, [.int .i64 0, .int .i64 0, .slice none 0 0], z6⟩, ⟨some ix, [.int .i64 x.states, .int .i64 x.inputs, .int .i64 x.outputs, .int .i64 x.start, .slice b0 x.steps.length q0], zx⟩]) ⟨_, none, IsSl.nil, ⟨Stab.refl _⟩, ((m.sub (.cons_cons _ (.cons _ (List.Sublist.refl _)))).nil 1).perm (List.Perm.swap _ _ _)⟩ ?_
  rintro k h2 _ hk ⟨a, o1, hs, p2, m⟩
  obtain ⟨g1, g2, g3⟩ := scS_le x ls ws k
  obtain ⟨ao, ac, rfl⟩ := hs.isS
  ((with_reducible (refine lss_i (fun hc => ?_) (fun hc => ?_); refine cnd_t ?_)); (rotate_left); (with_reducible (refine cnd_f ?_)); (refine ldwA ?_); (refine st_w (by assumption) (by infer_instance) (by with_unfolding_all rfl) (by with_unfolding_all rfl) (by first | rfl | exact flat_ones (Flat.flat _)) (by infer_instance) fun h p m => ?_); (with_reducible (refine mv_i ?_)); (refine rt_w1 (by assumption) (by infer_instance) (by with_unfolding_all rfl) ?_); (with_reducible (refine ret2 ?_)); (rotate_left))
  · have hkl : k < ls.length := by omega
    refine seq_J (fun xs h2 => xs = [] ∧ ∃ a o1, IsSl a o1 (scS x ls ws (k + 1)).al.length ∧ Prec hb0 h2 ∧ Mem g h2 [⟨some i10, [.int .i64 (scS x ls ws (k + 1)).k, .int .i64 (scS x ls ws (k + 1)).e, a], z10⟩, ⟨o1, flat (scS x ls ws (k + 1)).al, 1⟩, ⟨some i6, [.int .i64 0, .int .i64 0, .slice none 0 0], z6⟩, ⟨some ix, [.int .i64 x.states, .int .i64 x.inputs, .int .i64 x.outputs, .int .i64 x.start, .slice b0 x.steps.length q0], zx⟩]) ?_ ?_
    · rintro _ h7 ⟨rfl, rest⟩
      (((with_reducible refine fun (_ : Tmps) => ?_); (try dsimp only [nth])); (with_reducible (refine inc_i (by omega) ?_; refine mv_i ?_)))
      exact next1 hkl rest
    · intro k' hk'
      have hMk := hM _ (gd_mem Df.d hkl)
      change (mutE x (gt ls k)).2 = 0 at hMk
      obtain ⟨m1, m2⟩ := mutE_ok hMk
      obtain ⟨P, hi⟩ := par_x (x := x) (l := gt ls k) (by rw [bothE, if_neg (by simpa using hE)]; exact hMk)
      have C50 := fun {h : Heap} {v y : Value} (s : MacV h v x) (t : L h y (gt ls k)) => c50 (g := h) s t (by omega) m2
      have hsc : scS x ls ws (k + 1) = if ws.any (kb x (mutd x (gt ls k))) = true then { scS x ls ws k with k := (scS x ls ws k).k + 1 }
        else if difE x (mutd x (gt ls k)) ⟨x.start, (mutd x (gt ls k)).start⟩ = 23 then { scS x ls ws k with e := (scS x ls ws k).e + 1 }
        else { scS x ls ws k with al := (scS x ls ws k).al ++ [(k : Int)] } := rfl
      generalize scS x ls ws (k + 1) = S1 at hsc hk'
      generalize scS x ls ws k = S0 at *
      generalize mutd x (gt ls k) = ym at *
      have C64 := fun {h : Heap} {v w : Value} (s : MacV h v x) (t : MacV h w ym) => c64 (g := h) s t P hi
      generalize difE x ym ⟨x.start, ym.start⟩ = de at *
      generalize difW x ym ⟨x.start, ym.start⟩ = dw at *
      ((with_reducible (refine mv_i ?_)))
      refine idx_l t rfl hkl fun p y1 hp s1 => ?_
      rw [gtl hkl] at s1
      ((refine ldgA ?_); (with_reducible (refine mv_i ?_; refine mv_i ?_)); (refine ldwA ?_); (with_reducible (refine mv_i ?_)))
      refine call_d (C50 ⟨_, rfl, s.up⟩ s1.up) m fun v2 h2 p3 p3' m ⟨b2, q2, n2, e2, hn2, s2⟩ => ?_
      subst e2
      ((with_reducible (refine alloc_z (by assumption) fun i h z p m => ?_)); (refine st_w (by assumption) (by infer_instance) (by with_unfolding_all rfl) (by with_unfolding_all rfl) (by first | rfl | exact flat_ones (Flat.flat _)) (by infer_instance) fun h p m => ?_); (with_reducible (refine mv_i ?_; refine mv_i ?_)))
      refine call_r (c1027 (p := kb x ym) r.up fun w hw v sv => c1028 m (by infer_instance) (by infer_instance) s.up s2.up sv P hi (hws.2 w hw).1 (hws.2 w hw).2) ?_
      generalize ws.any (kb x ym) = ab at *
      ((with_reducible (refine cnd_b (fun hb => ?_) (fun hb => ?_); refine fao ?_)); (refine ldoA ?_); (with_reducible (refine add_j (by omega) (by omega) ?_; refine fao ?_)); (refine sto (by assumption) (q := by infer_instance) (by with_unfolding_all exact Nat.le_of_ble_eq_true rfl) rfl rfl (u := by infer_instance) fun h p m => ?_); (rotate_left); (refine ldwA ?_); (refine ldwA ?_); (rotate_left))
      · rw [if_pos hb] at hsc
        subst hsc
        exact hk' _ _ ⟨rfl, _, o1, hs, ⟨Stb.st⟩, m.tail⟩
      · have hnb : ¬ ab = true := by rw [hb]; simp
        rw [if_neg hnb] at hsc
        refine call_d (C64 ⟨_, rfl, s.up⟩ ⟨_, rfl, s2.up⟩) m fun v3 h3 p4 p4' m ⟨b3, n3, q3, e3, s3⟩ => ?_
        subst e3
        ((with_reducible (refine mv_i ?_; refine ex2_0 ?_; refine ex2_1 ?_; refine mv_i ?_; refine mv_i ?_; refine mv_i ?_; refine eql_i (fun hc => ?_) (fun hc => ?_); refine cnd_t ?_; refine fao ?_)); (refine ldoA ?_); (with_reducible (refine add_j (by omega) (by omega) ?_; refine fao ?_)); (refine sto (by assumption) (q := by infer_instance) (by with_unfolding_all exact Nat.le_of_ble_eq_true rfl) rfl rfl (u := by infer_instance) fun h p m => ?_); (rotate_left); (with_reducible (refine cnd_f ?_; refine fao ?_)); (refine ldoA ?_); (with_reducible (refine mv_i ?_)); (refine bs_g (bs53_1 _ _) (by assumption) fun i h p m => ?_); (rotate_left))
        · rw [if_pos hc] at hsc
          subst hsc
          exact hk' _ _ ⟨rfl, _, o1, hs, ⟨Stb.st⟩, m.tail⟩
        · rw [if_neg hc] at hsc
          subst hsc
          refine app_snoc (a := (k : Int)) (k2 := 0) (j := 0) m hs (by infer_instance) ⟨rfl⟩ rfl ⟨by omega, by omega⟩ fun i3 h7 p7 m => ?_
          simp only [List.set_cons_succ, List.set_cons_zero] at m
          ((with_reducible (refine fao ?_)); (refine sto (by assumption) (q := by infer_instance) (by with_unfolding_all exact Nat.le_of_ble_eq_true rfl) rfl rfl (u := by infer_instance) fun h p m => ?_))
          refine hk' _ _ ⟨rfl, _, some i3, ?_, ⟨Stb.st⟩, m.tail.tail⟩
          rw [List.length_append]
          exact IsSl.some0
  · have hkk : k = ls.length := by omega
    subst hkk
    exact ⟨m.pre, ao, _, ac, rfl, IsSl.ro hs m (k := 1) rfl (by omega)⟩
/-- The reference: the first word that catches a mutant. -/
theorem c1033 {v u y : Value} {x zm : Mach} {ws : List (List Int)} (s : MacV g v x) (s' : MacV g u zm) (t : L g y ws) (P : Par x zm) (hi : inP x ⟨x.start, zm.start⟩) (hw : ∀ w ∈ ws, inW x w ∧ w.length ≤ 60) :
    Runs Tryz.prog 33 [v, u, y] g (.int .i64 (if ws.any (kb x zm) = true then idxOf (kb x zm) ws else ws.length)) g := by
  obtain ⟨tv, rfl, s⟩ := s
  obtain ⟨uv, rfl, s'⟩ := s'
  obtain ⟨b0, q0, rfl, _⟩ := s.shape
  obtain ⟨b1, q1, rfl, _⟩ := s'.shape
  have lt := t.lt
  have m := Mem.start g
  refine DetP.forget rfl ?_
  refine w1033 ?_
  unfold n1033
  refine box_a m fun i0 h0 z0 p0 m => ?_
  refine box_a m fun i1 h1 z1 p1 m => ?_
  ((with_reducible (refine mv_i ?_; refine mv_i ?_)))
  refine loop1 ws.length (fun k h2 => Prec h1 h2 ∧ Mem g h2 [⟨some i1, [.int .i64 zm.states, .int .i64 zm.inputs, .int .i64 zm.outputs, .int .i64 zm.start, .slice b1 zm.steps.length q1], z1⟩, ⟨some i0, [.int .i64 x.states, .int .i64 x.inputs, .int .i64 x.outputs, .int .i64 x.start, .slice b0 x.steps.length q0], z0⟩] ∧ ∀ j, j < k → kb x zm (gt ws j) = false) ⟨⟨Stab.refl _⟩, m, fun j hj => by omega⟩ ?_
  rintro k h2 _ hk ⟨p2, m, hJ⟩
  ((with_reducible (refine mv_i ?_; refine mv_i ?_; refine len_g (by assumption) ?_; refine lss_i (fun hc => ?_) (fun hc => ?_); refine cnd_t ?_)); (refine ldwA ?_); (refine vb_mac (by assumption) ?_); (refine ldwA ?_); (refine vb_mac (by assumption) ?_); (with_reducible (refine mv_i ?_; refine mv_i ?_)); (rotate_left); (with_reducible (refine cnd_f ?_; refine mv_i ?_; refine len_g (by assumption) ?_; refine mv_i ?_; refine ret1 ?_)); (rotate_left))
  · have hkl : k < ws.length := by omega
    refine idx_l t rfl hkl fun p y1 hp s1 => ?_
    rw [gtl hkl] at s1
    obtain ⟨hw1, hw2⟩ := hw _ (gd_mem Df.d hkl)
    ((refine ldgA ?_); (with_reducible (refine vb_l (by assumption) ?_)))
    refine call_r (c68 ⟨_, rfl, s.up⟩ ⟨_, rfl, s'.up⟩ s1.up P hi hw1 (by change (gt ws k).length ≤ 60 at hw2; omega)) ?_
    have hkb : (!decide (ans x x.start (gt ws k) = ans zm zm.start (gt ws k))) = kb x zm (gt ws k) := rfl
    rw [hkb]
    generalize hkk : kb x zm (gt ws k) = kk
    ((with_reducible (refine cnd_b (fun hb => ?_) (fun hb => ?_); refine mv_i ?_; refine mv_i ?_; refine ret1 ?_)); (rotate_left); (with_reducible (refine mv_i ?_; refine inc_i (by omega) ?_; refine mv_i ?_)); (rotate_left))
    · refine ⟨?_, Mem.pre (by assumption)⟩
      rw [if_pos (List.any_eq_true.mpr ⟨gt ws k, mem_gt.mpr ⟨k, hkl, rfl⟩, by rw [hkk]; assumption⟩), idxOf_at hJ hkl (by rw [hkk]; assumption)]
    · refine next1 hkl ⟨⟨Stb.st⟩, m, fun j hj => ?_⟩
      by_cases e : j = k
      · subst e; rw [hkk]; assumption
      · exact hJ j (by omega)
  · refine ⟨?_, Mem.pre (by assumption)⟩
    rw [if_neg]
    rw [Bool.not_eq_true, List.any_eq_false]
    intro w hw
    obtain ⟨j, hj, rfl⟩ := mem_gt.mp hw
    rw [hJ j (by omega)]; simp
end Go.Proofs.YtomiejfeclefaaaGreat

set_option linter.unusedSimpArgs false
set_option linter.unusedVariables false
set_option linter.unnecessarySimpa false
set_option maxRecDepth 100000
set_option maxHeartbeats 4000000
namespace Go.Proofs.YtomiejfeclefaaaGreat
open Go.AM
variable {h g : Heap}
theorem c1009a {v y u : Value} {x : Mach} {ls : List (List Mut)} {ws : List (List Int)} (s : MacV g v x) (t : L g y ls) (r : L g u ws) (hL : ¬ listE x ls = 0) :
    DetP Tryz.prog 9 [v, y, u] g fun v' h' => g <+: h' ∧ v' = .tuple #[.agg #[.int .i64 0, .int .i64 0, .slice none 0 0], .int .i64 (listE x ls)] := by
  obtain ⟨tv, rfl, s⟩ := s
  have m := Mem.start g
  refine w1009 ?_
  unfold n1009
  have C61 := fun {h : Heap} {v y : Value} (s : MacV h v x) (t : L h y ls) => c61 (g := h) s t
  generalize listE x ls = le at *
  refine box_a m fun ix hx0 zx p1 m => ?_
  refine alloc_z m fun i6 h6 z6 p6 m => ?_
  ((with_reducible (refine mv_i ?_)); (refine ldwA ?_); (with_reducible (refine mv_i ?_)))
  refine call_r (C61 ⟨_, rfl, s.up⟩ t.up) ?_
  have ho : orOf [le] = le := by
    rw [orOf_cons, orOf_nil]
    by_cases e : le = 0 <;> simp [e]
  ((refine bs_g (bs53_1 _ _) (by assumption) fun i h p m => ?_); (refine call_r (c76 (own_ints (xs := [_]) (by assumption) (q := by infer_instance) rfl rfl (by decide))) ?_); (with_reducible (refine mv_i ?_; refine mv_i ?_; refine neq_i (fun hc => ?_) (fun hc => ?_); refine cnd_f ?_)); (refine ldwA ?_); (with_reducible (refine mv_i ?_)); (rotate_left); (with_reducible (refine cnd_t ?_)); (refine vk_i (bd33_z) ?_); (with_reducible (refine mv_i ?_)); (refine st_w (by assumption) (by infer_instance) (by with_unfolding_all rfl) (by with_unfolding_all rfl) (by first | rfl | exact flat_ones (Flat.flat _)) (by infer_instance) fun h p m => ?_); (with_reducible (refine mv_i ?_)); (refine rt_w1 (by assumption) (by infer_instance) (by with_unfolding_all rfl) ?_); (with_reducible (refine ret2 ?_)); (rotate_left))
  · exfalso; rw [ho] at hc; exact hL hc
  · rw [ho]; exact ⟨m.pre, rfl⟩
theorem c1009b {v y u : Value} {x : Mach} {ls : List (List Mut)} {ws : List (List Int)} (s : MacV g v x) (t : L g y ls) (r : L g u ws) (hL : listE x ls = 0) (hS : ¬ suE ws x.inputs = 0) :
    DetP Tryz.prog 9 [v, y, u] g fun v' h' => g <+: h' ∧ v' = .tuple #[.agg #[.int .i64 0, .int .i64 0, .slice none 0 0], .int .i64 (suE ws x.inputs)] := by
  obtain ⟨tv, rfl, s⟩ := s
  obtain ⟨hE, hlen, hM⟩ := listE_ok hL
  obtain ⟨hx0, ⟨⟨a1, a2⟩, ⟨a3, a4⟩, _⟩, hl, hN⟩ := errM_ok hE
  have m := Mem.start g
  refine w1009 ?_
  unfold n1009
  have C61 := fun {h : Heap} {v y : Value} (s : MacV h v x) (t : L h y ls) => c61 (g := h) s t
  rw [hL] at C61
  have C25 := fun {h : Heap} {v y : Value} (s : MacV h v x) (t : L h y ws) => c1025 (g := h) s t ⟨by omega, a4⟩
  generalize suE ws x.inputs = le at *
  refine box_a m fun ix hx0 zx p1 m => ?_
  refine alloc_z m fun i6 h6 z6 p6 m => ?_
  ((with_reducible (refine mv_i ?_)); (refine ldwA ?_); (with_reducible (refine mv_i ?_)))
  refine call_r (C61 ⟨_, rfl, s.up⟩ t.up) ?_
  ((refine bs_g (bs53_1 _ _) (by assumption) fun i h p m => ?_); (refine call_r (c76 (own_ints (xs := [_]) (by assumption) (q := by infer_instance) rfl rfl (by decide))) ?_); (with_reducible (refine mv_i ?_; refine mv_i ?_; refine neq_h (by first | assumption | decide) ?_; refine cnd_f ?_)); (refine ldwA ?_); (with_reducible (refine mv_i ?_)))
  refine call_r (C25 ⟨_, rfl, s.up⟩ r.up) ?_
  ((with_reducible (refine mv_i ?_; refine mv_i ?_; refine neq_n (by first | assumption | decide) ?_; refine cnd_t ?_)); (refine vk_i (bd33_z) ?_); (with_reducible (refine mv_i ?_)); (refine st_w (by assumption) (by infer_instance) (by with_unfolding_all rfl) (by with_unfolding_all rfl) (by first | rfl | exact flat_ones (Flat.flat _)) (by infer_instance) fun h p m => ?_); (with_reducible (refine mv_i ?_)); (refine rt_w1 (by assumption) (by infer_instance) (by with_unfolding_all rfl) ?_); (with_reducible (refine ret2 ?_)))
  exact ⟨m.pre, rfl⟩
theorem c1013 {v y u : Value} {x : Mach} {ls : List (List Mut)} {ws : List (List Int)} (s : MacV g v x) (t : L g y ls) (r : L g u ws) (hL : listE x ls = 0) (hS : suE ws x.inputs = 0) :
    DetP Tryz.prog 13 [v, y, u] g fun v' h' => g <+: h' ∧ ∃ b n q, v' = .agg #[.int .i64 (scS x ls ws ls.length).k, .int .i64 (scS x ls ws ls.length).e, .slice b n q] ∧ L h' (.slice b n q) (scS x ls ws ls.length).al := by
  refine DetP.freeze ?_
  obtain ⟨tv, rfl, s⟩ := s
  obtain ⟨b0, q0, rfl, _⟩ := s.shape
  obtain ⟨hE, hlen, hM⟩ := listE_ok hL
  obtain ⟨hx0, ⟨⟨a1, a2⟩, ⟨a3, a4⟩, _⟩, hl, hN⟩ := errM_ok hE
  have hsm := small hE
  have hws := suE_ok hS
  have lt := t.lt
  have m := Mem.start g
  refine w1013 ?_
  unfold n1013
  refine box_a m fun ix hx0 zx p1 m => ?_
  refine alloc_z m fun i6 h6 z6 p6 m => ?_
  refine alloc_z m fun i10 h7 z10 p7 m => ?_
  ((with_reducible (refine mv_i ?_)))
  obtain ⟨hb0, rfl⟩ : ∃ q, q = h7 := ⟨h7, rfl⟩
  refine loop1 ls.length (fun k h2 => ∃ a o1, IsSl a o1 (scS x ls ws k).al.length ∧ Prec hb0 h2 ∧ Mem g h2 [⟨some i10, [.int .i64 (scS x ls ws k).k, .int .i64 (scS x ls ws k).e, a], z10⟩, ⟨o1, flat (scS x ls ws k).al, 1⟩, ⟨some i6, [.int .i64 0, .int .i64 0, .slice none 0 0], z6⟩, ⟨some ix, [.int .i64 x.states, .int .i64 x.inputs, .int .i64 x.outputs, .int .i64 x.start, .slice b0 x.steps.length q0], zx⟩]) ⟨_, none, IsSl.nil, ⟨Stab.refl _⟩, (m.nil 1).perm (List.Perm.swap _ _ _)⟩ ?_
  rintro k h2 _ hk ⟨a, o1, hs, p2, m⟩
  obtain ⟨g1, g2, g3⟩ := scS_le x ls ws k
  obtain ⟨ao, ac, rfl⟩ := hs.isS
  ((with_reducible (refine mv_i ?_; refine mv_i ?_; refine len_g (by assumption) ?_; refine lss_i (fun hc => ?_) (fun hc => ?_); refine cnd_t ?_)); (rotate_left); (with_reducible (refine cnd_f ?_)); (refine ldwA ?_); (refine st_w (by assumption) (by infer_instance) (by with_unfolding_all rfl) (by with_unfolding_all rfl) (by first | rfl | exact flat_ones (Flat.flat _)) (by infer_instance) fun h p m => ?_); (refine rt_w1 (by assumption) (by infer_instance) (by with_unfolding_all rfl) ?_); (with_reducible (refine ret1 ?_)); (rotate_left))
  · have hkl : k < ls.length := by omega
    refine seq_J (fun xs h2 => xs = [] ∧ ∃ a o1, IsSl a o1 (scS x ls ws (k + 1)).al.length ∧ Prec hb0 h2 ∧ Mem g h2 [⟨some i10, [.int .i64 (scS x ls ws (k + 1)).k, .int .i64 (scS x ls ws (k + 1)).e, a], z10⟩, ⟨o1, flat (scS x ls ws (k + 1)).al, 1⟩, ⟨some i6, [.int .i64 0, .int .i64 0, .slice none 0 0], z6⟩, ⟨some ix, [.int .i64 x.states, .int .i64 x.inputs, .int .i64 x.outputs, .int .i64 x.start, .slice b0 x.steps.length q0], zx⟩]) ?_ ?_
    · rintro _ h7 ⟨rfl, rest⟩
      (((with_reducible refine fun (_ : Tmps) => ?_); (try dsimp only [nth])); (with_reducible (refine mv_i ?_; refine inc_i (by omega) ?_; refine mv_i ?_)))
      exact next1 hkl rest
    · intro k' hk'
      have hMk := hM _ (gd_mem Df.d hkl)
      change (mutE x (gt ls k)).2 = 0 at hMk
      obtain ⟨m1, m2⟩ := mutE_ok hMk
      have hB : bothE x (gt ls k) = 0 := by rw [bothE, if_neg (by simpa using hE)]; exact hMk
      obtain ⟨P, hi⟩ := par_x hB
      have C24 := fun {h : Heap} {v y : Value} (s : MacV h v x) (t : L h y (gt ls k)) => c24 (g := h) s t (by omega) m2
      have C33 := fun {h : Heap} {v y : Value} (s : MacV h v x) (t : L h y (gt ls k)) => c33 (g := h) s t hB
      have hsc : scS x ls ws (k + 1) = if ws.any (kb x (mutd x (gt ls k))) = true then { scS x ls ws k with k := (scS x ls ws k).k + 1 }
        else if difE x (mutd x (gt ls k)) ⟨x.start, (mutd x (gt ls k)).start⟩ = 23 then { scS x ls ws k with e := (scS x ls ws k).e + 1 }
        else { scS x ls ws k with al := (scS x ls ws k).al ++ [(k : Int)] } := rfl
      generalize scS x ls ws (k + 1) = S1 at hsc hk'
      generalize scS x ls ws k = S0 at *
      generalize mutd x (gt ls k) = ym at *
      unfold difE at hsc
      generalize difW x ym ⟨x.start, ym.start⟩ = dw at C33
      generalize (srch x ym ⟨x.start, ym.start⟩).ps = pp at C33
      generalize (srch x ym ⟨x.start, ym.start⟩).fnd = fn at *
      have C1033 := fun {h : Heap} {v u y : Value} (s : MacV h v x) (s' : MacV h u ym) (t : L h y ws) => c1033 (g := h) s s' t P hi hws.2
      have hab2 : ws.any (kb x ym) = true → 0 ≤ idxOf (kb x ym) ws ∧ idxOf (kb x ym) ws < (ws.length : Int) := fun q => by
        rcases idxOf_spec (kb x ym) ws with ⟨_, e⟩ | ⟨j, hj, e, _⟩
        · obtain ⟨t, ht, e2⟩ := List.any_eq_true.mp q
          rw [e t ht] at e2; cases e2
        · rw [e]; omega
      generalize idxOf (kb x ym) ws = ix2 at *
      generalize ws.any (kb x ym) = ab at *
      ((refine ldwA ?_); (refine vb_mac (by assumption) ?_); (refine ldwA ?_); (refine vb_mac (by assumption) ?_); (with_reducible (refine mv_i ?_; refine mv_i ?_)))
      refine idx_l t rfl hkl fun p y1 hp s1 => ?_
      rw [gtl hkl] at s1
      ((refine ldgA ?_); (with_reducible (refine vb_l (by assumption) ?_)))
      refine calld_d (C24 ⟨_, rfl, s.up⟩ s1.up) m fun v2 h2 p3 p3' m ⟨b2, q2, n2, e2, hn2, s2⟩ => ?_
      subst e2
      refine new_p p3 ?_
      ((with_reducible (refine mv_i ?_)))
      refine calld_r (C1033 ⟨_, rfl, s.up⟩ ⟨_, rfl, s2.up⟩ r.up) ?_
      cases ab
      · simp only [Bool.false_eq_true, if_false] at hsc ⊢
        ((with_reducible (refine new_n ?_; refine mv_i ?_; refine len_g (by assumption) ?_; refine lss_i (fun hc => ?_) (fun hc => ?_); refine cnd_t ?_; refine fao ?_)); (refine ldoA ?_); (with_reducible (refine add_j (by omega) (by omega) ?_; refine fao ?_)); (refine sto (by assumption) (q := by infer_instance) (by with_unfolding_all exact Nat.le_of_ble_eq_true rfl) rfl rfl (u := by infer_instance) fun h p m => ?_); (rotate_left); (with_reducible (refine cnd_f ?_)); (refine ldwA ?_); (refine vb_mac (by assumption) ?_); (with_reducible (refine mv_i ?_; refine mv_i ?_)); (rotate_left))
        · exfalso; omega
        refine idx_l t rfl hkl fun p y1 hp s1 => ?_
        rw [gtl hkl] at s1
        ((refine ldgA ?_); (with_reducible (refine vb_l (by assumption) ?_)))
        refine calld_d (C33 ⟨_, rfl, s.up⟩ s1.up) m fun v3 h3 p4 p4' m ⟨b3, n3, q3, b4, n4, q4, e3, s3, s4⟩ => ?_
        subst e3
        refine new_p p4 ?_
        rcases fn with _ | w0
        · simp only [if_true] at hsc
          rw [Option.isSome_none]
          ((with_reducible (refine mv_i ?_; refine ex3_0 ?_; refine ex3_1 ?_; refine ex3_2 ?_; refine mv_i ?_; refine mv_i ?_; refine mv_i ?_; refine mv_i ?_; refine cnd_f ?_; refine fao ?_)); (refine ldoA ?_); (with_reducible (refine add_j (by omega) (by omega) ?_; refine fao ?_)); (refine sto (by assumption) (q := by infer_instance) (by with_unfolding_all exact Nat.le_of_ble_eq_true rfl) rfl rfl (u := by infer_instance) fun h p m => ?_))
          subst hsc
          exact hk' _ _ ⟨rfl, _, o1, hs, ⟨Stb.st⟩, m⟩
        · simp only [reduceCtorEq, if_false, show ¬ (0 : Int) = 23 by decide] at hsc
          rw [Option.isSome_some]
          ((with_reducible (refine mv_i ?_; refine ex3_0 ?_; refine ex3_1 ?_; refine ex3_2 ?_; refine mv_i ?_; refine mv_i ?_; refine mv_i ?_; refine mv_i ?_; refine cnd_t ?_; refine fao ?_)); (refine ldoA ?_); (with_reducible (refine mv_i ?_)); (refine bs_g (bs53_1 _ _) (by assumption) fun i h p m => ?_))
          subst hsc
          refine app_snoc (a := (k : Int)) (k2 := 0) (j := 0) m hs (by infer_instance) ⟨rfl⟩ rfl ⟨by omega, by omega⟩ fun i3 h7 p7 m => ?_
          simp only [List.set_cons_succ, List.set_cons_zero] at m
          ((with_reducible (refine fao ?_)); (refine sto (by assumption) (q := by infer_instance) (by with_unfolding_all exact Nat.le_of_ble_eq_true rfl) rfl rfl (u := by infer_instance) fun h p m => ?_))
          refine hk' _ _ ⟨rfl, _, some i3, ?_, ⟨Stb.st⟩, m.tail⟩
          rw [List.length_append]
          exact IsSl.some0
      · simp only [if_true] at hsc ⊢
        have := hab2 rfl
        ((with_reducible (refine new_n ?_; refine mv_i ?_; refine len_g (by assumption) ?_; refine lss_i (fun hc => ?_) (fun hc => ?_); refine cnd_t ?_; refine fao ?_)); (refine ldoA ?_); (with_reducible (refine add_j (by omega) (by omega) ?_; refine fao ?_)); (refine sto (by assumption) (q := by infer_instance) (by with_unfolding_all exact Nat.le_of_ble_eq_true rfl) rfl rfl (u := by infer_instance) fun h p m => ?_); (rotate_left); (with_reducible (refine cnd_f ?_)); (refine ldwA ?_); (refine vb_mac (by assumption) ?_); (with_reducible (refine mv_i ?_; refine mv_i ?_)); (rotate_left))
        · subst hsc
          exact hk' _ _ ⟨rfl, _, o1, hs, ⟨Stb.st⟩, m⟩
        · exfalso; omega
  · have hkk : k = ls.length := by omega
    subst hkk
    exact ⟨m.pre, ao, _, ac, rfl, IsSl.ro hs m (k := 1) rfl (by omega)⟩
end Go.Proofs.YtomiejfeclefaaaGreat

set_option linter.unusedSimpArgs false
set_option linter.unusedVariables false
set_option linter.unnecessarySimpa false
set_option maxRecDepth 100000
set_option maxHeartbeats 4000000
namespace Go.Proofs.YtomiejfeclefaaaGreat
open Go.AM
variable {h g : Heap}
theorem c1003 {v y u : Value} {x : Mach} {ls : List (List Mut)} {ws : List (List Int)} (s : MacV g v x) (t : L g y ls) (r : L g u ws) (hb0 : x.steps.length ≤ 1048576) (hl : ls.length ≤ 1048576) (hll : ∀ l ∈ ls, l.length ≤ 1048576) (hw : ws.length ≤ 1048576) (hww : ∀ l ∈ ws, l.length ≤ 1048576) :
    DetP Tryz.prog 3 [v, y, u] g fun v' _ => v' = .bool true := by
  obtain ⟨tv, rfl, s⟩ := s
  obtain ⟨b0, q0, rfl, _⟩ := s.shape
  have lt := t.lt
  have lr := r.lt
  have m := Mem.start g
  refine w1003 ?_
  unfold n1003
  have C25 := fun {h : Heap} {v y : Value} (s : MacV h v x) (t : L h y ls) => c25 (g := h) s t
  by_cases hL : listE x ls = 0
  · obtain ⟨hE, hlen, hM⟩ := listE_ok hL
    obtain ⟨hx0, ⟨⟨a1, a2⟩, ⟨a3, a4⟩, _⟩, hl0, hN⟩ := errM_ok hE
    have C8 := fun {h : Heap} {y : Value} (r : L h y ws) => c1008 (g := h) r x.inputs ⟨by omega, a4⟩
    have C26 := fun {h : Heap} {v : Value} (s : MacV h v x) => c26 (g := h) s
    rw [hL] at C25
    generalize (decide (errM x ≠ 0 ∨ x.states ≤ 6 ∧ x.inputs ≤ 3)) = fb at C26
    by_cases hS : suE ws x.inputs = 0
    · have C9 := fun {h : Heap} {v y u : Value} (s : MacV h v x) (t : L h y ls) (r : L h u ws) => c1009 (g := h) s t r hL hS
      have C13 := fun {h : Heap} {v y u : Value} (s : MacV h v x) (t : L h y ls) (r : L h u ws) => c1013 (g := h) s t r hL hS
      have hwl := (suE_ok hS).1
      rw [hS] at C8
      generalize scS x ls ws ls.length = sc at C9 C13
      clear hL hE hM hS
      ((with_reducible (refine box_a (by assumption) fun i h z p m => ?_; refine mv_i ?_)); (refine call_r c11 ?_); (with_reducible (refine not_t ?_; refine cnd_f ?_)); (refine ldwA ?_); (with_reducible (refine mv_i ?_)))
      refine call_r (C25 ⟨_, rfl, s.up⟩ t.up) ?_
      ((with_reducible (refine mv_i ?_; refine mv_i ?_; refine eql_h (by first | assumption | decide) ?_; refine mv_i ?_; refine gd_tt ?_)); (refine ldwA ?_); (with_reducible (refine gd_tt ?_)))
      refine call_r (C26 ⟨_, rfl, s.up⟩) ?_
      ((with_reducible (refine gd_tt ?_; refine not_s (fun hb => ?_) (fun hb => ?_); refine gd_tt ?_; refine mv_i ?_; refine gd_ff ?_; refine mv_i ?_; refine gd_ff ?_; refine len_g (by assumption) ?_; refine gd_ff ?_; refine gtr_i (fun hc => ?_) (fun hc => ?_); refine gd_tt ?_; refine pick_f ?_; refine gd_tt ?_; refine mv_i ?_; refine gd_tf ?_; refine gd_tf ?_; refine gd_tf ?_; refine gd_tf ?_; refine gd_u ?_; refine gd_u ?_; refine gd_u ?_; refine gd_tf ?_; refine gd_tt ?_; refine pick_t ?_; refine pick_t ?_; refine cnd_t ?_; refine mv_i ?_; refine ret1 ?_)); (rotate_left); (with_reducible (refine gd_tt ?_; refine pick_f ?_; refine gd_tt ?_; refine mv_i ?_; refine gd_ff ?_; refine mv_i ?_; refine gd_ff ?_; refine len_g (by assumption) ?_; refine gd_ff ?_; refine gtr_i (fun hc => ?_) (fun hc => ?_); refine gd_ff ?_; refine mv_i ?_; refine gd_tt ?_; refine mv_i ?_; refine gd_tt ?_; refine len_g (by assumption) ?_; refine gd_tt ?_; refine leq_i (fun hc => ?_) (fun hc => ?_); refine gd_ff ?_; refine pick_t ?_; refine gd_tt ?_; refine pick_f ?_; refine pick_t ?_; refine cnd_t ?_; refine mv_i ?_; refine ret1 ?_)); (rotate_left); (with_reducible (refine gd_ff ?_; refine pick_t ?_; refine gd_tt ?_; refine pick_f ?_; refine pick_t ?_; refine cnd_f ?_; refine seq_i ?_; refine mv_i ?_; refine eql_h (by first | assumption | decide) ?_; refine cnd_t ?_; refine mv_i ?_; refine fao ?_)); (refine ldoA ?_); (rotate_left); (with_reducible (refine gd_ff ?_; refine mv_i ?_; refine gd_ft ?_; refine gd_ft ?_; refine gd_ft ?_; refine gd_ff ?_; refine pick_f ?_; refine gd_tt ?_; refine pick_f ?_; refine pick_t ?_; refine cnd_f ?_; refine seq_i ?_; refine mv_i ?_; refine eql_h (by first | assumption | decide) ?_; refine cnd_t ?_; refine mv_i ?_; refine fao ?_)); (refine ldoA ?_); (rotate_left); (with_reducible (refine gd_tt ?_; refine mv_i ?_; refine gd_tf ?_; refine gd_tf ?_; refine gd_tf ?_; refine gd_tt ?_; refine pick_t ?_; refine gd_tt ?_; refine mv_i ?_; refine gd_tf ?_; refine gd_tf ?_; refine gd_tf ?_; refine gd_tf ?_; refine gd_u ?_; refine gd_u ?_; refine gd_u ?_; refine gd_tf ?_; refine gd_tt ?_; refine pick_t ?_; refine pick_t ?_; refine cnd_t ?_; refine mv_i ?_; refine ret1 ?_)); (rotate_left))
      all_goals first | rfl | (exfalso; omega) | skip
      refine call_r (C8 r.up) ?_
      ((with_reducible (refine mv_i ?_)); ((with_reducible refine fun (_ : Tmps) => ?_); (try dsimp only [nth])); (refine ldwA ?_))
      refine call_d (c14 ⟨_, rfl, s.up⟩ hb0) m fun v1 h1 p1 p2 m ⟨b1, q1, n1, e1, hn1, s1⟩ => ?_
      subst e1
      ((with_reducible (refine mv_i ?_)))
      refine call_d (c28 t.up hl hll) m fun v2 h2 p3 p4 m ⟨b2, n2, q2, e2, hn2, s2⟩ => ?_
      subst e2
      ((with_reducible (refine mv_i ?_)))
      refine call_d (c1012 r.up hw hww) m fun v3 h3 p5 p6 m ⟨b3, n3, q3, e3, hn3, s3⟩ => ?_
      subst e3
      skip
      refine call_d (C9 ⟨_, rfl, s1.up⟩ s2.up s3.up) m fun v4 h4 p7 p8 m ⟨b4, n4, q4, e4, s4⟩ => ?_
      subst e4
      ((with_reducible (refine mv_i ?_; refine ex2_0 ?_; refine ex2_1 ?_; refine alloc_z (by assumption) fun i h z p m => ?_)); (refine st_w (by assumption) (by infer_instance) (by with_unfolding_all rfl) (by with_unfolding_all rfl) (by first | rfl | exact flat_ones (Flat.flat _)) (by infer_instance) fun h p m => ?_); (with_reducible (refine mv_i ?_; refine mv_i ?_; refine neq_h (by first | assumption | decide) ?_; refine cnd_f ?_)); (refine ldwA ?_); (with_reducible (refine mv_i ?_; refine mv_i ?_)))
      refine call_d (C13 ⟨_, rfl, s.up⟩ t.up r.up) m fun v5 h5 p9 p10 m ⟨b5, n5, q5, e5, s5⟩ => ?_
      subst e5
      ((with_reducible (refine alloc_z (by assumption) fun i h z p m => ?_)); (refine st_w (by assumption) (by infer_instance) (by with_unfolding_all rfl) (by with_unfolding_all rfl) (by first | rfl | exact flat_ones (Flat.flat _)) (by infer_instance) fun h p m => ?_); (with_reducible (refine mv_i ?_; refine eql_h (by first | assumption | decide) ?_; refine mv_i ?_; refine gd_tt ?_; refine fao ?_; refine gd_tt ?_)); (refine ldoA ?_); (with_reducible (refine gd_tt ?_; refine fao ?_; refine gd_tt ?_)); (refine ldoA ?_); (with_reducible (refine gd_tt ?_; refine eql_i (fun hc => ?_) (fun hc => ?_); refine pick_t ?_; refine mv_i ?_; refine gd_tt ?_; refine fao ?_; refine gd_tt ?_)); (refine ldoA ?_); (with_reducible (refine gd_tt ?_; refine fao ?_; refine gd_tt ?_)); (refine ldoA ?_); (with_reducible (refine gd_tt ?_; refine eql_i (fun hc => ?_) (fun hc => ?_); refine pick_t ?_; refine mv_i ?_; refine gd_tt ?_; refine fao ?_; refine gd_tt ?_)); (refine ldoA ?_); (with_reducible (refine gd_tt ?_; refine fao ?_; refine gd_tt ?_)); (refine ldoA ?_); (with_reducible (refine gd_tt ?_)); (rotate_left); (with_reducible (refine pick_t ?_; refine mv_i ?_; refine gd_ft ?_; refine gd_ft ?_; refine gd_ft ?_; refine gd_ft ?_; refine gd_ft ?_; refine pick_f ?_; refine mv_i ?_; refine ret1 ?_)); (rotate_left); (with_reducible (refine pick_t ?_; refine mv_i ?_; refine gd_ft ?_; refine gd_ft ?_; refine gd_ft ?_; refine gd_ft ?_; refine gd_ft ?_; refine pick_f ?_; refine mv_i ?_; refine gd_ft ?_; refine gd_ft ?_; refine gd_ft ?_; refine gd_ft ?_; refine gd_ft ?_; refine pick_f ?_; refine mv_i ?_; refine ret1 ?_)); (rotate_left))
      all_goals first | (refine call_r (c29 s4.up s5.up) ?_; rw [decide_eq_true rfl]) | (exfalso; omega)
      ((with_reducible (refine pick_t ?_; refine mv_i ?_; refine ret1 ?_)))
      all_goals first | rfl | (exfalso; omega)
    · have C9 := fun {h : Heap} {v y u : Value} (s : MacV h v x) (t : L h y ls) (r : L h u ws) => c1009b (g := h) s t r hL hS
      generalize suE ws x.inputs = su at *
      clear hL hE hM
      ((with_reducible (refine box_a (by assumption) fun i h z p m => ?_; refine mv_i ?_)); (refine call_r c11 ?_); (with_reducible (refine not_t ?_; refine cnd_f ?_)); (refine ldwA ?_); (with_reducible (refine mv_i ?_)))
      refine call_r (C25 ⟨_, rfl, s.up⟩ t.up) ?_
      ((with_reducible (refine mv_i ?_; refine mv_i ?_; refine eql_h (by first | assumption | decide) ?_; refine mv_i ?_; refine gd_tt ?_)); (refine ldwA ?_); (with_reducible (refine gd_tt ?_)))
      refine call_r (C26 ⟨_, rfl, s.up⟩) ?_
      ((with_reducible (refine gd_tt ?_; refine not_s (fun hb => ?_) (fun hb => ?_); refine gd_tt ?_; refine mv_i ?_; refine gd_ff ?_; refine mv_i ?_; refine gd_ff ?_; refine len_g (by assumption) ?_; refine gd_ff ?_; refine gtr_i (fun hc => ?_) (fun hc => ?_); refine gd_tt ?_; refine pick_f ?_; refine gd_tt ?_; refine mv_i ?_; refine gd_tf ?_; refine gd_tf ?_; refine gd_tf ?_; refine gd_tf ?_; refine gd_u ?_; refine gd_u ?_; refine gd_u ?_; refine gd_tf ?_; refine gd_tt ?_; refine pick_t ?_; refine pick_t ?_; refine cnd_t ?_; refine mv_i ?_; refine ret1 ?_)); (rotate_left); (with_reducible (refine gd_tt ?_; refine pick_f ?_; refine gd_tt ?_; refine mv_i ?_; refine gd_ff ?_; refine mv_i ?_; refine gd_ff ?_; refine len_g (by assumption) ?_; refine gd_ff ?_; refine gtr_i (fun hc => ?_) (fun hc => ?_); refine gd_ff ?_; refine mv_i ?_; refine gd_tt ?_; refine mv_i ?_; refine gd_tt ?_; refine len_g (by assumption) ?_; refine gd_tt ?_; refine leq_i (fun hc => ?_) (fun hc => ?_); refine gd_ff ?_; refine pick_t ?_; refine gd_tt ?_; refine pick_f ?_; refine pick_t ?_; refine cnd_t ?_; refine mv_i ?_; refine ret1 ?_)); (rotate_left); (with_reducible (refine gd_ff ?_; refine pick_t ?_; refine gd_tt ?_; refine pick_f ?_; refine pick_t ?_; refine cnd_f ?_; refine seq_i ?_; refine mv_i ?_; refine eql_h (by first | assumption | decide) ?_; refine cnd_t ?_; refine mv_i ?_; refine fao ?_)); (refine ldoA ?_); (rotate_left); (with_reducible (refine gd_ff ?_; refine mv_i ?_; refine gd_ft ?_; refine gd_ft ?_; refine gd_ft ?_; refine gd_ff ?_; refine pick_f ?_; refine gd_tt ?_; refine pick_f ?_; refine pick_t ?_; refine cnd_f ?_; refine seq_i ?_; refine mv_i ?_; refine eql_h (by first | assumption | decide) ?_; refine cnd_t ?_; refine mv_i ?_; refine fao ?_)); (refine ldoA ?_); (rotate_left); (with_reducible (refine gd_tt ?_; refine mv_i ?_; refine gd_tf ?_; refine gd_tf ?_; refine gd_tf ?_; refine gd_tt ?_; refine pick_t ?_; refine gd_tt ?_; refine mv_i ?_; refine gd_tf ?_; refine gd_tf ?_; refine gd_tf ?_; refine gd_tf ?_; refine gd_u ?_; refine gd_u ?_; refine gd_u ?_; refine gd_tf ?_; refine gd_tt ?_; refine pick_t ?_; refine pick_t ?_; refine cnd_t ?_; refine mv_i ?_; refine ret1 ?_)); (rotate_left))
      · rfl
      · rfl
      ·
        refine call_r (C8 r.up) ?_
        ((with_reducible (refine mv_i ?_)); ((with_reducible refine fun (_ : Tmps) => ?_); (try dsimp only [nth])); (refine ldwA ?_))
        refine call_d (c14 ⟨_, rfl, s.up⟩ hb0) m fun v1 h1 p1 p2 m ⟨b1, q1, n1, e1, hn1, s1⟩ => ?_
        subst e1
        ((with_reducible (refine mv_i ?_)))
        refine call_d (c28 t.up hl hll) m fun v2 h2 p3 p4 m ⟨b2, n2, q2, e2, hn2, s2⟩ => ?_
        subst e2
        ((with_reducible (refine mv_i ?_)))
        refine call_d (c1012 r.up hw hww) m fun v3 h3 p5 p6 m ⟨b3, n3, q3, e3, hn3, s3⟩ => ?_
        subst e3
        skip
        refine call_d (C9 ⟨_, rfl, s1.up⟩ s2.up s3.up) m fun v4 h4 p7 p8 m e4 => ?_
        subst e4
        ((with_reducible (refine mv_i ?_; refine ex2_0 ?_; refine ex2_1 ?_; refine alloc_z (by assumption) fun i h z p m => ?_)); (refine st_w (by assumption) (by infer_instance) (by with_unfolding_all rfl) (by with_unfolding_all rfl) (by first | rfl | exact flat_ones (Flat.flat _)) (by infer_instance) fun h p m => ?_); (with_reducible (refine mv_i ?_; refine mv_i ?_; refine neq_n (by first | assumption | decide) ?_; refine cnd_t ?_; refine mv_i ?_; refine mv_i ?_; refine eql_i (fun hc => ?_) (fun hc => ?_); refine mv_i ?_; refine gd_tt ?_; refine fao ?_; refine gd_tt ?_)); (refine ldoA ?_); (with_reducible (refine gd_tt ?_; refine eql_h (by first | assumption | decide) ?_; refine pick_t ?_; refine mv_i ?_; refine gd_tt ?_; refine fao ?_; refine gd_tt ?_)); (refine ldoA ?_); (with_reducible (refine gd_tt ?_; refine eql_h (by first | assumption | decide) ?_; refine pick_t ?_; refine mv_i ?_; refine gd_tt ?_; refine fao ?_; refine gd_tt ?_)); (refine ldoA ?_); (with_reducible (refine gd_tt ?_; refine len_s ?_; refine gd_tt ?_; refine eql_h (by first | assumption | decide) ?_; refine pick_t ?_; refine mv_i ?_; refine ret1 ?_)); (rotate_left); (with_reducible (refine mv_i ?_; refine gd_ft ?_; refine gd_ft ?_; refine gd_ft ?_; refine pick_f ?_; refine mv_i ?_; refine gd_ft ?_; refine gd_ft ?_; refine gd_ft ?_; refine pick_f ?_; refine mv_i ?_; refine gd_ft ?_; refine gd_ft ?_; refine gd_ft ?_; refine gd_ft ?_; refine pick_f ?_; refine mv_i ?_; refine ret1 ?_)); (rotate_left))
        all_goals first | rfl | (exact (hc rfl).elim)
      ·
        refine call_r (C8 r.up) ?_
        ((with_reducible (refine mv_i ?_)); ((with_reducible refine fun (_ : Tmps) => ?_); (try dsimp only [nth])); (refine ldwA ?_))
        refine call_d (c14 ⟨_, rfl, s.up⟩ hb0) m fun v1 h1 p1 p2 m ⟨b1, q1, n1, e1, hn1, s1⟩ => ?_
        subst e1
        ((with_reducible (refine mv_i ?_)))
        refine call_d (c28 t.up hl hll) m fun v2 h2 p3 p4 m ⟨b2, n2, q2, e2, hn2, s2⟩ => ?_
        subst e2
        ((with_reducible (refine mv_i ?_)))
        refine call_d (c1012 r.up hw hww) m fun v3 h3 p5 p6 m ⟨b3, n3, q3, e3, hn3, s3⟩ => ?_
        subst e3
        skip
        refine call_d (C9 ⟨_, rfl, s1.up⟩ s2.up s3.up) m fun v4 h4 p7 p8 m e4 => ?_
        subst e4
        ((with_reducible (refine mv_i ?_; refine ex2_0 ?_; refine ex2_1 ?_; refine alloc_z (by assumption) fun i h z p m => ?_)); (refine st_w (by assumption) (by infer_instance) (by with_unfolding_all rfl) (by with_unfolding_all rfl) (by first | rfl | exact flat_ones (Flat.flat _)) (by infer_instance) fun h p m => ?_); (with_reducible (refine mv_i ?_; refine mv_i ?_; refine neq_n (by first | assumption | decide) ?_; refine cnd_t ?_; refine mv_i ?_; refine mv_i ?_; refine eql_i (fun hc => ?_) (fun hc => ?_); refine mv_i ?_; refine gd_tt ?_; refine fao ?_; refine gd_tt ?_)); (refine ldoA ?_); (with_reducible (refine gd_tt ?_; refine eql_h (by first | assumption | decide) ?_; refine pick_t ?_; refine mv_i ?_; refine gd_tt ?_; refine fao ?_; refine gd_tt ?_)); (refine ldoA ?_); (with_reducible (refine gd_tt ?_; refine eql_h (by first | assumption | decide) ?_; refine pick_t ?_; refine mv_i ?_; refine gd_tt ?_; refine fao ?_; refine gd_tt ?_)); (refine ldoA ?_); (with_reducible (refine gd_tt ?_; refine len_s ?_; refine gd_tt ?_; refine eql_h (by first | assumption | decide) ?_; refine pick_t ?_; refine mv_i ?_; refine ret1 ?_)); (rotate_left); (with_reducible (refine mv_i ?_; refine gd_ft ?_; refine gd_ft ?_; refine gd_ft ?_; refine pick_f ?_; refine mv_i ?_; refine gd_ft ?_; refine gd_ft ?_; refine gd_ft ?_; refine pick_f ?_; refine mv_i ?_; refine gd_ft ?_; refine gd_ft ?_; refine gd_ft ?_; refine gd_ft ?_; refine pick_f ?_; refine mv_i ?_; refine ret1 ?_)); (rotate_left))
        all_goals first | rfl | (exact (hc rfl).elim)
      · rfl
  · have C9 := fun {h : Heap} {v y u : Value} (s : MacV h v x) (t : L h y ls) (r : L h u ws) => c1009a (g := h) s t r hL
    generalize listE x ls = le at *
    ((with_reducible (refine box_a (by assumption) fun i h z p m => ?_; refine mv_i ?_)); (refine call_r c11 ?_); (with_reducible (refine not_t ?_; refine cnd_f ?_)); (refine ldwA ?_); (with_reducible (refine mv_i ?_)))
    refine call_r (C25 ⟨_, rfl, s.up⟩ t.up) ?_
    ((with_reducible (refine mv_i ?_; refine mv_i ?_; refine eql_n (by first | assumption | decide) ?_; refine mv_i ?_; refine gd_ft ?_; refine gd_ft ?_; refine gd_ft ?_; refine gd_ft ?_; refine gd_u ?_; refine gd_u ?_; refine gd_u ?_; refine gd_ft ?_; refine gd_ft ?_; refine gd_u ?_; refine gd_u ?_; refine gd_u ?_; refine gd_u ?_; refine gd_u ?_; refine gd_u ?_; refine gd_u ?_; refine gd_u ?_; refine gd_ft ?_; refine pick_f ?_; refine cnd_f ?_; refine seq_i ?_; refine mv_i ?_; refine eql_n (by first | assumption | decide) ?_; refine cnd_f ?_)); ((with_reducible refine fun (_ : Tmps) => ?_); (try dsimp only [nth])); (refine ldwA ?_))
    refine call_d (c14 ⟨_, rfl, s.up⟩ hb0) m fun v1 h1 p1 p2 m ⟨b1, q1, n1, e1, hn1, s1⟩ => ?_
    subst e1
    ((with_reducible (refine mv_i ?_)))
    refine call_d (c28 t.up hl hll) m fun v2 h2 p3 p4 m ⟨b2, n2, q2, e2, hn2, s2⟩ => ?_
    subst e2
    ((with_reducible (refine mv_i ?_)))
    refine call_d (c1012 r.up hw hww) m fun v3 h3 p5 p6 m ⟨b3, n3, q3, e3, hn3, s3⟩ => ?_
    subst e3
    skip
    refine call_d (C9 ⟨_, rfl, s1.up⟩ s2.up s3.up) m fun v4 h4 p7 p8 m e4 => ?_
    subst e4
    ((with_reducible (refine mv_i ?_; refine ex2_0 ?_; refine ex2_1 ?_; refine alloc_z (by assumption) fun i h z p m => ?_)); (refine st_w (by assumption) (by infer_instance) (by with_unfolding_all rfl) (by with_unfolding_all rfl) (by first | rfl | exact flat_ones (Flat.flat _)) (by infer_instance) fun h p m => ?_); (with_reducible (refine mv_i ?_; refine mv_i ?_; refine neq_n (by first | assumption | decide) ?_; refine cnd_t ?_; refine mv_i ?_; refine mv_i ?_; refine eql_i (fun hc => ?_) (fun hc => ?_); refine mv_i ?_; refine gd_tt ?_; refine fao ?_; refine gd_tt ?_)); (refine ldoA ?_); (with_reducible (refine gd_tt ?_; refine eql_h (by first | assumption | decide) ?_; refine pick_t ?_; refine mv_i ?_; refine gd_tt ?_; refine fao ?_; refine gd_tt ?_)); (refine ldoA ?_); (with_reducible (refine gd_tt ?_; refine eql_h (by first | assumption | decide) ?_; refine pick_t ?_; refine mv_i ?_; refine gd_tt ?_; refine fao ?_; refine gd_tt ?_)); (refine ldoA ?_); (with_reducible (refine gd_tt ?_; refine len_s ?_; refine gd_tt ?_; refine eql_h (by first | assumption | decide) ?_; refine pick_t ?_; refine mv_i ?_; refine ret1 ?_)); (rotate_left); (with_reducible (refine mv_i ?_; refine gd_ft ?_; refine gd_ft ?_; refine gd_ft ?_; refine pick_f ?_; refine mv_i ?_; refine gd_ft ?_; refine gd_ft ?_; refine gd_ft ?_; refine pick_f ?_; refine mv_i ?_; refine gd_ft ?_; refine gd_ft ?_; refine gd_ft ?_; refine gd_ft ?_; refine pick_f ?_; refine mv_i ?_; refine ret1 ?_)); (rotate_left))
    all_goals first | rfl | (exact (hc rfl).elim)
end Go.Proofs.YtomiejfeclefaaaGreat

set_option linter.unusedSimpArgs false
set_option linter.unusedVariables false
set_option linter.unnecessarySimpa false
set_option maxRecDepth 100000
namespace Go.Proofs.YtomiejfeclefaaaGreat
open Go.AM
open Go.ChangeShapes Go.WideShapes Go.ChangeAt Go.RowKit
theorem laid : laidOutB Tryz.prog = true := by kernel_rfl
theorem own : ownKnob Tryz.prog.godebug = none := by kernel_rfl
def dStp {H : Type} : DataW H → Stp | .agg [a, b, c, d] => ⟨dint a, dint b, dint c, dint d⟩ | _ => Df.d
def dMut {H : Type} : DataW H → Mut | .agg [a, b, c] => ⟨dint a, dint b, dint c⟩ | _ => Df.d
def dMac {H : Type} : DataW H → Mach | .agg [a, b, c, d, e] => ⟨dint a, dint b, dint c, dint d, dlist dStp e⟩ | _ => ⟨0, 0, 0, 0, []⟩
theorem ARd_stp {H : Type} {h : Heap} {cs : List Value} {d : DataW H} (q : ARd Tryz.prog h 87 cs d) : cs = Flat.cells (dStp d) := by
  obtain ⟨parts, rfl, hl, hp, hf⟩ := q.fields Tryz.underlying87
  have hl : cs.length = 4 := hl
  obtain ⟨a, b, c, d, rfl⟩ : ∃ a b c d, parts = [a, b, c, d] := by
    match parts, hp with
    | [a, b, c, d], _ => exact ⟨a, b, c, d, rfl⟩
  have g0 : cs[0]? = some (.int .i64 (dint a)) := ARd.f_int (hf 0 _ a rfl rfl) Tryz.underlying3
  have g1 : cs[1]? = some (.int .i64 (dint b)) := ARd.f_int (hf 1 _ b rfl rfl) Tryz.underlying3
  have g2 : cs[2]? = some (.int .i64 (dint c)) := ARd.f_int (hf 2 _ c rfl rfl) Tryz.underlying3
  have g3 : cs[3]? = some (.int .i64 (dint d)) := ARd.f_int (hf 3 _ d rfl rfl) Tryz.underlying3
  refine List.ext_getElem? fun j => ?_
  by_cases hj : j < 4
  · match j, hj with
    | 0, _ => rw [g0]; rfl
    | 1, _ => rw [g1]; rfl
    | 2, _ => rw [g2]; rfl
    | 3, _ => rw [g3]; rfl
  · rw [List.getElem?_eq_none (by omega), List.getElem?_eq_none (by rw [Flat.len]; show 4 ≤ j; omega)]
theorem ARd_mut {H : Type} {h : Heap} {cs : List Value} {d : DataW H} (q : ARd Tryz.prog h 52 cs d) : cs = Flat.cells (dMut d) := by
  obtain ⟨parts, rfl, hl, hp, hf⟩ := q.fields Tryz.underlying52
  have hl : cs.length = 3 := hl
  obtain ⟨a, b, c, rfl⟩ : ∃ a b c, parts = [a, b, c] := by
    match parts, hp with
    | [a, b, c], _ => exact ⟨a, b, c, rfl⟩
  have g0 : cs[0]? = some (.int .i64 (dint a)) := ARd.f_int (hf 0 _ a rfl rfl) Tryz.underlying3
  have g1 : cs[1]? = some (.int .i64 (dint b)) := ARd.f_int (hf 1 _ b rfl rfl) Tryz.underlying3
  have g2 : cs[2]? = some (.int .i64 (dint c)) := ARd.f_int (hf 2 _ c rfl rfl) Tryz.underlying3
  refine List.ext_getElem? fun j => ?_
  by_cases hj : j < 3
  · match j, hj with
    | 0, _ => rw [g0]; rfl
    | 1, _ => rw [g1]; rfl
    | 2, _ => rw [g2]; rfl
  · rw [List.getElem?_eq_none (by omega), List.getElem?_eq_none (by rw [Flat.len]; show 3 ≤ j; omega)]
theorem dl_le {H α : Type} (de : DataW H → α) (d : DataW H) : (dlist de d).length ≤ Rows.uptoBulk d := by
  cases d with
  | slice elems spare =>
    have := bulks.length_le elems
    have := bulks.slice_elems elems spare
    simp only [dlist, List.length_map]; omega
  | lit l => simp [dlist]
  | nil => simp [dlist]
  | ptr d => simp [dlist]
  | agg parts => simp [dlist]
  | iface t d => simp [dlist]
  | map entries => simp [dlist]
  | held h => simp [dlist]
theorem el_le {H : Type} {d d' : DataW H} (h : d' ∈ delems d) : Rows.uptoBulk d' ≤ Rows.uptoBulk d := by
  cases d with
  | slice elems spare =>
    have h1 := bulks.part_le (l := elems) h
    have := bulks.slice_elems elems spare
    omega
  | lit l => simp [delems] at h
  | nil => simp [delems] at h
  | ptr d => simp [delems] at h
  | agg parts => simp [delems] at h
  | iface t d => simp [delems] at h
  | map entries => simp [delems] at h
  | held h' => simp [delems] at h
theorem ARd_muts {H : Type} {h : Heap} {cs : List Value} {d : DataW H} (q : ARd Tryz.prog h 25 cs d) (hb : Rows.uptoBulk d ≤ 1048576) : ∃ o l c, cs = [.slice o l c] ∧ L h (.slice o l c) (dlist (dlist dMut) d) := by
  refine ARd.listR (dlist dMut) q Tryz.underlying25 (by kernel_rfl) (fun cs d' hd r => ?_) (by have := dl_le (dlist dMut) d; omega)
  have h1 := el_le hd
  have h2 := dl_le dMut d'
  obtain ⟨o, l, c, e, s⟩ := ARd.list dMut r Tryz.underlying47 (by kernel_rfl) (fun cs d r => ARd_mut r) (by omega)
  exact ⟨_, e, s⟩
theorem muts_le {H : Type} {d : DataW H} : ∀ l ∈ dlist (dlist dMut) d, l.length ≤ Rows.uptoBulk d := by
  intro l hl
  have : ∃ d' ∈ delems d, dlist dMut d' = l := by
    cases d <;> simp [dlist, delems] at hl ⊢
    exact hl
  obtain ⟨d', hd, rfl⟩ := this
  have h1 := el_le hd
  have h2 := dl_le dMut d'
  omega
theorem mac_le {H : Type} (d : DataW H) : (dMac d).steps.length ≤ Rows.uptoBulk d := by
  unfold dMac
  split
  · rename_i a b c d e
    have := dl_le dStp e
    simp only [Rows.uptoBulk, Rows.uptoBulkAll]
    omega
  · simp
theorem ARd_mac {H : Type} {h : Heap} {cs : List Value} {d : DataW H} (q : ARd Tryz.prog h 24 cs d) (hb : (dMac d).steps.length ≤ 2 ^ 50) : MacV h (absV Tryz.prog 24 cs) (dMac d) := by
  obtain ⟨parts, rfl, hl, hp, hf⟩ := q.fields Tryz.underlying24
  have hl : cs.length = 5 := hl
  obtain ⟨a, b, c, d, e, rfl⟩ : ∃ a b c d e, parts = [a, b, c, d, e] := by
    match parts, hp with
    | [a, b, c, d, e], _ => exact ⟨a, b, c, d, e, rfl⟩
  have g0 : cs[0]? = some (.int .i64 (dint a)) := ARd.f_int (hf 0 _ a rfl rfl) Tryz.underlying3
  have g1 : cs[1]? = some (.int .i64 (dint b)) := ARd.f_int (hf 1 _ b rfl rfl) Tryz.underlying3
  have g2 : cs[2]? = some (.int .i64 (dint c)) := ARd.f_int (hf 2 _ c rfl rfl) Tryz.underlying3
  have g3 : cs[3]? = some (.int .i64 (dint d)) := ARd.f_int (hf 3 _ d rfl rfl) Tryz.underlying3
  obtain ⟨o, l, c', e', s⟩ := ARd.list dStp (hf 4 _ e rfl rfl) Tryz.underlying22 (by kernel_rfl) (fun cs d r => ARd_stp r) hb
  have g4 : cs[4]? = some (.slice o l c') := drop_one e'
  refine ⟨_, ?_, s⟩
  simp only [absV, Tryz.underlying24]
  congr 1
  have : cs = [.int .i64 (dint a), .int .i64 (dint b), .int .i64 (dint c), .int .i64 (dint d), .slice o l c'] := by
    refine List.ext_getElem? fun j => ?_
    by_cases hj : j < 5
    · match j, hj with
      | 0, _ => rw [g0]; rfl
      | 1, _ => rw [g1]; rfl
      | 2, _ => rw [g2]; rfl
      | 3, _ => rw [g3]; rfl
      | 4, _ => rw [g4]; rfl
    · rw [List.getElem?_eq_none (by omega), List.getElem?_eq_none (by simp; omega)]
  rw [this]; rfl
end Go.Proofs.YtomiejfeclefaaaGreat

/- The arguments of the laws on scores and suites: words. -/
set_option linter.unusedSimpArgs false
set_option linter.unusedVariables false
set_option maxRecDepth 100000
namespace Go.Proofs.YtomiejfeclefaaaGreat
open Go.AM
open Go.ChangeShapes Go.WideShapes Go.ChangeAt Go.RowKit
theorem ARd_words {H : Type} {h : Heap} {cs : List Value} {d : DataW H} (q : ARd Tryz.prog h 26 cs d) (hb : Rows.uptoBulk d ≤ 1048576) : ∃ o l c, cs = [.slice o l c] ∧ L h (.slice o l c) (dlist (dlist dint) d) := by
  refine ARd.listR (dlist dint) q Tryz.underlying26 (by kernel_rfl) (fun cs d' hd r => ?_) (by have := dl_le (dlist dint) d; omega)
  have h1 := el_le hd
  have h2 := dl_le dint d'
  obtain ⟨o, l, c, e, s⟩ := ARd.list dint r Tryz.underlying31 (by kernel_rfl) (fun cs d r => (r.dint Tryz.underlying3).1) (by omega)
  exact ⟨_, e, s⟩
theorem words_le {H : Type} {d : DataW H} : ∀ l ∈ dlist (dlist dint) d, l.length ≤ Rows.uptoBulk d := by
  intro l hl
  have : ∃ d' ∈ delems d, dlist dint d' = l := by
    cases d <;> simp [dlist, delems] at hl ⊢
    exact hl
  obtain ⟨d', hd, rfl⟩ := this
  have h1 := el_le hd
  have h2 := dl_le dint d'
  omega
end Go.Proofs.YtomiejfeclefaaaGreat
