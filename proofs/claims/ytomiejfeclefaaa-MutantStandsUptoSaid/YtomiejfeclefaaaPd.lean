import Derived.Test.YtomiejfeclefaaaPc
import Derived.Test.YtomiejfeclefaaaAnM
set_option linter.unusedSimpArgs false
set_option linter.unusedVariables false
set_option linter.unnecessarySimpa false
set_option maxRecDepth 100000
set_option maxHeartbeats 4000000
namespace Go.Proofs.Ytomiejfeclefaaa
open Go.AM
variable {h g : Heap}
theorem bd107_012 (a1 : Int) (a2 : Int) (a3 : Int) : aBuild Try.prog 107 [(0, (.int .i64 a1)), (1, (.int .i64 a2)), (2, (.int .i64 a3))] = some (fv (⟨a1, a2, a3, false⟩ : Pl)) := by kernel_rfl
theorem bd107_0123 (a1 : Int) (a2 : Int) (a3 : Int) (b4 : Bool) : aBuild Try.prog 107 [(0, (.int .i64 a1)), (1, (.int .i64 a2)), (2, (.int .i64 a3)), (3, (.bool b4))] = some (fv (⟨a1, a2, a3, b4⟩ : Pl)) := by kernel_rfl
theorem bd113_012 (a1 : Int) (a2 : Int) (a3 : Int) : aBuild Try.prog 113 [(0, (.int .i64 a1)), (1, (.int .i64 a2)), (2, (.int .i64 a3))] = some (.agg #[(.int .i64 a1), (.int .i64 a2), (.int .i64 a3), (.bool false), (.slice none 0 0)]) := by kernel_rfl
theorem bd113_01234 (a1 : Int) (a2 : Int) (a3 : Int) (b4 : Bool) (o5 : Option Addr) (no5 co5 : Nat) : aBuild Try.prog 113 [(0, (.int .i64 a1)), (1, (.int .i64 a2)), (2, (.int .i64 a3)), (3, (.bool b4)), (4, (.slice o5 no5 co5))] = some (.agg #[(.int .i64 a1), (.int .i64 a2), (.int .i64 a3), (.bool b4), (.slice o5 no5 co5)]) := by kernel_rfl
theorem bs51_2 (o1 : Option Addr) (no1 co1 : Nat) (o2 : Option Addr) (no2 co2 : Nat) (h : Heap) : aBuildSlice Try.prog 51 2 [(0, (.slice o1 no1 co1)), (1, (.slice o2 no2 co2))] h = some (.slice (some ⟨h.length, 0, none⟩) 2 3, newArr h [(.slice o1 no1 co1), (.slice o2 no2 co2)] 1) := by kernel_rfl
theorem bs108_1 (x1 : Pl) (h : Heap) : aBuildSlice Try.prog 108 1 [(0, (fv x1))] h = some (.slice (some ⟨h.length, 0, none⟩) 1 2, newArr h (flat [x1]) 4) := by kernel_rfl
theorem bs114_1 (a1 : Int) (a2 : Int) (a3 : Int) (b4 : Bool) (o5 : Option Addr) (no5 co5 : Nat) (h : Heap) : aBuildSlice Try.prog 114 1 [(0, (.agg #[(.int .i64 a1), (.int .i64 a2), (.int .i64 a3), (.bool b4), (.slice o5 no5 co5)]))] h = some (.slice (some ⟨h.length, 0, none⟩) 1 2, newArr h [(.int .i64 a1), (.int .i64 a2), (.int .i64 a3), (.bool b4), (.slice o5 no5 co5)] 5) := by kernel_rfl
/-! ### triples with words -/
structure TX where
  get : T3
instance : Rep TX := ⟨5, fun _ cs p => ∃ v, cs = [.int .i64 p.get.x, .int .i64 p.get.a, .int .i64 p.get.b, .bool false, v] ∧ v.oneCell' = true, by rintro h cs a ⟨v, rfl, _⟩; rfl, fun _ e => e, by rintro h cs a ⟨v, rfl, e⟩; simp only [List.all_cons, e]; rfl⟩
theorem len_t {K : Value → Heap → Prop} {h1 : Heap} {x : Value} {t e sz by_ : Nat} {ps : List T3} [T : SlT Try.prog t e sz by_] (s : L h1 x (ps.map TX.mk)) (hk : K (.int .i64 (ps.length : Int)) h) : vK (aLen Try.prog t x) h K :=
  len_g s (by rw [List.length_map]; exact hk)
theorem idx_tx {K : Value → Heap → Prop} {h1 : Heap} {x : Value} {t e sz by_ k : Nat} {ps : List T3} [T : SlT Try.prog t e sz by_] (s : L h1 x (ps.map TX.mk)) (hz : sz = 5) (hk : k < ps.length)
    (hK : ∀ p v, Pt h1 p [.int .i64 (gt ps k).x, .int .i64 (gt ps k).a, .int .i64 (gt ps k).b, .bool false, v] 0 → K p h) : vK (aIndexAddr Try.prog t x (.int .i64 (k : Int))) h K := by
  refine idx_n hz s (by rw [List.length_map]; exact hk) fun p cs hp hr => ?_
  obtain ⟨v, rfl, _⟩ := hr
  rw [List.getElem_map] at hp
  rw [gt_at hk] at hp
  exact hK p v hp
theorem c71 {x : Value} {ps : List T3} (s : L g x (ps.map TX.mk)) (a b c : Int) (d : Bool) (w : Value) (hw : w.oneCell' = true) : Runs Try.prog 71 [x, .agg #[.int .i64 a, .int .i64 b, .int .i64 c, .bool d, w]] g (.bool (decide ((⟨a, b, c⟩ : T3) ∈ ps))) g := by
  have lt := s.lt
  rw [List.length_map] at lt
  have m := Mem.start g
  refine DetP.forget rfl ?_
  refine w71 ?_
  unfold n71
  refine box_a (cs := [.int .i64 a, .int .i64 b, .int .i64 c, .bool d, w]) m fun i0 h0 z0 p0 m => ?_
  ((with_reducible (refine mv_i ?_; refine mv_i ?_)))
  refine loop1 ps.length (fun k h2 => Prec h0 h2 ∧ Mem g h2 [⟨some i0, [.int .i64 a, .int .i64 b, .int .i64 c, .bool d, w], z0⟩] ∧ ∀ j, j < k → ¬ gt ps j = ⟨a, b, c⟩) ⟨⟨Stab.refl _⟩, m, fun j hj => by omega⟩ ?_
  rintro k h2 _ hk ⟨p2, m, hJ⟩
  ((with_reducible (refine mv_i ?_; refine mv_i ?_)); (refine len_t (by assumption) ?_); (with_reducible (refine lss_i (fun hc => ?_) (fun hc => ?_); refine cnd_t ?_; refine mv_i ?_; refine mv_i ?_)); (refine idx_tx (by assumption) (by with_unfolding_all rfl) (by omega) fun p w hp => ?_); (with_reducible (refine fa_g (by assumption) fun p hp => ?_)); (refine ldgA ?_); (refine vbA ?_); (with_reducible (refine fao ?_)); (refine ldoA ?_); (refine vbA ?_); (with_reducible (refine eql_i (fun hc => ?_) (fun hc => ?_); refine mv_i ?_; refine gd_tt ?_; refine mv_i ?_; refine gd_tt ?_; refine mv_i ?_; refine gd_tt ?_)); (refine idx_tx (by assumption) (by with_unfolding_all rfl) (by omega) fun p w hp => ?_); (with_reducible (refine gd_tt ?_; refine fa_g (by assumption) fun p hp => ?_; refine gd_tt ?_)); (refine ldgA ?_); (refine vbA ?_); (with_reducible (refine gd_tt ?_; refine fao ?_; refine gd_tt ?_)); (refine ldoA ?_); (refine vbA ?_); (with_reducible (refine gd_tt ?_; refine eql_i (fun hc => ?_) (fun hc => ?_); refine pick_t ?_; refine mv_i ?_; refine gd_tt ?_; refine mv_i ?_; refine gd_tt ?_; refine mv_i ?_; refine gd_tt ?_)); (refine idx_tx (by assumption) (by with_unfolding_all rfl) (by omega) fun p w hp => ?_); (with_reducible (refine gd_tt ?_; refine fa_g (by assumption) fun p hp => ?_; refine gd_tt ?_)); (refine ldgA ?_); (refine vbA ?_); (with_reducible (refine gd_tt ?_; refine fao ?_; refine gd_tt ?_)); (refine ldoA ?_); (refine vbA ?_); (with_reducible (refine gd_tt ?_; refine eql_i (fun hc => ?_) (fun hc => ?_); refine pick_t ?_; refine cnd_t ?_; refine mv_i ?_; refine ret1 ?_)); (rotate_left); (with_reducible (refine pick_t ?_; refine cnd_f ?_; refine mv_i ?_; refine inc_i (by omega) ?_; refine mv_i ?_)); (rotate_left); (with_reducible (refine pick_t ?_; refine mv_i ?_; refine gd_ft ?_; refine gd_ft ?_; refine gd_ft ?_; refine gd_ft ?_; refine gd_ft ?_; refine gd_ft ?_; refine gd_ft ?_; refine gd_ft ?_; refine pick_f ?_; refine cnd_f ?_; refine mv_i ?_; refine inc_i (by omega) ?_; refine mv_i ?_)); (rotate_left); (with_reducible (refine mv_i ?_; refine gd_ft ?_; refine gd_ft ?_; refine gd_ft ?_; refine gd_ft ?_; refine gd_ft ?_; refine gd_ft ?_; refine gd_ft ?_; refine gd_ft ?_; refine pick_f ?_; refine mv_i ?_; refine gd_ft ?_; refine gd_ft ?_; refine gd_ft ?_; refine gd_ft ?_; refine gd_ft ?_; refine gd_ft ?_; refine gd_ft ?_; refine gd_ft ?_; refine pick_f ?_; refine cnd_f ?_; refine mv_i ?_; refine inc_i (by omega) ?_; refine mv_i ?_)); (rotate_left); (with_reducible (refine cnd_f ?_; refine mv_i ?_; refine ret1 ?_)); (rotate_left))
  all_goals first
    | exact ⟨by rw [decide_eq_true (mem_gt.mpr ⟨k, by omega, by rw [show gt ps k = ⟨(gt ps k).x, (gt ps k).a, (gt ps k).b⟩ from rfl]; simp only [T3.mk.injEq]; exact ⟨by assumption, by assumption, by assumption⟩⟩)], Mem.pre (by assumption)⟩
    | (refine next1 (by omega) ⟨⟨Stb.st⟩, m, fun j hj => ?_⟩
       by_cases q : j = k
       · subst q; intro e; have h1 := congrArg T3.x e; have h2 := congrArg T3.a e; have h3 := congrArg T3.b e; simp only at h1 h2 h3; contradiction
       · exact hJ j (by omega))
    | (refine ⟨?_, Mem.pre (by assumption)⟩
       rw [decide_eq_false]
       intro hm
       obtain ⟨j, hj, e⟩ := mem_gt.mp hm
       exact hJ j (by omega) e)
def pw5 : List T3 → List Value → List Value
  | p :: ps, v :: vs => .int .i64 p.x :: .int .i64 p.a :: .int .i64 p.b :: .bool false :: v :: pw5 ps vs
  | _, _ => []
theorem pw5_get : ∀ {ps : List T3} {vs : List Value} {k : Nat}, vs.length = ps.length → k < ps.length → (pw5 ps vs)[k * 5]? = some (.int .i64 (gt ps k).x) ∧ (pw5 ps vs)[k * 5 + 1]? = some (.int .i64 (gt ps k).a) ∧ (pw5 ps vs)[k * 5 + 2]? = some (.int .i64 (gt ps k).b) ∧ (pw5 ps vs)[k * 5 + 3]? = some (.bool false) ∧ (pw5 ps vs)[k * 5 + 4]? = vs[k]?
  | [], _, _, _, h => by simp at h
  | _ :: _, [], _, h, _ => by simp at h
  | p :: ps, v :: vs, 0, _, _ => by simp [pw5, gt]
  | p :: ps, v :: vs, k + 1, h1, h2 => by
    have := pw5_get (ps := ps) (vs := vs) (k := k) (by simpa using h1) (by simpa using h2)
    rw [show (k + 1) * 5 = k * 5 + 5 by omega]
    simpa [pw5, gt, Nat.add_assoc] using this
theorem pw5_add : ∀ {ps : List T3} {vs : List Value} {p : T3} {v : Value}, vs.length = ps.length → pw5 (ps ++ [p]) (vs ++ [v]) = pw5 ps vs ++ [.int .i64 p.x, .int .i64 p.a, .int .i64 p.b, .bool false, v]
  | [], [], _, _, _ => rfl
  | _ :: _, [], _, _, h => by simp at h
  | [], _ :: _, _, _, h => by simp at h
  | p :: ps, v :: vs, p', v', h => by
    have := pw5_add (ps := ps) (vs := vs) (p := p') (v := v') (by simpa using h)
    simp [pw5, this]
theorem pw5_len : ∀ {ps : List T3} {vs : List Value}, vs.length = ps.length → (pw5 ps vs).length = ps.length * 5
  | [], [], _ => rfl
  | _ :: _, [], h => by simp at h
  | [], _ :: _, h => by simp at h
  | p :: ps, v :: vs, h => by
    have := pw5_len (ps := ps) (vs := vs) (by simpa using h)
    simp [pw5, this]; omega
theorem pw5_rd : ∀ {ps : List T3} {vs : List Value}, vs.length = ps.length → (∀ v ∈ vs, v.oneCell' = true) → RdL h (pw5 ps vs) (ps.map TX.mk)
  | [], [], _, _ => RdL.nil h
  | _ :: _, [], h, _ => by simp at h
  | [], _ :: _, h, _ => by simp at h
  | p :: ps, v :: vs, e, hv => by
    obtain ⟨css, e1, e2, e3⟩ := pw5_rd (ps := ps) (vs := vs) (by simpa using e) (fun w hw => hv w (by simp [hw]))
    refine ⟨[.int .i64 p.x, .int .i64 p.a, .int .i64 p.b, .bool false, v] :: css, by simpa using e1, by simp [pw5, e2], fun k h1 h2 => ?_⟩
    cases k with
    | zero => exact ⟨v, rfl, hv v (by simp)⟩
    | succ k =>
      have h3 := e3 k (by simpa using h1) (by simpa using h2)
      simp only [List.getElem_map] at h3
      simpa using h3
theorem c56s {v : Value} {x : Mach} (s : MacV g v x) (h0 : (chkM x).2 = 0) (hl : (x.steps.length : Int) = x.states * x.inputs) {q w : Int} (hq : 0 ≤ q ∧ q ≤ x.states - 1) (hw : 0 ≤ w ∧ w ≤ x.inputs - 1) :
    Runs Try.prog 56 [v, .int .i64 q, .int .i64 w] g (.tuple #[.int .i64 (stO x q w).out, .int .i64 (stO x q w).to]) g := c56 s h0 hl hq hw
theorem c39 {v y u : Value} {x : Mach} {l l2 : List Mut} (s : MacV g v x) (t : L g y l) (r : L g u l2) (hB : bothE x l = 0) (hB2 : bothE x l2 = 0) :
    DetP Try.prog 39 [v, y, u] g fun v' h' => g <+: h' ∧ ∃ b n q, v' = .tuple #[.slice b n q, .bool (rsrch x (mutd x l) (mutd x l2) ⟨x.start, (mutd x l).start, (mutd x l2).start⟩).fnd.isSome] ∧ L h' (.slice b n q) ((rsrch x (mutd x l) (mutd x l2) ⟨x.start, (mutd x l).start, (mutd x l2).start⟩).fnd.getD []) := by
  refine DetP.freeze ?_
  obtain ⟨tv, rfl, s⟩ := s
  obtain ⟨b0, q0, rfl, _⟩ := s.shape
  obtain ⟨Py, hy0⟩ := par_x hB
  obtain ⟨Pz, hz0⟩ := par_x hB2
  obtain ⟨e1, e2⟩ := bothE_ok hB
  obtain ⟨_, e4⟩ := bothE_ok hB2
  obtain ⟨m1, m2⟩ := mutE_ok e2
  obtain ⟨m3, m4⟩ := mutE_ok e4
  have hsm := small e1
  have hN := (errM_ok e1).2.2.2
  have m := Mem.start g
  refine w39 ?_
  unfold n39
  have C := fun {h : Heap} {v y : Value} (s : MacV h v x) (t : L h y l) => c24 (g := h) s t (by omega) m2
  have D := fun {h : Heap} {v y : Value} (s : MacV h v x) (t : L h y l2) => c24 (g := h) s t (by omega) m4
  obtain ⟨ym, hy⟩ : ∃ ym, ym = mutd x l := ⟨_, rfl⟩
  obtain ⟨zm, hz⟩ : ∃ zm, zm = mutd x l2 := ⟨_, rfl⟩
  rw [← hy] at Py hy0 C
  rw [← hz] at Pz hz0 D
  rw [← hy, ← hz]
  have P : Tri x ym zm := ⟨Py, Pz⟩
  have h0 : in3 x ⟨x.start, ym.start, zm.start⟩ := ⟨hy0.1, hy0.2, hz0.2⟩
  clear hy hz hB hB2 e1 e2 e4 m1 m2 m3 m4
  refine box_a m fun ix h1 zx p1 m => ?_
  ((with_reducible (refine mv_i ?_; refine mv_i ?_)); (refine ldwA ?_); (refine vb_mac (by assumption) ?_); (with_reducible (refine mv_i ?_)))
  refine calld_d (C ⟨_, rfl, s.up⟩ t.up) m fun v2 h2 p1 p2 m ⟨b2, q2, n2, e2, hn2, s2⟩ => ?_
  subst e2
  subst hn2
  refine new_p p1 ?_
  ((refine ldwA ?_); (refine vb_mac (by assumption) ?_); (with_reducible (refine mv_i ?_)))
  refine calld_d (D ⟨_, rfl, s.up⟩ r.up) m fun v2 h2 p1 p2 m ⟨b3, q3, n3, e2, hn2, s3⟩ => ?_
  subst e2
  subst hn2
  refine new_p p1 ?_
  refine alloc_z m fun iy h3 zy p3 m => ?_
  refine alloc_z m fun iz h4 zz p4 m => ?_
  ((refine st_w (by assumption) (by infer_instance) (by with_unfolding_all rfl) (by with_unfolding_all rfl) (by first | rfl | exact flat_ones (Flat.flat _)) (by infer_instance) fun h p m => ?_); (with_reducible (refine ⟨trivial, ?_⟩)); (refine st_w (by assumption) (by infer_instance) (by with_unfolding_all rfl) (by with_unfolding_all rfl) (by first | rfl | exact flat_ones (Flat.flat _)) (by infer_instance) fun h p m => ?_); (with_reducible (refine ⟨trivial, ?_⟩; refine fao ?_)); (refine ldoA ?_); (with_reducible (refine fao ?_)); (refine ldoA ?_); (with_reducible (refine fao ?_)); (refine ldoA ?_); (refine vk_i (bd113_012 _ _ _) ?_); (refine bs_g (bs114_1 _ _ _ _ _ _ _ _) (by assumption) fun i h p m => ?_); (with_reducible (refine mv_i ?_; refine mv_i ?_)))
  obtain ⟨hx, rfl⟩ : ∃ q, q = h := ⟨h, rfl⟩
  have hipy : ym.inputs = x.inputs := P.xy.ip
  have hsty : ym.states = x.states := P.xy.st
  have hipz : zm.inputs = x.inputs := P.xz.ip
  have hstz : zm.states = x.states := P.xz.st
  obtain ⟨⟨a1, a2⟩, ⟨a3, a4⟩, _⟩ := (chk_ok P.xy.cx).1
  have LX := P.xy.lx
  have CX := P.xy.cx
  refine loop2 1728 (fun k a h => (rbfs x ym zm ⟨x.start, ym.start, zm.start⟩ k).fnd = none ∧ ∃ o1 vs W, IsSl a (some o1) (rbfs x ym zm ⟨x.start, ym.start, zm.start⟩ k).ps.length ∧ LL vs W (rbfs x ym zm ⟨x.start, ym.start, zm.start⟩ k).ws ∧ Prec hx h ∧ Mem g h (⟨some o1, pw5 (rbfs x ym zm ⟨x.start, ym.start, zm.start⟩ k).ps vs, 5⟩ :: ⟨some iz, [.int .i64 zm.states, .int .i64 zm.inputs, .int .i64 zm.outputs, .int .i64 zm.start, .slice b3 zm.steps.length q3], zz⟩ :: ⟨some iy, [.int .i64 ym.states, .int .i64 ym.inputs, .int .i64 ym.outputs, .int .i64 ym.start, .slice b2 ym.steps.length q2], zy⟩ :: ⟨some ix, [.int .i64 x.states, .int .i64 x.inputs, .int .i64 x.outputs, .int .i64 x.start, .slice b0 x.steps.length q0], zx⟩ :: rowsW W (rbfs x ym zm ⟨x.start, ym.start, zm.start⟩ k).ws)) ⟨rfl, ?_⟩ ?_
  · refine ⟨_, [.slice none 0 0], [none], IsSl.some1, ⟨rfl, rfl, fun j hj => ?_⟩, ⟨Stab.refl _⟩, ?_⟩
    · have : j = 0 := by simp [rbfs] at hj; exact hj
      subst this; exact IsSl.nil
    · exact (m.nil 1).perm (List.perm_append_singleton (⟨none, [], 1⟩ : E) [_, _, _, _]).symm
  rintro k a h5 _ hk ⟨hf, o1, vs, W, hs1, hll, p5, m⟩
  have B0 := RI.all P h0 k
  have W0 := rbfs_wl P h0 k
  have hend := @rsrch_end x ym zm ⟨x.start, ym.start, zm.start⟩ k hk
  have hfnd := fun (n : Nat) => @rsrch_fnd x ym zm ⟨x.start, ym.start, zm.start⟩ k n
  have hnext := @rbfs_next x ym zm ⟨x.start, ym.start, zm.start⟩ k
  generalize hS : rbfs x ym zm ⟨x.start, ym.start, zm.start⟩ k = S at *
  have lw := B0.len
  have few := B0.few hN
  have hvl : vs.length = S.ps.length := by rw [← lw]; exact hll.1
  ((with_reducible (refine mv_i ?_; refine mv_i ?_; refine len_o (by assumption) ?_; refine lss_i (fun hc => ?_) (fun hc => ?_); refine cnd_t ?_; refine mv_i ?_)); (rotate_left); (with_reducible (refine cnd_f ?_; refine mv_i ?_; refine mv_i ?_; refine ret2 ?_)); (rotate_left))
  · have hkl : k < S.ps.length := by omega
    obtain ⟨⟨r1, r2⟩, ⟨r3, r4⟩, r5, r6⟩ := B0.inp _ (gd_mem Df.d hkl)
    change 0 ≤ (gt S.ps k).x at r1
    change (gt S.ps k).x ≤ x.states - 1 at r2
    change 0 ≤ (gt S.ps k).a at r3
    change (gt S.ps k).a ≤ x.states - 1 at r4
    change 0 ≤ (gt S.ps k).b at r5
    change (gt S.ps k).b ≤ x.states - 1 at r6
    refine loop2 x.inputs.toNat (fun n a h => (rrow x ym zm k S n).fnd = none ∧ ∃ o1 vs W, IsSl a (some o1) (rrow x ym zm k S n).ps.length ∧ LL vs W (rrow x ym zm k S n).ws ∧ Prec hx h ∧ Mem g h (⟨some o1, pw5 (rrow x ym zm k S n).ps vs, 5⟩ :: ⟨some iz, [.int .i64 zm.states, .int .i64 zm.inputs, .int .i64 zm.outputs, .int .i64 zm.start, .slice b3 zm.steps.length q3], zz⟩ :: ⟨some iy, [.int .i64 ym.states, .int .i64 ym.inputs, .int .i64 ym.outputs, .int .i64 ym.start, .slice b2 ym.steps.length q2], zy⟩ :: ⟨some ix, [.int .i64 x.states, .int .i64 x.inputs, .int .i64 x.outputs, .int .i64 x.start, .slice b0 x.steps.length q0], zx⟩ :: rowsW W (rrow x ym zm k S n).ws)) ⟨hf, o1, vs, W, hs1, hll, ⟨Stb.st⟩, m⟩ ?_
    rintro n a h6 _ hn ⟨hf2, o1, vs, W, hs1, hll, p6, m⟩
    have B1 := B0.row P hkl n hn
    have W1 := rrow_wl (x := x) (y := ym) (z := zm) (i := k) W0 (by omega) n
    have hgp := gt_pre (rrow_grow (x := x) (y := ym) (z := zm) (i := k) (s := S) n).1 hkl
    have hlen2 := (rrow_grow (x := x) (y := ym) (z := zm) (i := k) (s := S) n).1.length_le
    have hfnd2 := hfnd n
    generalize hQ : rrow x ym zm k S n = Q at *
    have lw2 := B1.len
    have few2 := B1.few hN
    have hwl := W1 _ (gd_mem [] (show k < Q.ws.length by omega))
    have hvl : vs.length = Q.ps.length := by rw [← lw2]; exact hll.1
    obtain ⟨g1, g2, g3, g4, g5⟩ := pw5_get hvl (show k < Q.ps.length by omega)
    rw [hgp] at g1 g2 g3
    ((with_reducible (refine mv_i ?_; refine fao ?_)); (refine ldoA ?_); (with_reducible (refine lss_i (fun hc => ?_) (fun hc => ?_); refine cnd_t ?_)); (rotate_left); (with_reducible (refine cnd_f ?_; refine mv_i ?_; refine inc_i (by omega) ?_; refine mv_i ?_)); (rotate_left))
    · refine seq_J (fun xs h => ∃ a, xs = [a] ∧ (rst x ym zm k n Q).fnd = none ∧ ∃ o1 vs W, IsSl a (some o1) (rst x ym zm k n Q).ps.length ∧ LL vs W (rst x ym zm k n Q).ws ∧ Prec hx h ∧ Mem g h (⟨some o1, pw5 (rst x ym zm k n Q).ps vs, 5⟩ :: ⟨some iz, [.int .i64 zm.states, .int .i64 zm.inputs, .int .i64 zm.outputs, .int .i64 zm.start, .slice b3 zm.steps.length q3], zz⟩ :: ⟨some iy, [.int .i64 ym.states, .int .i64 ym.inputs, .int .i64 ym.outputs, .int .i64 ym.start, .slice b2 ym.steps.length q2], zy⟩ :: ⟨some ix, [.int .i64 x.states, .int .i64 x.inputs, .int .i64 x.outputs, .int .i64 x.start, .slice b0 x.steps.length q0], zx⟩ :: rowsW W (rst x ym zm k n Q).ws)) ?_ ?_
      · rintro _ h7 ⟨a3, rfl, hf3, rest⟩
        (((with_reducible refine fun (_ : Tmps) => ?_); (try dsimp only [nth])); (with_reducible (refine mv_i ?_; refine inc_i (by omega) ?_; refine mv_i ?_)))
        refine next2 (by omega) ⟨?_, ?_⟩
        · show (rst x ym zm k n (rrow x ym zm k S n)).fnd = none
          rw [hQ]; exact hf3
        · show ∃ o1 vs W, IsSl a3 (some o1) (rst x ym zm k n (rrow x ym zm k S n)).ps.length ∧ LL vs W (rst x ym zm k n (rrow x ym zm k S n)).ws ∧ Prec hx h7 ∧ Mem g h7 (⟨some o1, pw5 (rst x ym zm k n (rrow x ym zm k S n)).ps vs, 5⟩ :: ⟨some iz, [.int .i64 zm.states, .int .i64 zm.inputs, .int .i64 zm.outputs, .int .i64 zm.start, .slice b3 zm.steps.length q3], zz⟩ :: ⟨some iy, [.int .i64 ym.states, .int .i64 ym.inputs, .int .i64 ym.outputs, .int .i64 ym.start, .slice b2 ym.steps.length q2], zy⟩ :: ⟨some ix, [.int .i64 x.states, .int .i64 x.inputs, .int .i64 x.outputs, .int .i64 x.start, .slice b0 x.steps.length q0], zx⟩ :: rowsW W (rst x ym zm k n (rrow x ym zm k S n)).ws)
          rw [hQ]; exact rest
      · intro k' hk'
        obtain ⟨vk, hvk, hvs⟩ := hll.at (j := k) (by omega)
        rw [hvk] at g5
        have hokz : okz x zm (gt Q.ps k) n ↔ (stO x (gt S.ps k).x (n : Int)).out = (stO zm (gt S.ps k).b (n : Int)).out := by rw [hgp]; exact Iff.rfl
        have htg : tg3 x ym zm (gt Q.ps k) n = ⟨(stO x (gt S.ps k).x (n : Int)).to, (stO ym (gt S.ps k).a (n : Int)).to, (stO zm (gt S.ps k).b (n : Int)).to⟩ := by rw [hgp]; rfl
        have hkl2 : kil x ym (gt Q.ps k) n = !decide ((stO x (gt S.ps k).x (n : Int)).out = (stO ym (gt S.ps k).a (n : Int)).out) := by rw [hgp]; rfl
        ((refine ldwA ?_); (refine vb_mac (by assumption) ?_); (with_reducible (refine mv_i ?_; refine mv_i ?_)); (refine idx_o (by assumption) (by omega) ?_); (with_reducible (refine fao_e ?_)))
        refine ldo m (k := 0) (q := ⟨rfl⟩) g1 ?_
        ((refine vbA ?_); (with_reducible (refine mv_i ?_)))
        refine calld_r (c56s ⟨_, rfl, s.up⟩ CX LX ⟨r1, r2⟩ ⟨by omega, by omega⟩) ?_
        ((with_reducible (refine new_n ?_; refine mv_i ?_; refine ex2_0 ?_; refine ex2_1 ?_; refine mv_i ?_; refine mv_i ?_)); (refine ldwA ?_); (refine vb_mac (by assumption) ?_); (with_reducible (refine mv_i ?_; refine mv_i ?_)); (refine idx_o (by assumption) (by omega) ?_); (with_reducible (refine fao_e ?_)))
        refine ldo m (k := 0) (q := ⟨rfl⟩) g2 ?_
        ((refine vbA ?_); (with_reducible (refine mv_i ?_)))
        refine calld_r (c56s (x := ym) ⟨_, rfl, s2.up⟩ P.xy.cy P.xy.ly ⟨r3, by omega⟩ ⟨by omega, by omega⟩) ?_
        ((with_reducible (refine new_n ?_; refine mv_i ?_; refine ex2_0 ?_; refine ex2_1 ?_; refine mv_i ?_; refine mv_i ?_)); (refine ldwA ?_); (refine vb_mac (by assumption) ?_); (with_reducible (refine mv_i ?_; refine mv_i ?_)); (refine idx_o (by assumption) (by omega) ?_); (with_reducible (refine fao_e ?_)))
        refine ldo m (k := 0) (q := ⟨rfl⟩) g3 ?_
        ((refine vbA ?_); (with_reducible (refine mv_i ?_)))
        refine calld_r (c56s (x := zm) ⟨_, rfl, s3.up⟩ P.xz.cy P.xz.ly ⟨r5, by omega⟩ ⟨by omega, by omega⟩) ?_
        ((with_reducible (refine new_n ?_; refine mv_i ?_; refine ex2_0 ?_; refine ex2_1 ?_; refine mv_i ?_; refine mv_i ?_; refine mv_i ?_; refine mv_i ?_; refine neq_i (fun hc => ?_) (fun hc => ?_); refine cnd_f ?_; refine mv_i ?_; refine mv_i ?_; refine mv_i ?_; refine mv_i ?_; refine mv_i ?_)); (refine idx_o (by assumption) (by omega) ?_); (with_reducible (refine fao_e ?_)); (rotate_left); (with_reducible (refine cnd_t ?_)); (rotate_left))
        rotate_left
        · have e : rst x ym zm k n Q = Q := rst_skip hf2 (fun q => hc (hokz.mp q).symm)
          refine hk' _ _ ⟨a, rfl, by rw [e]; exact hf2, ?_⟩
          rw [e]
          exact ⟨o1, vs, W, hs1, hll, ⟨Stb.st⟩, m⟩
        have hok := hokz.mpr hc.symm
        refine ldo m (k := 0) (q := ⟨rfl⟩) g4 ?_
        ((refine vbA ?_); (with_reducible (refine mv_i ?_; refine gd_ff ?_; refine mv_i ?_; refine gd_ff ?_; refine mv_i ?_; refine gd_ff ?_; refine neq_i (fun hc => ?_) (fun hc => ?_); refine pick_f ?_; refine mv_i ?_; refine mv_i ?_)); (refine idx_o (by assumption) (by omega) ?_); (with_reducible (refine fao_e ?_)); (rotate_left); (with_reducible (refine pick_f ?_; refine mv_i ?_; refine mv_i ?_)); (refine idx_o (by assumption) (by omega) ?_); (with_reducible (refine fao_e ?_)); (rotate_left))
        · refine ldo m (k := 0) (q := ⟨rfl⟩) g5 ?_
          have qe : EntO (⟨some o1, pw5 Q.ps vs, 5⟩ :: ⟨some iz, [.int .i64 zm.states, .int .i64 zm.inputs, .int .i64 zm.outputs, .int .i64 zm.start, .slice b3 zm.steps.length q3], zz⟩ :: ⟨some iy, [.int .i64 ym.states, .int .i64 ym.inputs, .int .i64 ym.outputs, .int .i64 ym.start, .slice b2 ym.steps.length q2], zy⟩ :: ⟨some ix, [.int .i64 x.states, .int .i64 x.inputs, .int .i64 x.outputs, .int .i64 x.start, .slice b0 x.steps.length q0], zx⟩ :: rowsW W Q.ws) (W.getD k none) (k + 4) (flat (Q.ws.getD k [])) 1 := ⟨by show (rowsW W Q.ws)[k]? = _; exact rowsW_get hll (by omega)⟩
          refine IsSl.vb hvs m qe ?_
          refine calld_d (c70 m qe hvs (by omega)) m fun v7 h7 p7 p7' _ ⟨o', hv, hnn⟩ => ?_
          have m := hnn _ _ m
          refine new_p p7 ?_
          ((with_reducible (refine mv_i ?_)); (refine bs_g (bs53_1 _ _) (by assumption) fun i h p m => ?_))
          refine app_snoc (a := (n : Int)) (k2 := 0) (j := 0) m hv (by infer_instance) ⟨rfl⟩ rfl ⟨by omega, by omega⟩ fun i2 h8 p8 m => ?_
          simp only [List.set_cons_succ, List.set_cons_zero] at m
          ((with_reducible (refine ⟨trivial, ?_⟩)); (refine vk_i (bd113_01234 _ _ _ _ _ _ _) ?_); (with_reducible (refine alloc_z (by assumption) fun i h z p m => ?_)); (refine st_w (by assumption) (by infer_instance) (by with_unfolding_all rfl) (by with_unfolding_all rfl) (by first | rfl | exact flat_ones (Flat.flat _)) (by infer_instance) fun h p m => ?_); (with_reducible (refine ⟨trivial, ?_⟩; refine fao ?_)); (refine ldoA ?_); (with_reducible (refine cnd_f ?_; refine mv_i ?_)); (refine ldwA ?_))
          have hkil : kil x ym (gt Q.ps k) n = false := by rw [hkl2, decide_eq_true hc.symm]; rfl
          have hwd : (wrd3 Q k n).length = (Q.ws.getD k []).length + 1 := by simp [wrd3]
          refine call_r (Runs.lent (c71 (IsSl.lentR (xs := Q.ps.map TX.mk) (by rw [List.length_map]; exact hs1) m (by infer_instance) rfl (pw5_rd hvl (ll_ones hll)) (by rw [List.length_map]; omega)) _ _ _ _ _ rfl)) ?_
          ((with_reducible (refine not_d (fun hb => ?_) (fun hb => ?_); refine cnd_f ?_)); (rotate_left); (with_reducible (refine cnd_t ?_; refine mv_i ?_)); (refine ldwA ?_); (refine bs_g (bs114_1 _ _ _ _ _ _ _ _) (by assumption) fun i h p m => ?_); (rotate_left))
          · have e := rst_met hf2 hok hkil (by rw [htg]; exact hb)
            refine hk' _ _ ⟨a, rfl, by rw [e]; exact hf2, ?_⟩
            rw [e]
            exact ⟨o1, vs, W, hs1, hll, ⟨Stb.st⟩, m.tail.tail.tail⟩
          · have e := rst_new hf2 hok hkil (by rw [htg]; exact hb)
            refine app_o m hs1 (by infer_instance) (pw5_len hvl) (src_own m (q := (⟨rfl⟩ : Ent _ _ 0 _ _)) (n := 1) rfl (by decide) (by decide) rfl) ⟨by omega, by omega⟩ fun i4 h10 p10 m => ?_
            simp only [List.set_cons_succ, List.set_cons_zero] at m
            ((with_reducible (refine mv_i ?_)))
            refine hk' _ _ ⟨_, rfl, by rw [e], ?_⟩
            rw [e, htg]
            refine ⟨i4, vs ++ [.slice (some ⟨i2, 0, none⟩) ((Q.ws.getD k []).length + 1) 0], W ++ [some i2], by rw [List.length_append]; exact IsSl.some0, hll.add (by rw [hwd]; exact IsSl.some0), ⟨Stb.st⟩, ?_⟩
            rw [rowsW_add hll, pw5_add hvl]
            exact m.tail.tail.tail.perm (List.perm_append_singleton _ (_ :: _ :: _ :: _ :: rowsW W Q.ws)).symm
        · refine ldo m (k := 0) (q := ⟨rfl⟩) g5 ?_
          have qe : EntO (⟨some o1, pw5 Q.ps vs, 5⟩ :: ⟨some iz, [.int .i64 zm.states, .int .i64 zm.inputs, .int .i64 zm.outputs, .int .i64 zm.start, .slice b3 zm.steps.length q3], zz⟩ :: ⟨some iy, [.int .i64 ym.states, .int .i64 ym.inputs, .int .i64 ym.outputs, .int .i64 ym.start, .slice b2 ym.steps.length q2], zy⟩ :: ⟨some ix, [.int .i64 x.states, .int .i64 x.inputs, .int .i64 x.outputs, .int .i64 x.start, .slice b0 x.steps.length q0], zx⟩ :: rowsW W Q.ws) (W.getD k none) (k + 4) (flat (Q.ws.getD k [])) 1 := ⟨by show (rowsW W Q.ws)[k]? = _; exact rowsW_get hll (by omega)⟩
          refine IsSl.vb hvs m qe ?_
          refine calld_d (c70 m qe hvs (by omega)) m fun v7 h7 p7 p7' _ ⟨o', hv, hnn⟩ => ?_
          have m := hnn _ _ m
          refine new_p p7 ?_
          ((with_reducible (refine mv_i ?_)); (refine bs_g (bs53_1 _ _) (by assumption) fun i h p m => ?_))
          refine app_snoc (a := (n : Int)) (k2 := 0) (j := 0) m hv (by infer_instance) ⟨rfl⟩ rfl ⟨by omega, by omega⟩ fun i2 h8 p8 m => ?_
          simp only [List.set_cons_succ, List.set_cons_zero] at m
          ((with_reducible (refine ⟨trivial, ?_⟩)); (refine vk_i (bd113_01234 _ _ _ _ _ _ _) ?_); (with_reducible (refine alloc_z (by assumption) fun i h z p m => ?_)); (refine st_w (by assumption) (by infer_instance) (by with_unfolding_all rfl) (by with_unfolding_all rfl) (by first | rfl | exact flat_ones (Flat.flat _)) (by infer_instance) fun h p m => ?_); (with_reducible (refine ⟨trivial, ?_⟩; refine fao ?_)); (refine ldoA ?_); (with_reducible (refine cnd_t ?_; refine fao ?_)); (refine ldoA ?_); (with_reducible (refine mv_i ?_; refine mv_i ?_; refine ret2 ?_)))
          have hkil : kil x ym (gt Q.ps k) n = true := by rw [hkl2, decide_eq_false (fun q => hc q.symm)]; rfl
          have hwd : (wrd3 Q k n).length = (Q.ws.getD k []).length + 1 := by simp [wrd3]
          have e := hfnd2 hkl hk (by omega) hf2 hok hkil
          refine ⟨m.pre, some ⟨i2, 0, none⟩, (Q.ws.getD k []).length + 1, 0, by rw [e]; rfl, ?_⟩
          rw [e]
          exact IsSl.ro (o := some i2) (xs := wrd3 Q k n) (by rw [hwd]; exact IsSl.some0) m (k := 2) rfl (by omega)
    · have e : rbfs x ym zm ⟨x.start, ym.start, zm.start⟩ (k + 1) = Q := by
        rw [hnext hkl, ← hQ]
        congr 1; omega
      refine next2 (by omega) ⟨?_, ?_⟩
      · show (rbfs x ym zm ⟨x.start, ym.start, zm.start⟩ (k + 1)).fnd = none
        rw [e]; exact hf2
      · show ∃ o1 vs W, IsSl a (some o1) (rbfs x ym zm ⟨x.start, ym.start, zm.start⟩ (k + 1)).ps.length ∧ LL vs W (rbfs x ym zm ⟨x.start, ym.start, zm.start⟩ (k + 1)).ws ∧ Prec hx _ ∧ Mem g _ (⟨some o1, pw5 (rbfs x ym zm ⟨x.start, ym.start, zm.start⟩ (k + 1)).ps vs, 5⟩ :: ⟨some iz, [.int .i64 zm.states, .int .i64 zm.inputs, .int .i64 zm.outputs, .int .i64 zm.start, .slice b3 zm.steps.length q3], zz⟩ :: ⟨some iy, [.int .i64 ym.states, .int .i64 ym.inputs, .int .i64 ym.outputs, .int .i64 ym.start, .slice b2 ym.steps.length q2], zy⟩ :: ⟨some ix, [.int .i64 x.states, .int .i64 x.inputs, .int .i64 x.outputs, .int .i64 x.start, .slice b0 x.steps.length q0], zx⟩ :: rowsW W (rbfs x ym zm ⟨x.start, ym.start, zm.start⟩ (k + 1)).ws)
        rw [e]
        exact ⟨o1, vs, W, hs1, hll, ⟨Stb.st⟩, m⟩
  · have e := hend (by omega)
    refine ⟨m.pre, none, 0, 0, by rw [e, hf]; rfl, by rw [e, hf]; exact L.nil _⟩
end Go.Proofs.Ytomiejfeclefaaa

set_option linter.unusedSimpArgs false
set_option linter.unusedVariables false
set_option linter.unnecessarySimpa false
set_option maxRecDepth 100000
set_option maxHeartbeats 4000000
namespace Go.Proofs.Ytomiejfeclefaaa
open Go.AM
variable {h g : Heap}
def plOK (p : Pl) : Prop := ((0 ≤ p.x ∧ p.x ≤ 100) ∧ (0 ≤ p.a ∧ p.a ≤ 100) ∧ (0 ≤ p.b ∧ p.b ≤ 100))
theorem key107 (p : Pl) (hp : plOK p) : keyF Try.prog 107 (fv p) = true := by
  obtain ⟨⟨x1, x2⟩, ⟨a1, a2⟩, b1, b2⟩ := hp
  have e0 : Try.prog.plainKey 107 = false := by kernel_rfl
  have e1 : flatK (fv p) = true := by kernel_rfl
  have e2 : (Try.prog.keyType 107 && (fv p).formed Try.prog 107) = true := by kernel_rfl
  have t3 : Try.prog.underlying 3 = some (.int .i64) := by kernel_rfl
  have t4 : Try.prog.underlying 4 = some .bool := by kernel_rfl
  have c3 : Try.prog.cellsOf 3 = 1 := by kernel_rfl
  have c4 : Try.prog.cellsOf 4 = 1 := by kernel_rfl
  have c107 : Try.prog.cellsOf 107 = 4 := by kernel_rfl
  obtain ⟨N, hN⟩ : ∃ N, Try.prog.types.size + 1 = N + 2 := ⟨Try.prog.types.size - 1, by
    have h1 : (Try.prog.types.size == 0) = false := by kernel_rfl
    have : Try.prog.types.size ≠ 0 := ne_of_beq_false h1
    omega⟩
  unfold keyF
  rw [e0, e1]
  simp only [Bool.true_and, Bool.false_eq_true, if_false]
  unfold keyOf
  rw [Try.underlying107]
  simp only
  rw [if_pos e2, hN]
  have : Try.prog.keyLits (N + 2) 107 (fv p).cells.toList = some [.int .i64 p.x, .int .i64 p.a, .int .i64 p.b, .bool p.d] := by
    show Try.prog.keyLits (N + 1 + 1) 107 [.int .i64 p.x, .int .i64 p.a, .int .i64 p.b, .bool p.d] = _
    unfold Program.keyLits
    simp only [Try.underlying107, c107, c3, c4]
    rw [if_pos ⟨rfl, by kernel_rfl⟩]
    simp [List.mapM_cons, lit_i t3 (wf_i (n := p.x) (by omega) (by omega)), lit_i t3 (wf_i (n := p.a) (by omega) (by omega)), lit_i t3 (wf_i (n := p.b) (by omega) (by omega)), lit_b t4, c3, c4]
  rw [this]; rfl
instance : MapT Try.prog 110 Pl (fun p => fv p) (.bool false) plOK := ⟨⟨107, 4, by kernel_rfl, by kernel_rfl, by kernel_rfl, by kernel_rfl, key107⟩, fun a => by kernel_rfl, fun a b e => by
  obtain ⟨a1, a2, a3, a4⟩ := a
  obtain ⟨b1, b2, b3, b4⟩ := b
  have h1 : (#[Value.int .i64 a1, .int .i64 a2, .int .i64 a3, .bool a4] : Array Value) = #[.int .i64 b1, .int .i64 b2, .int .i64 b3, .bool b4] := Value.agg.inj e
  simp at h1
  simp [h1]⟩
theorem plOK_of {x : Mach} (hN : x.states ≤ 12) {p : Pl} (h : in3 x p.t3) : plOK p := by
  obtain ⟨⟨q1, q2⟩, ⟨q3, q4⟩, q5, q6⟩ := h
  change 0 ≤ p.x at q1
  change p.x ≤ x.states - 1 at q2
  change 0 ≤ p.a at q3
  change p.a ≤ x.states - 1 at q4
  change 0 ≤ p.b at q5
  change p.b ≤ x.states - 1 at q6
  exact ⟨⟨q1, by omega⟩, ⟨q3, by omega⟩, q5, by omega⟩
theorem c52s {v : Value} {x : Mach} (s : MacV g v x) (h0 : (chkM x).2 = 0) (hl : (x.steps.length : Int) = x.states * x.inputs) {q w : Int} (hq : 0 ≤ q ∧ q ≤ x.states - 1) (hw : 0 ≤ w ∧ w ≤ x.inputs - 1) :
    Runs Try.prog 52 [v, .int .i64 q, .int .i64 w] g (fv (stO x q w)) g := c52 s h0 hl hq hw
noncomputable def bE (x : Mach) (l l2 : List Mut) : Int := if bothE x l ≠ 0 then bothE x l else (mutE x l2).2
theorem all2 (x : Mach) (l l2 : List Mut) : (if errM x ≠ 0 then errM x else allE x [l, l2]) = bE x l l2 := by
  unfold bE bothE allE allE allE
  by_cases h : (mutE x l).2 = 0 <;> by_cases h1 : errM x = 0 <;> by_cases h2 : (mutE x l2).2 = 0 <;> simp [h, h1, h2]
theorem bE_ok {x : Mach} {l l2 : List Mut} (h : bE x l l2 = 0) : bothE x l = 0 ∧ bothE x l2 = 0 := by
  unfold bE at h
  split at h
  · contradiction
  · rename_i h1
    have h1 : bothE x l = 0 := by simpa using h1
    obtain ⟨e1, _⟩ := bothE_ok h1
    exact ⟨h1, by rw [bothE, if_neg (by simpa using e1)]; exact h⟩
def stdE (x y z : Mach) : Int := if difE x y ⟨x.start, y.start⟩ ≠ 0 then 23 else if (rsrch x y z ⟨x.start, y.start, z.start⟩).fnd = none then 0 else 29
def stdW (x y z : Mach) : List Int := if difE x y ⟨x.start, y.start⟩ ≠ 0 then [] else (rsrch x y z ⟨x.start, y.start, z.start⟩).fnd.getD []
theorem c38 {v y u : Value} {x : Mach} {l l2 : List Mut} (s : MacV g v x) (t : L g y l) (r : L g u l2) (hE : bE x l l2 = 0) :
    DetP Try.prog 38 [v, y, u] g fun v' h' => g <+: h' ∧ ∃ b n q, v' = .tuple #[.slice b n q, .int .i64 (stdE x (mutd x l) (mutd x l2))] ∧ L h' (.slice b n q) (stdW x (mutd x l) (mutd x l2)) := by
  refine DetP.freeze ?_
  obtain ⟨tv, rfl, s⟩ := s
  obtain ⟨b0, q0, rfl, _⟩ := s.shape
  obtain ⟨bt, qt, rfl, _⟩ := t.shape
  obtain ⟨br, qr, rfl, _⟩ := r.shape
  obtain ⟨hB, hB2⟩ := bE_ok hE
  obtain ⟨Py, hy0⟩ := par_x hB
  obtain ⟨Pz, hz0⟩ := par_x hB2
  obtain ⟨e1, e2⟩ := bothE_ok hB
  obtain ⟨_, e4⟩ := bothE_ok hB2
  obtain ⟨m1, m2⟩ := mutE_ok e2
  obtain ⟨m3, m4⟩ := mutE_ok e4
  have hsm := small e1
  have hN := (errM_ok e1).2.2.2
  have m := Mem.start g
  refine w38 ?_
  unfold n38
  have C := fun {h : Heap} {v y : Value} (s : MacV h v x) (t : L h y l) => c50 (g := h) s t (by omega) m2
  have D := fun {h : Heap} {v y : Value} (s : MacV h v x) (t : L h y l2) => c50 (g := h) s t (by omega) m4
  have E1 := all2 x l l2
  rw [hE] at E1
  obtain ⟨ym, hy⟩ : ∃ ym, ym = mutd x l := ⟨_, rfl⟩
  obtain ⟨zm, hz⟩ : ∃ zm, zm = mutd x l2 := ⟨_, rfl⟩
  rw [← hy] at Py hy0 C
  rw [← hz] at Pz hz0 D
  rw [← hy, ← hz]
  have P : Tri x ym zm := ⟨Py, Pz⟩
  have h0 : in3 x ⟨x.start, ym.start, zm.start⟩ := ⟨hy0.1, hy0.2, hz0.2⟩
  have F := fun {h : Heap} {v w : Value} (s : MacV h v x) (t : MacV h w ym) => c64 (g := h) s t Py hy0
  unfold stdE stdW
  generalize difE x ym ⟨x.start, ym.start⟩ = de at F ⊢
  generalize difW x ym ⟨x.start, ym.start⟩ = dw at F
  clear hy hz hB hB2 e1 e2 e4 m1 m2 m3 m4 hE
  refine box_a m fun ix h1 zx p1 m => ?_
  ((with_reducible (refine mv_i ?_; refine mv_i ?_)); (refine ldwA ?_); (with_reducible (refine mv_i ?_; refine mv_i ?_)); (refine bs_g (bs51_2 _ _ _ _ _ _ _) (by assumption) fun i h p m => ?_))
  refine call_r (Runs.lent (c47 (ls := [l, l2]) ⟨_, rfl, s.lent⟩ (lent2 m (by infer_instance) t r rfl))) ?_
  rw [E1]
  ((with_reducible (refine mv_i ?_; refine mv_i ?_; refine neq_h (by first | assumption | decide) ?_; refine cnd_f ?_)); (refine ldwA ?_); (refine vb_mac (by assumption) ?_); (with_reducible (refine mv_i ?_)))
  refine calld_d (C ⟨_, rfl, s.up⟩ t.up) m fun v2 h2 p1 p2 m ⟨b2, q2, n2, e2, hn2, s2⟩ => ?_
  subst e2
  subst hn2
  refine new_p p1 ?_
  ((refine ldwA ?_); (refine vb_mac (by assumption) ?_); (with_reducible (refine mv_i ?_)))
  refine calld_d (D ⟨_, rfl, s.up⟩ r.up) m fun v2 h2 p1 p2 m ⟨b3, q3, n3, e2, hn2, s3⟩ => ?_
  subst e2
  subst hn2
  refine new_p p1 ?_
  refine alloc_z m fun iy h3 zy p3 m => ?_
  refine alloc_z m fun iz h4 zz p4 m => ?_
  ((refine st_w (by assumption) (by infer_instance) (by with_unfolding_all rfl) (by with_unfolding_all rfl) (by first | rfl | exact flat_ones (Flat.flat _)) (by infer_instance) fun h p m => ?_); (with_reducible (refine ⟨trivial, ?_⟩)); (refine st_w (by assumption) (by infer_instance) (by with_unfolding_all rfl) (by with_unfolding_all rfl) (by first | rfl | exact flat_ones (Flat.flat _)) (by infer_instance) fun h p m => ?_); (with_reducible (refine ⟨trivial, ?_⟩)); (refine ldwA ?_); (refine ldwA ?_))
  refine call_d (F ⟨_, rfl, s.up⟩ ⟨_, rfl, s2.up⟩) m fun v3 h3 p3 p4 m ⟨b4, n4, q4, e3, s4⟩ => ?_
  subst e3
  ((with_reducible (refine mv_i ?_; refine ex2_0 ?_; refine ex2_1 ?_; refine mv_i ?_; refine mv_i ?_; refine mv_i ?_; refine neq_i (fun hc => ?_) (fun hc => ?_); refine cnd_f ?_; refine fao ?_)); (refine ldoA ?_); (with_reducible (refine fao ?_)); (refine ldoA ?_); (with_reducible (refine fao ?_)); (refine ldoA ?_); (refine vk_i (bd107_012 _ _ _) ?_); (refine bs_g (bs108_1 _ _) (by assumption) fun i h p m => ?_); (refine bs_g (bs51_1 _ _ _ _) (by assumption) fun i h p m => ?_); (with_reducible (refine mv_i ?_; refine mv_i ?_)); (rotate_left); (with_reducible (refine cnd_t ?_; refine mv_i ?_; refine mv_i ?_; refine ret2 ?_)); (rotate_left))
  · have hde := hc
    have hipy : ym.inputs = x.inputs := P.xy.ip
    have hsty : ym.states = x.states := P.xy.st
    have hipz : zm.inputs = x.inputs := P.xz.ip
    have hstz : zm.states = x.states := P.xz.st
    obtain ⟨⟨a1, a2⟩, ⟨a3, a4⟩, _⟩ := (chk_ok P.xy.cx).1
    have LX := P.xy.lx
    have CX := P.xy.cx
    have hPL : ∀ {R : RS} {k : Nat} {ps : List Pl} {ws : List (List Int)}, Sim x R k ps ws → ∀ p ∈ ps, plOK p := fun S p hp => by
      obtain ⟨⟨q1, q2⟩, ⟨q3, q4⟩, q5, q6⟩ := S.inp p hp
      change 0 ≤ p.x at q1
      change p.x ≤ x.states - 1 at q2
      change 0 ≤ p.a at q3
      change p.a ≤ x.states - 1 at q4
      change 0 ≤ p.b at q5
      change p.b ≤ x.states - 1 at q6
      exact ⟨⟨q1, by omega⟩, ⟨q3, by omega⟩, q5, by omega⟩
    have S0 : Sim x (rbfs x ym zm ⟨x.start, ym.start, zm.start⟩ 0) 0 [T3.pl ⟨x.start, ym.start, zm.start⟩ false] [[]] := ⟨by simp, by intro p hp; rw [List.mem_singleton] at hp; subst hp; exact h0, rfl, .inl ⟨rfl, rfl, rfl⟩⟩
    refine mk_m (enc := fun p : Pl => fv p) m fun im h p m => ?_
    ((with_reducible (refine mv_i ?_)))
    refine idxon (by decide) ?_
    ((refine ldwA ?_))
    refine mup_s (ks := []) m List.nodup_nil (by simp) (T3.pl ⟨x.start, ym.start, zm.start⟩ false) (hPL S0 _ (by simp)) (by simp) rfl fun h p m => ?_
    ((with_reducible (refine mv_i ?_; refine mv_i ?_; refine mv_i ?_)))
    obtain ⟨hx, rfl⟩ : ∃ q, q = h := ⟨h, rfl⟩
    refine loop3 3456 (fun k a b h => ∃ ps ws o1 o2 vs W, Sim x (rbfs x ym zm ⟨x.start, ym.start, zm.start⟩ k) k ps ws ∧ (∀ w ∈ ws, w.length ≤ k) ∧ IsSl a (some o1) ps.length ∧ IsSl b (some o2) ps.length ∧ LL vs W ws ∧ Prec hx h ∧ Mem ⟨g, [(im, .map (setE (fun p : Pl => fv p) ps))]⟩ h (⟨some o1, flat ps, 4⟩ :: ⟨some o2, vs, 1⟩ :: ⟨some iz, [.int .i64 zm.states, .int .i64 zm.inputs, .int .i64 zm.outputs, .int .i64 zm.start, .slice b3 zm.steps.length q3], zz⟩ :: ⟨some iy, [.int .i64 ym.states, .int .i64 ym.inputs, .int .i64 ym.outputs, .int .i64 ym.start, .slice b2 ym.steps.length q2], zy⟩ :: ⟨some ix, [.int .i64 x.states, .int .i64 x.inputs, .int .i64 x.outputs, .int .i64 x.start, .slice b0 x.steps.length q0], zx⟩ :: rowsW W ws)) ?_ ?_
    · refine ⟨_, _, _, _, [.slice none 0 0], [none], S0, by simp, IsSl.some1, IsSl.some1, ⟨rfl, rfl, fun j hj => ?_⟩, ⟨Stab.refl _⟩, ?_⟩
      · have : j = 0 := by simp at hj; exact hj
        subst this; exact IsSl.nil
      · have m := m.perm (List.Perm.swap _ _ _)
        have m := m.sub (.cons_cons _ (.cons_cons _ (.cons_cons _ (.cons_cons _ (.cons _ (List.Sublist.refl _))))))
        exact (m.nil 1).perm (List.perm_append_singleton (⟨none, [], 1⟩ : E) [_, _, _, _, _]).symm
    rintro k a b h5 _ hk ⟨ps, ws, o1, o2, vs, W, hS0, hwl, hs1, hs2, hll, p5, m⟩
    have few := hS0.few hN
    have hpl := hPL hS0
    have lw := hS0.len
    have hlive := hS0.live
    have hof := fun q => rsrch_of (k := k) hk q P h0 hN
    have hrow := @rb_row x ym zm ⟨x.start, ym.start, zm.start⟩ k
    generalize hS : rbfs x ym zm ⟨x.start, ym.start, zm.start⟩ k = S at *
    ((with_reducible (refine mv_i ?_; refine mv_i ?_; refine len_o (by assumption) ?_; refine lss_i (fun hc => ?_) (fun hc => ?_); refine cnd_t ?_; refine mv_i ?_; refine mv_i ?_)); (refine idx_o (by assumption) (by omega) ?_); (refine ldw_d (by assumption) (by infer_instance) (by with_unfolding_all rfl) (by omega) ?_); (with_reducible (refine alloc_z (by assumption) fun i h z p m => ?_)); (refine st_w (by assumption) (by infer_instance) (by with_unfolding_all rfl) (by with_unfolding_all rfl) (by first | rfl | exact flat_ones (Flat.flat _)) (by infer_instance) fun h p m => ?_); (with_reducible (refine fao ?_)); (refine ldoA ?_); (with_reducible (refine cnd_b (fun hb => ?_) (fun hb => ?_); refine mv_i ?_; refine mv_i ?_)); (refine idx_o (by assumption) (by omega) ?_); (rotate_left); (with_reducible (refine fao ?_)); (refine ldoA ?_); (with_reducible (refine mv_i ?_)); (rotate_left); (with_reducible (refine cnd_f ?_; refine mv_i ?_; refine mv_i ?_; refine ret2 ?_)); (rotate_left))
    · have hkl : k < ps.length := by omega
      have hfd := hS0.hit hkl hb
      have e := hof (.inl (by rw [hfd]; simp))
      obtain ⟨vk, hvk, hvs⟩ := hll.at (j := k) (by omega)
      refine ldo m (k := 2) (q := ⟨rfl⟩) (by rw [Nat.mul_one]; exact hvk) ?_
      ((with_reducible (refine mv_i ?_; refine mv_i ?_; refine ret2 ?_)))
      obtain ⟨c1, c2, rfl⟩ : ∃ a c, vk = .slice a (ws.getD k []).length c := by
        cases hw : W.getD k none with
        | none => rw [hw] at hvs; exact ⟨none, 0, by rw [hvs.1, hvs.2]⟩
        | some i => rw [hw] at hvs; obtain ⟨c, e, _⟩ := hvs; exact ⟨_, c, e⟩
      refine ⟨m.mdrop.pre, c1, (ws.getD k []).length, c2, ?_, ?_⟩
      · rw [if_neg (by simpa using hde), if_neg (by rw [e, hfd]; simp)]
      · rw [if_neg (by simpa using hde), e, hfd]
        exact IsSl.ro (o := W.getD k none) hvs m (k := k + 6) (by show (rowsW W ws)[k]? = _; exact rowsW_get hll (by omega)) (by have := hwl _ (gd_mem [] (show k < ws.length by omega)); omega)
    · have hkl : k < ps.length := by omega
      have hnd : (gt ps k).d = false := by cases hd : (gt ps k).d <;> simp_all
      obtain ⟨⟨r1, r2⟩, ⟨r3, r4⟩, r5, r6⟩ := hS0.inp _ (gd_mem Df.d hkl)
      change 0 ≤ (gt ps k).x at r1
      change (gt ps k).x ≤ x.states - 1 at r2
      change 0 ≤ (gt ps k).a at r3
      change (gt ps k).a ≤ x.states - 1 at r4
      change 0 ≤ (gt ps k).b at r5
      change (gt ps k).b ≤ x.states - 1 at r6
      obtain ⟨pk, hpk⟩ : ∃ pk, gt ps k = pk := ⟨_, rfl⟩
      rw [hpk] at r1 r2 r3 r4 r5 r6 hnd m
      obtain ⟨ip, rfl⟩ : ∃ q, q = i := ⟨i, rfl⟩
      obtain ⟨zp, rfl⟩ : ∃ q, q = z := ⟨z, rfl⟩
      have hrow := hrow (hlive hkl)
      clear hlive hof few lw hpl
      refine loop3 x.inputs.toNat (fun n a b h => ∃ ps ws o1 o2 vs W, Sim x (rrow x ym zm k S n) k ps ws ∧ k < ps.length ∧ gt ps k = pk ∧ (ws.getD k []).length ≤ k ∧ (∀ w ∈ ws, w.length ≤ k + 1) ∧ IsSl a (some o1) ps.length ∧ IsSl b (some o2) ps.length ∧ LL vs W ws ∧ Prec hx h ∧ Mem ⟨g, [(im, .map (setE (fun p : Pl => fv p) ps))]⟩ h (⟨some o1, flat ps, 4⟩ :: ⟨some o2, vs, 1⟩ :: ⟨some ip, Flat.cells pk, zp⟩ :: ⟨some iz, [.int .i64 zm.states, .int .i64 zm.inputs, .int .i64 zm.outputs, .int .i64 zm.start, .slice b3 zm.steps.length q3], zz⟩ :: ⟨some iy, [.int .i64 ym.states, .int .i64 ym.inputs, .int .i64 ym.outputs, .int .i64 ym.start, .slice b2 ym.steps.length q2], zy⟩ :: ⟨some ix, [.int .i64 x.states, .int .i64 x.inputs, .int .i64 x.outputs, .int .i64 x.start, .slice b0 x.steps.length q0], zx⟩ :: rowsW W ws)) ⟨ps, ws, o1, o2, vs, W, hS0, hkl, hpk, hwl _ (gd_mem [] (show k < ws.length by rw [hS0.len]; exact hkl)), fun w hw => by have := hwl w hw; omega, hs1, hs2, hll, ⟨Stb.st⟩, m.perm ((List.Perm.swap _ _ _).trans (List.Perm.cons _ (List.Perm.swap _ _ _)))⟩ ?_
      clear hS0 hwl hs1 hs2 hll hkl hpk m
      rintro n a b h6 _ hn ⟨ps, ws, o1, o2, vs, W, hS1, hkl, hpk, hwk, hwl, hs1, hs2, hll, p6, m⟩
      have hst := fun hn => hS1.step P hkl (by rw [hpk]; exact hnd) (n := n) hn
      have few := hS1.few hN
      have hpl := hPL hS1
      have lw := hS1.len
      rw [hpk] at hst
      generalize hQ : rrow x ym zm k S n = Q at *
      ((with_reducible (refine lss_i (fun hc => ?_) (fun hc => ?_); refine cnd_t ?_)); (rotate_left); (with_reducible (refine cnd_f ?_; refine mv_i ?_; refine inc_i (by omega) ?_; refine mv_i ?_)); (rotate_left))
      · have hst := hst (by omega)
        refine seq_J (fun xs h => ∃ a b, xs = [a, b] ∧ ∃ ps ws o1 o2 vs W, Sim x (rst x ym zm k n Q) k ps ws ∧ k < ps.length ∧ gt ps k = pk ∧ (ws.getD k []).length ≤ k ∧ (∀ w ∈ ws, w.length ≤ k + 1) ∧ IsSl a (some o1) ps.length ∧ IsSl b (some o2) ps.length ∧ LL vs W ws ∧ Prec hx h ∧ Mem ⟨g, [(im, .map (setE (fun p : Pl => fv p) ps))]⟩ h (⟨some o1, flat ps, 4⟩ :: ⟨some o2, vs, 1⟩ :: ⟨some ip, Flat.cells pk, zp⟩ :: ⟨some iz, [.int .i64 zm.states, .int .i64 zm.inputs, .int .i64 zm.outputs, .int .i64 zm.start, .slice b3 zm.steps.length q3], zz⟩ :: ⟨some iy, [.int .i64 ym.states, .int .i64 ym.inputs, .int .i64 ym.outputs, .int .i64 ym.start, .slice b2 ym.steps.length q2], zy⟩ :: ⟨some ix, [.int .i64 x.states, .int .i64 x.inputs, .int .i64 x.outputs, .int .i64 x.start, .slice b0 x.steps.length q0], zx⟩ :: rowsW W ws)) ?_ ?_
        · rintro _ h7 ⟨a7, b7, rfl, rest⟩
          (((with_reducible refine fun (_ : Tmps) => ?_); (try dsimp only [nth])); (with_reducible (refine inc_i (by omega) ?_; refine mv_i ?_)))
          refine next3 (by omega) ?_
          show ∃ ps ws o1 o2 vs W, Sim x (rst x ym zm k n (rrow x ym zm k S n)) k ps ws ∧ k < ps.length ∧ gt ps k = pk ∧ (ws.getD k []).length ≤ k ∧ (∀ w ∈ ws, w.length ≤ k + 1) ∧ IsSl a7 (some o1) ps.length ∧ IsSl b7 (some o2) ps.length ∧ LL vs W ws ∧ Prec hx h7 ∧ Mem ⟨g, [(im, .map (setE (fun p : Pl => fv p) ps))]⟩ h7 (⟨some o1, flat ps, 4⟩ :: ⟨some o2, vs, 1⟩ :: ⟨some ip, Flat.cells pk, zp⟩ :: ⟨some iz, [.int .i64 zm.states, .int .i64 zm.inputs, .int .i64 zm.outputs, .int .i64 zm.start, .slice b3 zm.steps.length q3], zz⟩ :: ⟨some iy, [.int .i64 ym.states, .int .i64 ym.inputs, .int .i64 ym.outputs, .int .i64 ym.start, .slice b2 ym.steps.length q2], zy⟩ :: ⟨some ix, [.int .i64 x.states, .int .i64 x.inputs, .int .i64 x.outputs, .int .i64 x.start, .slice b0 x.steps.length q0], zx⟩ :: rowsW W ws)
          rw [hQ]; exact rest
        · intro k' hk'
          obtain ⟨vk, hvk, hvs⟩ := hll.at (j := k) (by omega)
          ((with_reducible (refine mv_i ?_; refine mv_i ?_)); (refine ldwA ?_); (refine vb_mac (by assumption) ?_); (with_reducible (refine fao ?_)); (refine ldoA ?_); (refine vbA ?_); (with_reducible (refine mv_i ?_)))
          refine calld_r (c52s ⟨_, rfl, s.up⟩ CX LX ⟨r1, r2⟩ ⟨by omega, by omega⟩) ?_
          ((with_reducible (refine new_n ?_)); (refine ldwA ?_); (refine vb_mac (by assumption) ?_); (with_reducible (refine fao ?_)); (refine ldoA ?_); (refine vbA ?_); (with_reducible (refine mv_i ?_)))
          refine calld_r (c52s (x := ym) ⟨_, rfl, s2.up⟩ P.xy.cy P.xy.ly ⟨r3, by omega⟩ ⟨by omega, by omega⟩) ?_
          ((with_reducible (refine new_n ?_)); (refine ldwA ?_); (refine vb_mac (by assumption) ?_); (with_reducible (refine fao ?_)); (refine ldoA ?_); (refine vbA ?_); (with_reducible (refine mv_i ?_)))
          refine calld_r (c52s (x := zm) ⟨_, rfl, s3.up⟩ P.xz.cy P.xz.ly ⟨r5, by omega⟩ ⟨by omega, by omega⟩) ?_
          ((with_reducible (refine new_n ?_; refine alloc_z (by assumption) fun i h z p m => ?_; refine alloc_z (by assumption) fun i h z p m => ?_; refine alloc_z (by assumption) fun i h z p m => ?_)); (refine st_w (by assumption) (by infer_instance) (by with_unfolding_all rfl) (by with_unfolding_all rfl) (by first | rfl | exact flat_ones (Flat.flat _)) (by infer_instance) fun h p m => ?_); (with_reducible (refine ⟨trivial, ?_⟩)); (refine st_w (by assumption) (by infer_instance) (by with_unfolding_all rfl) (by with_unfolding_all rfl) (by first | rfl | exact flat_ones (Flat.flat _)) (by infer_instance) fun h p m => ?_); (with_reducible (refine ⟨trivial, ?_⟩)); (refine st_w (by assumption) (by infer_instance) (by with_unfolding_all rfl) (by with_unfolding_all rfl) (by first | rfl | exact flat_ones (Flat.flat _)) (by infer_instance) fun h p m => ?_); (with_reducible (refine ⟨trivial, ?_⟩; refine fao ?_)); (refine ldoA ?_); (with_reducible (refine fao ?_)); (refine ldoA ?_); (with_reducible (refine fao ?_)); (refine ldoA ?_); (with_reducible (refine fao ?_)); (refine ldoA ?_); (with_reducible (refine fao ?_)); (refine ldoA ?_); (with_reducible (refine neq_i (fun hc => ?_) (fun hc => ?_))); (refine vk_i (bd107_0123 _ _ _ _) ?_); (with_reducible (refine alloc_z (by assumption) fun i h z p m => ?_)); (refine st_w (by assumption) (by infer_instance) (by with_unfolding_all rfl) (by with_unfolding_all rfl) (by first | rfl | exact flat_ones (Flat.flat _)) (by infer_instance) fun h p m => ?_); (with_reducible (refine fao ?_)); (refine ldoA ?_); (with_reducible (refine fao ?_)); (refine ldoA ?_); (with_reducible (refine neq_i (fun hc => ?_) (fun hc => ?_); refine mv_i ?_; refine gd_ff ?_; refine mv_i ?_; refine gd_ff ?_)); (refine ldwA ?_); (with_reducible (refine gd_ff ?_)); (rotate_left); (with_reducible (refine mv_i ?_; refine gd_tf ?_; refine gd_tf ?_; refine gd_tf ?_; refine pick_t ?_; refine cnd_t ?_)); (rotate_left); (refine vk_i (bd107_0123 _ _ _ _) ?_); (with_reducible (refine alloc_z (by assumption) fun i h z p m => ?_)); (refine st_w (by assumption) (by infer_instance) (by with_unfolding_all rfl) (by with_unfolding_all rfl) (by first | rfl | exact flat_ones (Flat.flat _)) (by infer_instance) fun h p m => ?_); (with_reducible (refine fao ?_)); (refine ldoA ?_); (with_reducible (refine fao ?_)); (refine ldoA ?_); (with_reducible (refine neq_i (fun hc => ?_) (fun hc => ?_); refine mv_i ?_; refine gd_ff ?_; refine mv_i ?_; refine gd_ff ?_)); (refine ldwA ?_); (with_reducible (refine gd_ff ?_)); (rotate_left); (with_reducible (refine mv_i ?_; refine gd_tf ?_; refine gd_tf ?_; refine gd_tf ?_; refine pick_t ?_; refine cnd_t ?_)); (rotate_left))
          · have hok : okz x zm pk.t3 n := by assumption
            have hkil : kil x ym pk.t3 n = false := by show (!decide ((stO x pk.x (n : Int)).out = (stO ym pk.a (n : Int)).out)) = false; rw [decide_eq_true (by assumption)]; rfl
            rw [hkil] at hst
            have hin := hS1.inp _ (gd_mem Df.d hkl)
            change in3 x (gt ps k).t3 at hin
            rw [hpk] at hin
            have htg : in3 x (tg3 x ym zm pk.t3 n) := P.tgt hin (by omega)
            refine look_s m (List.mem_singleton.mpr rfl) hS1.nd hpl _ (plOK_of hN (p := (tg3 x ym zm pk.t3 n).pl _) htg) rfl ?_
            ((with_reducible (refine pick_f ?_; refine cnd_d (fun hb => ?_) (fun hb => ?_))); (rotate_left); (with_reducible (refine mv_i ?_)); (refine ldwA ?_); (rotate_left))
            · exact hk' _ _ ⟨a, b, rfl, ps, ws, o1, o2, vs, W, hst.2.1 hok hb, hkl, hpk, hwk, hwl, hs1, hs2, hll, ⟨Stb.st⟩, m.tail.tail.tail.tail⟩
            · refine mup_s m hS1.nd hpl _ (plOK_of hN (p := (tg3 x ym zm pk.t3 n).pl _) htg) hb rfl fun h p m => ?_
              ((with_reducible (refine mv_i ?_)); (refine ldwA ?_); (with_reducible (refine vb_f ?_)); (refine bs_g (bs108_1 _ _) (by assumption) fun i h p m => ?_))
              refine app_snoc (k2 := 0) (j := 0) m hs1 (by infer_instance) ⟨rfl⟩ rfl ⟨by omega, by omega⟩ fun i3 h9 p9 m => ?_
              simp only [List.set_cons_succ, List.set_cons_zero] at m
              ((with_reducible (refine ⟨trivial, ?_⟩; refine mv_i ?_; refine mv_i ?_; refine mv_i ?_)); (refine idx_o (by assumption) (by omega) ?_))
              refine ldo m (k := 6) (q := ⟨rfl⟩) (by rw [Nat.mul_one]; exact hvk) ?_
              refine IsSl.vb (k := k + 11) hvs m ⟨by show (rowsW W ws)[k]? = _; exact rowsW_get hll (by omega)⟩ ?_
              refine calld_d (c69 (k := k + 11) m ⟨by show (rowsW W ws)[k]? = _; exact rowsW_get hll (by omega)⟩ hvs (by omega)) m fun v7 h7 p7 p7' _ ⟨o', hv, hnn⟩ => ?_
              have m := hnn _ _ m
              refine new_p p7 ?_
              ((with_reducible (refine mv_i ?_)); (refine bs_g (bs53_1 _ _) (by assumption) fun i h p m => ?_))
              refine app_snoc (a := (n : Int)) (k2 := 0) (j := 0) m hv (by infer_instance) ⟨rfl⟩ rfl ⟨by omega, by omega⟩ fun i2 h8 p8 m => ?_
              simp only [List.set_cons_succ, List.set_cons_zero] at m
              ((with_reducible (refine ⟨trivial, ?_⟩)); (refine bs_g (bs51_1 _ _ _ _) (by assumption) fun i h p m => ?_))
              refine app_o m hs2 (by infer_instance) (by rw [Nat.mul_one, ← lw]; exact hll.1) (src_own m (q := (⟨rfl⟩ : Ent _ _ 0 _ _)) (n := 1) rfl (by decide) (by decide) rfl) ⟨by omega, by omega⟩ fun i4 h10 p10 m => ?_
              simp only [List.set_cons_succ, List.set_cons_zero] at m
              ((with_reducible (refine ⟨trivial, ?_⟩; refine mv_i ?_; refine mv_i ?_)))
              have hpg : (pget ws k n).length = (ws.getD k []).length + 1 := by simp [pget]
              refine hk' _ _ ⟨_, _, rfl, _, ws ++ [pget ws k n], i3, i4, vs ++ [.slice (some ⟨i2, 0, none⟩) ((ws.getD k []).length + 1) 0], W ++ [some i2], hst.2.2 hok hb, by simp; omega, by rw [gt_pre (List.prefix_append _ _) hkl]; exact hpk, ?_, ?_, by rw [List.length_append]; exact IsSl.some0, by rw [List.length_append]; exact IsSl.some0, hll.add (by rw [hpg]; exact IsSl.some0), ⟨Stb.st⟩, ?_⟩
              · have : (ws ++ [pget ws k n]).getD k [] = ws.getD k [] := by simp [List.getD, List.getElem?_append_left (show k < ws.length by omega)]
                rw [this]; exact hwk
              · intro w hw
                rcases List.mem_append.mp hw with hw | hw
                · exact hwl w hw
                · rw [List.mem_singleton] at hw; subst hw; omega
              · rw [rowsW_add hll]
                exact (m.tail.tail.sub (.cons_cons _ (.cons _ (.cons _ (.cons _ (.cons _ (.cons _ (List.Sublist.refl _)))))))).perm (List.perm_append_singleton _ (_ :: _ :: _ :: _ :: _ :: _ :: rowsW W ws)).symm
          · have hno : ¬ okz x zm pk.t3 n := by assumption
            exact hk' _ _ ⟨a, b, rfl, ps, ws, o1, o2, vs, W, hst.1 hno, hkl, hpk, hwk, hwl, hs1, hs2, hll, ⟨Stb.st⟩, m.tail.tail.tail.tail⟩
          · have hok : okz x zm pk.t3 n := by assumption
            have hkil : kil x ym pk.t3 n = true := by show (!decide ((stO x pk.x (n : Int)).out = (stO ym pk.a (n : Int)).out)) = true; rw [decide_eq_false (by assumption)]; rfl
            rw [hkil] at hst
            have hin := hS1.inp _ (gd_mem Df.d hkl)
            change in3 x (gt ps k).t3 at hin
            rw [hpk] at hin
            have htg : in3 x (tg3 x ym zm pk.t3 n) := P.tgt hin (by omega)
            refine look_s m (List.mem_singleton.mpr rfl) hS1.nd hpl _ (plOK_of hN (p := (tg3 x ym zm pk.t3 n).pl _) htg) rfl ?_
            ((with_reducible (refine pick_f ?_; refine cnd_d (fun hb => ?_) (fun hb => ?_))); (rotate_left); (with_reducible (refine mv_i ?_)); (refine ldwA ?_); (rotate_left))
            · exact hk' _ _ ⟨a, b, rfl, ps, ws, o1, o2, vs, W, hst.2.1 hok hb, hkl, hpk, hwk, hwl, hs1, hs2, hll, ⟨Stb.st⟩, m.tail.tail.tail.tail⟩
            · refine mup_s m hS1.nd hpl _ (plOK_of hN (p := (tg3 x ym zm pk.t3 n).pl _) htg) hb rfl fun h p m => ?_
              ((with_reducible (refine mv_i ?_)); (refine ldwA ?_); (with_reducible (refine vb_f ?_)); (refine bs_g (bs108_1 _ _) (by assumption) fun i h p m => ?_))
              refine app_snoc (k2 := 0) (j := 0) m hs1 (by infer_instance) ⟨rfl⟩ rfl ⟨by omega, by omega⟩ fun i3 h9 p9 m => ?_
              simp only [List.set_cons_succ, List.set_cons_zero] at m
              ((with_reducible (refine ⟨trivial, ?_⟩; refine mv_i ?_; refine mv_i ?_; refine mv_i ?_)); (refine idx_o (by assumption) (by omega) ?_))
              refine ldo m (k := 6) (q := ⟨rfl⟩) (by rw [Nat.mul_one]; exact hvk) ?_
              refine IsSl.vb (k := k + 11) hvs m ⟨by show (rowsW W ws)[k]? = _; exact rowsW_get hll (by omega)⟩ ?_
              refine calld_d (c69 (k := k + 11) m ⟨by show (rowsW W ws)[k]? = _; exact rowsW_get hll (by omega)⟩ hvs (by omega)) m fun v7 h7 p7 p7' _ ⟨o', hv, hnn⟩ => ?_
              have m := hnn _ _ m
              refine new_p p7 ?_
              ((with_reducible (refine mv_i ?_)); (refine bs_g (bs53_1 _ _) (by assumption) fun i h p m => ?_))
              refine app_snoc (a := (n : Int)) (k2 := 0) (j := 0) m hv (by infer_instance) ⟨rfl⟩ rfl ⟨by omega, by omega⟩ fun i2 h8 p8 m => ?_
              simp only [List.set_cons_succ, List.set_cons_zero] at m
              ((with_reducible (refine ⟨trivial, ?_⟩)); (refine bs_g (bs51_1 _ _ _ _) (by assumption) fun i h p m => ?_))
              refine app_o m hs2 (by infer_instance) (by rw [Nat.mul_one, ← lw]; exact hll.1) (src_own m (q := (⟨rfl⟩ : Ent _ _ 0 _ _)) (n := 1) rfl (by decide) (by decide) rfl) ⟨by omega, by omega⟩ fun i4 h10 p10 m => ?_
              simp only [List.set_cons_succ, List.set_cons_zero] at m
              ((with_reducible (refine ⟨trivial, ?_⟩; refine mv_i ?_; refine mv_i ?_)))
              have hpg : (pget ws k n).length = (ws.getD k []).length + 1 := by simp [pget]
              refine hk' _ _ ⟨_, _, rfl, _, ws ++ [pget ws k n], i3, i4, vs ++ [.slice (some ⟨i2, 0, none⟩) ((ws.getD k []).length + 1) 0], W ++ [some i2], hst.2.2 hok hb, by simp; omega, by rw [gt_pre (List.prefix_append _ _) hkl]; exact hpk, ?_, ?_, by rw [List.length_append]; exact IsSl.some0, by rw [List.length_append]; exact IsSl.some0, hll.add (by rw [hpg]; exact IsSl.some0), ⟨Stb.st⟩, ?_⟩
              · have : (ws ++ [pget ws k n]).getD k [] = ws.getD k [] := by simp [List.getD, List.getElem?_append_left (show k < ws.length by omega)]
                rw [this]; exact hwk
              · intro w hw
                rcases List.mem_append.mp hw with hw | hw
                · exact hwl w hw
                · rw [List.mem_singleton] at hw; subst hw; omega
              · rw [rowsW_add hll]
                exact (m.tail.tail.sub (.cons_cons _ (.cons _ (.cons _ (.cons _ (.cons _ (.cons _ (List.Sublist.refl _)))))))).perm (List.perm_append_singleton _ (_ :: _ :: _ :: _ :: _ :: _ :: rowsW W ws)).symm
          · have hno : ¬ okz x zm pk.t3 n := by assumption
            exact hk' _ _ ⟨a, b, rfl, ps, ws, o1, o2, vs, W, hst.1 hno, hkl, hpk, hwk, hwl, hs1, hs2, hll, ⟨Stb.st⟩, m.tail.tail.tail.tail⟩
      · have e := hrow
        rw [show x.inputs.toNat = n by omega, hQ] at e
        refine next3 (by omega) ?_
        show ∃ ps ws o1 o2 vs W, Sim x (rbfs x ym zm ⟨x.start, ym.start, zm.start⟩ (k + 1)) (k + 1) ps ws ∧ (∀ w ∈ ws, w.length ≤ k + 1) ∧ IsSl a (some o1) ps.length ∧ IsSl b (some o2) ps.length ∧ LL vs W ws ∧ Prec hx _ ∧ Mem ⟨g, [(im, .map (setE (fun p : Pl => fv p) ps))]⟩ _ (⟨some o1, flat ps, 4⟩ :: ⟨some o2, vs, 1⟩ :: ⟨some iz, [.int .i64 zm.states, .int .i64 zm.inputs, .int .i64 zm.outputs, .int .i64 zm.start, .slice b3 zm.steps.length q3], zz⟩ :: ⟨some iy, [.int .i64 ym.states, .int .i64 ym.inputs, .int .i64 ym.outputs, .int .i64 ym.start, .slice b2 ym.steps.length q2], zy⟩ :: ⟨some ix, [.int .i64 x.states, .int .i64 x.inputs, .int .i64 x.outputs, .int .i64 x.start, .slice b0 x.steps.length q0], zx⟩ :: rowsW W ws)
        rw [e]
        refine ⟨ps, ws, o1, o2, vs, W, hS1.next (by rw [hpk]; exact hnd), hwl, hs1, hs2, hll, ⟨Stb.st⟩, m.sub (.cons_cons _ (.cons_cons _ (.cons _ (List.Sublist.refl _))))⟩
    · have e := hS0.stop (by omega)
      have e2 := hof (.inr e.2)
      refine ⟨m.mdrop.pre, none, 0, 0, ?_, ?_⟩
      · rw [if_neg (by simpa using hde), if_pos (by rw [e2, e.1])]
      · rw [if_neg (by simpa using hde), e2, e.1]; exact L.nil _
  · refine ⟨m.pre, none, 0, 0, by rw [if_pos hc], by rw [if_pos hc]; exact L.nil _⟩
end Go.Proofs.Ytomiejfeclefaaa

set_option linter.unusedSimpArgs false
set_option linter.unusedVariables false
set_option linter.unnecessarySimpa false
set_option maxRecDepth 100000
set_option maxHeartbeats 4000000
namespace Go.Proofs.Ytomiejfeclefaaa
open Go.AM
variable {h g : Heap}
theorem c38n {v y u : Value} {x : Mach} {l l2 : List Mut} (s : MacV g v x) (t : L g y l) (r : L g u l2) (hE : ¬ bE x l l2 = 0) : DetP Try.prog 38 [v, y, u] g fun v' h' => g <+: h' ∧ v' = .tuple #[.slice none 0 0, .int .i64 (bE x l l2)] := by
  obtain ⟨tv, rfl, s⟩ := s
  obtain ⟨b0, q0, rfl, _⟩ := s.shape
  obtain ⟨b1, q1, rfl, _⟩ := t.shape
  obtain ⟨b2, q2, rfl, _⟩ := r.shape
  have m := Mem.start g
  refine w38 ?_
  unfold n38
  ((with_reducible (refine box_a (by assumption) fun i h z p m => ?_; refine mv_i ?_; refine mv_i ?_)); (refine ldwA ?_); (with_reducible (refine mv_i ?_; refine mv_i ?_)); (refine bs_g (bs51_2 _ _ _ _ _ _ _) (by assumption) fun i h p m => ?_))
  refine call_r (Runs.lent (c47 (ls := [l, l2]) ⟨_, rfl, s.lent⟩ (lent2 m (by infer_instance) t r rfl))) ?_
  rw [all2]
  generalize bE x l l2 = be at hE ⊢
  ((with_reducible (refine mv_i ?_; refine mv_i ?_; refine neq_n (by first | assumption | decide) ?_; refine cnd_t ?_; refine mv_i ?_; refine mv_i ?_; refine mv_i ?_; refine ret2 ?_)))
  exact ⟨m.pre, rfl⟩
theorem c9 {v y u : Value} {x : Mach} {l l2 : List Mut} (s : MacV g v x) (t : L g y l) (r : L g u l2) (hb0 : x.steps.length ≤ 1048576) (hl : l.length ≤ 1048576) (hl2 : l2.length ≤ 1048576) : DetP Try.prog 9 [v, y, u] g fun v' _ => v' = .bool true := by
  obtain ⟨tv, rfl, s⟩ := s
  obtain ⟨b0, q0, rfl, _⟩ := s.shape
  have m := Mem.start g
  refine w9 ?_
  unfold n9
  have C18 := fun {h : Heap} {v y : Value} (s : MacV h v x) (t : L h y l) => c18 (g := h) s t
  have C26 := fun {h : Heap} {v : Value} (s : MacV h v x) => c26 (g := h) s
  by_cases hB : bothE x l = 0
  · obtain ⟨hE, hm⟩ := bothE_ok hB
    have hh := (errM_ok hE).2.1
    have C21 := fun {h : Heap} {v y : Value} (s : MacV h v x) (t : L h y l2) => c21 (g := h) s t hh
    rw [hB] at C18
    by_cases hM : (mutE x l2).2 = 0
    · have hE2 : bE x l l2 = 0 := by unfold bE; rw [if_neg (by simpa using hB)]; exact hM
      have hB2 : bothE x l2 = 0 := (bE_ok hE2).2
      rw [hM] at C21
      by_cases hF : errM x ≠ 0 ∨ x.states ≤ 6 ∧ x.inputs ≤ 3
      · rw [decide_eq_true hF] at C26
        have C33 := fun {h : Heap} {v y : Value} (s : MacV h v x) (t : L h y l) => c33 (g := h) s t hB
        have C38 := fun {h : Heap} {v y u : Value} (s : MacV h v x) (t : L h y l) (r : L h u l2) => c38 (g := h) s t r hE2
        have C39 := fun {h : Heap} {v y u : Value} (s : MacV h v x) (t : L h y l) (r : L h u l2) => c39 (g := h) s t r hB hB2
        unfold stdE stdW difE at C38
        generalize mutd x l = ym at C33 C38 C39
        generalize mutd x l2 = zm at C38 C39
        generalize difW x ym ⟨x.start, ym.start⟩ = dw at C33
        generalize (srch x ym ⟨x.start, ym.start⟩).ps = pp at C33
        generalize (srch x ym ⟨x.start, ym.start⟩).fnd = fn at C33 C38
        generalize (rsrch x ym zm ⟨x.start, ym.start, zm.start⟩).fnd = rn at C38 C39
        generalize (mutE x l2).1 = km at C21
        clear hB hE hm hh hM hE2 hB2 hF
        rcases fn with _ | w0
        · simp only [Option.isSome_none, ne_eq, if_true, reduceCtorEq, not_false_eq_true, show ¬ (23 : Int) = 0 by decide] at C33 C38
          ((with_reducible (refine box_a (by assumption) fun i h z p m => ?_; refine mv_i ?_)); (refine call_r c11 ?_); (with_reducible (refine not_t ?_; refine cnd_f ?_)); (refine ldwA ?_); (with_reducible (refine mv_i ?_)))
          refine call_r (C18 ⟨_, rfl, s.up⟩ t.up) ?_
          ((with_reducible (refine mv_i ?_; refine seq_i ?_; refine mv_i ?_; refine eql_h (by first | assumption | decide) ?_; refine cnd_t ?_)); (refine ldwA ?_); (with_reducible (refine mv_i ?_)))
          refine call_r (C21 ⟨_, rfl, s.up⟩ r.up) ?_
          unfold mk2
          ((with_reducible (refine mv_i ?_; refine ex2_0 ?_; refine ex2_1 ?_; refine mv_i ?_)); ((with_reducible refine fun (_ : Tmps) => ?_); (try dsimp only [nth])); (with_reducible (refine mv_i ?_; refine eql_h (by first | assumption | decide) ?_; refine mv_i ?_; refine gd_tt ?_)); (refine ldwA ?_); (with_reducible (refine gd_tt ?_)))
          refine call_r (C26 ⟨_, rfl, s.up⟩) ?_
          ((with_reducible (refine gd_tt ?_; refine not_t ?_; refine pick_t ?_; refine cnd_f ?_; refine seq_i ?_; refine mv_i ?_; refine eql_h (by first | assumption | decide) ?_; refine cnd_t ?_)); (refine ldwA ?_); (with_reducible (refine mv_i ?_)))
          refine call_d (C33 ⟨_, rfl, s.up⟩ t.up) m fun v0 h0 p0 p0' m ⟨c1, n1, q1, c2, n2, q2, e0, s01, s02⟩ => ?_
          subst e0
          ((with_reducible (refine mv_i ?_; refine ex3_0 ?_; refine ex3_1 ?_; refine ex3_2 ?_; refine mv_i ?_; refine mv_i ?_; refine mv_i ?_; refine mv_i ?_; refine not_f ?_; refine cnd_t ?_; refine mv_i ?_)); ((with_reducible refine fun (_ : Tmps) => ?_); (try dsimp only [nth])); (refine ldwA ?_))
          refine call_d (c14 ⟨_, rfl, s.up⟩ hb0) m fun v1 h1 p1 p2 m ⟨b1, q1, n1, e1, hn1, s1⟩ => ?_
          subst e1
          ((with_reducible (refine mv_i ?_)))
          refine call_d (c17 t.up hl) m fun v2 h2 p3 p4 m ⟨b2, q2, n2, e2, hn2, s2⟩ => ?_
          subst e2
          ((with_reducible (refine mv_i ?_)))
          refine call_d (c17 r.up hl2) m fun v3 h3 p5 p6 m ⟨b3, q3, n3, e3, hn3, s3⟩ => ?_
          subst e3
          skip
          refine call_d (C38 ⟨_, rfl, s1.up⟩ s2.up s3.up) m fun v4 h4 p7 p8 m ⟨b4, n4, q4, e4, s4⟩ => ?_
          subst e4
          obtain ⟨b5, q5, e, _⟩ := s4.shape
          simp only [List.length_nil, Value.slice.injEq] at e
          obtain ⟨rfl, rfl, rfl⟩ := e
          ((with_reducible (refine mv_i ?_; refine ex2_0 ?_; refine ex2_1 ?_; refine mv_i ?_; refine mv_i ?_; refine mv_i ?_; refine neq_n (by first | assumption | decide) ?_; refine cnd_t ?_; refine mv_i ?_; refine mv_i ?_; refine eql_h (by first | assumption | decide) ?_; refine mv_i ?_; refine gd_tt ?_; refine mv_i ?_; refine gd_tt ?_; refine len_g (by assumption) ?_; refine gd_tt ?_; refine eql_h (by first | assumption | decide) ?_; refine pick_t ?_; refine mv_i ?_; refine ret1 ?_)))
          all_goals first | rfl | (exfalso; contradiction)
        · simp only [Option.isSome_some, ne_eq, reduceCtorEq, if_false, not_true_eq_false] at C33 C38
          rcases rn with _ | w1
          · simp only [Option.isSome_none, if_true, Option.getD_none] at C38 C39
            ((with_reducible (refine box_a (by assumption) fun i h z p m => ?_; refine mv_i ?_)); (refine call_r c11 ?_); (with_reducible (refine not_t ?_; refine cnd_f ?_)); (refine ldwA ?_); (with_reducible (refine mv_i ?_)))
            refine call_r (C18 ⟨_, rfl, s.up⟩ t.up) ?_
            ((with_reducible (refine mv_i ?_; refine seq_i ?_; refine mv_i ?_; refine eql_h (by first | assumption | decide) ?_; refine cnd_t ?_)); (refine ldwA ?_); (with_reducible (refine mv_i ?_)))
            refine call_r (C21 ⟨_, rfl, s.up⟩ r.up) ?_
            unfold mk2
            ((with_reducible (refine mv_i ?_; refine ex2_0 ?_; refine ex2_1 ?_; refine mv_i ?_)); ((with_reducible refine fun (_ : Tmps) => ?_); (try dsimp only [nth])); (with_reducible (refine mv_i ?_; refine eql_h (by first | assumption | decide) ?_; refine mv_i ?_; refine gd_tt ?_)); (refine ldwA ?_); (with_reducible (refine gd_tt ?_)))
            refine call_r (C26 ⟨_, rfl, s.up⟩) ?_
            ((with_reducible (refine gd_tt ?_; refine not_t ?_; refine pick_t ?_; refine cnd_f ?_; refine seq_i ?_; refine mv_i ?_; refine eql_h (by first | assumption | decide) ?_; refine cnd_t ?_)); (refine ldwA ?_); (with_reducible (refine mv_i ?_)))
            refine call_d (C33 ⟨_, rfl, s.up⟩ t.up) m fun v0 h0 p0 p0' m ⟨c1, n1, q1, c2, n2, q2, e0, s01, s02⟩ => ?_
            subst e0
            ((with_reducible (refine mv_i ?_; refine ex3_0 ?_; refine ex3_1 ?_; refine ex3_2 ?_; refine mv_i ?_; refine mv_i ?_; refine mv_i ?_; refine mv_i ?_; refine not_t ?_; refine cnd_f ?_)); ((with_reducible refine fun (_ : Tmps) => ?_); (try dsimp only [nth])); (refine ldwA ?_))
            refine call_d (c14 ⟨_, rfl, s.up⟩ hb0) m fun v1 h1 p1 p2 m ⟨b1, q1, n1, e1, hn1, s1⟩ => ?_
            subst e1
            ((with_reducible (refine mv_i ?_)))
            refine call_d (c17 t.up hl) m fun v2 h2 p3 p4 m ⟨b2, q2, n2, e2, hn2, s2⟩ => ?_
            subst e2
            ((with_reducible (refine mv_i ?_)))
            refine call_d (c17 r.up hl2) m fun v3 h3 p5 p6 m ⟨b3, q3, n3, e3, hn3, s3⟩ => ?_
            subst e3
            skip
            refine call_d (C38 ⟨_, rfl, s1.up⟩ s2.up s3.up) m fun v4 h4 p7 p8 m ⟨b4, n4, q4, e4, s4⟩ => ?_
            subst e4
            ((with_reducible (refine mv_i ?_; refine ex2_0 ?_; refine ex2_1 ?_; refine mv_i ?_; refine mv_i ?_; refine mv_i ?_; refine neq_h (by first | assumption | decide) ?_; refine cnd_f ?_)); (refine ldwA ?_); (with_reducible (refine mv_i ?_; refine mv_i ?_)))
            refine call_d (C39 ⟨_, rfl, s.up⟩ t.up r.up) m fun v5 h5 p9 p10 m ⟨b5, n5, q5, e5, s5⟩ => ?_
            subst e5
            ((with_reducible (refine mv_i ?_; refine ex2_0 ?_; refine ex2_1 ?_; refine mv_i ?_; refine mv_i ?_; refine mv_i ?_; refine mv_i ?_)))
            refine call_r (c29 s4.up s5.up) ?_
            rw [decide_eq_true rfl]
            ((with_reducible (refine mv_i ?_; refine gd_tt ?_; refine mv_i ?_; refine gd_tt ?_; refine mv_i ?_; refine gd_ft ?_; refine gd_ft ?_; refine gd_tt ?_; refine pick_f ?_; refine gd_tt ?_; refine mv_i ?_; refine gd_ff ?_; refine mv_i ?_; refine gd_ff ?_; refine not_f ?_; refine gd_ff ?_; refine mv_i ?_; refine gd_tt ?_; refine mv_i ?_; refine gd_tt ?_; refine eql_h (by first | assumption | decide) ?_; refine gd_ff ?_; refine pick_t ?_; refine gd_tt ?_; refine pick_f ?_; refine pick_t ?_; refine mv_i ?_; refine ret1 ?_)))
            all_goals first | rfl | (exfalso; contradiction)
          · simp only [Option.isSome_some, reduceCtorEq, if_false, Option.getD_some] at C38 C39
            ((with_reducible (refine box_a (by assumption) fun i h z p m => ?_; refine mv_i ?_)); (refine call_r c11 ?_); (with_reducible (refine not_t ?_; refine cnd_f ?_)); (refine ldwA ?_); (with_reducible (refine mv_i ?_)))
            refine call_r (C18 ⟨_, rfl, s.up⟩ t.up) ?_
            ((with_reducible (refine mv_i ?_; refine seq_i ?_; refine mv_i ?_; refine eql_h (by first | assumption | decide) ?_; refine cnd_t ?_)); (refine ldwA ?_); (with_reducible (refine mv_i ?_)))
            refine call_r (C21 ⟨_, rfl, s.up⟩ r.up) ?_
            unfold mk2
            ((with_reducible (refine mv_i ?_; refine ex2_0 ?_; refine ex2_1 ?_; refine mv_i ?_)); ((with_reducible refine fun (_ : Tmps) => ?_); (try dsimp only [nth])); (with_reducible (refine mv_i ?_; refine eql_h (by first | assumption | decide) ?_; refine mv_i ?_; refine gd_tt ?_)); (refine ldwA ?_); (with_reducible (refine gd_tt ?_)))
            refine call_r (C26 ⟨_, rfl, s.up⟩) ?_
            ((with_reducible (refine gd_tt ?_; refine not_t ?_; refine pick_t ?_; refine cnd_f ?_; refine seq_i ?_; refine mv_i ?_; refine eql_h (by first | assumption | decide) ?_; refine cnd_t ?_)); (refine ldwA ?_); (with_reducible (refine mv_i ?_)))
            refine call_d (C33 ⟨_, rfl, s.up⟩ t.up) m fun v0 h0 p0 p0' m ⟨c1, n1, q1, c2, n2, q2, e0, s01, s02⟩ => ?_
            subst e0
            ((with_reducible (refine mv_i ?_; refine ex3_0 ?_; refine ex3_1 ?_; refine ex3_2 ?_; refine mv_i ?_; refine mv_i ?_; refine mv_i ?_; refine mv_i ?_; refine not_t ?_; refine cnd_f ?_)); ((with_reducible refine fun (_ : Tmps) => ?_); (try dsimp only [nth])); (refine ldwA ?_))
            refine call_d (c14 ⟨_, rfl, s.up⟩ hb0) m fun v1 h1 p1 p2 m ⟨b1, q1, n1, e1, hn1, s1⟩ => ?_
            subst e1
            ((with_reducible (refine mv_i ?_)))
            refine call_d (c17 t.up hl) m fun v2 h2 p3 p4 m ⟨b2, q2, n2, e2, hn2, s2⟩ => ?_
            subst e2
            ((with_reducible (refine mv_i ?_)))
            refine call_d (c17 r.up hl2) m fun v3 h3 p5 p6 m ⟨b3, q3, n3, e3, hn3, s3⟩ => ?_
            subst e3
            skip
            refine call_d (C38 ⟨_, rfl, s1.up⟩ s2.up s3.up) m fun v4 h4 p7 p8 m ⟨b4, n4, q4, e4, s4⟩ => ?_
            subst e4
            ((with_reducible (refine mv_i ?_; refine ex2_0 ?_; refine ex2_1 ?_; refine mv_i ?_; refine mv_i ?_; refine mv_i ?_; refine neq_h (by first | assumption | decide) ?_; refine cnd_f ?_)); (refine ldwA ?_); (with_reducible (refine mv_i ?_; refine mv_i ?_)))
            refine call_d (C39 ⟨_, rfl, s.up⟩ t.up r.up) m fun v5 h5 p9 p10 m ⟨b5, n5, q5, e5, s5⟩ => ?_
            subst e5
            ((with_reducible (refine mv_i ?_; refine ex2_0 ?_; refine ex2_1 ?_; refine mv_i ?_; refine mv_i ?_; refine mv_i ?_; refine mv_i ?_)))
            refine call_r (c29 s4.up s5.up) ?_
            rw [decide_eq_true rfl]
            ((with_reducible (refine mv_i ?_; refine gd_tt ?_; refine mv_i ?_; refine gd_tt ?_; refine mv_i ?_; refine gd_tt ?_; refine mv_i ?_; refine gd_tt ?_; refine eql_h (by first | assumption | decide) ?_; refine gd_tt ?_; refine pick_t ?_; refine gd_tt ?_; refine mv_i ?_; refine gd_tf ?_; refine gd_tf ?_; refine gd_tf ?_; refine gd_u ?_; refine gd_u ?_; refine gd_tf ?_; refine gd_tt ?_; refine pick_t ?_; refine pick_t ?_; refine mv_i ?_; refine ret1 ?_)))
            all_goals first | rfl | (exfalso; contradiction)
      · rw [decide_eq_false hF] at C26
        generalize (mutE x l2).1 = km at C21
        clear hF
        ((with_reducible (refine box_a (by assumption) fun i h z p m => ?_; refine mv_i ?_)); (refine call_r c11 ?_); (with_reducible (refine not_t ?_; refine cnd_f ?_)); (refine ldwA ?_); (with_reducible (refine mv_i ?_)))
        refine call_r (C18 ⟨_, rfl, s.up⟩ t.up) ?_
        ((with_reducible (refine mv_i ?_; refine seq_i ?_; refine mv_i ?_; refine eql_h (by first | assumption | decide) ?_; refine cnd_t ?_)); (refine ldwA ?_); (with_reducible (refine mv_i ?_)))
        refine call_r (C21 ⟨_, rfl, s.up⟩ r.up) ?_
        unfold mk2
        ((with_reducible (refine mv_i ?_; refine ex2_0 ?_; refine ex2_1 ?_; refine mv_i ?_)); ((with_reducible refine fun (_ : Tmps) => ?_); (try dsimp only [nth])); (with_reducible (refine mv_i ?_; refine eql_h (by first | assumption | decide) ?_; refine mv_i ?_; refine gd_tt ?_)); (refine ldwA ?_); (with_reducible (refine gd_tt ?_)))
        refine call_r (C26 ⟨_, rfl, s.up⟩) ?_
        ((with_reducible (refine gd_tt ?_; refine not_f ?_; refine pick_t ?_; refine cnd_t ?_; refine mv_i ?_; refine ret1 ?_)))
        all_goals first | rfl | (exfalso; contradiction)
    · have hbe : bE x l l2 = (mutE x l2).2 := by unfold bE; rw [if_neg (by simpa using hB)]
      have C38 := fun {h : Heap} {v y u : Value} (s : MacV h v x) (t : L h y l) (r : L h u l2) => c38n (g := h) s t r (by rw [hbe]; exact hM)
      rw [hbe] at C38
      generalize (mutE x l2).2 = me at C21 C38 hM
      generalize (mutE x l2).1 = km at C21
      clear hB hE hm hh hbe C26
      ((with_reducible (refine box_a (by assumption) fun i h z p m => ?_; refine mv_i ?_)); (refine call_r c11 ?_); (with_reducible (refine not_t ?_; refine cnd_f ?_)); (refine ldwA ?_); (with_reducible (refine mv_i ?_)))
      refine call_r (C18 ⟨_, rfl, s.up⟩ t.up) ?_
      ((with_reducible (refine mv_i ?_; refine seq_i ?_; refine mv_i ?_; refine eql_h (by first | assumption | decide) ?_; refine cnd_t ?_)); (refine ldwA ?_); (with_reducible (refine mv_i ?_)))
      refine call_r (C21 ⟨_, rfl, s.up⟩ r.up) ?_
      unfold mk2
      ((with_reducible (refine mv_i ?_; refine ex2_0 ?_; refine ex2_1 ?_; refine mv_i ?_)); ((with_reducible refine fun (_ : Tmps) => ?_); (try dsimp only [nth])); (with_reducible (refine mv_i ?_; refine eql_n (by first | assumption | decide) ?_; refine mv_i ?_; refine gd_ft ?_; refine gd_ft ?_; refine gd_ft ?_; refine pick_f ?_; refine cnd_f ?_; refine seq_i ?_; refine mv_i ?_; refine eql_n (by first | assumption | decide) ?_; refine cnd_f ?_)); ((with_reducible refine fun (_ : Tmps) => ?_); (try dsimp only [nth])); (refine ldwA ?_))
      all_goals (try (exfalso; contradiction))
      refine call_d (c14 ⟨_, rfl, s.up⟩ hb0) m fun v1 h1 p1 p2 m ⟨b1, q1, n1, e1, hn1, s1⟩ => ?_
      subst e1
      ((with_reducible (refine mv_i ?_)))
      refine call_d (c17 t.up hl) m fun v2 h2 p3 p4 m ⟨b2, q2, n2, e2, hn2, s2⟩ => ?_
      subst e2
      ((with_reducible (refine mv_i ?_)))
      refine call_d (c17 r.up hl2) m fun v3 h3 p5 p6 m ⟨b3, q3, n3, e3, hn3, s3⟩ => ?_
      subst e3
      skip
      refine call_d (C38 ⟨_, rfl, s1.up⟩ s2.up s3.up) m fun v4 h4 p7 p8 m e4 => ?_
      subst e4
      ((with_reducible (refine mv_i ?_; refine ex2_0 ?_; refine ex2_1 ?_; refine mv_i ?_; refine mv_i ?_; refine mv_i ?_; refine neq_n (by first | assumption | decide) ?_; refine cnd_t ?_; refine mv_i ?_; refine mv_i ?_; refine eql_i (fun hc => ?_) (fun hc => ?_); refine mv_i ?_; refine gd_tt ?_; refine mv_i ?_; refine gd_tt ?_; refine len_s ?_; refine gd_tt ?_; refine eql_h (by first | assumption | decide) ?_; refine pick_t ?_; refine mv_i ?_; refine ret1 ?_)); (rotate_left); (with_reducible (refine mv_i ?_; refine gd_ft ?_; refine gd_ft ?_; refine gd_ft ?_; refine pick_f ?_; refine mv_i ?_; refine ret1 ?_)); (rotate_left))
      all_goals first | rfl | (exfalso; contradiction) | (exact (hc rfl).elim)
  · have hbe : bE x l l2 = bothE x l := by unfold bE; rw [if_pos hB]
    have C38 := fun {h : Heap} {v y u : Value} (s : MacV h v x) (t : L h y l) (r : L h u l2) => c38n (g := h) s t r (by rw [hbe]; exact hB)
    rw [hbe] at C38
    generalize bothE x l = be at C18 C38 hB
    clear hbe C26
    ((with_reducible (refine box_a (by assumption) fun i h z p m => ?_; refine mv_i ?_)); (refine call_r c11 ?_); (with_reducible (refine not_t ?_; refine cnd_f ?_)); (refine ldwA ?_); (with_reducible (refine mv_i ?_)))
    refine call_r (C18 ⟨_, rfl, s.up⟩ t.up) ?_
    ((with_reducible (refine mv_i ?_; refine seq_i ?_; refine mv_i ?_; refine eql_n (by first | assumption | decide) ?_; refine cnd_f ?_)); ((with_reducible refine fun (_ : Tmps) => ?_); (try dsimp only [nth])); (with_reducible (refine mv_i ?_; refine eql_n (by first | assumption | decide) ?_; refine mv_i ?_; refine gd_ft ?_; refine gd_ft ?_; refine gd_ft ?_; refine pick_f ?_; refine cnd_f ?_; refine seq_i ?_; refine mv_i ?_; refine eql_n (by first | assumption | decide) ?_; refine cnd_f ?_)); ((with_reducible refine fun (_ : Tmps) => ?_); (try dsimp only [nth])); (refine ldwA ?_))
    all_goals (try (exfalso; contradiction))
    refine call_d (c14 ⟨_, rfl, s.up⟩ hb0) m fun v1 h1 p1 p2 m ⟨b1, q1, n1, e1, hn1, s1⟩ => ?_
    subst e1
    ((with_reducible (refine mv_i ?_)))
    refine call_d (c17 t.up hl) m fun v2 h2 p3 p4 m ⟨b2, q2, n2, e2, hn2, s2⟩ => ?_
    subst e2
    ((with_reducible (refine mv_i ?_)))
    refine call_d (c17 r.up hl2) m fun v3 h3 p5 p6 m ⟨b3, q3, n3, e3, hn3, s3⟩ => ?_
    subst e3
    skip
    refine call_d (C38 ⟨_, rfl, s1.up⟩ s2.up s3.up) m fun v4 h4 p7 p8 m e4 => ?_
    subst e4
    ((with_reducible (refine mv_i ?_; refine ex2_0 ?_; refine ex2_1 ?_; refine mv_i ?_; refine mv_i ?_; refine mv_i ?_; refine neq_n (by first | assumption | decide) ?_; refine cnd_t ?_; refine mv_i ?_; refine mv_i ?_; refine eql_i (fun hc => ?_) (fun hc => ?_); refine mv_i ?_; refine gd_tt ?_; refine mv_i ?_; refine gd_tt ?_; refine len_s ?_; refine gd_tt ?_; refine eql_h (by first | assumption | decide) ?_; refine pick_t ?_; refine mv_i ?_; refine ret1 ?_)); (rotate_left); (with_reducible (refine mv_i ?_; refine gd_ft ?_; refine gd_ft ?_; refine gd_ft ?_; refine pick_f ?_; refine mv_i ?_; refine ret1 ?_)); (rotate_left))
    all_goals first | rfl | (exfalso; contradiction) | (exact (hc rfl).elim)
end Go.Proofs.Ytomiejfeclefaaa
