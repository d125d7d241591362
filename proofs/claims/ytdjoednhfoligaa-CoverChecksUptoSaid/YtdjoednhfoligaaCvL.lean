import Derived.Test.YtdjoednhfoligaaCvK
set_option linter.unusedSimpArgs false
set_option linter.unusedVariables false
set_option maxRecDepth 100000
namespace Go.Proofs.Ytdjoednhfoligaa
open Go.AM
variable {h h' h0 h1 : Heap} {K : Value → Heap → Prop} {m : Mac}

/-- The indexes below n for which something holds. -/
def idxs (p : Nat → Bool) (n : Nat) : List Int := ((List.range n).filter p).map fun k : Nat => (k : Int)
theorem idxs_succ (p : Nat → Bool) (n : Nat) : idxs p (n + 1) = if p n = true then idxs p n ++ [(n : Int)] else idxs p n := by
  unfold idxs
  rw [List.range_succ, List.filter_append]
  by_cases q : p n = true
  · simp [q]
  · simp [q]
theorem idxs_len (p : Nat → Bool) (n : Nat) : (idxs p n).length ≤ n := by
  unfold idxs
  rw [List.length_map]
  have := List.length_filter_le p (List.range n)
  simpa using this
theorem idxs_mem {p : Nat → Bool} {n : Nat} {x : Int} : x ∈ idxs p n ↔ ∃ k : Nat, x = (k : Int) ∧ k < n ∧ p k = true := by
  unfold idxs
  simp only [List.mem_map, List.mem_filter, List.mem_range]
  constructor
  · rintro ⟨k, ⟨h1, h2⟩, rfl⟩; exact ⟨k, rfl, h1, h2⟩
  · rintro ⟨k, rfl, h1, h2⟩; exact ⟨k, ⟨h1, h2⟩, rfl⟩
theorem idxs_congr {p q : Nat → Bool} {n : Nat} (h : ∀ k, k < n → p k = q k) : idxs p n = idxs q n := by
  unfold idxs
  congr 1
  exact List.filter_congr fun k hk => h k (List.mem_range.mp hk)
/-- The steps from states that are marked. -/
def leav (m : Mac) (bs : List Bool) : List Int := idxs (fun k => bs.getD (m.steps.getD k dst).fr.toNat false) m.steps.length
theorem c65 {gi : Nat} {a st by_ fr : Value} {bs : List Bool} (g : Graph gi h m st by_ fr) (r : Right m) (s : BoolS h a bs) (hl : bs.length = m.states.toNat) :
    DetP Try.prog 65 [.pointer (some ⟨gi, 0, none⟩), a] h fun v h' => h <+: h' ∧ Only h h' fun g => IntS g v (leav m bs) := by
  obtain ⟨b1, b2, b3, b4, b5, b6⟩ := r.bounds
  have hfew := r.few
  have hsl : m.steps.length ≤ 320 := by
    have : m.states * m.inputs ≤ 40 * 8 := Int.mul_le_mul b2 b4 (by omega) (by omega)
    omega
  have gst := g.steps
  refine w65 ?_
  unfold n65
  with_reducible (refine mv_i ?_; refine mv_i ?_; refine mv_i ?_; refine nil_i ?_; refine vk_i (fa92_0 _) ?_; refine vk_i (fa36_4 _) ?_; refine ldgr r34 (by assumption) rfl ?_; refine lenst t34 (by assumption) ?_; refine mv_i ?_)
  refine loop2 m.steps.length (fun k v h2 => Own 1 h h2 v (idxs (fun k => bs.getD (m.steps.getD k dst).fr.toNat false) k).length ((idxs (fun k => bs.getD (m.steps.getD k dst).fr.toNat false) k).map (.int .i64))) (Own.nil 1 (List.prefix_refl _)) ?_
  rintro k v h2 _ hk ow
  have gst2 := gst.mono (Sub.of_pre ow.pre)
  have s2 := s.mono (Sub.of_pre ow.pre)
  have hll := idxs_len (fun k => bs.getD (m.steps.getD k dst).fr.toNat false) k
  have hsc := idxs_succ (fun k => bs.getD (m.steps.getD k dst).fr.toNat false) k
  skip
  refine lss_i (fun hlt => ?_) (fun hge => ?_)
  · have hk2 : k < m.steps.length := by omega
    have hst := r.st hk2
    refine cnd_t ?_
    refine seq_J (fun xs h4 => ∃ v, xs = [v] ∧ Own 1 h h4 v (idxs (fun k => bs.getD (m.steps.getD k dst).fr.toNat false) (k + 1)).length ((idxs (fun k => bs.getD (m.steps.getD k dst).fr.toNat false) (k + 1)).map (.int .i64))) ?_ ?_
    · rintro _ h4 ⟨v, rfl, ow⟩ _
      show vK _ h4 _
      with_reducible (refine inc_i (by omega) ?_; refine mv_i ?_)
      exact next2 hk2 ow
    intro k' hk'
    with_reducible (refine mv_i ?_; refine idxst t34 (by assumption) (by omega) ?_)
    refine ldst_i st63 gst2 hk2 dst ?_
    refine ok_i (al63 _) ?_
    with_reducible (refine mv_i ?_)
    refine ok_i (v := undef) (h' := newArr h2 (m.steps.getD k dst).cells 4) (by rw [sto63]; rfl) ?_
    obtain ⟨o3, _⟩ := ow.ext (pre_new h2 (m.steps.getD k dst).cells 4)
    have hy : (newArr h2 (m.steps.getD k dst).cells 4)[h2.length]? = some (.arr ⟨[.int .i64 (m.steps.getD k dst).fr, .int .i64 (m.steps.getD k dst).inp, .int .i64 (m.steps.getD k dst).out, .int .i64 (m.steps.getD k dst).to], 4, false⟩) := newArr_get _ _ _
    generalize hyi : h2.length = yi at hy ⊢
    generalize newArr h2 (m.steps.getD k dst).cells 4 = h3 at o3 hy ⊢
    have s3 := s.mono (Sub.of_pre o3.pre)
    with_reducible (refine mv_i ?_; refine vk_i (fa63_0 _) ?_; refine ld4_0 r3 (by assumption) ?_; refine idxzb t48 (by assumption) (by omega) (by omega) ?_; refine ldb_i t48 r4 (by assumption) (by omega) ?_)
    rcases hb : bs.getD (m.steps.getD k dst).fr.toNat false with _ | _
    · with_reducible (refine cnd_f ?_)
      rw [hb, if_neg (by simp)] at hsc
      exact hk' _ _ ⟨v, rfl, by rw [hsc]; exact o3⟩
    · with_reducible (refine cnd_t ?_; refine mv_i ?_; refine mv_i ?_)
      rw [hb, if_pos rfl] at hsc
      refine ok_i (bs23_1 _ _) ?_
      obtain ⟨o4, _⟩ := o3.ext (pre_new h3 [.int .i64 (k : Int)] 1)
      refine app_i t23 o4 (Seg.new (n := 1) 2 (by simp) (by omega)) (by simp [Value.oneCell']) (by omega) ⟨by omega, by omega⟩ fun v' h' o5 _ => ?_
      with_reducible (refine mv_i ?_)
      exact hk' _ _ ⟨v', rfl, by rw [hsc]; simpa using o5⟩
  · have ek : k = m.steps.length := by omega
    subst ek
    with_reducible (refine cnd_f ?_; refine mv_i ?_; refine mv_i ?_; refine ret1 ?_)
    exact ⟨ow.pre, ow.only⟩
theorem c60 {gi : Nat} {st by_ fr : Value} (g : Graph gi h m st by_ fr) (r : Right m) :
    DetP Try.prog 60 [.pointer (some ⟨gi, 0, none⟩)] h fun v h' => h <+: h' ∧ Only h h' fun g => IntS g v (leav m (rchB m m.start)) := by
  obtain ⟨b1, b2, b3, b4, b5, b6⟩ := r.bounds
  have hfew := r.few
  have hsl : m.steps.length ≤ 320 := by
    have : m.states * m.inputs ≤ 40 * 8 := Int.mul_le_mul b2 b4 (by omega) (by omega)
    omega
  refine w60 ?_
  unfold n60
  with_reducible (refine mv_i ?_; refine mv_i ?_; refine mv_i ?_; refine mv_i ?_; refine nil_i ?_; refine vk_i (fa92_0 _) ?_; refine vk_i (fa36_3 _) ?_; refine ldgr r3 (by assumption) rfl ?_)
  refine call_i (c64 g r b5 b6) ?_
  rintro v h2 ⟨p2, q2⟩
  refine call_i (c65 (g.mono (Sub.of_pre p2)) r q2.self (rchB_len _)) ?_
  rintro w h3 ⟨p3, q3⟩
  with_reducible (refine mv_i ?_; refine ret1 ?_)
  exact ⟨p2.trans p3, Only.from p2 q3⟩
def markedL (bs : List Bool) : List Int := idxs (fun k => bs.getD k false) bs.length
theorem c27 {a : Value} {bs : List Bool} (s : BoolS h a bs) (hl : bs.length ≤ 2 ^ 40) : DetP Try.prog 27 [a] h fun v h' => h <+: h' ∧ Only h h' fun g => IntS g v (markedL bs) := by
  refine w27 ?_
  unfold n27
  with_reducible (refine mv_i ?_; refine mv_i ?_; refine mv_i ?_)
  refine loop2 bs.length (fun k v h2 => Own 1 h h2 v (idxs (fun k => bs.getD k false) k).length ((idxs (fun k => bs.getD k false) k).map (.int .i64))) (Own.nil 1 (List.prefix_refl _)) ?_
  rintro k v h2 _ hk ow
  have s2 := s.mono (Sub.of_pre ow.pre)
  have hll := idxs_len (fun k => bs.getD k false) k
  have hsc := idxs_succ (fun k => bs.getD k false) k
  with_reducible (refine mv_i ?_; refine mv_i ?_; refine lenb_i t48 (by assumption) ?_)
  refine lss_i (fun hlt => ?_) (fun hge => ?_)
  · have hk2 : k < bs.length := by omega
    refine cnd_t ?_
    refine seq_J (fun xs h4 => ∃ v, xs = [v] ∧ Own 1 h h4 v (idxs (fun k => bs.getD k false) (k + 1)).length ((idxs (fun k => bs.getD k false) (k + 1)).map (.int .i64))) ?_ ?_
    · rintro _ h4 ⟨v, rfl, ow⟩ _
      show mvK _ h4 _
      with_reducible (refine mv_i ?_; refine inc_i (by omega) ?_; refine mv_i ?_)
      exact next2 hk2 ow
    intro k' hk'
    with_reducible (refine mv_i ?_; refine mv_i ?_; refine idxb_i t48 (by assumption) (by omega) ?_; refine ldb_i t48 r4 (by assumption) (by omega) ?_)
    rcases hb : bs.getD k false with _ | _
    · with_reducible (refine cnd_f ?_)
      rw [hb, if_neg (by simp)] at hsc
      exact hk' _ _ ⟨v, rfl, by rw [hsc]; exact ow⟩
    · with_reducible (refine cnd_t ?_; refine mv_i ?_; refine mv_i ?_)
      rw [hb, if_pos rfl] at hsc
      refine ok_i (bs23_1 _ _) ?_
      obtain ⟨o4, _⟩ := ow.ext (pre_new h2 [.int .i64 (k : Int)] 1)
      refine app_i t23 o4 (Seg.new (n := 1) 2 (by simp) (by omega)) (by simp [Value.oneCell']) (by omega) ⟨by omega, by omega⟩ fun v' h' o5 _ => ?_
      with_reducible (refine mv_i ?_)
      exact hk' _ _ ⟨v', rfl, by rw [hsc]; simpa using o5⟩
  · have ek : k = bs.length := by omega
    subst ek
    with_reducible (refine cnd_f ?_; refine mv_i ?_; refine mv_i ?_; refine ret1 ?_)
    exact ⟨ow.pre, ow.only⟩
theorem markedL_at {bs : List Bool} : markedL bs = idxs (fun k => bs.getD k false) bs.length := rfl
theorem c25 {a : Value} (s : MacV h a m) :
    DetP Try.prog 25 [a] h fun v h' => h <+: h' ∧ if (mErr m).2 ≠ 0 then v = .tuple #[.slice none 0 0, .slice none 0 0, .int .i64 (mErr m).2] else ∃ x y, v = .tuple #[x, y, .int .i64 0] ∧ Only h h' fun g => IntS g x (markedL (rchB m m.start)) ∧ IntS g y (leav m (rchB m m.start)) := by
  refine w25 ?_
  unfold n25
  obtain ⟨o, l, c, rfl, ss0⟩ := s
  rw [box36]
  refine ok_i rfl ?_
  have p1 := pre_new h [.int .i64 m.states, .int .i64 m.inputs, .int .i64 m.outputs, .int .i64 m.start, .slice o l c] 5
  have hb1 := newArr_get h [.int .i64 m.states, .int .i64 m.inputs, .int .i64 m.outputs, .int .i64 m.start, .slice o l c] 5
  have ss := ss0.mono (Sub.of_pre p1)
  generalize hg1 : newArr h [.int .i64 m.states, .int .i64 m.inputs, .int .i64 m.outputs, .int .i64 m.start, .slice o l c] 5 = g1 at p1 hb1 ss ⊢
  have mv1 : MacV g1 (.agg #[.int .i64 m.states, .int .i64 m.inputs, .int .i64 m.outputs, .int .i64 m.start, .slice o l c]) m := macv_of ss
  with_reducible (refine mv_i ?_; refine mv_i ?_; refine mv_i ?_)
  refine vk_i (ld36 hb1) ?_
  refine call_r (c51 mv1) ?_
  with_reducible (refine mv_i ?_; refine mv_i ?_)
  refine neq_i (fun hz => ?_) (fun hz => ?_)
  · have r := right_of hz
    obtain ⟨b1, b2, b3, b4, b5, b6⟩ := r.bounds
    have hfew := r.few
    have hsl : m.steps.length ≤ 320 := by
      have : m.states * m.inputs ≤ 40 * 8 := Int.mul_le_mul b2 b4 (by omega) (by omega)
      omega
    with_reducible (refine cnd_f ?_)
    refine vk_i (ld36 hb1) ?_
    refine call_i (c54 mv1 r) ?_
    rintro _ g3 ⟨p3, gi, st, by_, fr, rfl, sst, og⟩
    have gr : Graph gi g3 m st by_ fr := og.self (sst.mono (Sub.of_pre p3))
    with_reducible (refine mv_i ?_; refine mv_i ?_; refine mv_i ?_; refine mv_i ?_; refine nil_i ?_; refine vk_i (fa92_0 _) ?_; refine vk_i (fa36_3 _) ?_; refine ldgr r3 (by assumption) rfl ?_)
    refine call_i (c64 gr r b5 b6) ?_
    rintro bv g4 ⟨p4, q4⟩
    have sb := q4.self
    have hlb := rchB_len (m := m) m.start
    with_reducible (refine lenb_i t48 (by assumption) ?_; refine mv_i ?_)
    rw [hlb]
    refine loop2 m.states.toNat (fun k v h2 => Own 1 g4 h2 v (idxs (fun k => (rchB m m.start).getD k false) k).length ((idxs (fun k => (rchB m m.start).getD k false) k).map (.int .i64))) (Own.nil 1 (List.prefix_refl _)) ?_
    rintro k v h2 _ hk ow
    have s2 := sb.mono (Sub.of_pre ow.pre)
    have hll := idxs_len (fun k => (rchB m m.start).getD k false) k
    have hsc := idxs_succ (fun k => (rchB m m.start).getD k false) k
    skip
    refine lss_i (fun hlt => ?_) (fun hge => ?_)
    · have hk2 : k < m.states.toNat := by omega
      refine cnd_t ?_
      refine seq_J (fun xs h4 => ∃ v, xs = [v] ∧ Own 1 g4 h4 v (idxs (fun k => (rchB m m.start).getD k false) (k + 1)).length ((idxs (fun k => (rchB m m.start).getD k false) (k + 1)).map (.int .i64))) ?_ ?_
      · rintro _ h4 ⟨v, rfl, ow⟩ _
        show vK _ h4 _
        with_reducible (refine inc_i (by omega) ?_; refine mv_i ?_)
        exact next2 hk2 ow
      intro k' hk'
      with_reducible (refine mv_i ?_; refine idxb_i t48 (by assumption) (by omega) ?_; refine ldb_i t48 r4 (by assumption) (by omega) ?_; refine mv_i ?_; refine mv_i ?_; refine mv_i ?_)
      rcases hb : (rchB m m.start).getD k false with _ | _
      · with_reducible (refine cnd_f ?_)
        rw [hb, if_neg (by simp)] at hsc
        exact hk' _ _ ⟨v, rfl, by rw [hsc]; exact ow⟩
      · with_reducible (refine cnd_t ?_; refine mv_i ?_; refine mv_i ?_)
        rw [hb, if_pos rfl] at hsc
        refine ok_i (bs23_1 _ _) ?_
        obtain ⟨o4, _⟩ := ow.ext (pre_new h2 [.int .i64 (k : Int)] 1)
        refine app_i t23 o4 (Seg.new (n := 1) 2 (by simp) (by omega)) (by simp [Value.oneCell']) (by omega) ⟨by omega, by omega⟩ fun v' h' o5 _ => ?_
        with_reducible (refine mv_i ?_)
        exact hk' _ _ ⟨v', rfl, by rw [hsc]; simpa using o5⟩
    · have ek : k = m.states.toNat := by omega
      with_reducible (refine cnd_f ?_; refine mv_i ?_; refine mv_i ?_)
      refine call_i (c60 (gr.mono (Sub.of_pre (p4.trans ow.pre))) r) ?_
      rintro w h3 ⟨p5, q5⟩
      with_reducible (refine mv_i ?_; refine mv_i ?_; refine mv_i ?_; refine ret3 ?_)
      refine ⟨p1.trans (p3.trans (p4.trans (ow.pre.trans p5))), ?_⟩
      rw [if_neg (by simp [hz])]
      refine ⟨v, w, rfl, ?_⟩
      have ho := (ow.only.pre p5)
      rw [markedL_at, hlb, ← ek]
      intro g hg
      exact ⟨ho g fun j a hj e => hg j a (Nat.le_trans (p1.trans (p3.trans p4)).length_le hj) e, q5 g fun j a hj e => hg j a (Nat.le_trans (p1.trans (p3.trans (p4.trans ow.pre))).length_le hj) e⟩
  · with_reducible (refine cnd_t ?_; refine mv_i ?_; refine mv_i ?_; refine mv_i ?_; refine mv_i ?_; refine ret3 ?_)
    exact ⟨p1, by rw [if_pos hz]⟩
end Go.Proofs.Ytdjoednhfoligaa
