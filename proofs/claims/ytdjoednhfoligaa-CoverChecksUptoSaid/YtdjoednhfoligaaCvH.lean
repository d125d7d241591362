import Derived.Test.YtdjoednhfoligaaCvG
import Derived.Test.YtdjoednhfoligaaCvP
import Derived.Test.YtdjoednhfoligaaAmZc
set_option linter.unusedSimpArgs false
set_option linter.unusedVariables false
set_option maxRecDepth 100000
namespace Go.Proofs.Ytdjoednhfoligaa
open Go.AM
variable {h h' h0 h1 : Heap} {K : Value → Heap → Prop} {m : Mac}

theorem ldgr {e : TypeId} {off gi : Nat} {y st by_ fr : Value} (hr : isPlain Try.prog e = true) (g : Graph gi h m st by_ fr) (hc : [Value.int .i64 m.states, .int .i64 m.inputs, .int .i64 m.outputs, .int .i64 m.start, st, by_, fr][off]? = some y) (hK : K y h) : vK (aLoad Try.prog e (.pointer (some ⟨gi, off, none⟩)) h) h K := ldc_i hr g.cells hc hK
theorem byL_at (m : Mac) {s : Nat} (hs : s < m.states.toNat) : (byL m).getD s [] = byRow m m.inputs.toNat m.steps.length s := by simp [byL, hs]
theorem byRow_at (m : Mac) {I k j n : Nat} (hn : n < I) : (byRow m I k j).getD n 0 = optI (stepTo m.steps k (j : Int) (n : Int)) := by simp [byRow, hn]
theorem frL_at (m : Mac) {s : Nat} (hs : s < m.states.toNat) : (frL m).getD s [] = frRow m m.steps.length s := by simp [frL, hs]
theorem r45' : isPlain Try.prog 45 = true := r45
def inW (m : Mac) (w : List Int) : Prop := ∀ x ∈ w, 0 ≤ x ∧ x < m.inputs
theorem takenI_has {l : List St} {f : Int} {w : List Int} : ∀ k ∈ takenI l f w, k < l.length := takenI_lt w f
theorem c55 {gi : Nat} {a st by_ fr : Value} {w : List Int} (g : Graph gi h m st by_ fr) (r : Right m) (s : IntS h a w) (hw : inW m w) (hl : w.length ≤ 2 ^ 40) :
    DetP Try.prog 55 [.pointer (some ⟨gi, 0, none⟩), a] h fun v h' => h <+: h' ∧ Only h h' fun g => IntS g v ((takenI m.steps m.start w).map fun k : Nat => (k : Int)) := by
  obtain ⟨b1, b2, b3, b4, b5, b6⟩ := r.bounds
  have hfew := r.few
  have hsl : m.steps.length ≤ 320 := by
    have : m.states * m.inputs ≤ 40 * 8 := Int.mul_le_mul b2 b4 (by omega) (by omega)
    omega
  have gst := g.steps
  refine w55 ?_
  unfold n55
  with_reducible (refine mv_i ?_; refine mv_i ?_; refine mv_i ?_; refine nil_i ?_; refine vk_i (fa92_0 _) ?_; refine vk_i (fa36_3 _) ?_; refine ldgr r3 (by assumption) rfl ?_; refine mv_i ?_)
  refine seq_J (fun xs h2 => ∃ v, xs = [v] ∧ h <+: h2 ∧ Only h h2 fun g => IntS g v ((takenI m.steps m.start w).map fun k : Nat => (k : Int))) ?_ ?_
  · rintro _ h2 ⟨v, rfl, p, q⟩ _
    show mvK v h2 _
    with_reducible (refine mv_i ?_; refine mv_i ?_; refine ret1 ?_)
    exact ⟨p, q⟩
  intro k' hk'
  with_reducible (refine mv_i ?_; refine leni_i t23 (by assumption) ?_; refine mv_i ?_)
  refine loop3 w.length (fun k v fv h2 => ∃ (ks : List Nat) (g : Int), fv = .int .i64 g ∧ 0 ≤ g ∧ g < m.states ∧ Walk m.steps m.start (w.take k) ks g ∧ Own 1 h h2 v k ((ks.map fun k : Nat => (k : Int)).map (.int .i64))) ⟨[], m.start, rfl, b5, b6, .nil _, Own.nil 1 (List.prefix_refl _)⟩ ?_
  rintro k v _ h2 _ hk ⟨ks, z, rfl, z0, z1, hwk, ow⟩
  have g2 := g.mono (Sub.of_pre ow.pre)
  have gst2 := g2.steps
  have s2 := s.mono (Sub.of_pre ow.pre)
  have hkl := hwk.length
  rw [List.length_take] at hkl
  have hres : ∀ (r : List Nat), takenI m.steps m.start w = r → r = ks → ∃ v', [v] = [v'] ∧ h <+: h2 ∧ Only h h2 fun g => IntS g v' ((takenI m.steps m.start w).map fun k : Nat => (k : Int)) := by
    intro r e1 e
    rw [e1]
    subst e
    refine ⟨v, rfl, ow.pre, ow.only.map fun g hg => ?_⟩
    have e2 : k = ((r.map fun k : Nat => (k : Int))).length := by simp; omega
    rw [e2] at hg
    exact hg
  have hby : (byL m).length = m.states.toNat := by simp [byL]
  have gb := g2.by_
  skip
  refine lss_i (fun hlt => ?_) (fun hge => ?_)
  · have hk2 : k < w.length := by omega
    have hrest := hwk.rest (w.drop k)
    rw [List.take_append_drop, drop_cons' hk2] at hrest
    obtain ⟨x0, x1⟩ := hw _ (gd_mem 0 hk2)
    with_reducible (refine cnd_t ?_; refine idxi_i t23 (by assumption) (by omega) ?_; refine ldi_i t23 r3 (by assumption) (by omega) ?_; refine mv_i ?_; refine mv_i ?_; refine nil_i ?_; refine vk_i (fa92_1 _) ?_; refine ldgr r45 (by assumption) rfl ?_; refine mv_i ?_; refine idxzr t22 (by assumption) (by omega) (by omega) ?_)
    refine ldr_i t22 r23 gb (by omega) fun row srow => ?_
    have hzn : z.toNat < m.states.toNat := by omega
    rw [byL_at m hzn] at srow
    have hlb := byRow_len m m.inputs.toNat m.steps.length z.toNat
    with_reducible (refine mv_i ?_; refine idxzi t23 (by assumption) (by omega) (by omega) ?_; refine ldi_i t23 r3 (by assumption) (by omega) ?_; refine mv_i ?_; refine mv_i ?_)
    rw [byRow_at m (by omega)]
    rw [Int.toNat_of_nonneg z0, Int.toNat_of_nonneg x0]
    have est : stepTo m.steps m.steps.length z (w.getD k 0) = stepAt m.steps z (w.getD k 0) := rfl
    rw [est]
    cases hst : stepAt m.steps z (w.getD k 0) with
    | none =>
      skip
      refine eql_i (fun _ => ?_) (fun hne => absurd rfl hne)
      with_reducible (refine cnd_t ?_)
      have e : takenI m.steps m.start w = ks := by rw [hrest]; simp only [takenI, hst, List.append_nil]
      exact hk' _ _ (hres ks e rfl)
    | some j =>
      obtain ⟨hj, hjf, _⟩ := stepAt_lt hst
      skip
      refine eql_i (fun he => absurd he (by simp only [optI]; omega)) (fun _ => ?_)
      simp only [optI]
      with_reducible (refine cnd_f ?_; refine mv_i ?_; refine nil_i ?_; refine vk_i (fa92_0 _) ?_; refine vk_i (fa36_4 _) ?_; refine ldgr r34 (by assumption) rfl ?_; refine ⟨VB_of_steps (by assumption), ?_⟩; refine mv_i ?_; refine idxst t34 (by assumption) (by omega) ?_; refine fae_i st63 (by assumption) (by omega) (by omega) ?_; refine ldto dst st63 (by assumption) (by omega) ?_; refine ⟨vbi _ _, ?_⟩; refine mv_i ?_; refine mv_i ?_)
      refine ok_i (bs23_1 _ _) ?_
      obtain ⟨o4, _⟩ := ow.ext (pre_new h2 [.int .i64 (j : Int)] 1)
      refine app_i t23 o4 (Seg.new (n := 1) 2 (by simp) (by omega)) (by simp [Value.oneCell']) (by omega) ⟨by omega, by omega⟩ fun v' h' o5 _ => ?_
      have g5 := g.mono (Sub.of_pre o5.pre)
      have gst5 := g5.steps
      refine ⟨⟨again (ldf_e dst st63 gst5 hj (by omega)), again (ldc_e r34 g5.cells rfl), trivial⟩, ?_⟩
      with_reducible (refine mv_i ?_; refine mv_i ?_; refine inc_i (by omega) ?_; refine mv_i ?_)
      have hto := r.st hj
      refine next3 hk2 ⟨ks ++ [j], _, rfl, hto.2.2.1, hto.2.2.2.1, ?_, ?_⟩
      · rw [take_gd 0 hk2]
        exact .snoc hwk hst
      · simpa using o5
  · have ek : k = w.length := by omega
    subst ek
    have hrest := hwk.rest []
    rw [List.take_of_length_le (Nat.le_refl _)] at hrest
    with_reducible (refine cnd_f ?_)
    have e : takenI m.steps m.start w = ks := by simpa [takenI] using hrest
    exact hk' _ _ (hres ks e rfl)
end Go.Proofs.Ytdjoednhfoligaa
