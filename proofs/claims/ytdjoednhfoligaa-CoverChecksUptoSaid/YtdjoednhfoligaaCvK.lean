import Derived.Test.YtdjoednhfoligaaCvJ
set_option linter.unusedSimpArgs false
set_option linter.unusedVariables false
set_option maxRecDepth 100000
namespace Go.Proofs.Ytdjoednhfoligaa
open Go.AM
variable {h h' h0 h1 : Heap} {K : Value → Heap → Prop} {m : Mac}

/-! ### what is reached -/
inductive Rch (l : List St) (f : Int) : Int → Prop
  | refl : Rch l f f
  | step {k : Nat} (h : Rch l f (l.getD k dst).fr) (hk : k < l.length) : Rch l f (l.getD k dst).to
/-- Sets of states that are closed. -/
theorem Rch.closed {l : List St} {f : Int} {Q : Int → Prop} (h0 : Q f) (hs : ∀ k, k < l.length → Q (l.getD k dst).fr → Q (l.getD k dst).to) {s : Int} (h : Rch l f s) : Q s := by
  induction h with
  | refl => exact h0
  | step h hk ih => exact hs _ hk ih
open Classical in
noncomputable def rchB (m : Mac) (f : Int) : List Bool := (List.range m.states.toNat).map fun s : Nat => decide (Rch m.steps f (s : Int))
theorem rchB_len (f : Int) : (rchB m f).length = m.states.toNat := by simp [rchB]
open Classical in
theorem rchB_at {f : Int} {s : Nat} (hs : s < m.states.toNat) : (rchB m f).getD s false = decide (Rch m.steps f (s : Int)) := by simp [rchB, hs]
open Classical in
theorem rchB_of {f : Int} {bs : List Bool} (hl : bs.length = m.states.toNat) (hb : ∀ s, s < m.states.toNat → (bs.getD s false = true ↔ Rch m.steps f (s : Int))) : bs = rchB m f := by
  refine List.ext_getElem (by rw [hl, rchB_len]) fun j h1 h2 => ?_
  have e1 := gd_at false h1
  have e2 := gd_at false h2
  rw [← e1, ← e2, rchB_at (by omega), Bool.eq_iff_iff, decide_eq_true_eq]
  exact hb j (by omega)
theorem z4' : zeroB Try.prog 4 (.bool false) := z4
def countT (bs : List Bool) : Nat := bs.countP id
theorem countT_rep (n : Nat) : countT (List.replicate n false) = 0 := by
  induction n with
  | zero => rfl
  | succ n ih => simp [countT, List.replicate_succ] at ih ⊢
theorem repB (n s : Nat) : (List.replicate n false).getD s false = false := by
  simp only [List.getD, List.getElem?_replicate]
  split <;> rfl
theorem setB_map {xs : List Bool} {n : Nat} {x : Bool} : (xs.map Value.bool).set n (.bool x) = (xs.set n x).map .bool := by rw [List.map_set]
theorem set_getB {bs : List Bool} {k : Nat} (hk : k < bs.length) (j : Nat) : (bs.set k true).getD j false = (decide (j = k) || bs.getD j false) := by
  by_cases q : j = k
  · subst q; simp [List.getD, hk]
  · have : ¬ k = j := fun e => q e.symm
    simp [List.getD, List.getElem?_set, this, q]
theorem countT_le (bs : List Bool) : countT bs ≤ bs.length := List.countP_le_length
theorem countT_set {bs : List Bool} {k : Nat} (hk : k < bs.length) (hf : bs.getD k false = false) : countT (bs.set k true) = countT bs + 1 := by
  induction bs generalizing k with
  | nil => simp at hk
  | cons b bs ih =>
    cases k with
    | zero =>
      simp only [List.getD_cons_zero] at hf
      subst hf
      simp [countT]
    | succ k =>
      simp only [List.getD_cons_succ] at hf
      have := ih (by simpa using hk) hf
      unfold countT at this ⊢
      simp only [List.set_cons_succ, List.countP_cons]
      omega
theorem fr_mem {m : Mac} {s : Nat} {x : Int} : x ∈ frRow m m.steps.length s ↔ ∃ k : Nat, x = (k : Int) ∧ k < m.steps.length ∧ (m.steps.getD k dst).fr = (s : Int) := by
  unfold frRow
  simp only [List.mem_map, List.mem_filter, List.mem_range, decide_eq_true_eq]
  constructor
  · rintro ⟨k, ⟨h1, h2⟩, rfl⟩; exact ⟨k, rfl, h1, h2⟩
  · rintro ⟨k, rfl, h1, h2⟩; exact ⟨k, ⟨h1, h2⟩, rfl⟩
/-- The states seen so far: those in the queue are seen; what is seen and not in the queue has its targets seen. -/
structure Seen (m : Mac) (f : Int) (bs : List Bool) (q : List Int) : Prop where
  len : bs.length = m.states.toNat
  rch : ∀ s, bs.getD s false = true → Rch m.steps f (s : Int)
  fst : bs.getD f.toNat false = true
  inq : ∀ x ∈ q, 0 ≤ x ∧ x < m.states ∧ bs.getD x.toNat false = true
theorem c64 {gi : Nat} {st by_ fr : Value} {f : Int} (g : Graph gi h m st by_ fr) (r : Right m) (f0 : 0 ≤ f) (f1 : f < m.states) :
    DetP Try.prog 64 [.pointer (some ⟨gi, 0, none⟩), .int .i64 f] h fun v h' => h <+: h' ∧ Only h h' fun g => BoolS g v (rchB m f) := by
  obtain ⟨b1, b2, b3, b4, b5, b6⟩ := r.bounds
  have hfew := r.few
  have hsl : m.steps.length ≤ 320 := by
    have : m.states * m.inputs ≤ 40 * 8 := Int.mul_le_mul b2 b4 (by omega) (by omega)
    omega
  refine w64 ?_
  unfold n64
  with_reducible (refine mv_i ?_; refine mv_i ?_; refine nil_i ?_; refine vk_i (fa92_0 _) ?_; refine vk_i (fa36_0 _) ?_; refine ldgr r3 (by assumption) rfl ?_)
  refine mk1_i (n := m.states) t48 z4 (by omega) ⟨by omega, by omega⟩ ?_
  have ez : List.replicate m.states.toNat (Value.bool false) = (List.replicate m.states.toNat false).map .bool := by simp
  rw [ez]
  have o0 := (Owns.start (fun _ => []) oneE (List.prefix_refl h)).add 0 ((List.replicate m.states.toNat false).map .bool) 1 rfl
  generalize hoi : h.length = oi at o0 ⊢
  generalize newArr h ((List.replicate m.states.toNat false).map .bool) 1 = h2 at o0 ⊢
  have sB : ∀ {h2 N C} {bs : List Bool} (o2 : Owns h h2 N C oneE), N 0 = some oi → C 0 = bs.map .bool → bs.length = m.states.toNat → BoolS h2 (.slice (some ⟨oi, 0, none⟩) m.states.toNat (m.states.toNat + 1)) bs := by
    intro h2 N C bs o2 n0 c0 hl
    have := LS.bools o2 (v := .slice (some ⟨oi, 0, none⟩) m.states.toNat (m.states.toNat + 1)) (xs := bs) (l := 0) (by have := LS.whole (C := C) (c := m.states.toNat + 1) n0 (k := m.states.toNat) (by rw [c0, List.length_map]; omega); rw [c0] at this; exact this) rfl (by omega)
    exact this
  have b0 := sB o0 (upN_self _ _ _) (by rw [upN_self]) (by simp)
  have hlr : (List.replicate m.states.toNat false).length = m.states.toNat := by simp
  with_reducible (refine mv_i ?_; refine mv_i ?_; refine mv_i ?_; refine idxzb t48 (by assumption) (by omega) (by omega) ?_)
  rw [elt_at1]
  refine stl s4 o0 (upN_self _ _ _) (by rw [upN_self]; simp; omega) rfl rfl fun o1 => ?_
  rw [upN_self, setB_map] at o1 ⊢
  have n1 : (upN (fun _ => none) 0 (some oi)) 0 = some oi := upN_self _ _ _
  have n1' : (upN (fun _ => none) 0 (some oi)) 1 = none := by rw [upN_ne (by omega)]
  have c1 := upN_self (upN (fun _ => []) 0 ((List.replicate m.states.toNat false).map Value.bool)) 0 (((List.replicate m.states.toNat false).set f.toNat true).map Value.bool)
  generalize upN (upN (fun _ => []) 0 ((List.replicate m.states.toNat false).map Value.bool)) 0 (((List.replicate m.states.toNat false).set f.toNat true).map Value.bool) = C1 at o1 c1
  generalize upN (fun _ => none) 0 (some oi) = N1 at o1 n1 n1'
  have e1 : oneE 0 = 1 := rfl
  rw [e1] at o1 ⊢
  generalize h2.set oi (.arr ⟨((List.replicate m.states.toNat false).set f.toNat true).map Value.bool, 1, false⟩) = h3 at o1 ⊢
  with_reducible (refine mv_i ?_)
  refine ok_i (bs23_1 _ _) ?_
  have o2 := o1.add 1 [.int .i64 f] 1 rfl
  have l1 : LS (upN N1 1 (some h3.length)) (upN C1 1 [.int .i64 f]) 1 (.slice (some ⟨h3.length, 0, none⟩) 1 2) ([f].map (.int .i64)) := by
    have := LS.whole (N := upN N1 1 (some h3.length)) (C := upN C1 1 [.int .i64 f]) (c := 2) (l := 1) (k := 1) (upN_self _ _ _) (by rw [upN_self]; rfl)
    rw [upN_self] at this
    exact this
  have n2 : (upN N1 1 (some h3.length)) 0 = some oi := by rw [upN_ne (by omega)]; exact n1
  have c2 : (upN C1 1 [.int .i64 f]) 0 = ((List.replicate m.states.toNat false).set f.toNat true).map Value.bool := by rw [upN_ne (by omega)]; exact c1
  generalize upN C1 1 [.int .i64 f] = C2 at o2 l1 c2
  generalize upN N1 1 (some h3.length) = N2 at o2 l1 n2
  generalize (Value.slice (some ⟨h3.length, 0, none⟩) 1 2) = ov at l1 ⊢
  generalize newArr h3 [.int .i64 f] 1 = h4 at o2 ⊢
  with_reducible (refine mv_i ?_)
  have hfn : f.toNat < m.states.toNat := by omega
  have seen0 : Seen m f ((List.replicate m.states.toNat false).set f.toNat true) [f] := by
    refine ⟨by simp, fun s hs => ?_, ?_, ?_⟩
    · rw [set_getB (by simpa using hfn)] at hs
      by_cases q : s = f.toNat
      · subst q; rw [Int.toNat_of_nonneg f0]; exact .refl
      · rw [repB, decide_eq_false q] at hs; cases hs
    · rw [set_getB (by simpa using hfn)]; simp
    · intro x hx
      simp at hx
      subst hx
      exact ⟨f0, f1, by rw [set_getB (by simpa using hfn)]; simp⟩
  have hc0 : countT ((List.replicate m.states.toNat false).set f.toNat true) = 1 := by
    rw [countT_set (by simpa using hfn) (repB _ _), countT_rep]
  refine lp1 (fun n vs h2 => ∃ v N C bs q, vs = [v] ∧ Owns h h2 N C oneE ∧ N 0 = some oi ∧ C 0 = bs.map .bool ∧ LS N C 1 v (q.map (.int .i64)) ∧ Seen m f bs q ∧
      (∀ k, k < m.steps.length → bs.getD (m.steps.getD k dst).fr.toNat false = true → (m.steps.getD k dst).fr ∉ q → bs.getD (m.steps.getD k dst).to.toNat false = true) ∧ q.length ≤ countT bs ∧ n = 2 * (m.states.toNat - countT bs) + q.length)
    ⟨ov, N2, C2, _, [f], rfl, o2, n2, c2, l1, seen0, fun k hk hb hf => ?_, by rw [hc0]; simp, rfl⟩ ?_
  · exfalso
    rw [set_getB (by simpa using hfn)] at hb
    have hst := r.st hk
    rw [List.mem_singleton] at hf
    by_cases q : (m.steps.getD k dst).fr.toNat = f.toNat
    · omega
    · rw [repB, decide_eq_false q] at hb; cases hb
  rintro n _ h2 _ ⟨v, N, C, bs, q, e, ow, n0, cc, ls, sn, dn, hq, rfl⟩ hr
  cases e
  have hcle := countT_le bs
  have hbl := sn.len
  have si := ls.ints ow rfl (by omega)
  have g2 := g.mono ow.sub
  have gf := g2.fr
  have hfl : (frL m).length = m.states.toNat := by simp [frL]
  with_reducible (refine mv_i ?_; refine leni_i t23 (by assumption) ?_)
  refine gtr_i (fun hg => ?_) (fun hg => ?_)
  · obtain ⟨x, q, rfl⟩ : ∃ x q', q = x :: q' := by
      cases q with
      | nil => simp at hg
      | cons x q => exact ⟨x, q, rfl⟩
    obtain ⟨x0, x1, x2⟩ := sn.inq x (by simp)
    with_reducible (refine cnd_t ?_; refine mv_i ?_)
    refine idxi_i (k := 0) t23 si (by omega) ?_
    refine ldi_i t23 r3 si (by omega) ?_
    rw [List.getD_cons_zero]
    with_reducible (refine mv_i ?_; refine mv_i ?_)
    rw [List.map_cons] at ls
    refine ltail t23 ow ls rfl fun v' ls => ?_
    with_reducible (refine mv_i ?_; refine mv_i ?_; refine nil_i ?_; refine vk_i (fa92_2 _) ?_; refine ldgr r45 (by assumption) rfl ?_; refine mv_i ?_; refine idxzr t22 (by assumption) (by omega) (by omega) ?_)
    refine ldrb t22 r23 g.fr ow.sub (by omega) fun row srow => ?_
    rw [frL_at m (by omega)] at srow
    have hfrl := frRow_len m m.steps.length x.toNat
    have hmem := fun y => @fr_mem m x.toNat y
    rw [Int.toNat_of_nonneg x0] at hmem
    generalize hks : frRow m m.steps.length x.toNat = ks at srow hfrl hmem
    have srow2 := srow.mono ow.sub
    with_reducible (refine leni_i t23 (by assumption) ?_; refine mv_i ?_)
    simp only [List.length_cons] at hq
    refine loop2 ks.length (fun j v h3 => ∃ N C bs' q', Owns h h3 N C oneE ∧ N 0 = some oi ∧ C 0 = bs'.map .bool ∧ LS N C 1 v (q'.map (.int .i64)) ∧ Seen m f bs' q' ∧ (∀ s, bs.getD s false = true → bs'.getD s false = true) ∧
        (∀ k, k < m.steps.length → bs'.getD (m.steps.getD k dst).fr.toNat false = true → (m.steps.getD k dst).fr ∉ q' → ((m.steps.getD k dst).fr = x → (k : Int) ∈ ks.take j) → bs'.getD (m.steps.getD k dst).to.toNat false = true) ∧ q'.length + 1 ≤ countT bs' ∧ 2 * (m.states.toNat - countT bs') + q'.length ≤ 2 * (m.states.toNat - countT bs) + q.length)
      ⟨N, C, bs, q, ow, n0, cc, ls, ⟨sn.len, sn.rch, sn.fst, fun y hy => sn.inq y (by simp [hy])⟩, fun s hs => hs, fun k hk hb hf ht => ?_, by omega, by omega⟩ ?_
    · refine dn k hk hb fun hm => ?_
      rcases List.mem_cons.mp hm with e | e
      · have := ht e
        simp at this
      · exact hf e
    clear ls dn sn
    rintro j v3 h3 _ hj ⟨N, C, bs', q', ow, n0, cc, ls, sn, hsub, dn, hq', hrk⟩
    have srow3 := srow.mono ow.sub
    have g3 := g.mono ow.sub
    have gst3 := g3.steps
    have hcle := countT_le bs'
    have hbl' := sn.len
    have sb3 := sB ow n0 cc sn.len
    skip
    refine lss_i (fun hlt => ?_) (fun hge => ?_)
    · have hj2 : j < ks.length := by omega
      obtain ⟨k, hzk, hk, hkf⟩ := (hmem _).mp (gd_mem 0 hj2)
      have hst := r.st hk
      have htk := take_gd 0 hj2
      refine cnd_t ?_
      refine seq_J (fun xs h4 => ∃ v, xs = [v] ∧ upI2 (fun j v h3 => ∃ N C bs' q', Owns h h3 N C oneE ∧ N 0 = some oi ∧ C 0 = bs'.map .bool ∧ LS N C 1 v (q'.map (.int .i64)) ∧ Seen m f bs' q' ∧ (∀ s, bs.getD s false = true → bs'.getD s false = true) ∧
        (∀ k, k < m.steps.length → bs'.getD (m.steps.getD k dst).fr.toNat false = true → (m.steps.getD k dst).fr ∉ q' → ((m.steps.getD k dst).fr = x → (k : Int) ∈ ks.take j) → bs'.getD (m.steps.getD k dst).to.toNat false = true) ∧ q'.length + 1 ≤ countT bs' ∧ 2 * (m.states.toNat - countT bs') + q'.length ≤ 2 * (m.states.toNat - countT bs) + q.length) ks.length [v, .int .i64 ((j + 1 : Nat) : Int)] h4) ?_ ?_
      · rintro _ h4 ⟨v, rfl, hv⟩ _
        show vK _ h4 _
        refine inc_i (by omega) ?_
        with_reducible (refine mv_i ?_)
        exact ⟨hv, by simp only [upμ]; omega⟩
      intro k' hk'
      refine idxi_i t23 srow3 hj2 ?_
      refine ldi_i t23 r3 srow3 hj2 ?_
      rw [hzk]
      with_reducible (refine mv_i ?_; refine mv_i ?_; refine nil_i ?_; refine vk_i (fa92_0 _) ?_; refine vk_i (fa36_4 _) ?_; refine ldgr r34 (by assumption) rfl ?_; refine mv_i ?_; refine idxst t34 (by assumption) (by omega) ?_; refine fae_i st63 (by assumption) (by omega) (by omega) ?_; refine ldto dst st63 (by assumption) (by omega) ?_; refine mv_i ?_; refine mv_i ?_; refine mv_i ?_; refine idxzb t48 (by assumption) (by omega) (by omega) ?_; refine ldb_i t48 r4 (by assumption) (by omega) ?_)
      rcases hbt : bs'.getD (m.steps.getD k dst).to.toNat false with _ | _
      · have htn : (m.steps.getD k dst).to.toNat < bs'.length := by omega
        have hcs := countT_set htn hbt
        have hcs2 := countT_le (bs'.set (m.steps.getD k dst).to.toNat true)
        rw [List.length_set] at hcs2
        have hxr : Rch m.steps f (m.steps.getD k dst).fr := by
          have := sn.rch x.toNat (hsub _ x2)
          rw [Int.toNat_of_nonneg x0] at this
          rw [hkf]; exact this
        have hget := set_getB htn
        with_reducible (refine not_f ?_; refine cnd_t ?_; refine mv_i ?_; refine mv_i ?_; refine idxzb t48 (by assumption) (by omega) (by omega) ?_)
        rw [elt_at1]
        refine stl s4 ow n0 (by rw [cc, List.length_map]; omega) rfl rfl fun o5 => ?_
        rw [cc, setB_map, e1] at o5 ⊢
        have l5 := ls.neC (cs := (bs'.set (m.steps.getD k dst).to.toNat true).map Value.bool) (l' := 0) (by omega)
        have c5 := upN_self C 0 ((bs'.set (m.steps.getD k dst).to.toNat true).map Value.bool)
        generalize upN C 0 ((bs'.set (m.steps.getD k dst).to.toNat true).map Value.bool) = C5 at o5 l5 c5
        generalize h3.set oi (.arr ⟨(bs'.set (m.steps.getD k dst).to.toNat true).map Value.bool, 1, false⟩) = h5 at o5 ⊢
        with_reducible (refine mv_i ?_; refine mv_i ?_)
        refine ok_i (bs23_1 _ _) ?_
        have o6 := o5.ext (pre_new h5 [.int .i64 (m.steps.getD k dst).to] 1)
        refine lapp t23 o6 l5 rfl (Seg.new (n := 1) 2 (by simp) (by omega)) (by simp [Value.oneCell']) (by omega) (by simp; omega) fun h7 v7 o7 l7 _ _ _ => ?_
        with_reducible (refine mv_i ?_)
        refine hk' _ _ ⟨v7, rfl, j + 1, v7, rfl, hj2, _, _, bs'.set (m.steps.getD k dst).to.toNat true, q' ++ [(m.steps.getD k dst).to], o7, by rw [upN_ne (by omega)]; exact n0, by rw [upN_ne (by omega)]; exact c5, by simpa using l7, ⟨by simpa using sn.len, fun s hs => ?_, ?_, ?_⟩, ?_, ?_, ?_, ?_⟩
        · rw [hget] at hs
          by_cases q : s = (m.steps.getD k dst).to.toNat
          · subst q
            rw [Int.toNat_of_nonneg hst.2.2.1]
            exact .step hxr hk
          · rw [decide_eq_false q] at hs
            exact sn.rch s hs
        · rw [hget, sn.fst]; simp
        · intro y hy
          rcases List.mem_append.mp hy with hy | hy
          · obtain ⟨h1, h2, h3⟩ := sn.inq y hy
            exact ⟨h1, h2, by rw [hget, h3]; simp⟩
          · rw [List.mem_singleton] at hy
            subst hy
            exact ⟨hst.2.2.1, hst.2.2.2.1, by rw [hget]; simp⟩
        · intro s hs
          rw [hget, hsub s hs]; simp
        · intro k2 hk2 hb2 hf2 ht2
          rw [hget] at hb2 ⊢
          rw [List.mem_append, List.mem_singleton] at hf2
          rw [htk, hzk] at ht2
          have hst2 := r.st hk2
          have q : ¬ (m.steps.getD k2 dst).fr.toNat = (m.steps.getD k dst).to.toNat := by
            intro e
            exact hf2 (.inr (by omega))
          rw [decide_eq_false q] at hb2
          by_cases q2 : k2 = k
          · subst q2; simp
          · rw [dn k2 hk2 hb2 (fun e => hf2 (.inl e)) fun e => by
              have := ht2 e
              rw [List.mem_append] at this
              rcases this with this | this
              · exact this
              · rw [List.mem_singleton] at this; omega]
            simp
        · rw [hcs, List.length_append, List.length_singleton]; omega
        · rw [hcs, List.length_append, List.length_singleton]; omega
      · with_reducible (refine not_t ?_; refine cnd_f ?_)
        refine hk' _ _ ⟨v3, rfl, j + 1, v3, rfl, hj2, N, C, bs', q', ow, n0, cc, ls, sn, hsub, fun k2 hk2 hb2 hf2 ht2 => ?_, hq', hrk⟩
        rw [htk, hzk] at ht2
        by_cases q : k2 = k
        · subst q; exact hbt
        · exact dn k2 hk2 hb2 hf2 fun e => by
            have := ht2 e
            rw [List.mem_append] at this
            rcases this with this | this
            · exact this
            · simp at this; omega
    · have ej : j = ks.length := by omega
      subst ej
      with_reducible (refine cnd_f ?_)
      refine nxt (n' := 2 * (m.states.toNat - countT bs') + q'.length) hr (by simp; omega) ⟨v3, N, C, bs', q', rfl, ow, n0, cc, ls, sn, fun k hk hb hf => dn k hk hb hf fun e => ?_, by omega, rfl⟩
      rw [List.take_of_length_le (Nat.le_refl _)]
      exact (hmem _).mpr ⟨k, rfl, hk, e⟩
  · have q0 : q = [] := by
      cases q with
      | nil => rfl
      | cons x q => simp at hg
    subst q0
    with_reducible (refine cnd_f ?_; refine mv_i ?_; refine mv_i ?_; refine ret1 ?_)
    refine ⟨ow.pre, ow.only fun g og => ?_⟩
    have hbs : bs = rchB m f := rchB_of sn.len fun s hs => ⟨sn.rch s, fun hR => ?_⟩
    · subst hbs
      have := LS.bools og (v := .slice (some ⟨oi, 0, none⟩) m.states.toNat (m.states.toNat + 1)) (xs := rchB m f) (l := 0) (by have := LS.whole (C := C) (c := m.states.toNat + 1) n0 (k := m.states.toNat) (by rw [cc, List.length_map]; omega); rw [cc] at this; exact this) rfl (by omega)
      exact this
    · have := Rch.closed (Q := fun z => bs.getD z.toNat false = true) sn.fst (fun k hk hz => dn k hk hz (by simp)) hR
      simpa using this
end Go.Proofs.Ytdjoednhfoligaa
