import Derived.Test.YtkgdclcmfnhbmaaMcD
set_option linter.unusedSimpArgs false
set_option linter.unusedVariables false
set_option maxRecDepth 100000
namespace Go.Proofs.Ytkgdclcmfnhbmaa
open Go.AM
variable {h h' h0 : Heap}

theorem t117 : sliceT Try.prog 117 120 1 24 = true := by kernel_rfl
theorem t120 : sliceT Try.prog 120 119 1 8 = true := by kernel_rfl
theorem z120 : zeroB Try.prog 120 (.slice none 0 0) := ⟨.slice none 0 0, by kernel_rfl, rfl⟩
theorem z119 : zeroB Try.prog 119 (.pointer none) := ⟨.pointer none, by kernel_rfl, rfl⟩
theorem s120 : szOf Try.prog 120 = some 1 := by kernel_rfl
theorem s119 : szOf Try.prog 119 = some 1 := by kernel_rfl
theorem r120 : isPlain Try.prog 120 = true := by kernel_rfl
theorem r119 : isPlain Try.prog 119 = true := by kernel_rfl

/-! ### what a right machine gives -/
theorem ltKey_trans {a b c : St} (h1 : ltKey a b = true) (h2 : ltKey b c = true) : ltKey a c = true := by
  unfold ltKey at *
  simp only [decide_eq_true_eq] at *
  omega
structure Right (m : Mac) : Prop where
  head : mHead m = true
  few : (m.steps.length : Int) ≤ m.states * m.inputs
  ok : ∀ k, k < m.steps.length → okSt m (m.steps.getD k dst) = true
  lt : ∀ j k, j < k → k < m.steps.length → ltKey (m.steps.getD j dst) (m.steps.getD k dst) = true
theorem right_of {m : Mac} (he : (mErr m).2 = 0) : Right m := by
  unfold mErr at he
  split at he
  · simp at he
  · rename_i hh
    split at he
    · simp at he
    · rename_i hg
      have hn : firstOf (mAt m) m.steps.length = none := by
        cases hf : firstOf (mAt m) m.steps.length with
        | none => rfl
        | some e =>
          exfalso
          rw [hf] at he
          obtain ⟨k, _, hk⟩ := firstOf_is hf
          unfold mAt at hk
          split at hk
          · cases hk; simp at he
          · split at hk
            · cases hk; simp at he
            · cases hk
      have hat := firstOf_not hn
      have hok : ∀ k, k < m.steps.length → okSt m (m.steps.getD k dst) = true ∧ (0 < k → ltKey (m.steps.getD (k - 1) dst) (m.steps.getD k dst) = true) := by
        intro k hk
        have := hat k hk
        unfold mAt at this
        split at this
        · cases this
        · rename_i h1
          split at this
          · cases this
          · rename_i h2
            refine ⟨by simpa using h1, fun h0 => ?_⟩
            cases q : ltKey (m.steps.getD (k - 1) dst) (m.steps.getD k dst) with
            | true => rfl
            | false => exact absurd ⟨h0, q⟩ h2
      refine ⟨by simpa using hh, by omega, fun k hk => (hok k hk).1, ?_⟩
      intro j k
      induction k with
      | zero => intro h; omega
      | succ k ih =>
        intro hjk hk
        have h1 := (hok (k + 1) hk).2 (by omega)
        simp only [Nat.add_sub_cancel] at h1
        by_cases e : j = k
        · subst e; exact h1
        · exact ltKey_trans (ih (by omega) (by omega)) h1
theorem mErr_zero {m : Mac} (he : (mErr m).2 = 0) : mErr m = (0, 0) := by
  unfold mErr at he ⊢
  split at he
  · simp at he
  · rename_i hh
    split at he
    · simp at he
    · rename_i hg
      rw [if_neg hh, if_neg hg]
      cases hf : firstOf (mAt m) m.steps.length with
      | none => rfl
      | some e =>
        exfalso
        rw [hf] at he
        obtain ⟨k, _, hk⟩ := firstOf_is hf
        unfold mAt at hk
        split at hk
        · cases hk; simp at he
        · split at hk
          · cases hk; simp at he
          · cases hk
theorem Right.bounds {m : Mac} (r : Right m) : 1 ≤ m.states ∧ m.states ≤ 40 ∧ 1 ≤ m.inputs ∧ m.inputs ≤ 8 ∧ 0 ≤ m.start ∧ m.start < m.states := by
  have := r.head
  simp only [mHead, inR, Bool.and_eq_true, decide_eq_true_eq] at this
  omega
theorem Right.st {m : Mac} (r : Right m) {k : Nat} (hk : k < m.steps.length) : 0 ≤ (m.steps.getD k dst).fr ∧ (m.steps.getD k dst).fr < m.states ∧ 0 ≤ (m.steps.getD k dst).to ∧ (m.steps.getD k dst).to < m.states ∧
    0 ≤ (m.steps.getD k dst).inp ∧ (m.steps.getD k dst).inp < m.inputs := by
  have := r.ok k hk
  simp only [okSt, inR, Bool.and_eq_true, decide_eq_true_eq] at this
  omega
theorem Right.key {m : Mac} (r : Right m) {j k : Nat} (hj : j < k) (hk : k < m.steps.length) : ¬ ((m.steps.getD j dst).fr = (m.steps.getD k dst).fr ∧ (m.steps.getD j dst).inp = (m.steps.getD k dst).inp) := by
  have := r.lt j k hj hk
  unfold ltKey at this
  simp only [decide_eq_true_eq] at this
  omega

/-! ### tables of pointers to steps -/
def stepTo (l : List St) (k : Nat) (f n : Int) : Option Nat := firstOf (stAt l f n) k
theorem stepTo_succ (l : List St) (k : Nat) (f n : Int) : stepTo l (k + 1) f n = (stepTo l k f n).or (stAt l f n k) := firstOf_succ _ _
def cellP (N S : Nat) (l : List St) (k : Nat) (f n : Nat) : Value := match stepTo l k (f : Int) (n : Int) with | none => .pointer none | some j => .pointer (some ⟨N + 2 + S + j, 0, none⟩)
structure TInv (h : Heap) (N S I : Nat) (l : List St) (box : Arr) (k : Nat) (h2 : Heap) : Prop where
  len : h2.length = N + 2 + S + k
  pre : h <+: h2
  bx : h2[N]? = some (.arr box)
  tb : h2[N + 1]? = some (.arr ⟨(List.range S).map fun f => .slice (some ⟨N + 2 + f, 0, none⟩) I (I + 1), 1, false⟩)
  rw : ∀ f, f < S → h2[N + 2 + f]? = some (.arr ⟨(List.range I).map fun n => cellP N S l k f n, 1, false⟩)
  ob : ∀ j, j < k → h2[N + 2 + S + j]? = some (.arr ⟨(l.getD j dst).cells, 4, false⟩)
structure PInv (h : Heap) (N S I : Nat) (box : Arr) (i : Nat) (h2 : Heap) : Prop where
  len : h2.length = N + 2 + i
  pre : h <+: h2
  bx : h2[N]? = some (.arr box)
  tb : h2[N + 1]? = some (.arr ⟨(List.range S).map fun f => if f < i then .slice (some ⟨N + 2 + f, 0, none⟩) I (I + 1) else .slice none 0 0, 1, false⟩)
  rw : ∀ f, f < i → h2[N + 2 + f]? = some (.arr ⟨List.replicate I (.pointer none), 1, false⟩)
theorem set_ne {i j : Nat} {x : Ob} {g : Heap} (hne : i ≠ j) : (g.set i x)[j]? = g[j]? := List.getElem?_set_ne hne
theorem app_at {g : Heap} {cs : List Value} {z j : Nat} (hj : j < g.length) : (newArr g cs z)[j]? = g[j]? := by unfold newArr; rw [List.getElem?_append_left hj]
theorem range_set {S i : Nat} (f g : Nat → Value) (hi : i < S) (hg : ∀ k, k ≠ i → g k = f k) : ((List.range S).map f).set i (g i) = (List.range S).map g := by
  refine List.ext_getElem? fun k => ?_
  rw [List.getElem?_set]
  by_cases e : i = k
  · subst e; simp [hi]
  · rw [if_neg e]
    simp only [List.getElem?_map]
    cases hk : (List.range S)[k]? with
    | none => rfl
    | some y =>
      obtain ⟨hlt, rfl⟩ := List.getElem?_eq_some_iff.mp hk
      simp only [List.getElem_range, Option.map_some]
      rw [hg k (Ne.symm e)]
def tabV (N S : Nat) : Value := .slice (some ⟨N + 1, 0, none⟩) S (S + 1)
theorem seg_range {g : Heap} {i S c : Nat} {f : Nat → Value} (hi : g[i]? = some (.arr ⟨(List.range S).map f, 1, false⟩)) (hb : S ≤ 2 ^ 50) : Seg 1 g (.slice (some ⟨i, 0, none⟩) S c) S ((List.range S).map f) :=
  ⟨⟨by simp, hb⟩, .inr ⟨i, 0, c, _, rfl, hi, rfl, by simp, by rw [List.drop_zero, List.take_of_length_le (by simp)]⟩⟩
theorem c85 {a : Value} {m : Mac} (s : MacV h a m) (r : Right m) :
    DetP Try.prog 85 [a] h fun v h' => v = tabV h.length m.states.toNat ∧ ∃ box, TInv h h.length m.states.toNat m.inputs.toNat m.steps box m.steps.length h' := by
  obtain ⟨b1, b2, b3, b4, b5, b6⟩ := r.bounds
  refine w85 ?_
  unfold n85
  obtain ⟨o, l, c, rfl, ss⟩ := s
  have lt := ss.lt
  rw [box36]
  refine ok_i rfl ?_
  have p1 := pre_new h [.int .i64 m.states, .int .i64 m.inputs, .int .i64 m.outputs, .int .i64 m.start, .slice o l c] 5
  have hb1 := newArr_get h [.int .i64 m.states, .int .i64 m.inputs, .int .i64 m.outputs, .int .i64 m.start, .slice o l c] 5
  have hl1 := newArr_length h [.int .i64 m.states, .int .i64 m.inputs, .int .i64 m.outputs, .int .i64 m.start, .slice o l c] 5
  generalize newArr h [.int .i64 m.states, .int .i64 m.inputs, .int .i64 m.outputs, .int .i64 m.start, .slice o l c] 5 = g1 at p1 hb1 hl1 ⊢
  generalize hS : m.states.toNat = S
  generalize hI : m.inputs.toNat = I
  have eS : m.states = (S : Int) := by omega
  have eI : m.inputs = (I : Int) := by omega
  generalize hN : h.length = N at hb1 hl1 ⊢
  (with_reducible repeat first|refine mv_i ?_|refine cnd_t ?_|refine cnd_f ?_|refine gd_tt ?_|refine gd_ff ?_|refine gd_tf ?_|refine gd_ft ?_|refine gd_u ?_|refine pick_t ?_|refine pick_f ?_|refine not_t ?_|refine not_f ?_|refine nil_i ?_|refine ret1 ?_|refine ret2 ?_|refine ret0 ?_|refine ret3 ?_|refine ex2_0 ?_|refine ex2_1 ?_|refine ex3_0 ?_|refine ex3_1 ?_|refine ex3_2 ?_|refine vk_i (fa36_0 _) ?_|refine vk_i (fa36_1 _) ?_|refine vk_i (fa36_2 _) ?_|refine vk_i (fa36_3 _) ?_|refine vk_i (fa36_4 _) ?_|refine vk_i (fa63_0 _) ?_|refine vk_i (fa63_1 _) ?_|refine vk_i (fa63_2 _) ?_|refine vk_i (fa63_3 _) ?_|refine ld4_0 r3 (by assumption) ?_|refine ld4_1 r3 (by assumption) ?_|refine ld4_2 r3 (by assumption) ?_|refine ld4_3 r3 (by assumption) ?_|refine ld5_0 r3 (by assumption) ?_|refine ld5_1 r3 (by assumption) ?_|refine ld5_2 r3 (by assumption) ?_|refine ld5_3 r3 (by assumption) ?_|refine ld5_4 r34 (by assumption) ?_|refine fae_i st63 (by assumption) (by omega) (by omega) ?_|refine ldf_i st63 (by assumption) (by omega) (by omega) dst ?_|refine ⟨vbi _ _, ?_⟩)
  refine mk1_i t117 z120 (by omega) ⟨by omega, by omega⟩ ?_
  rw [hl1, hS]
  have P0 : PInv h N S I ⟨[.int .i64 m.states, .int .i64 m.inputs, .int .i64 m.outputs, .int .i64 m.start, .slice o l c], 5, false⟩ 0 (newArr g1 (List.replicate S (.slice none 0 0)) 1) := by
    refine ⟨by rw [newArr_length, hl1], p1.trans (pre_new _ _ _), by rw [app_at (by omega)]; exact hb1, ?_, fun f hf => by omega⟩
    have := newArr_get g1 (List.replicate S (Value.slice none 0 0)) 1
    rw [hl1] at this
    rw [this]
    congr 3
    refine List.ext_getElem? fun k => ?_
    by_cases hk : k < S
    · simp [hk]
    · rw [List.getElem?_eq_none (by simp; omega), List.getElem?_eq_none (by simp; omega)]
  generalize newArr g1 (List.replicate S (Value.slice none 0 0)) 1 = g2 at P0 ⊢
  (with_reducible repeat first|refine mv_i ?_|refine cnd_t ?_|refine cnd_f ?_|refine gd_tt ?_|refine gd_ff ?_|refine gd_tf ?_|refine gd_ft ?_|refine gd_u ?_|refine pick_t ?_|refine pick_f ?_|refine not_t ?_|refine not_f ?_|refine nil_i ?_|refine ret1 ?_|refine ret2 ?_|refine ret0 ?_|refine ret3 ?_|refine ex2_0 ?_|refine ex2_1 ?_|refine ex3_0 ?_|refine ex3_1 ?_|refine ex3_2 ?_|refine vk_i (fa36_0 _) ?_|refine vk_i (fa36_1 _) ?_|refine vk_i (fa36_2 _) ?_|refine vk_i (fa36_3 _) ?_|refine vk_i (fa36_4 _) ?_|refine vk_i (fa63_0 _) ?_|refine vk_i (fa63_1 _) ?_|refine vk_i (fa63_2 _) ?_|refine vk_i (fa63_3 _) ?_|refine ld4_0 r3 (by assumption) ?_|refine ld4_1 r3 (by assumption) ?_|refine ld4_2 r3 (by assumption) ?_|refine ld4_3 r3 (by assumption) ?_|refine ld5_0 r3 (by assumption) ?_|refine ld5_1 r3 (by assumption) ?_|refine ld5_2 r3 (by assumption) ?_|refine ld5_3 r3 (by assumption) ?_|refine ld5_4 r34 (by assumption) ?_|refine fae_i st63 (by assumption) (by omega) (by omega) ?_|refine ldf_i st63 (by assumption) (by omega) (by omega) dst ?_|refine ⟨vbi _ _, ?_⟩)
  refine len_i t117 (seg_range (c := S + 1) P0.tb (by omega)) ?_
  (with_reducible repeat first|refine mv_i ?_|refine cnd_t ?_|refine cnd_f ?_|refine gd_tt ?_|refine gd_ff ?_|refine gd_tf ?_|refine gd_ft ?_|refine gd_u ?_|refine pick_t ?_|refine pick_f ?_|refine not_t ?_|refine not_f ?_|refine nil_i ?_|refine ret1 ?_|refine ret2 ?_|refine ret0 ?_|refine ret3 ?_|refine ex2_0 ?_|refine ex2_1 ?_|refine ex3_0 ?_|refine ex3_1 ?_|refine ex3_2 ?_|refine vk_i (fa36_0 _) ?_|refine vk_i (fa36_1 _) ?_|refine vk_i (fa36_2 _) ?_|refine vk_i (fa36_3 _) ?_|refine vk_i (fa36_4 _) ?_|refine vk_i (fa63_0 _) ?_|refine vk_i (fa63_1 _) ?_|refine vk_i (fa63_2 _) ?_|refine vk_i (fa63_3 _) ?_|refine ld4_0 r3 (by assumption) ?_|refine ld4_1 r3 (by assumption) ?_|refine ld4_2 r3 (by assumption) ?_|refine ld4_3 r3 (by assumption) ?_|refine ld5_0 r3 (by assumption) ?_|refine ld5_1 r3 (by assumption) ?_|refine ld5_2 r3 (by assumption) ?_|refine ld5_3 r3 (by assumption) ?_|refine ld5_4 r34 (by assumption) ?_|refine fae_i st63 (by assumption) (by omega) (by omega) ?_|refine ldf_i st63 (by assumption) (by omega) (by omega) dst ?_|refine ⟨vbi _ _, ?_⟩)
  refine loop1 S (fun i h2 => PInv h N S I ⟨[.int .i64 m.states, .int .i64 m.inputs, .int .i64 m.outputs, .int .i64 m.start, .slice o l c], 5, false⟩ i h2) P0 ?_
  rintro i h2 _ hi Pi
  have hbi := Pi.bx
  (with_reducible repeat first|refine mv_i ?_|refine cnd_t ?_|refine cnd_f ?_|refine gd_tt ?_|refine gd_ff ?_|refine gd_tf ?_|refine gd_ft ?_|refine gd_u ?_|refine pick_t ?_|refine pick_f ?_|refine not_t ?_|refine not_f ?_|refine nil_i ?_|refine ret1 ?_|refine ret2 ?_|refine ret0 ?_|refine ret3 ?_|refine ex2_0 ?_|refine ex2_1 ?_|refine ex3_0 ?_|refine ex3_1 ?_|refine ex3_2 ?_|refine vk_i (fa36_0 _) ?_|refine vk_i (fa36_1 _) ?_|refine vk_i (fa36_2 _) ?_|refine vk_i (fa36_3 _) ?_|refine vk_i (fa36_4 _) ?_|refine vk_i (fa63_0 _) ?_|refine vk_i (fa63_1 _) ?_|refine vk_i (fa63_2 _) ?_|refine vk_i (fa63_3 _) ?_|refine ld4_0 r3 (by assumption) ?_|refine ld4_1 r3 (by assumption) ?_|refine ld4_2 r3 (by assumption) ?_|refine ld4_3 r3 (by assumption) ?_|refine ld5_0 r3 (by assumption) ?_|refine ld5_1 r3 (by assumption) ?_|refine ld5_2 r3 (by assumption) ?_|refine ld5_3 r3 (by assumption) ?_|refine ld5_4 r34 (by assumption) ?_|refine fae_i st63 (by assumption) (by omega) (by omega) ?_|refine ldf_i st63 (by assumption) (by omega) (by omega) dst ?_|refine ⟨vbi _ _, ?_⟩)
  refine lss_i (fun hlt => ?_) (fun hge => ?_)
  · have hi2 : i < S := by omega
    (with_reducible repeat first|refine mv_i ?_|refine cnd_t ?_|refine cnd_f ?_|refine gd_tt ?_|refine gd_ff ?_|refine gd_tf ?_|refine gd_ft ?_|refine gd_u ?_|refine pick_t ?_|refine pick_f ?_|refine not_t ?_|refine not_f ?_|refine nil_i ?_|refine ret1 ?_|refine ret2 ?_|refine ret0 ?_|refine ret3 ?_|refine ex2_0 ?_|refine ex2_1 ?_|refine ex3_0 ?_|refine ex3_1 ?_|refine ex3_2 ?_|refine vk_i (fa36_0 _) ?_|refine vk_i (fa36_1 _) ?_|refine vk_i (fa36_2 _) ?_|refine vk_i (fa36_3 _) ?_|refine vk_i (fa36_4 _) ?_|refine vk_i (fa63_0 _) ?_|refine vk_i (fa63_1 _) ?_|refine vk_i (fa63_2 _) ?_|refine vk_i (fa63_3 _) ?_|refine ld4_0 r3 (by assumption) ?_|refine ld4_1 r3 (by assumption) ?_|refine ld4_2 r3 (by assumption) ?_|refine ld4_3 r3 (by assumption) ?_|refine ld5_0 r3 (by assumption) ?_|refine ld5_1 r3 (by assumption) ?_|refine ld5_2 r3 (by assumption) ?_|refine ld5_3 r3 (by assumption) ?_|refine ld5_4 r34 (by assumption) ?_|refine fae_i st63 (by assumption) (by omega) (by omega) ?_|refine ldf_i st63 (by assumption) (by omega) (by omega) dst ?_|refine ⟨vbi _ _, ?_⟩)
    refine mk1_i t120 z119 (by omega) ⟨by omega, by omega⟩ ?_
    rw [hI]
    have Lh := Pi.len
    have htb3 : (newArr h2 (List.replicate I (.pointer none)) 1)[N + 1]? = some (.arr ⟨(List.range S).map fun f => if f < i then .slice (some ⟨N + 2 + f, 0, none⟩) I (I + 1) else .slice none 0 0, 1, false⟩) := by rw [app_at (by omega)]; exact Pi.tb
    refine idx_i (k := i) t117 (seg_range (c := S + 1) htb3 (by omega)) hi2 ?_
    refine ste_i s120 htb3 rfl (by simpa using hi2) rfl rfl ?_
    refine inc_i (by omega) ?_
    (with_reducible repeat first|refine mv_i ?_|refine cnd_t ?_|refine cnd_f ?_|refine gd_tt ?_|refine gd_ff ?_|refine gd_tf ?_|refine gd_ft ?_|refine gd_u ?_|refine pick_t ?_|refine pick_f ?_|refine not_t ?_|refine not_f ?_|refine nil_i ?_|refine ret1 ?_|refine ret2 ?_|refine ret0 ?_|refine ret3 ?_|refine ex2_0 ?_|refine ex2_1 ?_|refine ex3_0 ?_|refine ex3_1 ?_|refine ex3_2 ?_|refine vk_i (fa36_0 _) ?_|refine vk_i (fa36_1 _) ?_|refine vk_i (fa36_2 _) ?_|refine vk_i (fa36_3 _) ?_|refine vk_i (fa36_4 _) ?_|refine vk_i (fa63_0 _) ?_|refine vk_i (fa63_1 _) ?_|refine vk_i (fa63_2 _) ?_|refine vk_i (fa63_3 _) ?_|refine ld4_0 r3 (by assumption) ?_|refine ld4_1 r3 (by assumption) ?_|refine ld4_2 r3 (by assumption) ?_|refine ld4_3 r3 (by assumption) ?_|refine ld5_0 r3 (by assumption) ?_|refine ld5_1 r3 (by assumption) ?_|refine ld5_2 r3 (by assumption) ?_|refine ld5_3 r3 (by assumption) ?_|refine ld5_4 r34 (by assumption) ?_|refine fae_i st63 (by assumption) (by omega) (by omega) ?_|refine ldf_i st63 (by assumption) (by omega) (by omega) dst ?_|refine ⟨vbi _ _, ?_⟩)
    refine next1 hi2 ⟨?_, ?_, ?_, ?_, ?_⟩
    · rw [List.length_set, newArr_length, Lh]; omega
    · refine pre_set (Pi.pre.trans (pre_new _ _ _)) (by omega) _
    · rw [set_ne (by omega), app_at (by omega)]; exact hbi
    · rw [List.getElem?_set]
      rw [if_pos rfl, if_pos (by rw [newArr_length, Lh]; omega), Lh]
      congr 3
      have := range_set (S := S) (i := i) (fun f => if f < i then Value.slice (some ⟨N + 2 + f, 0, none⟩) I (I + 1) else .slice none 0 0) (fun f => if f < i + 1 then Value.slice (some ⟨N + 2 + f, 0, none⟩) I (I + 1) else .slice none 0 0) hi2 (fun k hk => by
        by_cases q : k < i
        · rw [if_pos q, if_pos (by omega)]
        · rw [if_neg q, if_neg (by omega)])
      simp only [if_pos (Nat.lt_succ_self i)] at this
      exact this
    · intro f hf
      rw [set_ne (by omega)]
      by_cases q : f < i
      · rw [app_at (by omega)]; exact Pi.rw f q
      · have : f = i := by omega
        subst this
        rw [← Lh]; exact newArr_get _ _ _
  · have ei : i = S := by omega
    subst ei
    have T0 : TInv h N i I m.steps ⟨[.int .i64 m.states, .int .i64 m.inputs, .int .i64 m.outputs, .int .i64 m.start, .slice o l c], 5, false⟩ 0 h2 := by
      refine ⟨Pi.len, Pi.pre, Pi.bx, ?_, ?_, fun j hj => by omega⟩
      · rw [Pi.tb]
        congr 3
        exact List.map_congr_left fun f hf => if_pos (List.mem_range.mp hf)
      · intro f hf
        rw [Pi.rw f hf]
        congr 3
        refine List.ext_getElem? fun k => ?_
        by_cases hk : k < I
        · simp [hk, cellP, stepTo, firstOf]
        · rw [List.getElem?_eq_none (by simp; omega), List.getElem?_eq_none (by simp; omega)]
    (with_reducible repeat first|refine mv_i ?_|refine cnd_t ?_|refine cnd_f ?_|refine gd_tt ?_|refine gd_ff ?_|refine gd_tf ?_|refine gd_ft ?_|refine gd_u ?_|refine pick_t ?_|refine pick_f ?_|refine not_t ?_|refine not_f ?_|refine nil_i ?_|refine ret1 ?_|refine ret2 ?_|refine ret0 ?_|refine ret3 ?_|refine ex2_0 ?_|refine ex2_1 ?_|refine ex3_0 ?_|refine ex3_1 ?_|refine ex3_2 ?_|refine vk_i (fa36_0 _) ?_|refine vk_i (fa36_1 _) ?_|refine vk_i (fa36_2 _) ?_|refine vk_i (fa36_3 _) ?_|refine vk_i (fa36_4 _) ?_|refine vk_i (fa63_0 _) ?_|refine vk_i (fa63_1 _) ?_|refine vk_i (fa63_2 _) ?_|refine vk_i (fa63_3 _) ?_|refine ld4_0 r3 (by assumption) ?_|refine ld4_1 r3 (by assumption) ?_|refine ld4_2 r3 (by assumption) ?_|refine ld4_3 r3 (by assumption) ?_|refine ld5_0 r3 (by assumption) ?_|refine ld5_1 r3 (by assumption) ?_|refine ld5_2 r3 (by assumption) ?_|refine ld5_3 r3 (by assumption) ?_|refine ld5_4 r34 (by assumption) ?_|refine fae_i st63 (by assumption) (by omega) (by omega) ?_|refine ldf_i st63 (by assumption) (by omega) (by omega) dst ?_|refine ⟨vbi _ _, ?_⟩)
    refine len_i t34 (ss.mono (Sub.of_pre Pi.pre)) ?_
    (with_reducible repeat first|refine mv_i ?_|refine cnd_t ?_|refine cnd_f ?_|refine gd_tt ?_|refine gd_ff ?_|refine gd_tf ?_|refine gd_ft ?_|refine gd_u ?_|refine pick_t ?_|refine pick_f ?_|refine not_t ?_|refine not_f ?_|refine nil_i ?_|refine ret1 ?_|refine ret2 ?_|refine ret0 ?_|refine ret3 ?_|refine ex2_0 ?_|refine ex2_1 ?_|refine ex3_0 ?_|refine ex3_1 ?_|refine ex3_2 ?_|refine vk_i (fa36_0 _) ?_|refine vk_i (fa36_1 _) ?_|refine vk_i (fa36_2 _) ?_|refine vk_i (fa36_3 _) ?_|refine vk_i (fa36_4 _) ?_|refine vk_i (fa63_0 _) ?_|refine vk_i (fa63_1 _) ?_|refine vk_i (fa63_2 _) ?_|refine vk_i (fa63_3 _) ?_|refine ld4_0 r3 (by assumption) ?_|refine ld4_1 r3 (by assumption) ?_|refine ld4_2 r3 (by assumption) ?_|refine ld4_3 r3 (by assumption) ?_|refine ld5_0 r3 (by assumption) ?_|refine ld5_1 r3 (by assumption) ?_|refine ld5_2 r3 (by assumption) ?_|refine ld5_3 r3 (by assumption) ?_|refine ld5_4 r34 (by assumption) ?_|refine fae_i st63 (by assumption) (by omega) (by omega) ?_|refine ldf_i st63 (by assumption) (by omega) (by omega) dst ?_|refine ⟨vbi _ _, ?_⟩)
    refine loop1 m.steps.length (fun k h3 => TInv h N i I m.steps ⟨[.int .i64 m.states, .int .i64 m.inputs, .int .i64 m.outputs, .int .i64 m.start, .slice o l c], 5, false⟩ k h3) T0 ?_
    rintro k h3 _ hk Tk
    (with_reducible repeat first|refine mv_i ?_|refine cnd_t ?_|refine cnd_f ?_|refine gd_tt ?_|refine gd_ff ?_|refine gd_tf ?_|refine gd_ft ?_|refine gd_u ?_|refine pick_t ?_|refine pick_f ?_|refine not_t ?_|refine not_f ?_|refine nil_i ?_|refine ret1 ?_|refine ret2 ?_|refine ret0 ?_|refine ret3 ?_|refine ex2_0 ?_|refine ex2_1 ?_|refine ex3_0 ?_|refine ex3_1 ?_|refine ex3_2 ?_|refine vk_i (fa36_0 _) ?_|refine vk_i (fa36_1 _) ?_|refine vk_i (fa36_2 _) ?_|refine vk_i (fa36_3 _) ?_|refine vk_i (fa36_4 _) ?_|refine vk_i (fa63_0 _) ?_|refine vk_i (fa63_1 _) ?_|refine vk_i (fa63_2 _) ?_|refine vk_i (fa63_3 _) ?_|refine ld4_0 r3 (by assumption) ?_|refine ld4_1 r3 (by assumption) ?_|refine ld4_2 r3 (by assumption) ?_|refine ld4_3 r3 (by assumption) ?_|refine ld5_0 r3 (by assumption) ?_|refine ld5_1 r3 (by assumption) ?_|refine ld5_2 r3 (by assumption) ?_|refine ld5_3 r3 (by assumption) ?_|refine ld5_4 r34 (by assumption) ?_|refine fae_i st63 (by assumption) (by omega) (by omega) ?_|refine ldf_i st63 (by assumption) (by omega) (by omega) dst ?_|refine ⟨vbi _ _, ?_⟩)
    refine lss_i (fun hlt => ?_) (fun hge2 => ?_)
    · have hk2 : k < m.steps.length := by omega
      have Lk := Tk.len
      have ss3 := ss.mono (Sub.of_pre Tk.pre)
      obtain ⟨q1, q2, q3, q4, q5, q6⟩ := r.st hk2
      (with_reducible repeat first|refine mv_i ?_|refine cnd_t ?_|refine cnd_f ?_|refine gd_tt ?_|refine gd_ff ?_|refine gd_tf ?_|refine gd_ft ?_|refine gd_u ?_|refine pick_t ?_|refine pick_f ?_|refine not_t ?_|refine not_f ?_|refine nil_i ?_|refine ret1 ?_|refine ret2 ?_|refine ret0 ?_|refine ret3 ?_|refine ex2_0 ?_|refine ex2_1 ?_|refine ex3_0 ?_|refine ex3_1 ?_|refine ex3_2 ?_|refine vk_i (fa36_0 _) ?_|refine vk_i (fa36_1 _) ?_|refine vk_i (fa36_2 _) ?_|refine vk_i (fa36_3 _) ?_|refine vk_i (fa36_4 _) ?_|refine vk_i (fa63_0 _) ?_|refine vk_i (fa63_1 _) ?_|refine vk_i (fa63_2 _) ?_|refine vk_i (fa63_3 _) ?_|refine ld4_0 r3 (by assumption) ?_|refine ld4_1 r3 (by assumption) ?_|refine ld4_2 r3 (by assumption) ?_|refine ld4_3 r3 (by assumption) ?_|refine ld5_0 r3 (by assumption) ?_|refine ld5_1 r3 (by assumption) ?_|refine ld5_2 r3 (by assumption) ?_|refine ld5_3 r3 (by assumption) ?_|refine ld5_4 r34 (by assumption) ?_|refine fae_i st63 (by assumption) (by omega) (by omega) ?_|refine ldf_i st63 (by assumption) (by omega) (by omega) dst ?_|refine ⟨vbi _ _, ?_⟩)
      refine idx_i (k := k) t34 ss3 hk2 ?_
      refine ldst_i st63 ss3 hk2 dst ?_
      refine ok_i (al63 _) ?_
      refine ok_i (v := undef) (h' := newArr h3 (m.steps.getD k dst).cells 4) (by rw [sto63]; rfl) ?_
      have hs4 : (newArr h3 (m.steps.getD k dst).cells 4)[h3.length]? = some (.arr ⟨[.int .i64 (m.steps.getD k dst).fr, .int .i64 (m.steps.getD k dst).inp, .int .i64 (m.steps.getD k dst).out, .int .i64 (m.steps.getD k dst).to], 4, false⟩) := newArr_get _ _ _
      have hs4' : (newArr h3 (m.steps.getD k dst).cells 4)[h3.length]? = some (.arr ⟨(m.steps.getD k dst).cells, 4, false⟩) := newArr_get _ _ _
      have old : ∀ j, j < h3.length → (newArr h3 (m.steps.getD k dst).cells 4)[j]? = h3[j]? := fun j hj => app_at hj
      have L4 := newArr_length h3 (m.steps.getD k dst).cells 4
      have p4 := Tk.pre.trans (pre_new h3 (m.steps.getD k dst).cells 4)
      generalize newArr h3 (m.steps.getD k dst).cells 4 = h4 at hs4 hs4' old L4 p4 ⊢
      obtain ⟨f, ef⟩ : ∃ f : Nat, (m.steps.getD k dst).fr = (f : Int) := ⟨_, (Int.toNat_of_nonneg q1).symm⟩
      obtain ⟨n, en⟩ : ∃ n : Nat, (m.steps.getD k dst).inp = (n : Int) := ⟨_, (Int.toNat_of_nonneg q5).symm⟩
      have hf : f < i := by omega
      have hn : n < I := by omega
      have htb4 : h4[N + 1]? = _ := (old (N + 1) (by omega)).trans Tk.tb
      have hrw4 : h4[N + 2 + f]? = _ := (old (N + 2 + f) (by omega)).trans (Tk.rw f hf)
      have sr4 := seg_range (c := I + 1) hrw4 (by omega)
      (with_reducible repeat first|refine mv_i ?_|refine cnd_t ?_|refine cnd_f ?_|refine gd_tt ?_|refine gd_ff ?_|refine gd_tf ?_|refine gd_ft ?_|refine gd_u ?_|refine pick_t ?_|refine pick_f ?_|refine not_t ?_|refine not_f ?_|refine nil_i ?_|refine ret1 ?_|refine ret2 ?_|refine ret0 ?_|refine ret3 ?_|refine ex2_0 ?_|refine ex2_1 ?_|refine ex3_0 ?_|refine ex3_1 ?_|refine ex3_2 ?_|refine vk_i (fa36_0 _) ?_|refine vk_i (fa36_1 _) ?_|refine vk_i (fa36_2 _) ?_|refine vk_i (fa36_3 _) ?_|refine vk_i (fa36_4 _) ?_|refine vk_i (fa63_0 _) ?_|refine vk_i (fa63_1 _) ?_|refine vk_i (fa63_2 _) ?_|refine vk_i (fa63_3 _) ?_|refine ld4_0 r3 (by assumption) ?_|refine ld4_1 r3 (by assumption) ?_|refine ld4_2 r3 (by assumption) ?_|refine ld4_3 r3 (by assumption) ?_|refine ld5_0 r3 (by assumption) ?_|refine ld5_1 r3 (by assumption) ?_|refine ld5_2 r3 (by assumption) ?_|refine ld5_3 r3 (by assumption) ?_|refine ld5_4 r34 (by assumption) ?_|refine fae_i st63 (by assumption) (by omega) (by omega) ?_|refine ldf_i st63 (by assumption) (by omega) (by omega) dst ?_|refine ⟨vbi _ _, ?_⟩)
      rw [ef]
      refine idx_i (k := f) t117 (seg_range (c := i + 1) htb4 (by omega)) hf ?_
      refine ld_i t117 r120 (seg_range (c := i + 1) htb4 (by omega)) hf (y := .slice (some ⟨N + 2 + f, 0, none⟩) I (I + 1)) (by simp [hf]) ?_
      refine ⟨seg_vb sr4, ?_⟩
      (with_reducible repeat first|refine mv_i ?_|refine cnd_t ?_|refine cnd_f ?_|refine gd_tt ?_|refine gd_ff ?_|refine gd_tf ?_|refine gd_ft ?_|refine gd_u ?_|refine pick_t ?_|refine pick_f ?_|refine not_t ?_|refine not_f ?_|refine nil_i ?_|refine ret1 ?_|refine ret2 ?_|refine ret0 ?_|refine ret3 ?_|refine ex2_0 ?_|refine ex2_1 ?_|refine ex3_0 ?_|refine ex3_1 ?_|refine ex3_2 ?_|refine vk_i (fa36_0 _) ?_|refine vk_i (fa36_1 _) ?_|refine vk_i (fa36_2 _) ?_|refine vk_i (fa36_3 _) ?_|refine vk_i (fa36_4 _) ?_|refine vk_i (fa63_0 _) ?_|refine vk_i (fa63_1 _) ?_|refine vk_i (fa63_2 _) ?_|refine vk_i (fa63_3 _) ?_|refine ld4_0 r3 (by assumption) ?_|refine ld4_1 r3 (by assumption) ?_|refine ld4_2 r3 (by assumption) ?_|refine ld4_3 r3 (by assumption) ?_|refine ld5_0 r3 (by assumption) ?_|refine ld5_1 r3 (by assumption) ?_|refine ld5_2 r3 (by assumption) ?_|refine ld5_3 r3 (by assumption) ?_|refine ld5_4 r34 (by assumption) ?_|refine fae_i st63 (by assumption) (by omega) (by omega) ?_|refine ldf_i st63 (by assumption) (by omega) (by omega) dst ?_|refine ⟨vbi _ _, ?_⟩)
      rw [en]
      refine idx_i (k := n) t120 sr4 hn ?_
      refine ste_i s119 hrw4 rfl (by simpa using hn) rfl rfl ?_
      refine ⟨trivial, ?_⟩
      refine inc_i (by omega) ?_
      (with_reducible repeat first|refine mv_i ?_|refine cnd_t ?_|refine cnd_f ?_|refine gd_tt ?_|refine gd_ff ?_|refine gd_tf ?_|refine gd_ft ?_|refine gd_u ?_|refine pick_t ?_|refine pick_f ?_|refine not_t ?_|refine not_f ?_|refine nil_i ?_|refine ret1 ?_|refine ret2 ?_|refine ret0 ?_|refine ret3 ?_|refine ex2_0 ?_|refine ex2_1 ?_|refine ex3_0 ?_|refine ex3_1 ?_|refine ex3_2 ?_|refine vk_i (fa36_0 _) ?_|refine vk_i (fa36_1 _) ?_|refine vk_i (fa36_2 _) ?_|refine vk_i (fa36_3 _) ?_|refine vk_i (fa36_4 _) ?_|refine vk_i (fa63_0 _) ?_|refine vk_i (fa63_1 _) ?_|refine vk_i (fa63_2 _) ?_|refine vk_i (fa63_3 _) ?_|refine ld4_0 r3 (by assumption) ?_|refine ld4_1 r3 (by assumption) ?_|refine ld4_2 r3 (by assumption) ?_|refine ld4_3 r3 (by assumption) ?_|refine ld5_0 r3 (by assumption) ?_|refine ld5_1 r3 (by assumption) ?_|refine ld5_2 r3 (by assumption) ?_|refine ld5_3 r3 (by assumption) ?_|refine ld5_4 r34 (by assumption) ?_|refine fae_i st63 (by assumption) (by omega) (by omega) ?_|refine ldf_i st63 (by assumption) (by omega) (by omega) dst ?_|refine ⟨vbi _ _, ?_⟩)
      have hcell : ∀ f' n' : Nat, ¬ (f' = f ∧ n' = n) → cellP N i m.steps (k + 1) f' n' = cellP N i m.steps k f' n' := by
        intro f' n' hne
        unfold cellP
        rw [stepTo_succ]
        have : stAt m.steps (f' : Int) (n' : Int) k = none := by
          unfold stAt
          rw [if_neg]
          rintro ⟨h1, h2⟩
          exact hne ⟨by omega, by omega⟩
        rw [this, Option.or_none]
      have hnew : cellP N i m.steps (k + 1) f n = .pointer (some ⟨h3.length, 0, none⟩) := by
        unfold cellP
        rw [stepTo_succ]
        have e1 : stAt m.steps (f : Int) (n : Int) k = some k := by
          unfold stAt; rw [if_pos ⟨ef, en⟩]
        have e2 : stepTo m.steps k (f : Int) (n : Int) = none := by
          unfold stepTo
          refine firstOf_none fun j hj => ?_
          unfold stAt
          rw [if_neg]
          rintro ⟨h1, h2⟩
          exact r.key hj hk2 ⟨by omega, by omega⟩
        rw [e2, e1, Option.none_or]
        simp only
        rw [Lk]
      refine next1 hk2 ⟨?_, ?_, ?_, ?_, ?_, ?_⟩
      · rw [List.length_set, L4, Lk]; omega
      · exact pre_set p4 (by omega) _
      · rw [set_ne (by omega), old _ (by omega)]; exact Tk.bx
      · rw [set_ne (by omega)]; exact htb4
      · intro f' hf'
        by_cases e : f' = f
        · subst e
          rw [List.getElem?_set, if_pos rfl, if_pos (by omega), ← hnew]
          congr 3
          exact range_set (S := I) (i := n) (fun x => cellP N i m.steps k f' x) (fun x => cellP N i m.steps (k + 1) f' x) hn (fun x hx => hcell f' x (fun hh => hx hh.2))
        · rw [set_ne (by omega), old _ (by omega), Tk.rw f' hf']
          congr 3
          exact List.map_congr_left fun x _ => (hcell f' x (fun hh => e hh.1)).symm
      · intro j hj
        rw [set_ne (by omega)]
        by_cases e : j = k
        · subst e; rw [← Lk]; exact hs4'
        · rw [old _ (by omega)]; exact Tk.ob j (by omega)
    · have ek : k = m.steps.length := by omega
      subst ek
      (with_reducible repeat first|refine mv_i ?_|refine cnd_t ?_|refine cnd_f ?_|refine gd_tt ?_|refine gd_ff ?_|refine gd_tf ?_|refine gd_ft ?_|refine gd_u ?_|refine pick_t ?_|refine pick_f ?_|refine not_t ?_|refine not_f ?_|refine nil_i ?_|refine ret1 ?_|refine ret2 ?_|refine ret0 ?_|refine ret3 ?_|refine ex2_0 ?_|refine ex2_1 ?_|refine ex3_0 ?_|refine ex3_1 ?_|refine ex3_2 ?_|refine vk_i (fa36_0 _) ?_|refine vk_i (fa36_1 _) ?_|refine vk_i (fa36_2 _) ?_|refine vk_i (fa36_3 _) ?_|refine vk_i (fa36_4 _) ?_|refine vk_i (fa63_0 _) ?_|refine vk_i (fa63_1 _) ?_|refine vk_i (fa63_2 _) ?_|refine vk_i (fa63_3 _) ?_|refine ld4_0 r3 (by assumption) ?_|refine ld4_1 r3 (by assumption) ?_|refine ld4_2 r3 (by assumption) ?_|refine ld4_3 r3 (by assumption) ?_|refine ld5_0 r3 (by assumption) ?_|refine ld5_1 r3 (by assumption) ?_|refine ld5_2 r3 (by assumption) ?_|refine ld5_3 r3 (by assumption) ?_|refine ld5_4 r34 (by assumption) ?_|refine fae_i st63 (by assumption) (by omega) (by omega) ?_|refine ldf_i st63 (by assumption) (by omega) (by omega) dst ?_|refine ⟨vbi _ _, ?_⟩)
      exact ⟨rfl, _, Tk⟩
end Go.Proofs.Ytkgdclcmfnhbmaa
