import Derived.Test.YtdjoednhfoligaaCvL
set_option linter.unusedSimpArgs false
set_option linter.unusedVariables false
set_option maxRecDepth 100000
namespace Go.Proofs.Ytdjoednhfoligaa
open Go.AM
variable {h h' h0 h1 : Heap} {K : Value → Heap → Prop} {m : Mac}
variable {N : Nat → Option Nat} {C : Nat → List Value}

theorem own_lab (l : Nat) (o : Owns h0 h N C oneE) (xs : List Int) : ∃ i, Owns h0 (ownH h xs) (upN N l (some i)) (upN C l (xs.map (.int .i64))) oneE ∧ LS (upN N l (some i)) (upN C l (xs.map (.int .i64))) l (ownV h xs) (xs.map (.int .i64)) := by
  unfold ownH ownV
  by_cases q : xs.length = 0
  · have e : xs = [] := List.length_eq_zero_iff.mp q
    subst e
    rw [if_pos q, if_pos q]
    refine ⟨h.length, o.add l [] 1 rfl, ?_⟩
    have := LS.whole (N := upN N l (some h.length)) (C := upN C l []) (c := 1) (l := l) (k := 0) (upN_self _ _ _) (by rw [upN_self]; rfl)
    rw [upN_self] at this
    exact this
  · rw [if_neg q, if_neg q]
    have o2 := (o.ext (pre_new h [] 1)).add l (xs.map (.int .i64)) 1 rfl
    rw [newArr_length] at o2
    refine ⟨h.length + 1, o2, ?_⟩
    have := LS.whole (N := upN N l (some (h.length + 1))) (C := upN C l (xs.map (Value.int .i64))) (c := 0) (l := l) (k := xs.length) (upN_self _ _ _) (by rw [upN_self]; simp)
    rw [upN_self] at this
    exact this
theorem stepAt_right (r : Right m) {k : Nat} (hk : k < m.steps.length) : stepAt m.steps (m.steps.getD k dst).fr (m.steps.getD k dst).inp = some k := by
  unfold stepAt
  refine firstOf_some (fun j hj => ?_) hk ?_
  · unfold stAt
    rw [if_neg]
    exact fun e => r.key hj hk e
  · unfold stAt
    rw [if_pos ⟨rfl, rfl⟩]
theorem upN_dead {l : Nat} {n n' : Option Nat} : upN (upN N l n) l n' = upN N l n' := by
  funext j; unfold upN; split <;> rfl
theorem upN_deadC {l : Nat} {n n' : List Value} : upN (upN C l n) l n' = upN C l n' := by
  funext j; unfold upN; split <;> rfl
theorem LS.vb (o : Owns h0 h N C oneE) {l : Nat} {v : Value} {q : List Value} (s : LS N C l v q) : VB h.length v := by
  rcases s with ⟨_, rfl, _⟩ | ⟨i, off, c, hn, rfl, _⟩
  · trivial
  · exact o.lt hn
theorem LS.eqv {N' : Nat → Option Nat} {C' : Nat → List Value} {l : Nat} {v : Value} {q : List Value} (s : LS N C l v q) (h1 : N' l = N l) (h2 : C' l = C l) : LS N' C' l v q := by
  unfold LS at *; rw [h1, h2]; exact s
/-- What the search knows. -/
structure Acc (m : Mac) (oi wi : Nat) (h0 h : Heap) (v : Value) (N : Nat → Option Nat) (C : Nat → List Value) (bs : List Bool) (q : List Int) (rs : List Value) (W : Nat → List Int) : Prop where
  own : Owns h0 h N C oneE
  n0 : N 0 = some oi
  n2 : N 2 = some wi
  c0 : C 0 = bs.map .bool
  c2 : C 2 = rs
  ls : LS N C 1 v (q.map (.int .i64))
  sn : Seen m m.start bs q
  ql : q.length = countT bs
  rl : rs.length = m.states.toNat
  wl : ∀ s, (W s).length < countT bs
  ws : ∀ s, s < m.states.toNat → LS N C (4 + s) (rs.getD s undef) ((W s).map (.int .i64))
  qa : ∀ s, s < m.states.toNat → bs.getD s false = true → (s : Int) ∈ q
/-- All steps from a state, by the first inputs, lead to what is seen. -/
def doneI (m : Mac) (bs : List Bool) (x : Int) (n : Int) : Prop := ∀ k, k < m.steps.length → (m.steps.getD k dst).fr = x → (m.steps.getD k dst).inp < n → bs.getD (m.steps.getD k dst).to.toNat false = true
set_option maxHeartbeats 1000000 in
theorem c66 {a : Value} (s : MacV h a m) (r : Right m) :
    DetP Try.prog 66 [a] h fun v h' => h <+: h' ∧ ∃ x y, v = .tuple #[x, y] ∧ Only h h' fun g => BoolS g y (rchB m m.start) := by
  obtain ⟨b1, b2, b3, b4, b5, b6⟩ := r.bounds
  have hfew := r.few
  have hsl : m.steps.length ≤ 320 := by
    have : m.states * m.inputs ≤ 40 * 8 := Int.mul_le_mul b2 b4 (by omega) (by omega)
    omega
  refine w66 ?_
  unfold n66
  obtain ⟨o, l, c, rfl, ss0⟩ := s
  rw [box36]
  refine ok_i rfl ?_
  have p1 := pre_new h [.int .i64 m.states, .int .i64 m.inputs, .int .i64 m.outputs, .int .i64 m.start, .slice o l c] 5
  have hb1 := newArr_get h [.int .i64 m.states, .int .i64 m.inputs, .int .i64 m.outputs, .int .i64 m.start, .slice o l c] 5
  have ss := ss0.mono (Sub.of_pre p1)
  generalize hg1 : newArr h [.int .i64 m.states, .int .i64 m.inputs, .int .i64 m.outputs, .int .i64 m.start, .slice o l c] 5 = g1 at p1 hb1 ss ⊢
  with_reducible (refine mv_i ?_; refine mv_i ?_; refine vk_i (fa36_0 _) ?_; refine ld5_0 r3 (by assumption) ?_; refine ⟨vbi _ _, ?_⟩)
  refine mk1_i (n := m.states) t22 z25 (by omega) ⟨by omega, by omega⟩ ?_
  have o0 := (Owns.start (fun _ => []) oneE (List.prefix_refl g1)).add 2 (List.replicate m.states.toNat (.slice none 0 0)) 1 rfl
  generalize hwi : g1.length = wi at o0 ⊢
  generalize newArr g1 (List.replicate m.states.toNat (.slice none 0 0)) 1 = h2 at o0 ⊢
  have hb2 := o0.sub.2 _ _ hb1
  with_reducible (refine vk_i (fa36_0 _) ?_; refine ld5_0 r3 (by assumption) ?_; refine ⟨vbi _ _, ?_⟩)
  refine mk1_i (n := m.states) t48 z4 (by omega) ⟨by omega, by omega⟩ ?_
  have ez : List.replicate m.states.toNat (Value.bool false) = (List.replicate m.states.toNat false).map .bool := by simp
  rw [ez]
  have o1 := o0.add 0 ((List.replicate m.states.toNat false).map .bool) 1 rfl
  generalize hoi : h2.length = oi at o1 ⊢
  generalize newArr h2 ((List.replicate m.states.toNat false).map .bool) 1 = h3 at o1 ⊢
  have hb3 := o1.sub.2 _ _ hb1
  have sB : ∀ {h2 N C} {bs : List Bool} (o2 : Owns g1 h2 N C oneE), N 0 = some oi → C 0 = bs.map .bool → bs.length = m.states.toNat → BoolS h2 (.slice (some ⟨oi, 0, none⟩) m.states.toNat (m.states.toNat + 1)) bs := by
    intro h2 N C bs o2 n0 c0 hl
    have := LS.bools o2 (v := .slice (some ⟨oi, 0, none⟩) m.states.toNat (m.states.toNat + 1)) (xs := bs) (l := 0) (by have := LS.whole (C := C) (c := m.states.toNat + 1) n0 (k := m.states.toNat) (by rw [c0, List.length_map]; omega); rw [c0] at this; exact this) rfl (by omega)
    exact this
  with_reducible (refine mv_i ?_; refine mv_i ?_; refine vk_i (fa36_3 _) ?_; refine ld5_3 r3 (by assumption) ?_)
  refine ok_i (bs23_1 _ _) ?_
  have o2 := o1.add 1 [.int .i64 m.start] 1 rfl
  have l1 : LS (upN (upN (upN (fun _ => none) 2 (some wi)) 0 (some oi)) 1 (some h3.length)) (upN (upN (upN (fun _ => []) 2 (List.replicate m.states.toNat (Value.slice none 0 0))) 0 ((List.replicate m.states.toNat false).map Value.bool)) 1 [Value.int .i64 m.start]) 1 (Value.slice (some ⟨h3.length, 0, none⟩) 1 2) ([m.start].map (Value.int .i64)) := by
    have := LS.whole (N := (upN (upN (upN (fun _ => none) 2 (some wi)) 0 (some oi)) 1 (some h3.length))) (C := (upN (upN (upN (fun _ => []) 2 (List.replicate m.states.toNat (Value.slice none 0 0))) 0 ((List.replicate m.states.toNat false).map Value.bool)) 1 [Value.int .i64 m.start])) (c := 2) (l := 1) (k := 1) (upN_self _ _ _) (by rw [upN_self]; rfl)
    rw [upN_self] at this
    exact this
  have n0 : (upN (upN (upN (fun _ => none) 2 (some wi)) 0 (some oi)) 1 (some h3.length)) 0 = some oi := by rw [upN_ne (by omega), upN_self]
  have n2 : (upN (upN (upN (fun _ => none) 2 (some wi)) 0 (some oi)) 1 (some h3.length)) 2 = some wi := by rw [upN_ne (by omega), upN_ne (by omega), upN_self]
  have n4 : ∀ s, (upN (upN (upN (fun _ => none) 2 (some wi)) 0 (some oi)) 1 (some h3.length)) (4 + s) = none := fun s => by rw [upN_ne (by omega), upN_ne (by omega), upN_ne (by omega)]
  have c0 : (upN (upN (upN (fun _ => []) 2 (List.replicate m.states.toNat (Value.slice none 0 0))) 0 ((List.replicate m.states.toNat false).map Value.bool)) 1 [Value.int .i64 m.start]) 0 = (List.replicate m.states.toNat false).map Value.bool := by rw [upN_ne (by omega), upN_self]
  have c2 : (upN (upN (upN (fun _ => []) 2 (List.replicate m.states.toNat (Value.slice none 0 0))) 0 ((List.replicate m.states.toNat false).map Value.bool)) 1 [Value.int .i64 m.start]) 2 = List.replicate m.states.toNat (Value.slice none 0 0) := by rw [upN_ne (by omega), upN_ne (by omega), upN_self]
  generalize (upN (upN (upN (fun _ => []) 2 (List.replicate m.states.toNat (Value.slice none 0 0))) 0 ((List.replicate m.states.toNat false).map .bool)) 1 [.int .i64 m.start]) = C1 at o2 l1 c0 c2
  generalize (upN (upN (upN (fun _ => none) 2 (some wi)) 0 (some oi)) 1 (some h3.length)) = N1 at o2 l1 n0 n2 n4
  generalize (Value.slice (some ⟨h3.length, 0, none⟩) 1 2) = ov at l1 ⊢
  generalize newArr h3 [.int .i64 m.start] 1 = h4 at o2 ⊢
  have b4' := sB o2 n0 c0 (by simp)
  have hb4 := o2.sub.2 _ _ hb1
  have hlr : (List.replicate m.states.toNat false).length = m.states.toNat := by simp
  with_reducible (refine mv_i ?_; refine mv_i ?_; refine vk_i (fa36_3 _) ?_; refine ld5_3 r3 (by assumption) ?_; refine idxzb t48 (by assumption) (by omega) (by omega) ?_)
  rw [elt_at1]
  refine stl s4 o2 n0 (by rw [c0]; simp; omega) rfl rfl fun o3 => ?_
  rw [c0, setB_map] at o3 ⊢
  have e1 : oneE 0 = 1 := rfl
  rw [e1] at o3 ⊢
  have l3 := l1.neC (cs := ((List.replicate m.states.toNat false).set m.start.toNat true).map Value.bool) (l' := 0) (by omega)
  have c3 := upN_self C1 0 (((List.replicate m.states.toNat false).set m.start.toNat true).map Value.bool)
  have c32 : upN C1 0 (((List.replicate m.states.toNat false).set m.start.toNat true).map Value.bool) 2 = List.replicate m.states.toNat (.slice none 0 0) := by rw [upN_ne (by omega)]; exact c2
  generalize upN C1 0 (((List.replicate m.states.toNat false).set m.start.toNat true).map Value.bool) = C3 at o3 l3 c3 c32
  generalize h4.set oi (.arr ⟨((List.replicate m.states.toNat false).set m.start.toNat true).map Value.bool, 1, false⟩) = h5 at o3 ⊢
  have hfn : m.start.toNat < m.states.toNat := by omega
  have seen0 : Seen m m.start ((List.replicate m.states.toNat false).set m.start.toNat true) [m.start] := by
    refine ⟨by simp, fun s hs => ?_, ?_, ?_⟩
    · rw [set_getB (by simpa using hfn)] at hs
      by_cases q : s = m.start.toNat
      · subst q; rw [Int.toNat_of_nonneg b5]; exact .refl
      · rw [repB, decide_eq_false q] at hs; cases hs
    · rw [set_getB (by simpa using hfn)]; simp
    · intro x hx
      rw [List.mem_singleton] at hx
      subst hx
      exact ⟨b5, b6, by rw [set_getB (by simpa using hfn)]; simp⟩
  have hc0 : countT ((List.replicate m.states.toNat false).set m.start.toNat true) = 1 := by
    rw [countT_set (by simpa using hfn) (repB _ _), countT_rep]
  have acc0 : Acc m oi wi g1 h5 ov N1 C3 ((List.replicate m.states.toNat false).set m.start.toNat true) [m.start] (List.replicate m.states.toNat (.slice none 0 0)) (fun _ => []) := by
    refine ⟨o3, n0, n2, c3, c32, l3, seen0, by rw [hc0]; rfl, by simp, fun s => by rw [hc0]; simp, fun s hs => .inl ⟨n4 s, ?_, rfl⟩, fun s hs hb => ?_⟩
    · simp only [List.getD, List.getElem?_replicate]; rw [if_pos hs]; rfl
    · rw [set_getB (by simpa using hfn)] at hb
      by_cases q : s = m.start.toNat
      · subst q; rw [Int.toNat_of_nonneg b5]; simp
      · rw [repB, decide_eq_false q] at hb; cases hb
  with_reducible (refine mv_i ?_)
  refine loop2 m.states.toNat (fun i v h2 => ∃ N C bs q rs W, Acc m oi wi g1 h2 v N C bs q rs W ∧ i ≤ q.length ∧ ∀ j, j < i → doneI m bs (q.getD j 0) m.inputs) ⟨N1, C3, _, _, _, _, acc0, Nat.zero_le _, fun j hj => by omega⟩ ?_
  rintro i v h6 _ hi ⟨N, C, bs, q, rs, W, ac, hiq, dn⟩
  have hcle := countT_le bs
  have hbl := ac.sn.len
  have hql := ac.ql
  have si := ac.ls.ints ac.own rfl (by omega)
  have hb6 := ac.own.sub.2 _ _ hb1
  with_reducible (refine mv_i ?_; refine mv_i ?_; refine leni_i t23 (by assumption) ?_)
  refine lss_i (fun hlt => ?_) (fun hge => ?_)
  · have hiq2 : i < q.length := by omega
    obtain ⟨x0, x1, x2⟩ := ac.sn.inq _ (gd_mem 0 hiq2)
    generalize hx : q.getD i 0 = x at x0 x1 x2
    obtain ⟨I, hI⟩ : ∃ I : Nat, m.inputs = (I : Int) := ⟨m.inputs.toNat, (Int.toNat_of_nonneg (by omega)).symm⟩
    with_reducible (refine cnd_t ?_; refine mv_i ?_)
    refine loop2 I (fun n v h2 => ∃ N C bs' q' rs W, Acc m oi wi g1 h2 v N C bs' q' rs W ∧ i < q'.length ∧ q'.getD i 0 = x ∧ (∀ j, j < i → doneI m bs' (q'.getD j 0) (I : Int)) ∧ doneI m bs' x (n : Int)) ⟨N, C, bs, q, rs, W, ac, hiq2, hx, fun j hj => by rw [← hI]; exact dn j hj, fun k hk _ hn => ?_⟩ ?_
    · have := r.st hk
      omega
    clear si ac dn
    rintro n v h7 _ hn ⟨N, C, bs', q', rs, W, ac, hiq3, hx3, dn, dx⟩
    have hb7 := ac.own.sub.2 _ _ hb1
    with_reducible (refine mv_i ?_; refine vk_i (fa36_1 _) ?_; refine ld5_1 r3 (by assumption) ?_)
    rw [hI]
    refine lss_i (fun hltn => ?_) (fun hge => ?_)
    · have hnI : n < I := by omega
      have si7 := ac.ls.ints ac.own rfl (by have := ac.ql; have := countT_le bs'; have := ac.sn.len; omega)
      have ss7 := ss.mono ac.own.sub
      have hcle' := countT_le bs'
      have hbl' := ac.sn.len
      have hql' := ac.ql
      obtain ⟨_, _, xseen⟩ := ac.sn.inq x (by rw [← hx3]; exact gd_mem 0 hiq3)
      refine cnd_t ?_
      refine seq_J (fun xs h4 => ∃ v, xs = [v] ∧ upI2 (fun n v h2 => ∃ N C bs' q' rs W, Acc m oi wi g1 h2 v N C bs' q' rs W ∧ i < q'.length ∧ q'.getD i 0 = x ∧ (∀ j, j < i → doneI m bs' (q'.getD j 0) (I : Int)) ∧ doneI m bs' x (n : Int)) I [v, .int .i64 ((n + 1 : Nat) : Int)] h4) ?_ ?_
      · rintro _ h4 ⟨v, rfl, hv⟩ _
        show mvK _ h4 _
        with_reducible (refine mv_i ?_; refine inc_i (by omega) ?_; refine mv_i ?_)
        exact ⟨hv, by simp only [upμ]; omega⟩
      intro k' hk'
      skip
      refine vk_i (ld36 hb7) ?_
      refine ⟨vb_mac ss7, ?_⟩
      with_reducible (refine mv_i ?_; refine mv_i ?_; refine idxi_i t23 (by assumption) (by omega) ?_; refine ldi_i t23 r3 (by assumption) (by omega) ?_; refine ⟨vbi _ _, ?_⟩; refine mv_i ?_)
      rw [hx3]
      refine calld_r (c81 (macv_of ss7)) ⟨⟨[], by simp⟩, ?_⟩
      with_reducible (refine mv_i ?_; refine mv_i ?_)
      cases hst : stepAt m.steps x (n : Int) with
      | none =>
        refine neq_i (fun _ => ?_) (fun hne => absurd rfl hne)
        with_reducible (refine mv_i ?_; refine gd_ft ?_; refine gd_ft ?_; refine gd_ft ?_; refine gd_ft ?_; refine gd_ft ?_; refine gd_ft ?_; refine gd_ft ?_; refine gd_ft ?_; refine gd_ft ?_; refine gd_ft ?_; refine pick_f ?_; refine cnd_f ?_)
        refine hk' _ _ ⟨v, rfl, n + 1, v, rfl, hnI, N, C, bs', q', rs, W, ac, hiq3, hx3, dn, fun k hk hf hi => ?_⟩
        by_cases e : (m.steps.getD k dst).inp = (n : Int)
        · have := stepAt_right r hk
          rw [hf, e, hst] at this
          cases this
        · exact dx k hk hf (by omega)
      | some k =>
        obtain ⟨hk, hkf, hki⟩ := stepAt_lt hst
        have hst2 := r.st hk
        have sb7 := sB ac.own ac.n0 ac.c0 ac.sn.len
        have hsame : ∀ k2, k2 < m.steps.length → (m.steps.getD k2 dst).fr = x → (m.steps.getD k2 dst).inp = (n : Int) → k2 = k := by
          intro k2 hk2 h1 h2
          have := stepAt_right r hk2
          rw [h1, h2, hst] at this
          exact (Option.some.inj this).symm
        refine neq_i (fun he => absurd he (by simp only [optI]; omega)) (fun _ => ?_)
        simp only [optI]
        with_reducible (refine mv_i ?_; refine gd_tt ?_; refine mv_i ?_; refine gd_tt ?_; refine vk_i (fa36_4 _) ?_; refine gd_tt ?_; refine ld5_4 r34 (by assumption) ?_; refine gd_tt ?_; refine mv_i ?_; refine gd_tt ?_; refine idxst t34 (by assumption) (by omega) ?_; refine gd_tt ?_; refine fae_i st63 (by assumption) (by omega) (by omega) ?_; refine gd_tt ?_; refine ldto dst st63 (by assumption) (by omega) ?_; refine gd_tt ?_; refine idxzb t48 (by assumption) (by omega) (by omega) ?_; refine gd_tt ?_; refine ldb_i t48 r4 (by assumption) (by omega) ?_; refine gd_tt ?_)
        rcases hbt : bs'.getD (m.steps.getD k dst).to.toNat false with _ | _
        · have htn : (m.steps.getD k dst).to.toNat < bs'.length := by omega
          have hcs := countT_set htn hbt
          have hcs2 := countT_le (bs'.set (m.steps.getD k dst).to.toNat true)
          rw [List.length_set] at hcs2
          have hxr : Rch m.steps m.start (m.steps.getD k dst).fr := by
            have := ac.sn.rch x.toNat xseen
            rw [Int.toNat_of_nonneg x0] at this
            rw [hkf]; exact this
          have hget := set_getB htn
          have hxn : x.toNat < m.states.toNat := by omega
          have hwx := ac.wl x.toNat
          with_reducible (refine not_f ?_; refine pick_t ?_; refine cnd_t ?_; refine mv_i ?_; refine vk_i (fa36_4 _) ?_; refine ld5_4 r34 (by assumption) ?_; refine mv_i ?_; refine idxst t34 (by assumption) (by omega) ?_; refine fae_i st63 (by assumption) (by omega) (by omega) ?_; refine ldto dst st63 (by assumption) (by omega) ?_; refine idxzb t48 (by assumption) (by omega) (by omega) ?_)
          rw [elt_at1]
          refine stl s4 ac.own ac.n0 (by rw [ac.c0, List.length_map]; omega) rfl rfl fun o5 => ?_
          rw [ac.c0, setB_map, e1] at o5 ⊢
          have l5 := ac.ls.neC (cs := (bs'.set (m.steps.getD k dst).to.toNat true).map Value.bool) (l' := 0) (by omega)
          have w5 : ∀ s, s < m.states.toNat → LS N (upN C 0 ((bs'.set (m.steps.getD k dst).to.toNat true).map Value.bool)) (4 + s) (rs.getD s undef) ((W s).map (.int .i64)) := fun s hs => (ac.ws s hs).neC (by omega)
          have c50 := upN_self C 0 ((bs'.set (m.steps.getD k dst).to.toNat true).map Value.bool)
          have c52 : upN C 0 ((bs'.set (m.steps.getD k dst).to.toNat true).map Value.bool) 2 = rs := by rw [upN_ne (by omega)]; exact ac.c2
          generalize upN C 0 ((bs'.set (m.steps.getD k dst).to.toNat true).map Value.bool) = C5 at o5 l5 w5 c50 c52
          generalize h7.set oi (.arr ⟨(bs'.set (m.steps.getD k dst).to.toNat true).map Value.bool, 1, false⟩) = h8 at o5 ⊢
          have hb8 := o5.sub.2 _ _ hb1
          have ss8 := ss.mono o5.sub
          have si8 := l5.ints o5 rfl (by omega)
          with_reducible (refine mv_i ?_; refine vk_i (fa36_4 _) ?_; refine ld5_4 r34 (by assumption) ?_; refine ⟨VB_of_steps (by assumption), ?_⟩; refine mv_i ?_; refine idxst t34 (by assumption) (by omega) ?_; refine fae_i st63 (by assumption) (by omega) (by omega) ?_; refine ldto dst st63 (by assumption) (by omega) ?_; refine ⟨vbi _ _, ?_⟩; refine mv_i ?_; refine mv_i ?_; refine mv_i ?_; refine idxi_i t23 (by assumption) (by omega) ?_; refine ldi_i t23 r3 (by assumption) (by omega) ?_; refine ⟨vbi _ _, ?_⟩)
          rw [hx3]
          have sw8 : Seg 1 h8 (.slice (some ⟨wi, 0, none⟩) m.states.toNat (m.states.toNat + 1)) m.states.toNat rs := by
            have := o5.seg ac.n2 (k := m.states.toNat) (c := m.states.toNat + 1) (sz := 1) rfl (by rw [c52, ac.rl]; omega) (by omega)
            rw [c52] at this
            exact this
          refine idxz t22 sw8 x0 (by omega) ?_
          refine ld_i t22 r23 sw8 hxn (y := rs.getD x.toNat undef) (by rw [List.getD_eq_getElem?_getD, List.getElem?_eq_getElem (by rw [ac.rl]; exact hxn)]; rfl) ?_
          refine ⟨LS.vb o5 (w5 _ hxn), ?_⟩
          refine calld_r (c17 ((w5 _ hxn).ints o5 rfl (by omega)) (by omega)) ⟨(ownH_pre _ _).imp fun t ht => ht.symm, ?_⟩
          obtain ⟨ai, o6, l6⟩ := own_lab (4 + (m.steps.getD k dst).to.toNat) o5 (W x.toNat)
          have e6 := ownH_pre h8 (W x.toNat)
          generalize ownV h8 (W x.toNat) = v6 at l6 ⊢
          generalize ownH h8 (W x.toNat) = h9 at o6 e6 ⊢
          with_reducible (refine mv_i ?_)
          refine ok_i (bs23_1 _ _) ?_
          have o7 := o6.ext (pre_new h9 [.int .i64 (n : Int)] 1)
          refine lapp t23 o7 l6 rfl (Seg.new (n := 1) 2 (by simp) (by omega)) (by simp [Value.oneCell']) (by omega) (by rw [List.length_map]; omega) fun h10 v10 o8 l8 _ _ hv10 => ?_
          rw [upN_dead, upN_deadC] at o8 l8
          have hb10 := o8.sub.2 _ _ hb1
          have ss10 := ss.mono o8.sub
          refine ⟨⟨again (ldf_e dst st63 ss10 hk (by omega)), again (ldc_e r34 hb10 rfl), trivial⟩, ?_⟩
          have hne : ∀ j, j < 4 → j ≠ 4 + (m.steps.getD k dst).to.toNat := fun j hj => by omega
          generalize hN8 : upN N (4 + (m.steps.getD k dst).to.toNat) (some (newArr h9 [.int .i64 (n : Int)] 1).length) = N8 at o8 l8
          have n80 : N8 0 = some oi := by rw [← hN8, upN_ne (hne 0 (by omega))]; exact ac.n0
          have n82 : N8 2 = some wi := by rw [← hN8, upN_ne (hne 2 (by omega))]; exact ac.n2
          have l81 : LS N8 (upN C5 (4 + (m.steps.getD k dst).to.toNat) ((W x.toNat).map (Value.int .i64) ++ [.int .i64 (n : Int)])) 1 v (q'.map (.int .i64)) := by
            rw [← hN8]; exact l5.ne (hne 1 (by omega))
          have w8 : ∀ s, s < m.states.toNat → s ≠ (m.steps.getD k dst).to.toNat → LS N8 (upN C5 (4 + (m.steps.getD k dst).to.toNat) ((W x.toNat).map (Value.int .i64) ++ [.int .i64 (n : Int)])) (4 + s) (rs.getD s undef) ((W s).map (.int .i64)) := fun s hs hne => by
            rw [← hN8]; exact (w5 s hs).ne (by omega)
          have c80 : upN C5 (4 + (m.steps.getD k dst).to.toNat) ((W x.toNat).map (Value.int .i64) ++ [.int .i64 (n : Int)]) 0 = (bs'.set (m.steps.getD k dst).to.toNat true).map Value.bool := by rw [upN_ne (hne 0 (by omega))]; exact c50
          have c82 : upN C5 (4 + (m.steps.getD k dst).to.toNat) ((W x.toNat).map (Value.int .i64) ++ [.int .i64 (n : Int)]) 2 = rs := by rw [upN_ne (hne 2 (by omega))]; exact c52
          generalize upN C5 (4 + (m.steps.getD k dst).to.toNat) ((W x.toNat).map (Value.int .i64) ++ [.int .i64 (n : Int)]) = C8 at o8 l8 l81 w8 c80 c82
          refine idxz (h1 := h10) (n := m.states.toNat) (cs := rs) t22 ?_ hst2.2.2.1 (by omega) ?_
          · have := o8.seg n82 (k := m.states.toNat) (c := m.states.toNat + 1) (sz := 1) rfl (by rw [c82, ac.rl]; omega) (by omega)
            rw [c82] at this
            exact this
          rw [elt_at1]
          obtain ⟨c10, hv10⟩ := hv10
          refine stl s25 o8 n82 (by rw [c82, ac.rl]; omega) (by rw [hv10]; rfl) (by rw [hv10]; rfl) fun o9 => ?_
          rw [c82, show oneE 2 = 1 from rfl] at o9 ⊢
          generalize h10.set wi (.arr ⟨rs.set (m.steps.getD k dst).to.toNat v10, 1, false⟩) = h11 at o9 ⊢
          have hb11 := o9.sub.2 _ _ hb1
          have ss11 := ss.mono o9.sub
          with_reducible (refine ⟨trivial, ?_⟩; refine mv_i ?_; refine vk_i (fa36_4 _) ?_; refine ld5_4 r34 (by assumption) ?_; refine mv_i ?_; refine idxst t34 (by assumption) (by omega) ?_; refine fae_i st63 (by assumption) (by omega) (by omega) ?_; refine ldto dst st63 (by assumption) (by omega) ?_)
          refine ok_i (bs23_1 _ _) ?_
          have o10 := o9.ext (pre_new h11 [.int .i64 (m.steps.getD k dst).to] 1)
          have l11 := l81.neC (cs := rs.set (m.steps.getD k dst).to.toNat v10) (l' := 2) (by omega)
          refine lapp t23 o10 l11 rfl (Seg.new (n := 1) 2 (by simp) (by omega)) (by simp [Value.oneCell']) (by omega) (by rw [List.length_map]; omega) fun h12 v12 o11 l12 _ _ _ => ?_
          with_reducible (refine mv_i ?_)
          refine hk' _ _ ⟨v12, rfl, n + 1, v12, rfl, hnI, _, _, bs'.set (m.steps.getD k dst).to.toNat true, q' ++ [(m.steps.getD k dst).to], rs.set (m.steps.getD k dst).to.toNat v10, fun s => if s = (m.steps.getD k dst).to.toNat then W x.toNat ++ [(n : Int)] else W s,
            ⟨o11, by rw [upN_ne (by omega)]; exact n80, by rw [upN_ne (by omega)]; exact n82, by rw [upN_ne (by omega), upN_ne (by omega)]; exact c80, by rw [upN_ne (by omega), upN_self], by simpa using l12, ⟨by simpa using ac.sn.len, fun s hs => ?_, ?_, ?_⟩, ?_, by simpa using ac.rl, fun s => ?_, fun s hs => ?_, fun s hs hb => ?_⟩, by simp; omega, ?_, fun j hj => ?_, ?_⟩
          · rw [hget] at hs
            by_cases q : s = (m.steps.getD k dst).to.toNat
            · subst q
              rw [Int.toNat_of_nonneg hst2.2.2.1]
              exact .step hxr hk
            · rw [decide_eq_false q] at hs
              exact ac.sn.rch s hs
          · rw [hget, ac.sn.fst]; simp
          · intro y hy
            rcases List.mem_append.mp hy with hy | hy
            · obtain ⟨h1, h2, h3⟩ := ac.sn.inq y hy
              exact ⟨h1, h2, by rw [hget, h3]; simp⟩
            · rw [List.mem_singleton] at hy
              subst hy
              exact ⟨hst2.2.2.1, hst2.2.2.2.1, by rw [hget]; simp⟩
          · rw [hcs, List.length_append, List.length_singleton]; omega
          · show (if s = _ then _ else _ : List Int).length < _
            split
            · rw [hcs, List.length_append, List.length_singleton]; omega
            · have := ac.wl s
              omega
          · show LS _ _ _ _ ((if s = _ then _ else _ : List Int).map _)
            by_cases q : s = (m.steps.getD k dst).to.toNat
            · subst q
              rw [if_pos rfl, gd_set (by rw [ac.rl]; omega), List.map_append]
              exact LS.eqv l8 (by rw [upN_ne (by omega)]) (by rw [upN_ne (by omega), upN_ne (by omega)])
            · rw [if_neg q, gd_set_ne q]
              exact LS.eqv (w8 s hs q) (by rw [upN_ne (by omega)]) (by rw [upN_ne (by omega), upN_ne (by omega)])
          · rw [hget] at hb
            by_cases q : s = (m.steps.getD k dst).to.toNat
            · subst q
              rw [Int.toNat_of_nonneg hst2.2.2.1]; simp
            · rw [decide_eq_false q] at hb
              exact List.mem_append_left _ (ac.qa s hs hb)
          · rw [gd_app hiq3]; exact hx3
          · rw [gd_app (by omega)]
            intro k2 hk2 h1 h2
            rw [hget, dn j hj k2 hk2 h1 h2]; simp
          · intro k2 hk2 h1 h2
            by_cases e : (m.steps.getD k2 dst).inp = (n : Int)
            · rw [hsame k2 hk2 h1 e, hget]; simp
            · rw [hget, dx k2 hk2 h1 (by omega)]; simp
        · with_reducible (refine not_t ?_; refine pick_t ?_; refine cnd_f ?_)
          refine hk' _ _ ⟨v, rfl, n + 1, v, rfl, hnI, N, C, bs', q', rs, W, ac, hiq3, hx3, dn, fun k2 hk2 hf hi => ?_⟩
          by_cases e : (m.steps.getD k2 dst).inp = (n : Int)
          · rw [hsame k2 hk2 hf e]; exact hbt
          · exact dx k2 hk2 hf (by omega)
    · with_reducible (refine cnd_f ?_; refine mv_i ?_; refine inc_i (by omega) ?_; refine mv_i ?_)
      have en : (n : Int) = m.inputs := by omega
      refine next2 (by omega) ⟨N, C, bs', q', rs, W, ac, by omega, fun j hj => ?_⟩
      by_cases q : j = i
      · subst q
        have en2 : n = I := by omega
        rw [hx3, ← en2]; exact dx
      · exact dn j (by omega)
  · have ei : i = q.length := by omega
    with_reducible (refine cnd_f ?_; refine mv_i ?_; refine mv_i ?_; refine mv_i ?_; refine mv_i ?_; refine ret2 ?_)
    refine ⟨p1.trans ac.own.pre, _, _, rfl, Only.from p1 (ac.own.only fun g og => ?_)⟩
    have hbs : bs = rchB m m.start := rchB_of ac.sn.len fun s hs => ⟨ac.sn.rch s, fun hR => ?_⟩
    · subst hbs
      have := LS.bools og (v := .slice (some ⟨oi, 0, none⟩) m.states.toNat (m.states.toNat + 1)) (xs := rchB m m.start) (l := 0) (by have := LS.whole (C := C) (c := m.states.toNat + 1) ac.n0 (k := m.states.toNat) (by rw [ac.c0, List.length_map]; omega); rw [ac.c0] at this; exact this) rfl (by omega)
      exact this
    · have := Rch.closed (Q := fun z => bs.getD z.toNat false = true) ac.sn.fst (fun k hk hz => by
        have hst2 := r.st hk
        have hm := ac.qa _ (by omega) hz
        rw [Int.toNat_of_nonneg hst2.1] at hm
        obtain ⟨j, hj, he⟩ := mem_gd 0 hm
        exact dn j (by omega) k hk he.symm hst2.2.2.2.2.2) hR
      simpa using this
theorem c26 {a : Value} (s : MacV h a m) (r : Right m) :
    DetP Try.prog 26 [a] h fun v h' => h <+: h' ∧ ∃ x y, v = .tuple #[x, y] ∧ Only h h' fun g => BoolS g x (rchB m m.start) ∧ BoolS g y ((List.range m.steps.length).map fun k => (rchB m m.start).getD (m.steps.getD k dst).fr.toNat false) := by
  obtain ⟨b1, b2, b3, b4, b5, b6⟩ := r.bounds
  have hfew := r.few
  have hsl : m.steps.length ≤ 320 := by
    have : m.states * m.inputs ≤ 40 * 8 := Int.mul_le_mul b2 b4 (by omega) (by omega)
    omega
  refine w26 ?_
  unfold n26
  obtain ⟨o, l, c, rfl, ss0⟩ := s
  rw [box36]
  refine ok_i rfl ?_
  have p1 := pre_new h [.int .i64 m.states, .int .i64 m.inputs, .int .i64 m.outputs, .int .i64 m.start, .slice o l c] 5
  have hb1 := newArr_get h [.int .i64 m.states, .int .i64 m.inputs, .int .i64 m.outputs, .int .i64 m.start, .slice o l c] 5
  have ss := ss0.mono (Sub.of_pre p1)
  generalize hg1 : newArr h [.int .i64 m.states, .int .i64 m.inputs, .int .i64 m.outputs, .int .i64 m.start, .slice o l c] 5 = g1 at p1 hb1 ss ⊢
  have mv1 : MacV g1 (.agg #[.int .i64 m.states, .int .i64 m.inputs, .int .i64 m.outputs, .int .i64 m.start, .slice o l c]) m := macv_of ss
  with_reducible (refine mv_i ?_; refine mv_i ?_)
  refine vk_i (ld36 hb1) ?_
  refine call_i (c66 mv1 r) ?_
  rintro _ g2 ⟨p2, x0, x, rfl, q2⟩
  have hb2 := (Sub.of_pre p2).2 _ _ hb1
  have ss2 := ss.mono (Sub.of_pre p2)
  have hlb := rchB_len (m := m) m.start
  with_reducible (refine mv_i ?_; refine ex2_0 ?_; refine ex2_1 ?_; refine mv_i ?_; refine mv_i ?_; refine vk_i (fa36_4 _) ?_; refine ld5_4 r34 (by assumption) ?_; refine lenst t34 (by assumption) ?_)
  refine mk1_i (n := m.steps.length) t48 z4 (by omega) ⟨by omega, by omega⟩ ?_
  rw [Int.toNat_natCast]
  have ez : List.replicate m.steps.length (Value.bool false) = (List.replicate m.steps.length false).map .bool := by simp
  rw [ez]
  have o0 := (Owns.start (fun _ => []) oneE (List.prefix_refl g2)).add 0 ((List.replicate m.steps.length false).map .bool) 1 rfl
  generalize hoi : g2.length = oi at o0 ⊢
  generalize newArr g2 ((List.replicate m.steps.length false).map .bool) 1 = g3 at o0 ⊢
  with_reducible (refine mv_i ?_; refine mv_i ?_)
  refine loop1 m.steps.length (fun k h2 => ∃ N C, Owns g2 h2 N C oneE ∧ N 0 = some oi ∧ C 0 = ((List.range m.steps.length).map fun j => if j < k then (rchB m m.start).getD (m.steps.getD j dst).fr.toNat false else false).map .bool) ⟨_, _, o0, upN_self _ _ _, ?_⟩ ?_
  · rw [upN_self]
    congr 1
    refine List.ext_getElem (by simp) fun j h1 h2 => by simp
  rintro k h2 _ hk ⟨N, C, o2, n0, c0⟩
  have hb3 := o2.sub.2 _ _ hb2
  have ss3 := ss2.mono o2.sub
  have sx := q2.self.mono o2.sub
  have sc : ∀ {g N C} {bs : List Bool} (o2 : ∃ h0, Owns h0 g N C oneE), N 0 = some oi → C 0 = bs.map .bool → bs.length = m.steps.length → BoolS g (.slice (some ⟨oi, 0, none⟩) m.steps.length (m.steps.length + 1)) bs := by
    rintro g N C bs ⟨h0, o2⟩ n0 c0 hl
    have := LS.bools o2 (v := .slice (some ⟨oi, 0, none⟩) m.steps.length (m.steps.length + 1)) (xs := bs) (l := 0) (by have := LS.whole (C := C) (c := m.steps.length + 1) n0 (k := m.steps.length) (by rw [c0, List.length_map]; omega); rw [c0] at this; exact this) rfl (by omega)
    exact this
  have sb := sc ⟨_, o2⟩ n0 c0 (by simp)
  have hll : ((List.range m.steps.length).map fun j => if j < k then (rchB m m.start).getD (m.steps.getD j dst).fr.toNat false else false).length = m.steps.length := by simp
  with_reducible (refine mv_i ?_; refine vk_i (fa36_4 _) ?_; refine ld5_4 r34 (by assumption) ?_; refine lenst t34 (by assumption) ?_)
  refine lss_i (fun hlt => ?_) (fun hge => ?_)
  · have hk2 : k < m.steps.length := by omega
    have hst := r.st hk2
    with_reducible (refine cnd_t ?_; refine mv_i ?_; refine mv_i ?_; refine mv_i ?_; refine vk_i (fa36_4 _) ?_; refine ld5_4 r34 (by assumption) ?_; refine mv_i ?_; refine idxst t34 (by assumption) (by omega) ?_; refine fae_i st63 (by assumption) (by omega) (by omega) ?_; refine ldfr dst st63 (by assumption) (by omega) ?_; refine idxzb t48 (by assumption) (by omega) (by omega) ?_; refine ldb_i t48 r4 (by assumption) (by omega) ?_; refine idxb_i t48 (by assumption) (by omega) ?_)
    rw [elt_at1]
    refine stl s4 o2 n0 (by rw [c0, List.length_map]; omega) rfl rfl fun o5 => ?_
    with_reducible (refine mv_i ?_; refine inc_i (by omega) ?_; refine mv_i ?_)
    refine next1 hk2 ⟨_, _, o5, n0, ?_⟩
    rw [upN_self, c0, setB_map]
    congr 1
    refine List.ext_getElem (by simp) fun j h1 h2 => ?_
    rw [List.getElem_set]
    simp only [List.getElem_map, List.getElem_range]
    by_cases q : k = j
    · subst q
      rw [if_pos rfl, if_pos (by omega)]
    · rw [if_neg q]
      by_cases q2 : j < k
      · rw [if_pos q2, if_pos (by omega)]
      · rw [if_neg q2, if_neg (by omega)]
  · have ek : k = m.steps.length := by omega
    subst ek
    with_reducible (refine cnd_f ?_; refine mv_i ?_; refine mv_i ?_; refine mv_i ?_; refine mv_i ?_; refine ret2 ?_)
    refine ⟨p1.trans (p2.trans o2.pre), x, _, rfl, ?_⟩
    have e : ((List.range m.steps.length).map fun j => if j < m.steps.length then (rchB m m.start).getD (m.steps.getD j dst).fr.toNat false else false) = (List.range m.steps.length).map fun j => (rchB m m.start).getD (m.steps.getD j dst).fr.toNat false := List.map_congr_left fun j hj => by rw [if_pos (List.mem_range.mp hj)]
    rw [e] at c0
    have q3 := Only.from (p1.trans p2) (o2.only fun g og => sc ⟨_, og⟩ n0 c0 (by simp))
    have q4 := Only.from p1 (q2.pre o2.pre)
    exact fun g hg => ⟨q4 g hg, q3 g hg⟩
end Go.Proofs.Ytdjoednhfoligaa
