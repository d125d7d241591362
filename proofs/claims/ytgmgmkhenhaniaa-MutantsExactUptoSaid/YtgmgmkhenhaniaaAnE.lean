/-
  Slices of one's own, wherever they lie; calls that give new memory.
-/
import Derived.Test.YtgmgmkhenhaniaaAnD
set_option linter.unusedSimpArgs false
set_option linter.unusedVariables false
namespace Go.AM
variable {P : Program} {h h' h1 h2 : Heap} {h0 : Base} {K : Value → Heap → Prop} {v x : Value} {l l' : List E} {k sz n : Nat} {cs : List Value} {o : Option Nat}
/-- A slice of n elements from the beginning of an array of one's own (or of none). -/
def IsSl (v : Value) (o : Option Nat) (n : Nat) : Prop :=
  match o with
  | none => v = .slice none 0 0 ∧ n = 0
  | some i => ∃ c, v = .slice (some ⟨i, 0, none⟩) n c ∧ (c = 0 ∨ c = n + 1)
theorem IsSl.nil : IsSl (.slice none 0 0) none 0 := ⟨rfl, rfl⟩
theorem IsSl.some0 {i n : Nat} : IsSl (.slice (some ⟨i, 0, none⟩) n 0) (some i) n := ⟨0, rfl, .inl rfl⟩
theorem IsSl.some1 {i n : Nat} : IsSl (.slice (some ⟨i, 0, none⟩) n (n + 1)) (some i) n := ⟨n + 1, rfl, .inr rfl⟩
theorem IsSl.one (s : IsSl v o n) : v.oneCell' = true := by
  cases o with
  | none => rw [s.1]; rfl
  | some i => obtain ⟨c, rfl, _⟩ := s; rfl
theorem IsSl.isS (s : IsSl v o n) : ∃ a c, v = .slice a n c := by
  cases o with
  | none => obtain ⟨rfl, rfl⟩ := s; exact ⟨_, _, rfl⟩
  | some i => obtain ⟨c, rfl, _⟩ := s; exact ⟨_, _, rfl⟩
theorem IsSl.cells (s : IsSl v o n) : v.cells = #[v] := by
  cases o with
  | none => rw [s.1]; rfl
  | some i => obtain ⟨c, rfl, _⟩ := s; rfl
theorem IsSl.vb (s : IsSl v o n) (m : Mem h0 h l) (q : EntO l o k cs sz) {Q : Prop} (hq : Q) : VB h.length v ∧ Q := by
  refine ⟨?_, hq⟩
  cases o with
  | none => rw [s.1]; trivial
  | some i => obtain ⟨c, rfl, _⟩ := s; exact m.lt (List.mem_of_getElem? q.ok) rfl
theorem len_o {t e by_ : Nat} [T : SlT P t e sz by_] (s : IsSl v o n) (hK : K (.int .i64 (n : Int)) h) : vK (aLen P t v) h K := by
  cases o with
  | none => obtain ⟨rfl, rfl⟩ := s; exact len_s hK
  | some i => obtain ⟨c, rfl, _⟩ := s; exact len_s hK
theorem idx_o {t e by_ j : Nat} [T : SlT P t e sz by_] (s : IsSl v o n) (hj : j < n) (hK : K (.pointer (some ⟨o.getD 0, j * sz, none⟩)) h) : vK (aIndexAddr P t v (.int .i64 (j : Int))) h K := by
  cases o with
  | none => have := s.2; omega
  | some i => obtain ⟨c, rfl, _⟩ := s; exact idxon hj hK
theorem idx_oz {t e by_ : Nat} {z : Int} [T : SlT P t e sz by_] (s : IsSl v o n) (h0 : 0 ≤ z) (hj : z.toNat < n) (hK : K (.pointer (some ⟨o.getD 0, z.toNat * sz, none⟩)) h) : vK (aIndexAddr P t v (.int .i64 z)) h K := by
  cases o with
  | none => have := s.2; omega
  | some i => obtain ⟨c, rfl, _⟩ := s; exact idxo h0 hj hK
section
variable {α : Type} [F : Flat α] {xs : List α} {a : α}
theorem Mem.isSome (m : Mem h0 h l) (q : EntO l o k (flat xs) sz) (hz : 0 < F.sz) {j : Nat} (hj : j < xs.length) : ∃ i, o = some i := by
  cases o with
  | some i => exact ⟨i, rfl⟩
  | none =>
    have := (m.has _ (List.mem_of_getElem? q.ok)).1 rfl
    have h2 := flat_length xs
    simp only at this
    rw [this] at h2
    have : 0 < xs.length * F.sz := Nat.mul_pos (by omega) hz
    simp at h2; omega
theorem ldf_o {t j off : Nat} {y : Value} [T : PlT P t] (m : Mem h0 h l) (q : EntO l o k (flat xs) sz) (hz : sz = F.sz) (hj : j < xs.length) (ho : off < F.sz) (hy : (F.cells xs[j])[off]? = some y) (hK : K y h) : vK (aLoad P t (.pointer (some ⟨o.getD 0, j * sz + off, none⟩)) h) h K := by
  obtain ⟨i, rfl⟩ := m.isSome q (by omega) hj
  exact ldoe m (q := ⟨q.ok⟩) rfl hz hj ho hy hK
theorem ldw_o {t j : Nat} [T : RwT P t sz] (m : Mem h0 h l) (q : EntO l o k (flat xs) sz) (hz : sz = F.sz) (hj : j < xs.length) (hK : K (fv xs[j]) h) : vK (aLoad P t (.pointer (some ⟨o.getD 0, j * sz, none⟩)) h) h K := by
  obtain ⟨d, e1, e2, e3, e4⟩ := row_of T.ok
  obtain ⟨i, rfl⟩ := m.isSome q (by omega) hj
  exact ldoe_f m ⟨q.ok⟩ hz hj hK
theorem stf_o {t j off : Nat} {y : Value} (a : α) [T : OneT P t] (m : Mem h0 h l) (q : EntO l o k (flat xs) sz) (hz : sz = F.sz) (hj : j < xs.length) (ho : off < F.sz) (h1 : y.cells = #[y]) (h2 : y.oneCell' = true)
    (ha : F.cells a = (F.cells xs[j]).set off y) (u : Upd l k ⟨o, flat (xs.set j a), sz⟩ l') (hK : ∀ h', Prec h h' → Mem h0 h' l' → K undef h') : okK ((aStore P t (.pointer (some ⟨o.getD 0, j * sz + off, none⟩)) y h).map (undef, ·)) K := by
  obtain ⟨i, rfl⟩ := m.isSome q (by omega) hj
  exact stoe a m (q := ⟨q.ok⟩) rfl hz hj ho h1 h2 ha (u := u) hK
theorem stw_o {t j : Nat} [T : RwT P t sz] (m : Mem h0 h l) (q : EntO l o k (flat xs) sz) (hz : sz = F.sz) (hj : j < xs.length) (u : Upd l k ⟨o, flat (xs.set j a), sz⟩ l')
    (hK : ∀ h', Prec h h' → Mem h0 h' l' → K undef h') : okK ((aStore P t (.pointer (some ⟨o.getD 0, j * sz, none⟩)) (fv a) h).map (undef, ·)) K := by
  obtain ⟨d, e1, e2, e3, e4⟩ := row_of T.ok
  obtain ⟨i, rfl⟩ := m.isSome q (by omega) hj
  exact stoe_f m ⟨q.ok⟩ hz hj u hK
end
/-- An append. -/
theorem app_o {t e by_ m : Nat} {xs : List Value} [T : SlT P t e sz by_] (M : Mem h0 h l) (s : IsSl v o n) (q : EntO l o k cs sz) (hn : cs.length = n * sz) (r : Src sz h x m xs) (hb : (n + m) * by_ ≤ 2 ^ 46 ∧ n + m ≤ 2 ^ 46)
    (hK : ∀ (i : Nat) (h' : Heap), Prec h h' → Mem h0 h' (l.set k ⟨some i, cs ++ xs, sz⟩) → K (.slice (some ⟨i, 0, none⟩) (n + m) 0) h') : okK (aAppend P t t v x h) K := by
  cases o with
  | none => obtain ⟨rfl, rfl⟩ := s; exact app_own (o := none) M hn r hb hK
  | some i =>
    obtain ⟨c, rfl, hc⟩ := s
    rcases hc with rfl | rfl
    · exact app_own (o := some i) M hn r hb hK
    · have e := app_at (c := n + 1) T.ok r.1 r.2.1 r.2.2 hb (M.get q.ok) (off := 0) (by omega)
      have hm := r.2.2
      rw [if_pos ⟨by omega, by omega⟩, List.drop_zero, ← hn, List.take_length] at e
      refine ok_i e (hK _ _ ⟨Stab.of_pre (pre_new _ _ _)⟩ ?_)
      have m1 := M.ext (pre_new h (cs ++ xs) sz)
      -- the old array stays; its entry is given up
      have hk2 : k < l.length := (List.getElem?_eq_some_iff.mp q.ok).1
      have m2 : Mem h0 h (l.set k ⟨none, [], sz⟩) := by
        refine ⟨M.keep, fun e' he => ?_, M.nd.sublist fm_sub⟩
        obtain ⟨j, hj⟩ := List.mem_iff_getElem?.mp he
        rw [List.getElem?_set] at hj
        split at hj
        · cases hj; exact ⟨fun _ => rfl, fun i' hi => by cases hi⟩
        · exact M.has e' (List.mem_of_getElem? hj)
      have m3 := m2.put (k := k) (sz0 := sz) ⟨[], by simp [hk2]⟩ (cs ++ xs) sz
      rw [List.set_set] at m3
      exact m3

theorem flat_snoc {α : Type} [F : Flat α] (xs : List α) (a : α) : flat (xs ++ [a]) = flat xs ++ F.cells a := by simp [flat]
/-! ### calls that give new memory -/
/-- What a call leaves besides what was there: an array. -/
def OwnNew (h h' : Heap) (o : Option Nat) (cs : List Value) (sz : Nat) : Prop := ∀ (g : Base) (l : List E), Mem g h l → Mem g h' (⟨o, cs, sz⟩ :: l)
theorem Mem.cons_of {g : Base} {e : E} (m : Mem g h l) (m2 : Mem h h' [e]) : Mem g h' (e :: l) := by
  have m1 := m.ext m2.pre
  refine ⟨m1.keep, fun e' he => ?_, ?_⟩
  · rcases List.mem_cons.mp he with rfl | he
    · have := m2.has e' (by simp)
      exact ⟨this.1, fun i hi => ⟨⟨Nat.le_trans m.keep.pre.length_le (this.2 i hi).1.1, fun q hq e => by have h7 := (List.getElem?_eq_some_iff.mp (m.keep.fr q hq).2).1; have h8 : h.length ≤ i := (this.2 i hi).1.1; omega⟩, (this.2 i hi).2⟩⟩
    · exact m1.has e' he
  · rw [List.filterMap_cons]
    split
    · exact m.nd
    · rename_i i hi
      rw [List.nodup_cons]
      refine ⟨fun hh => ?_, m.nd⟩
      obtain ⟨e', he, hi'⟩ := List.mem_filterMap.mp hh
      have := m.lt he hi'
      have := ((m2.has e (by simp)).2 i hi).1.1
      change h.length ≤ i at this
      omega
theorem OwnNew.of (m : Mem h h' (⟨o, cs, sz⟩ :: l)) : OwnNew h h' o cs sz := fun g l' m' => by
  refine Mem.cons_of m' ⟨m.keep, fun e he => ?_, ?_⟩
  · have : e = ⟨o, cs, sz⟩ := by simpa using he
    subst this
    exact m.has _ (by simp)
  · cases o <;> simp [List.filterMap_cons]
/-- A call: its new memory, its result. -/
theorem call_d {f : FuncId} {args : List Value} {Q : Value → Heap → Prop} (d : DetP P f args h fun v g => h <+: g ∧ Q v g) (m : Mem h0 h l) (hK : ∀ v g, h <+: g → Prec h g → Mem h0 g l → Q v g → K v g) : callK P (some (f, args)) h K := by
  obtain ⟨v, g, h1, h2, h3⟩ := d
  exact ⟨⟨v, g, h1, hK v g h2 ⟨Stab.of_pre h2⟩ (m.ext h2) h3⟩⟩
theorem calld_d {f : FuncId} {args : List Value} {Q : Value → Heap → Prop} (d : DetP P f args h fun v g => h <+: g ∧ Q v g) (m : Mem h0 h l) (hK : ∀ v g, h <+: g → Prec h g → Mem h0 g l → Q v g → K v g) : callKD P (some (f, args)) h K := by
  obtain ⟨v, g, h1, h2, h3⟩ := d
  exact ⟨⟨v, g, h1, hK v g h2 ⟨Stab.of_pre h2⟩ (m.ext h2) h3⟩⟩
section
variable {α : Type} [F : Flat α] [Df α] {xs : List α} {a : α}
theorem ldf_d {t j off : Nat} {y : Value} [T : PlT P t] (m : Mem h0 h l) (q : EntO l o k (flat xs) sz) (hz : sz = F.sz) (hj : j < xs.length) (ho : off < F.sz) (hy : (F.cells (gt xs j))[off]? = some y) (hK : K y h) : vK (aLoad P t (.pointer (some ⟨o.getD 0, j * sz + off, none⟩)) h) h K :=
  ldf_o m q hz hj ho (by rw [gt_at hj]; exact hy) hK
theorem ldw_d {t j : Nat} [T : RwT P t sz] (m : Mem h0 h l) (q : EntO l o k (flat xs) sz) (hz : sz = F.sz) (hj : j < xs.length) (hK : K (fv (gt xs j)) h) : vK (aLoad P t (.pointer (some ⟨o.getD 0, j * sz, none⟩)) h) h K :=
  ldw_o m q hz hj (by rw [gt_at hj]; exact hK)
theorem stf_d {t j off : Nat} {y : Value} (a : α) [T : OneT P t] (m : Mem h0 h l) (q : EntO l o k (flat xs) sz) (hz : sz = F.sz) (hj : j < xs.length) (ho : off < F.sz) (h1 : y.cells = #[y]) (h2 : y.oneCell' = true)
    (ha : F.cells a = (F.cells (gt xs j)).set off y) (u : Upd l k ⟨o, flat (xs.set j a), sz⟩ l') (hK : ∀ h', Prec h h' → Mem h0 h' l' → K undef h') : okK ((aStore P t (.pointer (some ⟨o.getD 0, j * sz + off, none⟩)) y h).map (undef, ·)) K :=
  stf_o a m q hz hj ho h1 h2 (by rw [gt_at hj]; exact ha) u hK
end
theorem fao_e {t j off ft b a c : Nat} [T : FdT P t j off ft] (hK : K (.pointer (some ⟨b, a * c + off, none⟩)) h) : vK (aFieldAddr P t (.pointer (some ⟨b, a * c, none⟩)) j) h K := fao hK
theorem box_ap {t : Nat} (m : Mem h0 h l) (hK : ∀ (i : Nat) (h' : Heap) (z : Nat), h <+: h' → Prec h h' → Mem h0 h' (⟨some i, cs, z⟩ :: l) → K (.pointer (some ⟨i, 0, none⟩)) h') : okK (some (aBox P t (.agg cs.toArray) h)) K :=
  ok_i rfl (hK h.length _ _ (pre_new _ _ _) ⟨Stab.of_pre (pre_new _ _ _)⟩ (m.add _ _))
/-! ### results that stand in cells -/
theorem load_w {t i : Nat} [T : RwT P t n] (m : Mem h0 h l) (q : Ent l i k cs sz) (hz : cs.length = n) : aLoad P t (.pointer (some ⟨i, 0, none⟩)) h = some (.agg cs.toArray) := by
  have := ldo_w (T := T) (K := fun v g => v = .agg cs.toArray ∧ g = h) m q hz ⟨rfl, rfl⟩
  obtain ⟨this⟩ := this
  split at this
  · rename_i v e; rw [e, this.1]
  · exact this.elim
theorem load_1 {t i off : Nat} {y : Value} [T : PlT P t] (m : Mem h0 h l) (q : Ent l i k cs sz) (hy : cs[off]? = some y) : aLoad P t (.pointer (some ⟨i, off, none⟩)) h = some y := by
  have := ldo (T := T) (K := fun v g => v = y ∧ g = h) m (q := q) hy ⟨rfl, rfl⟩
  obtain ⟨this⟩ := this
  split at this
  · rename_i v e; rw [e, this.1]
  · exact this.elim
section
variable {R : Value → Heap → Prop} {a b c d : Option Value}
theorem rt_w1 {t i : Nat} {l2 : List (Option Value)} [T : RwT P t n] (m : Mem h0 h l) (q : Ent l i k cs sz) (hz : cs.length = n) (hr : retV (some (.agg cs.toArray) :: l2) R h) : retV (aLoad P t (.pointer (some ⟨i, 0, none⟩)) h :: l2) R h := by rw [load_w m q hz]; exact hr
theorem rt_w2 {t i : Nat} {l2 : List (Option Value)} [T : RwT P t n] (m : Mem h0 h l) (q : Ent l i k cs sz) (hz : cs.length = n) (hr : retV (a :: some (.agg cs.toArray) :: l2) R h) : retV (a :: aLoad P t (.pointer (some ⟨i, 0, none⟩)) h :: l2) R h := by rw [load_w m q hz]; exact hr
theorem rt_11 {t i off : Nat} {y : Value} {l2 : List (Option Value)} [T : PlT P t] (m : Mem h0 h l) (q : Ent l i k cs sz) (hy : cs[off]? = some y) (hr : retV (some y :: l2) R h) : retV (aLoad P t (.pointer (some ⟨i, off, none⟩)) h :: l2) R h := by rw [load_1 m q hy]; exact hr
theorem rt_12 {t i off : Nat} {y : Value} {l2 : List (Option Value)} [T : PlT P t] (m : Mem h0 h l) (q : Ent l i k cs sz) (hy : cs[off]? = some y) (hr : retV (a :: some y :: l2) R h) : retV (a :: aLoad P t (.pointer (some ⟨i, off, none⟩)) h :: l2) R h := by rw [load_1 m q hy]; exact hr
end
/-! ### nil, or not -/
theorem snil_i {t e by_ n c : Nat} {a : Option Addr} [T : SlT P t e sz by_] (h1 : a = none → K (.bool true) h) (h2 : ¬ a = none → K (.bool false) h) : vK (aBin P .eql t (.slice a n c) (.slice none 0 0)) h K := by
  obtain ⟨hu, _⟩ := sliceT_of T.ok
  refine vk_i (v := .bool a.isNone) ?_ ?_
  · simp [aBin, hu]
  · cases a with
    | none => exact h1 rfl
    | some a => exact h2 (by simp)
theorem L.none_len {α : Type} [R : Rep α] {l : List α} {n c : Nat} (s : L h (.slice none n c) l) : l = [] := by
  obtain ⟨cs, _, s⟩ := s.ro
  rcases s with ⟨_, _, _, _, e⟩ | ⟨i, o, c, a, e, _⟩
  · exact List.length_eq_zero_iff.mp e
  · cases e
theorem L.shape {α : Type} [R : Rep α] {l : List α} (s : L h v l) : ∃ b c, v = .slice b l.length c ∧ (b = none ∨ ∃ i o, b = some ⟨i, o, none⟩) := by
  obtain ⟨cs, _, s⟩ := s.ro
  rcases s with ⟨o, c, rfl, _, e⟩ | ⟨i, o, c, a, rfl, _⟩
  · refine ⟨_, c, by rw [e], ?_⟩
    cases o with
    | none => exact .inl rfl
    | some p => exact .inr ⟨_, _, rfl⟩
  · exact ⟨_, c, rfl, .inr ⟨_, _, rfl⟩⟩
/-- A struct of a single cell and a list. -/
theorem vb_as {α : Type} [R : Rep α] {l : List α} {a y : Value} {Q : Prop} [S : Stb h1 h] (ha : flatV a = true) (s : L h1 y l) (hq : Q) : VB h.length (.agg #[a, y]) ∧ Q := by
  refine ⟨fun c hc => ?_, hq⟩
  have hv := (s.mono S.st).vb
  obtain ⟨b, q, rfl, _⟩ := s.shape
  simp at hc
  rcases hc with rfl | rfl
  · unfold flatV at ha
    split at ha <;> first | trivial | cases ha
  · exact hv
theorem vb_ao {a y : Value} {Q : Prop} (ha : flatV a = true) (s : IsSl y o n) (m : Mem h0 h l) (q : EntO l o k cs sz) (hq : Q) : VB h.length (.agg #[a, y]) ∧ Q := by
  refine ⟨fun c hc => ?_, hq⟩
  have hv := (s.vb m q (Q := True) trivial).1
  obtain ⟨b, d, rfl⟩ := s.isS
  simp at hc
  rcases hc with rfl | rfl
  · unfold flatV at ha
    split at ha <;> first | trivial | cases ha
  · exact hv
/-! ### lists of one's own, given back -/
theorem IsSl.ro {α : Type} [F : Flat α] {xs : List α} (s : IsSl v o xs.length) (m : Mem h0 h l) (q : l[k]? = some ⟨o, flat xs, F.sz⟩) (hb : xs.length ≤ 2 ^ 50) : L (frz h0.g.length h) v xs := by
  cases o with
  | none =>
    obtain ⟨rfl, e⟩ := s
    have : xs = [] := List.length_eq_zero_iff.mp e
    subst this
    exact L.nil _
  | some i =>
    obtain ⟨c, rfl, hc⟩ := s
    exact ret_flat m q hb (by omega)
end Go.AM
