/-
  Contracts: lists of numbers, rows, counting loops.
-/
import Derived.Test.YtgmgmkhenhaniaaAmX
set_option linter.unusedSimpArgs false
set_option linter.unusedVariables false
namespace Go.AM
variable {P : Program} {h h' h0 h1 h2 : Heap} {ρ : Place} {w : World} {K : Value → Heap → Prop} {v x : Value}

/-! ### lists of numbers -/
def IntS (h : Heap) (v : Value) (xs : List Int) : Prop := Seg 1 h v xs.length (xs.map (.int .i64))
theorem IntS.mono {xs : List Int} (s : IntS h v xs) (hs : Sub h h') : IntS h' v xs := Seg.mono s hs
/-- Sets as words of 64 bits. -/
def WS (h : Heap) (v : Value) (ws : List Nat) : Prop := Seg 1 h v ws.length (ws.map fun n : Nat => .int .u64 (n : Int))
theorem WS.mono {xs : List Nat} (s : WS h v xs) (hs : Sub h h') : WS h' v xs := Seg.mono s hs
/-- A list of lists of numbers. -/
def RowsS (h : Heap) (v : Value) (xss : List (List Int)) : Prop := ∃ rs : List Value, rs.length = xss.length ∧ Seg 1 h v xss.length rs ∧ ∀ k, k < xss.length → IntS h (rs.getD k undef) (xss.getD k [])
theorem RowsS.mono {xss : List (List Int)} (s : RowsS h v xss) (hs : Sub h h') : RowsS h' v xss := by
  obtain ⟨rs, h1, h2, h3⟩ := s
  exact ⟨rs, h1, h2.mono hs, fun k hk => (h3 k hk).mono hs⟩
def isPlain (P : Program) (e : TypeId) : Bool := match P.underlying e with | some d => !d.isRow | none => false
theorem Seg.one_slice {sz n : Nat} {cs : List Value} (s : Seg sz h v n cs) : v.oneCell' = true := by
  rcases s.2 with ⟨_, _, rfl, _, _⟩ | ⟨i, o, c, a, rfl, _⟩ <;> rfl
theorem leni_i {t e by_ : Nat} {xs : List Int} (ht : sliceT P t e 1 by_ = true) (s : IntS h1 x xs) (hk : K (.int .i64 (xs.length : Int)) h) : vK (aLen P t x) h K := len_i ht s hk
theorem idxi_i {t e by_ k : Nat} {xs : List Int} (ht : sliceT P t e 1 by_ = true) (s : IntS h1 x xs) (hk : k < xs.length) (hK : K (elt 1 x k) h) : vK (aIndexAddr P t x (.int .i64 (k : Int))) h K := idx_i ht s hk hK
theorem gd_at {α : Type} {xs : List α} {j : Nat} (d : α) (hj : j < xs.length) : xs.getD j d = xs[j] := by simp [List.getD, hj]
theorem gd_mem {α : Type} {xs : List α} {j : Nat} (d : α) (hj : j < xs.length) : xs.getD j d ∈ xs := by rw [gd_at d hj]; exact List.getElem_mem _
theorem mem_gd {α : Type} {xs : List α} {x : α} (d : α) (hx : x ∈ xs) : ∃ j, j < xs.length ∧ xs.getD j d = x := by
  obtain ⟨j, hj, e⟩ := List.mem_iff_getElem.mp hx
  exact ⟨j, hj, by rw [gd_at d hj]; exact e⟩
theorem take_gd {α : Type} {xs : List α} {j : Nat} (d : α) (hj : j < xs.length) : xs.take (j + 1) = xs.take j ++ [xs.getD j d] := by
  rw [gd_at d hj, List.take_succ_eq_append_getElem hj]
theorem IntS.lt {xs : List Int} (s : IntS h v xs) : xs.length ≤ 2 ^ 50 := s.1.2
theorem WS.lt {xs : List Nat} (s : WS h v xs) : xs.length ≤ 2 ^ 50 := s.1.2
theorem RowsS.lt {xss : List (List Int)} (s : RowsS h v xss) : xss.length ≤ 2 ^ 50 := by obtain ⟨_, _, s, _⟩ := s; exact s.1.2

/-! ### counting loops -/
def upI (J : Nat → Heap → Prop) (n : Nat) (vs : List Value) (h : Heap) : Prop := ∃ k : Nat, vs = [.int .i64 (k : Int)] ∧ k ≤ n ∧ J k h
def upμ (n : Nat) (vs : List Value) (_ : Heap) : Nat := match vs with | [.int _ k] => n - k.toNat | [_, .int _ k] => n - k.toNat | [_, _, .int _ k] => n - k.toNat | _ => 0
theorem loop1 (n : Nat) (J : Nat → Heap → Prop) {Body : (List Value → Heap → Prop) → (List Value → Heap → Nat) → Heap → Tmps → Value → Prop} (h0 : J 0 h)
    (hs : ∀ (k : Nat) (h2 : Heap) (j : Tmps), k ≤ n → J k h2 → Body (upI J n) (upμ n) h2 j (.int .i64 (k : Int))) :
    ∃ (I : List Value → Heap → Prop) (μ : List Value → Heap → Nat), I [.int .i64 0] h ∧ ∀ (h2 : Heap) (j : Tmps) (v1 : Value), I [v1] h2 → Body I μ h2 j v1 := by
  refine ⟨upI J n, upμ n, ⟨0, rfl, Nat.zero_le _, h0⟩, ?_⟩
  rintro h2 j v1 ⟨k, e, hk, hJ⟩
  cases e
  exact hs k h2 j hk hJ
theorem next1 {n k : Nat} {J : Nat → Heap → Prop} (hk : k < n) (hJ : J (k + 1) h) : upI J n [.int .i64 ((k + 1 : Nat) : Int)] h ∧ upμ n [.int .i64 ((k + 1 : Nat) : Int)] h < upμ n [.int .i64 (k : Int)] h2 :=
  ⟨⟨k + 1, rfl, hk, hJ⟩, by simp only [upμ]; omega⟩
def upI2 (J : Nat → Value → Heap → Prop) (n : Nat) (vs : List Value) (h : Heap) : Prop := ∃ (k : Nat) (v : Value), vs = [v, .int .i64 (k : Int)] ∧ k ≤ n ∧ J k v h
theorem loop2 (n : Nat) (J : Nat → Value → Heap → Prop) {Body : (List Value → Heap → Prop) → (List Value → Heap → Nat) → Heap → Tmps → Value → Value → Prop} (h0 : J 0 v h)
    (hs : ∀ (k : Nat) (v : Value) (h2 : Heap) (j : Tmps), k ≤ n → J k v h2 → Body (upI2 J n) (upμ n) h2 j v (.int .i64 (k : Int))) :
    ∃ (I : List Value → Heap → Prop) (μ : List Value → Heap → Nat), I [v, .int .i64 0] h ∧ ∀ (h2 : Heap) (j : Tmps) (v1 v2 : Value), I [v1, v2] h2 → Body I μ h2 j v1 v2 := by
  refine ⟨upI2 J n, upμ n, ⟨0, v, rfl, Nat.zero_le _, h0⟩, ?_⟩
  rintro h2 j v1 v2 ⟨k, v, e, hk, hJ⟩
  cases e
  exact hs k _ h2 j hk hJ
theorem next2 {n k : Nat} {J : Nat → Value → Heap → Prop} {v' : Value} (hk : k < n) (hJ : J (k + 1) v h) : upI2 J n [v, .int .i64 ((k + 1 : Nat) : Int)] h ∧ upμ n [v, .int .i64 ((k + 1 : Nat) : Int)] h < upμ n [v', .int .i64 (k : Int)] h2 :=
  ⟨⟨k + 1, v, rfl, hk, hJ⟩, by simp only [upμ]; omega⟩

/-! ### the first that is so -/
/-! ### words of 64 bits -/
/-! ### what is new -/
/-- What holds by what has been made since. -/
def Only (h h' : Heap) (Q : Heap → Prop) : Prop := ∀ g : Heap, (∀ (j : Nat) (a : Arr), h.length ≤ j → h'[j]? = some (.arr a) → g[j]? = some (.arr a)) → Q g
theorem Only.self {Q : Heap → Prop} (o : Only h h' Q) : Q h' := o h' fun _ _ _ e => e
theorem Only.mono {Q : Heap → Prop} (o : Only h h1 Q) (hs : Sub h1 h2) : Only h h2 Q := fun g hg => o g fun j a hj e => hg j a hj (hs.2 j a e)
theorem Own.only {sz n : Nat} {cs : List Value} (o : Own sz h h' v n cs) : Only h h' fun g => Seg sz g v n cs := by
  intro g hg
  have s := o.seg
  obtain ⟨l, _, o⟩ := o
  refine ⟨s.1, o.imp (fun ⟨e1, e2⟩ => ⟨none, 0, e1, fun p hp => (by cases hp), e2⟩) ?_⟩
  rintro ⟨i, e1, e2, e3⟩
  exact ⟨i, 0, 0, _, e1, hg i _ e2 e3, rfl, by simp [l.1], by simp [← l.1]⟩
theorem Own.kill {sz n : Nat} {cs : List Value} (o : Own sz h0 h v n cs) {Q : Heap → Prop} (q : Only h h' Q) : Q (kill v h') := by
  obtain ⟨l, _, o⟩ := o
  refine q _ fun j a hj e => ?_
  rcases o with ⟨rfl, _⟩ | ⟨i, rfl, hi, e3⟩
  · exact e
  · have := (List.getElem?_eq_some_iff.mp e3).1
    simp only [AM.kill]
    rw [List.getElem?_set, if_neg (by omega)]; exact e

/-! ### a list copied -/
def upI3 (J : Nat → Value → Value → Heap → Prop) (n : Nat) (vs : List Value) (h : Heap) : Prop := ∃ (k : Nat) (v u : Value), vs = [v, u, .int .i64 (k : Int)] ∧ k ≤ n ∧ J k v u h
theorem loop3 (n : Nat) (J : Nat → Value → Value → Heap → Prop) {u : Value} {Body : (List Value → Heap → Prop) → (List Value → Heap → Nat) → Heap → Tmps → Value → Value → Value → Prop} (h0 : J 0 v u h)
    (hs : ∀ (k : Nat) (v u : Value) (h2 : Heap) (j : Tmps), k ≤ n → J k v u h2 → Body (upI3 J n) (upμ n) h2 j v u (.int .i64 (k : Int))) :
    ∃ (I : List Value → Heap → Prop) (μ : List Value → Heap → Nat), I [v, u, .int .i64 0] h ∧ ∀ (h2 : Heap) (j : Tmps) (v1 v2 v3 : Value), I [v1, v2, v3] h2 → Body I μ h2 j v1 v2 v3 := by
  refine ⟨upI3 J n, upμ n, ⟨0, v, u, rfl, Nat.zero_le _, h0⟩, ?_⟩
  rintro h2 j v1 v2 v3 ⟨k, v, u, e, hk, hJ⟩
  cases e
  exact hs k _ _ h2 j hk hJ
theorem next3 {n k : Nat} {J : Nat → Value → Value → Heap → Prop} {u v' u' : Value} (hk : k < n) (hJ : J (k + 1) v u h) : upI3 J n [v, u, .int .i64 ((k + 1 : Nat) : Int)] h ∧ upμ n [v, u, .int .i64 ((k + 1 : Nat) : Int)] h < upμ n [v', u', .int .i64 (k : Int)] h2 :=
  ⟨⟨k + 1, v, u, rfl, hk, hJ⟩, by simp only [upμ]; omega⟩
/-! ### the lowest bit -/
/-! ### structs of one's own -/
theorem ldc_i {e : TypeId} {i off : Nat} {a : Arr} {y : Value} (hr : isPlain P e = true) (hi : h[i]? = some (.arr a)) (hc : a.cells[off]? = some y) (hK : K y h) : vK (aLoad P e (.pointer (some ⟨i, off, none⟩)) h) h K := by
  refine vk_i (v := y) ?_ hK
  unfold isPlain at hr
  split at hr
  · rename_i d hd
    simp only [aLoad, hi, hd]
    rw [if_neg (by simpa using hr)]
    exact hc
  · cases hr
theorem setSeg_one (l : List Value) (off : Nat) (x : Value) : setSeg l off [x] = l.set off x := by
  first
    | rfl
    | (simp [setSeg]; done)
    | skip
theorem st_i {e : TypeId} {i off : Nat} {a : Arr} {y : Value} (hs : szOf P e = some 1) (hi : h[i]? = some (.arr a)) (hro : a.ro = false) (ho : off < a.cells.length) (h1 : y.cells = #[y]) (h2 : y.oneCell' = true)
    (hK : K undef (h.set i (.arr { a with cells := a.cells.set off y }))) : okK ((aStore P e (.pointer (some ⟨i, off, none⟩)) y h).map (undef, ·)) K := by
  refine ok_i ?_ hK
  simp only [aStore, hi, hs]
  rw [if_pos ⟨hro, by rw [h1]; rfl, by omega, by rw [h1]; simp [h2]⟩, h1]
  simp [setSeg_one]
/-- All but one array stays. -/
def KeptB (i : Nat) (h h' : Heap) : Prop := h.length ≤ h'.length ∧ ∀ (j : Nat) (a : Arr), j ≠ i → h[j]? = some (.arr a) → h'[j]? = some (.arr a)
theorem KeptB.refl (i : Nat) (h : Heap) : KeptB i h h := ⟨Nat.le_refl _, fun _ _ _ e => e⟩
theorem KeptB.trans {i : Nat} (a : KeptB i h h1) (b : KeptB i h1 h2) : KeptB i h h2 := ⟨Nat.le_trans a.1 b.1, fun j x hn e => b.2 j x hn (a.2 j x hn e)⟩
theorem Sub.kept {i : Nat} (s : Sub h h') : KeptB i h h' := ⟨s.1, fun j a _ e => s.2 j a e⟩
theorem KeptB.set (i : Nat) (h : Heap) (x : Ob) : KeptB i h (h.set i x) := ⟨by simp, fun j a hn e => by rw [List.getElem?_set, if_neg (Ne.symm hn)]; exact e⟩
theorem Seg.keep {i n sz : Nat} {cs : List Value} {a : Arr} (s : Seg sz h v n cs) (k : KeptB i h h') (hi : h[i]? = some (.arr a)) (he : a.esz ≠ sz) : Seg sz h' v n cs := by
  obtain ⟨l, s⟩ := s
  refine ⟨l, s.imp (fun ⟨o, c, e1, e2, e3⟩ => ⟨o, c, e1, fun p hp => Nat.lt_of_lt_of_le (e2 p hp) k.1, e3⟩) ?_⟩
  rintro ⟨j, o, c, b, e1, e2, e3, e4⟩
  refine ⟨j, o, c, b, e1, k.2 j b ?_ e2, e3, e4⟩
  rintro rfl
  rw [hi] at e2; cases e2
  exact he e3
theorem RowsS.keep {i : Nat} {xss : List (List Int)} {a : Arr} (s : RowsS h v xss) (k : KeptB i h h') (hi : h[i]? = some (.arr a)) (he : a.esz ≠ 1) : RowsS h' v xss := by
  obtain ⟨rs, h1, h2, h3⟩ := s
  exact ⟨rs, h1, h2.keep k hi he, fun j hj => Seg.keep (h3 j hj) k hi he⟩

theorem seg_vb {sz n : Nat} {cs : List Value} (s : Seg sz h v n cs) : VB h.length v := by
  rcases s.2 with ⟨o, c, rfl, e2, rfl⟩ | ⟨i, o, c, a, rfl, e1, _⟩
  · cases o with
    | none => trivial
    | some p => exact e2 p rfl
  · exact (List.getElem?_eq_some_iff.mp e1).1
theorem seg_slice {sz n : Nat} {cs : List Value} (s : Seg sz h v n cs) : ∃ o l c, v = .slice o l c := by
  rcases s.2 with ⟨o, c, rfl, _⟩ | ⟨i, o, c, a, rfl, _⟩ <;> exact ⟨_, _, _, rfl⟩

theorem KeptB.sub {i : Nat} (k : KeptB i h1 h2) (s : Sub h h1) (hi : h.length ≤ i) : Sub h h2 :=
  ⟨Nat.le_trans s.1 k.1, fun j a e => k.2 j a (by have := (List.getElem?_eq_some_iff.mp e).1; omega) (s.2 j a e)⟩

theorem pre_set {i : Nat} (p : h <+: h1) (hi : h.length ≤ i) (x : Ob) : h <+: h1.set i x := by
  obtain ⟨t, rfl⟩ := p
  exact ⟨_, by rw [List.set_append_right _ _ hi]⟩
/-- Two slices of one's own, in arrays apart. -/
def Two (sz sz2 : Nat) (h0 h : Heap) (v : Value) (n : Nat) (cs : List Value) (w : Value) (m : Nat) (ds : List Value) : Prop := Own sz h0 h v n cs ∧ Own sz2 h0 (kill v h) w m ds
theorem Two.nil (sz sz2 : Nat) (hp : h0 <+: h) : Two sz sz2 h0 h (.slice none 0 0) 0 [] (.slice none 0 0) 0 [] := ⟨Own.nil _ hp, Own.nil _ hp⟩
theorem Own.of_kill {sz n : Nat} {cs : List Value} {w : Value} (p : h0 <+: h) (o : Own sz h0 (AM.kill v h) w n cs) : Own sz h0 h w n cs := by
  obtain ⟨l, _, o⟩ := o
  exact ⟨l, p, o.imp id fun ⟨i, e1, e2, e3⟩ => ⟨i, e1, e2, (kill_sub v h).2 _ _ e3⟩⟩
theorem Two.symm {sz sz2 n m : Nat} {cs ds : List Value} {w : Value} (t : Two sz sz2 h0 h v n cs w m ds) : Two sz2 sz h0 h w m ds v n cs := by
  obtain ⟨a, b⟩ := t
  have b' := b.of_kill a.pre
  refine ⟨b', a.1, b'.killpre, a.2.2.imp id ?_⟩
  rintro ⟨i, e1, e2, e3⟩
  refine ⟨i, e1, e2, ?_⟩
  rcases b.2.2 with ⟨rfl, _⟩ | ⟨j, rfl, _, f3⟩
  · exact e3
  · subst e1
    simp only [AM.kill] at f3 ⊢
    obtain ⟨_, hne⟩ := set_get (x := .dead) f3
    rw [List.getElem?_set, if_neg (Ne.symm hne)]; exact e3
theorem Two.ext {sz sz2 n m : Nat} {cs ds : List Value} {w : Value} (t : Two sz sz2 h0 h v n cs w m ds) (hp : h <+: h') : Two sz sz2 h0 h' v n cs w m ds := by
  obtain ⟨o, s⟩ := t.1.ext hp
  obtain ⟨l, p, b⟩ := t.2
  exact ⟨o, l, o.killpre, b.imp id fun ⟨i, e1, e2, e3⟩ => ⟨i, e1, e2, s.2 _ _ e3⟩⟩
/-! ### made slices of single cells -/
theorem zeroRow_one (z0 : Value) (n : Nat) : (zeroRow #[z0] n).toList = List.replicate n z0 := by
  refine List.ext_getElem? fun k => ?_
  simp only [zeroRow, Array.toList_map, Array.toList_range, List.getElem?_map, List.getElem?_replicate]
  by_cases hk : k < n
  · rw [if_pos hk, List.getElem?_range hk]
    simp [Nat.mod_one]
  · rw [if_neg hk, List.getElem?_eq_none (by simp; omega)]; rfl
def zeroB (P : Program) (e : TypeId) (z0 : Value) : Prop := ∃ z, zeroOf P e = some z ∧ z.cells = #[z0]
theorem mk1_i {t e by_ : Nat} {z0 : Value} {n : Int} (ht : sliceT P t e 1 by_ = true) (hz : zeroB P e z0) (h0 : 0 ≤ n) (hb : n * by_ ≤ 2 ^ 46 ∧ n ≤ 2 ^ 46) (hK : K (.slice (some ⟨h.length, 0, none⟩) n.toNat (n.toNat + 1)) (newArr h (List.replicate n.toNat z0) 1)) :
    okK (aMakeSlice P t (.int .i64 n) (.int .i64 n) h) K := by
  obtain ⟨hu, hsz, z, hz1, hby, g1, g2, g3⟩ := sliceT_of ht
  obtain ⟨z', hz2, hc⟩ := hz
  rw [hz1] at hz2
  cases hz2
  refine ok_i ?_ hK
  unfold aMakeSlice
  rw [hu]
  simp only [hsz, hz1, hby]
  rw [if_pos ⟨h0, Int.le_refl _, hb.1, hb.2, g1, by omega⟩, hc, Nat.mul_one, zeroRow_one]
end Go.AM
