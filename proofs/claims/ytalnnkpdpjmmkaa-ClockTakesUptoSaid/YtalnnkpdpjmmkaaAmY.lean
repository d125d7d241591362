/-
  Contracts: lists of numbers, rows, counting loops.
-/
import Derived.Test.YtalnnkpdpjmmkaaAmX
set_option linter.unusedSimpArgs false
set_option linter.unusedVariables false
namespace Go.AM
variable {P : Program} {h h' h0 h1 h2 : Heap} {ρ : Place} {w : World} {K : Value → Heap → Prop} {v x : Value}

/-! ### lists of numbers -/
def IntS (h : Heap) (v : Value) (xs : List Int) : Prop := Seg 1 h v xs.length (xs.map (.int .i64))
theorem IntS.mono {xs : List Int} (s : IntS h v xs) (hs : Sub h h') : IntS h' v xs := Seg.mono s hs
/-- Sets as words of 64 bits. -/
def WS (h : Heap) (v : Value) (ws : List Nat) : Prop := Seg 1 h v ws.length (ws.map fun n : Nat => .int .u64 (n : Int))
theorem WS.mono {xs : List Nat} (s : WS h v xs) (hs : Sub h h') : WS h' v xs := Seg.mono s hs
/-- A list of lists of numbers. -/
def RowsS (h : Heap) (v : Value) (xss : List (List Int)) : Prop := ∃ rs : List Value, rs.length = xss.length ∧ Seg 1 h v xss.length rs ∧ ∀ k, k < xss.length → IntS h (rs.getD k undef) (xss.getD k [])
theorem RowsS.mono {xss : List (List Int)} (s : RowsS h v xss) (hs : Sub h h') : RowsS h' v xss := by
  obtain ⟨rs, h1, h2, h3⟩ := s
  exact ⟨rs, h1, h2.mono hs, fun k hk => (h3 k hk).mono hs⟩
def isPlain (P : Program) (e : TypeId) : Bool := match P.underlying e with | some d => !d.isRow | none => false
theorem Seg.one_slice {sz n : Nat} {cs : List Value} (s : Seg sz h v n cs) : v.oneCell' = true := by
  rcases s.2 with ⟨_, _, rfl, _, _⟩ | ⟨i, o, c, a, rfl, _⟩ <;> rfl
theorem ldi_i {t e by_ k : Nat} {xs : List Int} (ht : sliceT P t e 1 by_ = true) (hr : isPlain P e = true) (s : IntS h x xs) (hk : k < xs.length) (hK : K (.int .i64 (xs.getD k 0)) h) : vK (aLoad P e (elt 1 x k) h) h K :=
  ld_i ht hr s hk (y := .int .i64 (xs.getD k 0)) (by simp [hk]) hK
theorem ldw_i {t e by_ k : Nat} {xs : List Nat} (ht : sliceT P t e 1 by_ = true) (hr : isPlain P e = true) (s : WS h x xs) (hk : k < xs.length) (hK : K (.int .u64 (xs.getD k 0 : Nat)) h) : vK (aLoad P e (elt 1 x k) h) h K :=
  ld_i ht hr s hk (y := .int .u64 (xs.getD k 0 : Nat)) (by simp [hk]) hK
theorem ldr_i {t e by_ k : Nat} {xss : List (List Int)} (ht : sliceT P t e 1 by_ = true) (hr : isPlain P e = true) (s : RowsS h x xss) (hk : k < xss.length) (hK : ∀ r, IntS h r (xss.getD k []) → K r h) : vK (aLoad P e (elt 1 x k) h) h K := by
  obtain ⟨rs, h1, h2, h3⟩ := s
  exact ld_i ht hr h2 hk (y := rs.getD k undef) (by simp [h1, hk]) (hK _ (h3 k hk))
theorem leni_i {t e by_ : Nat} {xs : List Int} (ht : sliceT P t e 1 by_ = true) (s : IntS h1 x xs) (hk : K (.int .i64 (xs.length : Int)) h) : vK (aLen P t x) h K := len_i ht s hk
theorem lenw_i {t e by_ : Nat} {xs : List Nat} (ht : sliceT P t e 1 by_ = true) (s : WS h1 x xs) (hk : K (.int .i64 (xs.length : Int)) h) : vK (aLen P t x) h K := len_i ht s hk
theorem idxi_i {t e by_ k : Nat} {xs : List Int} (ht : sliceT P t e 1 by_ = true) (s : IntS h1 x xs) (hk : k < xs.length) (hK : K (elt 1 x k) h) : vK (aIndexAddr P t x (.int .i64 (k : Int))) h K := idx_i ht s hk hK
theorem idxw_i {t e by_ k : Nat} {xs : List Nat} (ht : sliceT P t e 1 by_ = true) (s : WS h1 x xs) (hk : k < xs.length) (hK : K (elt 1 x k) h) : vK (aIndexAddr P t x (.int .i64 (k : Int))) h K := idx_i ht s hk hK
theorem lenr_i {t e by_ : Nat} {xss : List (List Int)} (ht : sliceT P t e 1 by_ = true) (s : RowsS h1 x xss) (hk : K (.int .i64 (xss.length : Int)) h) : vK (aLen P t x) h K := by
  obtain ⟨rs, _, h2, _⟩ := s
  exact len_i ht h2 hk
theorem idxr_i {t e by_ k : Nat} {xss : List (List Int)} (ht : sliceT P t e 1 by_ = true) (s : RowsS h1 x xss) (hk : k < xss.length) (hK : K (elt 1 x k) h) : vK (aIndexAddr P t x (.int .i64 (k : Int))) h K := by
  obtain ⟨rs, _, h2, _⟩ := s
  exact idx_i ht h2 hk hK

theorem gd_at {α : Type} {xs : List α} {j : Nat} (d : α) (hj : j < xs.length) : xs.getD j d = xs[j] := by simp [List.getD, hj]
theorem gd_mem {α : Type} {xs : List α} {j : Nat} (d : α) (hj : j < xs.length) : xs.getD j d ∈ xs := by rw [gd_at d hj]; exact List.getElem_mem _
theorem mem_gd {α : Type} {xs : List α} {x : α} (d : α) (hx : x ∈ xs) : ∃ j, j < xs.length ∧ xs.getD j d = x := by
  obtain ⟨j, hj, e⟩ := List.mem_iff_getElem.mp hx
  exact ⟨j, hj, by rw [gd_at d hj]; exact e⟩
theorem take_gd {α : Type} {xs : List α} {j : Nat} (d : α) (hj : j < xs.length) : xs.take (j + 1) = xs.take j ++ [xs.getD j d] := by
  rw [gd_at d hj, List.take_succ_eq_append_getElem hj]
theorem IntS.lt {xs : List Int} (s : IntS h v xs) : xs.length ≤ 2 ^ 50 := s.1.2
theorem WS.lt {xs : List Nat} (s : WS h v xs) : xs.length ≤ 2 ^ 50 := s.1.2
theorem RowsS.lt {xss : List (List Int)} (s : RowsS h v xss) : xss.length ≤ 2 ^ 50 := by obtain ⟨_, _, s, _⟩ := s; exact s.1.2

/-! ### counting loops -/
def upI (J : Nat → Heap → Prop) (n : Nat) (vs : List Value) (h : Heap) : Prop := ∃ k : Nat, vs = [.int .i64 (k : Int)] ∧ k ≤ n ∧ J k h
def upμ (n : Nat) (vs : List Value) (_ : Heap) : Nat := match vs with | [.int _ k] => n - k.toNat | [_, .int _ k] => n - k.toNat | [_, _, .int _ k] => n - k.toNat | _ => 0
theorem loop1 (n : Nat) (J : Nat → Heap → Prop) {Body : (List Value → Heap → Prop) → (List Value → Heap → Nat) → Heap → Tmps → Value → Prop} (h0 : J 0 h)
    (hs : ∀ (k : Nat) (h2 : Heap) (j : Tmps), k ≤ n → J k h2 → Body (upI J n) (upμ n) h2 j (.int .i64 (k : Int))) :
    ∃ (I : List Value → Heap → Prop) (μ : List Value → Heap → Nat), I [.int .i64 0] h ∧ ∀ (h2 : Heap) (j : Tmps) (v1 : Value), I [v1] h2 → Body I μ h2 j v1 := by
  refine ⟨upI J n, upμ n, ⟨0, rfl, Nat.zero_le _, h0⟩, ?_⟩
  rintro h2 j v1 ⟨k, e, hk, hJ⟩
  cases e
  exact hs k h2 j hk hJ
theorem next1 {n k : Nat} {J : Nat → Heap → Prop} (hk : k < n) (hJ : J (k + 1) h) : upI J n [.int .i64 ((k + 1 : Nat) : Int)] h ∧ upμ n [.int .i64 ((k + 1 : Nat) : Int)] h < upμ n [.int .i64 (k : Int)] h2 :=
  ⟨⟨k + 1, rfl, hk, hJ⟩, by simp only [upμ]; omega⟩
def upI2 (J : Nat → Value → Heap → Prop) (n : Nat) (vs : List Value) (h : Heap) : Prop := ∃ (k : Nat) (v : Value), vs = [v, .int .i64 (k : Int)] ∧ k ≤ n ∧ J k v h
theorem loop2 (n : Nat) (J : Nat → Value → Heap → Prop) {Body : (List Value → Heap → Prop) → (List Value → Heap → Nat) → Heap → Tmps → Value → Value → Prop} (h0 : J 0 v h)
    (hs : ∀ (k : Nat) (v : Value) (h2 : Heap) (j : Tmps), k ≤ n → J k v h2 → Body (upI2 J n) (upμ n) h2 j v (.int .i64 (k : Int))) :
    ∃ (I : List Value → Heap → Prop) (μ : List Value → Heap → Nat), I [v, .int .i64 0] h ∧ ∀ (h2 : Heap) (j : Tmps) (v1 v2 : Value), I [v1, v2] h2 → Body I μ h2 j v1 v2 := by
  refine ⟨upI2 J n, upμ n, ⟨0, v, rfl, Nat.zero_le _, h0⟩, ?_⟩
  rintro h2 j v1 v2 ⟨k, v, e, hk, hJ⟩
  cases e
  exact hs k _ h2 j hk hJ
theorem next2 {n k : Nat} {J : Nat → Value → Heap → Prop} {v' : Value} (hk : k < n) (hJ : J (k + 1) v h) : upI2 J n [v, .int .i64 ((k + 1 : Nat) : Int)] h ∧ upμ n [v, .int .i64 ((k + 1 : Nat) : Int)] h < upμ n [v', .int .i64 (k : Int)] h2 :=
  ⟨⟨k + 1, v, rfl, hk, hJ⟩, by simp only [upμ]; omega⟩

/-! ### the first that is so -/
def firstOf {α : Type} (f : Nat → Option α) (n : Nat) : Option α := (List.range n).findSome? f
theorem firstOf_none {α : Type} {f : Nat → Option α} {n : Nat} (hf : ∀ j, j < n → f j = none) : firstOf f n = none := by
  unfold firstOf
  rw [List.findSome?_eq_none_iff]
  intro x hx; exact hf x (List.mem_range.mp hx)
theorem firstOf_succ {α : Type} (f : Nat → Option α) (n : Nat) : firstOf f (n + 1) = (firstOf f n).or (f n) := by
  unfold firstOf
  rw [List.range_succ, List.findSome?_append]
  simp
theorem firstOf_some {α : Type} {f : Nat → Option α} {n k : Nat} {e : α} (hf : ∀ j, j < k → f j = none) (hk : k < n) (he : f k = some e) : firstOf f n = some e := by
  induction n with
  | zero => omega
  | succ n ih =>
    rw [firstOf_succ]
    by_cases h : k = n
    · subst h; rw [firstOf_none hf, he]; rfl
    · rw [ih (by omega)]; rfl


/-! ### words of 64 bits -/
theorem wrap_u64 {x : Nat} (hx : x < 2 ^ 64) : IntKind.u64.wrap (x : Int) = x := by
  simp [IntKind.wrap, IntKind.signed, IntKind.bits]
  omega
theorem bv_nat (a : Nat) (ha : a < 2 ^ 64) : (BitVec.ofInt 64 (a : Int)).toNat = a := by
  simp [BitVec.toNat_ofInt]
  omega
theorem and_lt (a b : Nat) (ha : a < 2 ^ 64) : a &&& b < 2 ^ 64 := Nat.lt_of_le_of_lt Nat.and_le_left ha
theorem and_i {t : TypeId} {a b : Nat} (ha : a < 2 ^ 64) (hb : b < 2 ^ 64) (hk : K (.int .u64 ((a &&& b : Nat) : Int)) h) : vK (aBin P .and t (.int .u64 (a : Int)) (.int .u64 (b : Int))) h K := by
  refine vk_i (v := .int .u64 ((a &&& b : Nat) : Int)) ?_ hk
  have e : (BitVec.ofInt IntKind.u64.bits (a : Int) &&& BitVec.ofInt IntKind.u64.bits (b : Int)).toNat = a &&& b := by
    show (BitVec.ofInt 64 (a : Int) &&& BitVec.ofInt 64 (b : Int)).toNat = a &&& b
    rw [BitVec.toNat_and, bv_nat a ha, bv_nat b hb]
  simp only [aBin, aInt, true_or, if_true, e]
  rw [wrap_u64 (and_lt a b ha)]
theorem or_i {t : TypeId} {a b : Nat} (ha : a < 2 ^ 64) (hb : b < 2 ^ 64) (hk : K (.int .u64 ((a ||| b : Nat) : Int)) h) : vK (aBin P .or t (.int .u64 (a : Int)) (.int .u64 (b : Int))) h K := by
  refine vk_i (v := .int .u64 ((a ||| b : Nat) : Int)) ?_ hk
  have e : (BitVec.ofInt IntKind.u64.bits (a : Int) ||| BitVec.ofInt IntKind.u64.bits (b : Int)).toNat = a ||| b := by
    show (BitVec.ofInt 64 (a : Int) ||| BitVec.ofInt 64 (b : Int)).toNat = a ||| b
    rw [BitVec.toNat_or, bv_nat a ha, bv_nat b hb]
  simp only [aBin, aInt, true_or, if_true, e]
  rw [wrap_u64 (Nat.or_lt_two_pow ha hb)]
theorem shl_i {t : TypeId} {k : IntKind} {n : Int} (h0 : 0 ≤ n) (h1 : n < 64) (hk : K (.int .u64 ((2 ^ n.toNat : Nat) : Int)) h) : vK (aBin P .shl t (.int .u64 1) (.int k n)) h K := by
  refine vk_i (v := .int .u64 ((2 ^ n.toNat : Nat) : Int)) ?_ hk
  simp only [aBin, aInt, isShift, or_true, if_true]
  rw [if_neg (by omega)]
  have e : min n.toNat IntKind.u64.bits = n.toNat := by simp [IntKind.bits]; omega
  rw [e, Int.one_mul]
  have : ((2 : Int) ^ n.toNat) = ((2 ^ n.toNat : Nat) : Int) := by simp
  rw [this, wrap_u64 (Nat.pow_lt_pow_right (by omega) (by omega))]
theorem shr_i {t : TypeId} {k : IntKind} {a : Nat} {n : Int} (h0 : 0 ≤ n) (h1 : n < 64) (hk : K (.int .u64 ((a >>> n.toNat : Nat) : Int)) h) : vK (aBin P .shr t (.int .u64 (a : Int)) (.int k n)) h K := by
  refine vk_i (v := .int .u64 ((a >>> n.toNat : Nat) : Int)) ?_ hk
  simp only [aBin, aInt, isShift, or_true, if_true]
  rw [if_neg (by omega)]
  have e : min n.toNat IntKind.u64.bits = n.toNat := by simp [IntKind.bits]; omega
  rw [e, Nat.shiftRight_eq_div_pow]
  have : ((2 : Int) ^ n.toNat) = ((2 ^ n.toNat : Nat) : Int) := by simp
  rw [this, Int.fdiv_eq_ediv_of_nonneg _ (Int.natCast_nonneg _)]
  simp
/-- A list of small numbers as a word. -/
def bitsOf (xs : List Int) : Nat := xs.foldl (fun a x => a ||| 2 ^ x.toNat) 0
theorem bits_foldl (n : Nat) : ∀ (xs : List Int) (a : Nat), (∀ x ∈ xs, 0 ≤ x) → (xs.foldl (fun a x => a ||| 2 ^ x.toNat) a).testBit n = (a.testBit n || decide ((n : Int) ∈ xs))
  | [], a, _ => by simp
  | x :: xs, a, hx => by
    rw [List.foldl_cons, bits_foldl n xs _ (fun y hy => hx y (by simp [hy])), Nat.testBit_or, Nat.testBit_two_pow]
    have := hx x (by simp)
    by_cases e : (n : Int) = x
    · subst e; simp
    · have : ¬ x.toNat = n := by omega
      simp [this, e]
theorem bitsOf_test {xs : List Int} (hx : ∀ x ∈ xs, 0 ≤ x) (n : Nat) : (bitsOf xs).testBit n = decide ((n : Int) ∈ xs) := by
  unfold bitsOf; rw [bits_foldl n xs 0 hx]; simp
theorem bitsOf_snoc (xs : List Int) (x : Int) : bitsOf (xs ++ [x]) = bitsOf xs ||| 2 ^ x.toNat := by simp [bitsOf]
theorem bitsOf_lt {xs : List Int} {m : Nat} (hx : ∀ x ∈ xs, 0 ≤ x ∧ x < m) : bitsOf xs < 2 ^ m := by
  have : ∀ (xs : List Int) (a : Nat), a < 2 ^ m → (∀ x ∈ xs, 0 ≤ x ∧ x < m) → xs.foldl (fun a x => a ||| 2 ^ x.toNat) a < 2 ^ m := by
    intro xs
    induction xs with
    | nil => intro a ha _; exact ha
    | cons x xs ih =>
      intro a ha hx
      have := hx x (by simp)
      exact ih _ (Nat.or_lt_two_pow ha (Nat.pow_lt_pow_right (by omega) (by omega))) (fun y hy => hx y (by simp [hy]))
  exact this xs 0 (Nat.pow_pos (by omega)) hx

/-! ### what is new -/
/-- What holds by what has been made since. -/
def Only (h h' : Heap) (Q : Heap → Prop) : Prop := ∀ g : Heap, (∀ (j : Nat) (a : Arr), h.length ≤ j → h'[j]? = some (.arr a) → g[j]? = some (.arr a)) → Q g
theorem Only.self {Q : Heap → Prop} (o : Only h h' Q) : Q h' := o h' fun _ _ _ e => e
theorem Only.mono {Q : Heap → Prop} (o : Only h h1 Q) (hs : Sub h1 h2) : Only h h2 Q := fun g hg => o g fun j a hj e => hg j a hj (hs.2 j a e)
theorem Own.only {sz n : Nat} {cs : List Value} (o : Own sz h h' v n cs) : Only h h' fun g => Seg sz g v n cs := by
  intro g hg
  have s := o.seg
  obtain ⟨l, _, o⟩ := o
  refine ⟨s.1, o.imp (fun ⟨e1, e2⟩ => ⟨none, 0, e1, fun p hp => (by cases hp), e2⟩) ?_⟩
  rintro ⟨i, e1, e2, e3⟩
  exact ⟨i, 0, 0, _, e1, hg i _ e2 e3, rfl, by simp [l.1], by simp [← l.1]⟩
theorem Own.kill {sz n : Nat} {cs : List Value} (o : Own sz h0 h v n cs) {Q : Heap → Prop} (q : Only h h' Q) : Q (kill v h') := by
  obtain ⟨l, _, o⟩ := o
  refine q _ fun j a hj e => ?_
  rcases o with ⟨rfl, _⟩ | ⟨i, rfl, hi, e3⟩
  · exact e
  · have := (List.getElem?_eq_some_iff.mp e3).1
    simp only [AM.kill]
    rw [List.getElem?_set, if_neg (by omega)]; exact e

/-! ### a list copied -/
theorem own_app {t e sz by_ m : Nat} {xs : List Value} (ht : sliceT P t e sz by_ = true) (i : Nat) (hx : Seg sz h x m xs) (hone : xs.all (·.oneCell') = true) (hb : m * by_ ≤ 2 ^ 46 ∧ m ≤ 2 ^ 46) :
    aAppend P t t (.slice (some ⟨i, 0, none⟩) 0 1) x h = if m = 0 then some (.slice (some ⟨i, 0, none⟩) 0 1, h) else some (.slice (some ⟨h.length, 0, none⟩) m 0, newArr h xs sz) := by
  obtain ⟨hu, hsz, z, hz, hby, g1, g2, g3⟩ := sliceT_of ht
  unfold aAppend
  rw [hu]
  simp only [hsz, hz, hby]
  rw [if_pos ⟨g1, g2, g3⟩]
  have hsrc : ∃ q, aSrc P h sz z.cells t x = some (m, q) ∧ (m ≠ 0 → q = xs) := by
    unfold aSrc
    rw [hu]
    simp only [aCells]
    obtain ⟨l, hx⟩ := hx
    rcases hx with ⟨o, c, rfl, _, rfl⟩ | ⟨i, o, c, a, rfl, e1, e2, e3, e4⟩
    · cases o with
      | none => exact ⟨[], rfl, fun h => absurd rfl h⟩
      | some a => exact ⟨[], rfl, fun h => absurd rfl h⟩
    · simp only
      by_cases h0 : m = 0
      · rw [if_pos h0]; exact ⟨[], by rw [h0], fun h => absurd h0 h⟩
      · rw [if_neg h0, e1]
        simp only
        rw [if_pos e3, e4]
        exact ⟨xs, rfl, fun _ => rfl⟩
  obtain ⟨q, hsrc, hq⟩ := hsrc
  rw [hsrc]
  simp only
  by_cases h0 : m = 0
  · rw [if_pos h0, if_pos h0]
  · rw [if_neg h0, if_neg h0, hq h0, if_pos ⟨by simpa using hb.1, by simpa using hb.2, hone⟩]
    simp only [aCells, if_true]
    rw [if_pos ⟨by omega, by omega⟩]
    simp

theorem firstOf_is {α : Type} {f : Nat → Option α} {n : Nat} {e : α} (h : firstOf f n = some e) : ∃ k, k < n ∧ f k = some e := by
  unfold firstOf at h
  obtain ⟨k, hk, he⟩ := List.exists_of_findSome?_eq_some h
  exact ⟨k, List.mem_range.mp hk, he⟩
theorem firstOf_not {α : Type} {f : Nat → Option α} {n : Nat} (h : firstOf f n = none) : ∀ k, k < n → f k = none := by
  unfold firstOf at h
  rw [List.findSome?_eq_none_iff] at h
  exact fun k hk => h k (List.mem_range.mpr hk)
theorem nodup_sub {α : Type} [DecidableEq α] : ∀ (l out : List α), l.Nodup → (∀ x ∈ l, x ∈ out) → l.length ≤ out.length
  | [], out, _, _ => by simp
  | x :: l, out, hn, hs => by
    have hx := hs x (by simp)
    rw [List.nodup_cons] at hn
    have := nodup_sub l (out.erase x) hn.2 (fun y hy => by
      have hne : y ≠ x := fun e => hn.1 (e ▸ hy)
      exact (List.mem_erase_of_ne hne).mpr (hs y (by simp [hy])))
    rw [List.length_erase_of_mem hx] at this
    have h1 : 0 < out.length := List.length_pos_of_mem hx
    simp only [List.length_cons]
    omega
def upI3 (J : Nat → Value → Value → Heap → Prop) (n : Nat) (vs : List Value) (h : Heap) : Prop := ∃ (k : Nat) (v u : Value), vs = [v, u, .int .i64 (k : Int)] ∧ k ≤ n ∧ J k v u h
theorem loop3 (n : Nat) (J : Nat → Value → Value → Heap → Prop) {u : Value} {Body : (List Value → Heap → Prop) → (List Value → Heap → Nat) → Heap → Tmps → Value → Value → Value → Prop} (h0 : J 0 v u h)
    (hs : ∀ (k : Nat) (v u : Value) (h2 : Heap) (j : Tmps), k ≤ n → J k v u h2 → Body (upI3 J n) (upμ n) h2 j v u (.int .i64 (k : Int))) :
    ∃ (I : List Value → Heap → Prop) (μ : List Value → Heap → Nat), I [v, u, .int .i64 0] h ∧ ∀ (h2 : Heap) (j : Tmps) (v1 v2 v3 : Value), I [v1, v2, v3] h2 → Body I μ h2 j v1 v2 v3 := by
  refine ⟨upI3 J n, upμ n, ⟨0, v, u, rfl, Nat.zero_le _, h0⟩, ?_⟩
  rintro h2 j v1 v2 v3 ⟨k, v, u, e, hk, hJ⟩
  cases e
  exact hs k _ _ h2 j hk hJ
theorem next3 {n k : Nat} {J : Nat → Value → Value → Heap → Prop} {u v' u' : Value} (hk : k < n) (hJ : J (k + 1) v u h) : upI3 J n [v, u, .int .i64 ((k + 1 : Nat) : Int)] h ∧ upμ n [v, u, .int .i64 ((k + 1 : Nat) : Int)] h < upμ n [v', u', .int .i64 (k : Int)] h2 :=
  ⟨⟨k + 1, v, u, rfl, hk, hJ⟩, by simp only [upμ]; omega⟩
theorem and1_i {t : TypeId} {a : Nat} (ha : a < 2 ^ 64) (hk : K (.int .u64 ((a % 2 : Nat) : Int)) h) : vK (aBin P .and t (.int .u64 (a : Int)) (.int .u64 1)) h K := by
  have := and_i (P := P) (t := t) (K := K) (h := h) ha (show (1 : Nat) < 2 ^ 64 by omega) (by rwa [Nat.and_one_is_mod])
  exact this
theorem bit_iff (w t : Nat) : (((w >>> t) % 2 : Nat) : Int) = 1 ↔ w.testBit t = true := by
  rw [Nat.testBit_eq_decide_div_mod_eq, ← Nat.shiftRight_eq_div_pow]
  simp only [decide_eq_true_eq]
  omega
theorem and_zero (a b : Nat) : ((a &&& b : Nat) : Int) = 0 ↔ ∀ n, ¬ (a.testBit n = true ∧ b.testBit n = true) := by
  have e0 : (((a &&& b : Nat) : Int) = 0) ↔ (a &&& b = 0) := by omega
  rw [e0]
  constructor
  · intro h n hn
    have := congrArg (·.testBit n) h
    simp only [Nat.testBit_and, Nat.zero_testBit, hn.1, hn.2] at this
    simp at this
  · intro h
    apply Nat.eq_of_testBit_eq
    intro n
    rw [Nat.testBit_and, Nat.zero_testBit]
    have := h n
    cases h1 : a.testBit n <;> cases h2 : b.testBit n <;> simp_all
theorem bits_apart {xs ys : List Int} (hx : ∀ x ∈ xs, 0 ≤ x) (hy : ∀ x ∈ ys, 0 ≤ x) : ((bitsOf xs &&& bitsOf ys : Nat) : Int) = 0 ↔ ∀ x ∈ xs, ¬ x ∈ ys := by
  rw [and_zero]
  constructor
  · intro h x h1 h2
    refine h x.toNat ⟨?_, ?_⟩
    · rw [bitsOf_test hx]; simp [Int.toNat_of_nonneg (hx x h1), h1]
    · rw [bitsOf_test hy]; simp [Int.toNat_of_nonneg (hx x h1), h2]
  · intro h n hn
    rw [bitsOf_test hx, bitsOf_test hy] at hn
    exact h n (by simpa using hn.1) (by simpa using hn.2)

/-! ### the lowest bit -/
theorem pred_bits {w x : Nat} (hx : w.testBit x = true) (hl : ∀ n, n < x → w.testBit n = false) (n : Nat) : (w - 1).testBit n = if n < x then true else if n = x then false else w.testBit n := by
  have hmod : w % 2 ^ x = 0 := by
    apply Nat.eq_of_testBit_eq
    intro i
    rw [Nat.testBit_mod_two_pow, Nat.zero_testBit]
    by_cases hi : i < x
    · rw [hl i hi]; simp
    · simp [hi]
  have hw : w = 2 ^ x * (w / 2 ^ x) := by have := Nat.div_add_mod w (2 ^ x); omega
  generalize hq : w / 2 ^ x = q at hw
  have hodd : q % 2 = 1 := by
    have := hx
    rw [Nat.testBit_eq_decide_div_mod_eq, hq] at this
    simpa using this
  have hpos : 0 < 2 ^ x := Nat.pow_pos (by omega)
  have e : w - 1 = 2 ^ x * (q - 1) + (2 ^ x - 1) := by
    obtain ⟨r, rfl⟩ : ∃ r, q = r + 1 := ⟨q - 1, by omega⟩
    rw [hw, Nat.mul_add, Nat.mul_one, Nat.add_sub_cancel]
    omega
  rw [e, Nat.testBit_two_pow_mul_add _ (by omega)]
  by_cases h1 : n < x
  · rw [if_pos h1, if_pos h1, Nat.testBit_two_pow_sub_one]; simp [h1]
  · rw [if_neg h1, if_neg h1]
    by_cases h2 : n = x
    · subst h2
      rw [if_pos rfl, Nat.sub_self, Nat.testBit_zero]
      have : (q - 1) % 2 = 0 := by omega
      simp [this]
    · rw [if_neg h2]
      obtain ⟨j, rfl⟩ : ∃ j, n = x + (j + 1) := ⟨n - x - 1, by omega⟩
      have e1 : x + (j + 1) - x = j + 1 := by omega
      rw [e1, Nat.testBit_succ]
      have e2 : w.testBit (x + (j + 1)) = q.testBit (j + 1) := by
        rw [hw, Nat.testBit_two_pow_mul, e1]
        simp
      rw [e2, Nat.testBit_succ]
      congr 1; omega
theorem low_and_pred {w x : Nat} (hx : w.testBit x = true) (hl : ∀ n, n < x → w.testBit n = false) (n : Nat) : (w &&& (w - 1)).testBit n = (w.testBit n && decide (n ≠ x)) := by
  rw [Nat.testBit_and, pred_bits hx hl]
  by_cases h1 : n < x
  · rw [hl n h1]; simp
  · rw [if_neg h1]
    by_cases h2 : n = x
    · simp [h2]
    · simp [h2]
theorem low_and_neg {w x : Nat} (hw : w < 2 ^ 64) (hx : w.testBit x = true) (hl : ∀ n, n < x → w.testBit n = false) : w &&& (2 ^ 64 - w) = 2 ^ x := by
  have h64 : x < 64 := by
    apply Classical.byContradiction
    intro hn
    have : w.testBit x = false := Nat.testBit_lt_two_pow (Nat.lt_of_lt_of_le hw (Nat.pow_le_pow_right (by omega) (by omega)))
    rw [hx] at this; cases this
  have hpos : 0 < w := by
    apply Nat.pos_of_ne_zero
    rintro rfl
    simp at hx
  apply Nat.eq_of_testBit_eq
  intro n
  have e : 2 ^ 64 - w = 2 ^ 64 - ((w - 1) + 1) := by omega
  rw [Nat.testBit_and, e, Nat.testBit_two_pow_sub_succ (by omega), pred_bits hx hl, Nat.testBit_two_pow]
  by_cases h1 : n < x
  · have : ¬ x = n := by omega
    rw [hl n h1]; simp [this]
  · rw [if_neg h1]
    by_cases h2 : n = x
    · subst h2; simp [hx, h64]
    · have : ¬ x = n := fun e => h2 e.symm
      rw [if_neg h2]
      simp only [this, decide_false]
      cases w.testBit n <;> simp
theorem neg_i {a : Nat} (h0 : 0 < a) (ha : a < 2 ^ 64) (hk : K (.int .u64 ((2 ^ 64 - a : Nat) : Int)) h) : vK (aUn .neg (.int .u64 (a : Int))) h K := by
  refine vk_i (v := .int .u64 ((2 ^ 64 - a : Nat) : Int)) ?_ hk
  simp only [aUn]
  congr 2
  simp [IntKind.wrap, IntKind.signed, IntKind.bits]
  omega
theorem dec_i {t : TypeId} {a : Nat} (h0 : 0 < a) (ha : a < 2 ^ 64) (hk : K (.int .u64 ((a - 1 : Nat) : Int)) h) : vK (aBin P .sub t (.int .u64 (a : Int)) (.int .u64 1)) h K := by
  refine vk_i (v := .int .u64 ((a - 1 : Nat) : Int)) ?_ hk
  simp only [aBin, aInt, true_or, if_true]
  congr 2
  simp [IntKind.wrap, IntKind.signed, IntKind.bits]
  omega

/-! ### structs of one's own -/
theorem ldc_i {e : TypeId} {i off : Nat} {a : Arr} {y : Value} (hr : isPlain P e = true) (hi : h[i]? = some (.arr a)) (hc : a.cells[off]? = some y) (hK : K y h) : vK (aLoad P e (.pointer (some ⟨i, off, none⟩)) h) h K := by
  refine vk_i (v := y) ?_ hK
  unfold isPlain at hr
  split at hr
  · rename_i d hd
    simp only [aLoad, hi, hd]
    rw [if_neg (by simpa using hr)]
    exact hc
  · cases hr
theorem setSeg_one (l : List Value) (off : Nat) (x : Value) : setSeg l off [x] = l.set off x := by
  first
    | rfl
    | (simp [setSeg]; done)
    | skip
theorem st_i {e : TypeId} {i off : Nat} {a : Arr} {y : Value} (hs : szOf P e = some 1) (hi : h[i]? = some (.arr a)) (hro : a.ro = false) (ho : off < a.cells.length) (h1 : y.cells = #[y]) (h2 : y.oneCell' = true)
    (hK : K undef (h.set i (.arr { a with cells := a.cells.set off y }))) : okK ((aStore P e (.pointer (some ⟨i, off, none⟩)) y h).map (undef, ·)) K := by
  refine ok_i ?_ hK
  simp only [aStore, hi, hs]
  rw [if_pos ⟨hro, by rw [h1]; rfl, by omega, by rw [h1]; simp [h2]⟩, h1]
  simp [setSeg_one]
/-- All but one array stays. -/
def KeptB (i : Nat) (h h' : Heap) : Prop := h.length ≤ h'.length ∧ ∀ (j : Nat) (a : Arr), j ≠ i → h[j]? = some (.arr a) → h'[j]? = some (.arr a)
theorem KeptB.refl (i : Nat) (h : Heap) : KeptB i h h := ⟨Nat.le_refl _, fun _ _ _ e => e⟩
theorem KeptB.trans {i : Nat} (a : KeptB i h h1) (b : KeptB i h1 h2) : KeptB i h h2 := ⟨Nat.le_trans a.1 b.1, fun j x hn e => b.2 j x hn (a.2 j x hn e)⟩
theorem Sub.kept {i : Nat} (s : Sub h h') : KeptB i h h' := ⟨s.1, fun j a _ e => s.2 j a e⟩
theorem KeptB.set (i : Nat) (h : Heap) (x : Ob) : KeptB i h (h.set i x) := ⟨by simp, fun j a hn e => by rw [List.getElem?_set, if_neg (Ne.symm hn)]; exact e⟩
theorem Seg.keep {i n sz : Nat} {cs : List Value} {a : Arr} (s : Seg sz h v n cs) (k : KeptB i h h') (hi : h[i]? = some (.arr a)) (he : a.esz ≠ sz) : Seg sz h' v n cs := by
  obtain ⟨l, s⟩ := s
  refine ⟨l, s.imp (fun ⟨o, c, e1, e2, e3⟩ => ⟨o, c, e1, fun p hp => Nat.lt_of_lt_of_le (e2 p hp) k.1, e3⟩) ?_⟩
  rintro ⟨j, o, c, b, e1, e2, e3, e4⟩
  refine ⟨j, o, c, b, e1, k.2 j b ?_ e2, e3, e4⟩
  rintro rfl
  rw [hi] at e2; cases e2
  exact he e3
theorem RowsS.keep {i : Nat} {xss : List (List Int)} {a : Arr} (s : RowsS h v xss) (k : KeptB i h h') (hi : h[i]? = some (.arr a)) (he : a.esz ≠ 1) : RowsS h' v xss := by
  obtain ⟨rs, h1, h2, h3⟩ := s
  exact ⟨rs, h1, h2.keep k hi he, fun j hj => Seg.keep (h3 j hj) k hi he⟩

theorem seg_vb {sz n : Nat} {cs : List Value} (s : Seg sz h v n cs) : VB h.length v := by
  rcases s.2 with ⟨o, c, rfl, e2, rfl⟩ | ⟨i, o, c, a, rfl, e1, _⟩
  · cases o with
    | none => trivial
    | some p => exact e2 p rfl
  · exact (List.getElem?_eq_some_iff.mp e1).1
/-- All but the first element. -/
theorem tail_i {t e by_ : Nat} {x0 : Int} {xs : List Int} (ht : sliceT P t e 1 by_ = true) (s : IntS h x (x0 :: xs)) (hK : ∀ y, IntS h y xs → K y h) : vK (aSlice P t x (some (.int .i64 1)) none none h) h K := by
  obtain ⟨hu, hsz, _⟩ := sliceT_of ht
  have hb : xs.length + 1 ≤ 2 ^ 50 := s.1.2
  rcases s.2 with ⟨_, _, rfl, _, e⟩ | ⟨i, o, c, a, rfl, e1, e2, e3, e4⟩
  · simp at e
  · simp only [List.length_cons, Nat.mul_one] at e3 e4
    refine vk_i (v := .slice (some ⟨i, o + 1, none⟩) xs.length (if c = 0 then 0 else c - 1)) ?_ (hK _ ⟨⟨by simp, by omega⟩, .inr ⟨i, o + 1, _, a, rfl, e1, e2, by omega, ?_⟩⟩)
    · simp only [aSlice, hu, hsz, e1, e2, if_true, aBoundO, aBound]
      rw [if_pos ⟨by omega, by simp; omega⟩]
      simp
    · rw [Nat.mul_one]
      simp only [List.map_cons] at e4
      rw [← List.drop_drop]
      have := congrArg (List.drop 1) e4
      rw [List.drop_take] at this
      simpa using this

theorem seg_slice {sz n : Nat} {cs : List Value} (s : Seg sz h v n cs) : ∃ o l c, v = .slice o l c := by
  rcases s.2 with ⟨o, c, rfl, _⟩ | ⟨i, o, c, a, rfl, _⟩ <;> exact ⟨_, _, _, rfl⟩

theorem KeptB.sub {i : Nat} (k : KeptB i h1 h2) (s : Sub h h1) (hi : h.length ≤ i) : Sub h h2 :=
  ⟨Nat.le_trans s.1 k.1, fun j a e => k.2 j a (by have := (List.getElem?_eq_some_iff.mp e).1; omega) (s.2 j a e)⟩

theorem pre_set {i : Nat} (p : h <+: h1) (hi : h.length ≤ i) (x : Ob) : h <+: h1.set i x := by
  obtain ⟨t, rfl⟩ := p
  exact ⟨_, by rw [List.set_append_right _ _ hi]⟩
/-- Two slices of one's own, in arrays apart. -/
def Two (sz sz2 : Nat) (h0 h : Heap) (v : Value) (n : Nat) (cs : List Value) (w : Value) (m : Nat) (ds : List Value) : Prop := Own sz h0 h v n cs ∧ Own sz2 h0 (kill v h) w m ds
theorem Two.nil (sz sz2 : Nat) (hp : h0 <+: h) : Two sz sz2 h0 h (.slice none 0 0) 0 [] (.slice none 0 0) 0 [] := ⟨Own.nil _ hp, Own.nil _ hp⟩
theorem Own.of_kill {sz n : Nat} {cs : List Value} {w : Value} (p : h0 <+: h) (o : Own sz h0 (AM.kill v h) w n cs) : Own sz h0 h w n cs := by
  obtain ⟨l, _, o⟩ := o
  exact ⟨l, p, o.imp id fun ⟨i, e1, e2, e3⟩ => ⟨i, e1, e2, (kill_sub v h).2 _ _ e3⟩⟩
theorem Two.symm {sz sz2 n m : Nat} {cs ds : List Value} {w : Value} (t : Two sz sz2 h0 h v n cs w m ds) : Two sz2 sz h0 h w m ds v n cs := by
  obtain ⟨a, b⟩ := t
  have b' := b.of_kill a.pre
  refine ⟨b', a.1, b'.killpre, a.2.2.imp id ?_⟩
  rintro ⟨i, e1, e2, e3⟩
  refine ⟨i, e1, e2, ?_⟩
  rcases b.2.2 with ⟨rfl, _⟩ | ⟨j, rfl, _, f3⟩
  · exact e3
  · subst e1
    simp only [AM.kill] at f3 ⊢
    obtain ⟨_, hne⟩ := set_get (x := .dead) f3
    rw [List.getElem?_set, if_neg (Ne.symm hne)]; exact e3
theorem Two.fst {sz sz2 n m : Nat} {cs ds : List Value} {w : Value} (t : Two sz sz2 h0 h v n cs w m ds) : Own sz h0 h v n cs := t.1
theorem Two.snd {sz sz2 n m : Nat} {cs ds : List Value} {w : Value} (t : Two sz sz2 h0 h v n cs w m ds) : Own sz2 h0 h w m ds := t.2.of_kill t.1.pre
theorem Two.ext {sz sz2 n m : Nat} {cs ds : List Value} {w : Value} (t : Two sz sz2 h0 h v n cs w m ds) (hp : h <+: h') : Two sz sz2 h0 h' v n cs w m ds := by
  obtain ⟨o, s⟩ := t.1.ext hp
  obtain ⟨l, p, b⟩ := t.2
  exact ⟨o, l, o.killpre, b.imp id fun ⟨i, e1, e2, e3⟩ => ⟨i, e1, e2, s.2 _ _ e3⟩⟩
theorem Two.app {sz sz2 n m k : Nat} {cs ds xs : List Value} {w v' : Value} (t : Two sz sz2 h0 h v n cs w m ds) (o : Own sz h0 h' v' (n + k) (cs ++ xs)) (s : Sub (AM.kill v h) (AM.kill v' h')) : Two sz sz2 h0 h' v' (n + k) (cs ++ xs) w m ds := by
  obtain ⟨l, p, b⟩ := t.2
  exact ⟨o, l, o.killpre, b.imp id fun ⟨i, e1, e2, e3⟩ => ⟨i, e1, e2, s.2 _ _ e3⟩⟩

/-! ### made slices of single cells -/
theorem zeroRow_one (z0 : Value) (n : Nat) : (zeroRow #[z0] n).toList = List.replicate n z0 := by
  refine List.ext_getElem? fun k => ?_
  simp only [zeroRow, Array.toList_map, Array.toList_range, List.getElem?_map, List.getElem?_replicate]
  by_cases hk : k < n
  · rw [if_pos hk, List.getElem?_range hk]
    simp [Nat.mod_one]
  · rw [if_neg hk, List.getElem?_eq_none (by simp; omega)]; rfl
def zeroB (P : Program) (e : TypeId) (z0 : Value) : Prop := ∃ z, zeroOf P e = some z ∧ z.cells = #[z0]
theorem mk1_i {t e by_ : Nat} {z0 : Value} {n : Int} (ht : sliceT P t e 1 by_ = true) (hz : zeroB P e z0) (h0 : 0 ≤ n) (hb : n * by_ ≤ 2 ^ 46 ∧ n ≤ 2 ^ 46) (hK : K (.slice (some ⟨h.length, 0, none⟩) n.toNat (n.toNat + 1)) (newArr h (List.replicate n.toNat z0) 1)) :
    okK (aMakeSlice P t (.int .i64 n) (.int .i64 n) h) K := by
  obtain ⟨hu, hsz, z, hz1, hby, g1, g2, g3⟩ := sliceT_of ht
  obtain ⟨z', hz2, hc⟩ := hz
  rw [hz1] at hz2
  cases hz2
  refine ok_i ?_ hK
  unfold aMakeSlice
  rw [hu]
  simp only [hsz, hz1, hby]
  rw [if_pos ⟨h0, Int.le_refl _, hb.1, hb.2, g1, by omega⟩, hc, Nat.mul_one, zeroRow_one]
theorem ste_i {e : TypeId} {i k n c : Nat} {a : Arr} {y : Value} (hs : szOf P e = some 1) (hi : h[i]? = some (.arr a)) (hro : a.ro = false) (ho : k < a.cells.length) (h1 : y.cells = #[y]) (h2 : y.oneCell' = true)
    (hK : K undef (h.set i (.arr { a with cells := a.cells.set k y }))) : okK ((aStore P e (elt 1 (.slice (some ⟨i, 0, none⟩) n c) k) y h).map (undef, ·)) K := by
  have : elt 1 (.slice (some ⟨i, 0, none⟩) n c) k = .pointer (some ⟨i, k, none⟩) := by simp [elt]
  rw [this]
  exact st_i hs hi hro ho h1 h2 hK

def upI4 (J : Nat → Value → Value → Value → Heap → Prop) (n : Nat) (vs : List Value) (h : Heap) : Prop := ∃ (k : Nat) (a b c : Value), vs = [a, b, c, .int .i64 (k : Int)] ∧ k ≤ n ∧ J k a b c h
def upμ4 (n : Nat) (vs : List Value) (_ : Heap) : Nat := match vs with | [_, _, _, .int _ k] => n - k.toNat | _ => 0
theorem loop4 (n : Nat) (J : Nat → Value → Value → Value → Heap → Prop) {a b c : Value} {Body : (List Value → Heap → Prop) → (List Value → Heap → Nat) → Heap → Tmps → Value → Value → Value → Value → Prop} (h0 : J 0 a b c h)
    (hs : ∀ (k : Nat) (a b c : Value) (h2 : Heap) (j : Tmps), k ≤ n → J k a b c h2 → Body (upI4 J n) (upμ4 n) h2 j a b c (.int .i64 (k : Int))) :
    ∃ (I : List Value → Heap → Prop) (μ : List Value → Heap → Nat), I [a, b, c, .int .i64 0] h ∧ ∀ (h2 : Heap) (j : Tmps) (v1 v2 v3 v4 : Value), I [v1, v2, v3, v4] h2 → Body I μ h2 j v1 v2 v3 v4 := by
  refine ⟨upI4 J n, upμ4 n, ⟨0, a, b, c, rfl, Nat.zero_le _, h0⟩, ?_⟩
  rintro h2 j v1 v2 v3 v4 ⟨k, a, b, c, e, hk, hJ⟩
  cases e
  exact hs k _ _ _ h2 j hk hJ
theorem next4 {n k : Nat} {J : Nat → Value → Value → Value → Heap → Prop} {a b c a' b' c' : Value} (hk : k < n) (hJ : J (k + 1) a b c h) : upI4 J n [a, b, c, .int .i64 ((k + 1 : Nat) : Int)] h ∧ upμ4 n [a, b, c, .int .i64 ((k + 1 : Nat) : Int)] h < upμ4 n [a', b', c', .int .i64 (k : Int)] h2 :=
  ⟨⟨k + 1, a, b, c, rfl, hk, hJ⟩, by simp only [upμ4]; omega⟩
end Go.AM
