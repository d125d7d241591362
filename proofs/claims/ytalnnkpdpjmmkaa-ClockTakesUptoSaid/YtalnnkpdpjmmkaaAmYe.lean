/-
  Contracts: maps whose keys are numbers.
-/
import Derived.Test.YtalnnkpdpjmmkaaAmYd
set_option linter.unusedSimpArgs false
set_option linter.unusedVariables false
namespace Go.AM
variable {P : Program} {h h' h0 h1 h2 : Heap} {K : Value → Heap → Prop} {v x : Value}

/-- A type of maps from numbers. -/
def mapIntB (P : Program) (ty : TypeId) : Bool :=
  match P.underlying ty with
  | some (.map kt et) => P.plainKey kt && (match P.underlying kt with | some (.int .i64) => true | _ => false) && (match zeroOf P et with | some z => flatC z | none => false)
  | _ => false
theorem mapInt_of {ty : TypeId} (ht : mapIntB P ty = true) : ∃ kt et z, P.underlying ty = some (.map kt et) ∧ zeroOf P et = some z ∧ flatC z = true ∧ keyT P kt = true ∧ ∀ n : Int, keyF P kt (.int .i64 n) = true := by
  unfold mapIntB at ht
  split at ht
  rotate_left
  · cases ht
  rename_i kt et hu
  simp only [Bool.and_eq_true] at ht
  obtain ⟨⟨h1, h2⟩, h3⟩ := ht
  split at h3
  rotate_left
  · cases h3
  rename_i z hz
  split at h2
  rotate_left
  · cases h2
  rename_i hk
  refine ⟨kt, et, z, hu, hz, h3, ?_, fun n => ?_⟩
  · unfold keyT; rw [h1]; rfl
  · unfold keyF; rw [h1, hk]; simp [flatK, flat1, isKeyB]
/-- The keys are the places, counted from d. -/
def IdxK (d : Nat) (es : List (Value × Value)) : Prop := ∀ (j : Nat) (e : Value × Value), es[j]? = some e → e.1 = .int .i64 ((d + j : Nat) : Int)
theorem IdxK.nil (d : Nat) : IdxK d [] := fun j e he => by simp at he
theorem IdxK.tail {d : Nat} {e : Value × Value} {es : List (Value × Value)} (hk : IdxK d (e :: es)) : IdxK (d + 1) es := fun j x hx => by
  have := hk (j + 1) x (by simpa using hx)
  rw [this]; congr 2; omega
theorem IdxK.snoc {d : Nat} {es : List (Value × Value)} (hk : IdxK d es) (v : Value) : IdxK d (es ++ [(.int .i64 ((d + es.length : Nat) : Int), v)]) := fun j e he => by
  by_cases q : j < es.length
  · rw [List.getElem?_append_left q] at he; exact hk j e he
  · rw [List.getElem?_append_right (by omega)] at he
    have : j - es.length = 0 := by
      rcases Nat.eq_zero_or_pos (j - es.length) with q | q
      · exact q
      · rw [List.getElem?_eq_none (by simp; omega)] at he; cases he
    rw [this] at he
    simp at he
    subst he
    have : j = es.length := by omega
    subst this; rfl
theorem eqV_int (a b : Int) : eqV (.int .i64 a) (.int .i64 b) = decide (a = b) := by
  simp [eqV, eqV1, BEq.beq]
theorem IdxK.nodup : ∀ {es : List (Value × Value)} {d : Nat}, IdxK d es → nodupV (es.map (·.1)) = true
  | [], d, _ => rfl
  | e :: es, d, hk => by
    simp only [List.map_cons, nodupV, Bool.and_eq_true, Bool.not_eq_true']
    refine ⟨?_, IdxK.nodup hk.tail⟩
    rw [← Bool.not_eq_true, List.any_eq_true]
    rintro ⟨b, hb, hq⟩
    obtain ⟨x, hx, rfl⟩ := List.mem_map.mp hb
    obtain ⟨j, hj, rfl⟩ := List.mem_iff_getElem.mp hx
    have h1 := hk.tail j es[j] (by simp [hj])
    have h2 := hk 0 e rfl
    rw [h1, h2, eqV_int, decide_eq_true_eq] at hq
    omega
theorem IdxK.ok {kt : TypeId} {es : List (Value × Value)} {d : Nat} (hk : IdxK d es) (hf : ∀ n : Int, keyF P kt (.int .i64 n) = true) : entOK P kt es = true := by
  unfold entOK
  rw [hk.nodup, Bool.and_true, List.all_eq_true]
  intro x hx
  obtain ⟨j, hj, rfl⟩ := List.mem_iff_getElem.mp hx
  rw [hk j es[j] (by simp [hj])]
  exact hf _
theorem IdxK.find : ∀ {es : List (Value × Value)} {d i s : Nat} {k v : Value}, IdxK d es → es[s]? = some (k, v) → findI (.int .i64 ((d + s : Nat) : Int)) es i = some (i + s, v)
  | [], d, i, s, k, v, _, he => by simp at he
  | e :: es, d, i, 0, k, v, hk, he => by
    have h2 := hk 0 e rfl
    simp at he
    subst he
    simp only [findI]
    simp only at h2
    rw [h2, eqV_int]
    simp
  | e :: es, d, i, s + 1, k, v, hk, he => by
    have h2 := hk 0 e rfl
    simp only [findI]
    rw [h2, eqV_int, if_neg (by simp; omega)]
    have := IdxK.find (i := i + 1) hk.tail (s := s) (k := k) (v := v) (by simpa using he)
    rw [show d + (s + 1) = d + 1 + s by omega, this]
    congr 2; omega
theorem IdxK.findn : ∀ {es : List (Value × Value)} {d i n : Nat}, IdxK d es → d + es.length ≤ n → findI (.int .i64 ((n : Nat) : Int)) es i = none
  | [], d, i, n, _, _ => rfl
  | e :: es, d, i, n, hk, hn => by
    have h2 := hk 0 e rfl
    simp only [List.length_cons] at hn
    simp only [findI]
    rw [h2, eqV_int, if_neg (by simp; omega)]
    exact IdxK.findn hk.tail (by omega)
theorem look_i {ty : TypeId} {i s : Nat} {k : Value} {es : List (Value × Value)} (ht : mapIntB P ty = true) (hi : h[i]? = some (.map es)) (hk : IdxK 0 es) (he : es[s]? = some (k, v)) (hK : K v h) : vK (aLookup P ty (.map (some i)) (.int .i64 (s : Int)) false h) h K := by
  obtain ⟨kt, et, z, hu, hz, hf, h1, h2⟩ := mapInt_of ht
  refine vk_i (v := v) ?_ hK
  have := hk.find (i := 0) he
  simp only [Nat.zero_add] at this
  simp only [aLookup, hu, hi, hz]
  rw [if_pos (by simp [h1, h2, hk.ok h2, hf]), this]
  rfl
theorem mup_i {ty : TypeId} {i : Nat} {es : List (Value × Value)} (ht : mapIntB P ty = true) (hi : h[i]? = some (.map es)) (hk : IdxK 0 es) (hK : K undef (h.set i (.map (es ++ [(.int .i64 (es.length : Int), v)])))) : okK ((aMapUpd P ty (.map (some i)) (.int .i64 (es.length : Int)) v h).map (undef, ·)) K := by
  obtain ⟨kt, et, z, hu, hz, hf, h1, h2⟩ := mapInt_of ht
  refine ok_i (v := undef) (h' := h.set i (.map (es ++ [(.int .i64 (es.length : Int), v)]))) ?_ hK
  have := hk.findn (i := 0) (n := es.length) (by omega)
  simp only [aMapUpd, hu, hi]
  rw [if_pos (by simp [h1, h2, hk.ok h2]), this]
  rfl
theorem Sub.setMap {i : Nat} {es es' : List (Value × Value)} (hi : h[i]? = some (.map es)) : Sub h (h.set i (.map es')) := ⟨by simp, fun j a e => by
  rw [List.getElem?_set, if_neg (by rintro rfl; rw [hi] at e; cases e)]; exact e⟩
theorem newMap_get (h : Heap) : (newMap h)[h.length]? = some (.map []) := by simp [newMap]
theorem pre_map (h : Heap) : h <+: newMap h := ⟨_, rfl⟩
theorem pre_get {i : Nat} {x : Ob} (p : h <+: h') (hi : h[i]? = some x) : h'[i]? = some x := by
  obtain ⟨t, rfl⟩ := p
  rw [List.getElem?_append_left (List.getElem?_eq_some_iff.mp hi).1]; exact hi
theorem VB_map {i : Nat} {x : Ob} (hi : h[i]? = some x) : VB h.length (.map (some i)) := (List.getElem?_eq_some_iff.mp hi).1
theorem look_z {ty : TypeId} {i : Nat} {z : Int} {k : Value} {es : List (Value × Value)} (ht : mapIntB P ty = true) (hi : h[i]? = some (.map es)) (hk : IdxK 0 es) (h0 : 0 ≤ z) (he : es[z.toNat]? = some (k, v)) (hK : K v h) : vK (aLookup P ty (.map (some i)) (.int .i64 z) false h) h K := by
  have := look_i (s := z.toNat) ht hi hk he hK
  rwa [Int.toNat_of_nonneg h0] at this
theorem ld3_0 {t : TypeId} {i n : Nat} {a b c : Value} (hr : isPlain P t = true) (hi : h[i]? = some (.arr ⟨[a, b, c], n, false⟩)) (hK : K a h) : vK (aLoad P t (.pointer (some ⟨i, 0, none⟩)) h) h K := ldc_i hr hi rfl hK
theorem ld3_1 {t : TypeId} {i n : Nat} {a b c : Value} (hr : isPlain P t = true) (hi : h[i]? = some (.arr ⟨[a, b, c], n, false⟩)) (hK : K b h) : vK (aLoad P t (.pointer (some ⟨i, 1, none⟩)) h) h K := ldc_i hr hi rfl hK
theorem ld3_2 {t : TypeId} {i n : Nat} {a b c : Value} (hr : isPlain P t = true) (hi : h[i]? = some (.arr ⟨[a, b, c], n, false⟩)) (hK : K c h) : vK (aLoad P t (.pointer (some ⟨i, 2, none⟩)) h) h K := ldc_i hr hi rfl hK
/-- The first elements. -/
theorem head_i {t e by_ k l c : Nat} {o : Option Addr} {xs : List Int} (ht : sliceT P t e 1 by_ = true) (s : IntS h (.slice o l c) xs) (hc : l ≤ capOf l c) (h0 : 0 < xs.length) (hk : k ≤ xs.length) (hK : ∀ y, IntS h y (xs.take k) → K y h) :
    vK (aSlice P t (.slice o l c) none (some (.int .i64 (k : Int))) none h) h K := by
  obtain ⟨hu, hsz, _⟩ := sliceT_of ht
  have hb : xs.length ≤ 2 ^ 50 := s.1.2
  have hl : (xs.take k).length = k := by simp; omega
  rcases s.2 with ⟨_, _, _, _, e⟩ | ⟨i, off, c', a, hv, e1, e2, e3, e4⟩
  · omega
  · cases hv
    simp only [Nat.mul_one] at e3 e4
    refine vk_i (v := .slice (some ⟨i, off, none⟩) (xs.take k).length c) ?_ (hK _ ⟨⟨by simp, by omega⟩, .inr ⟨i, off, _, a, rfl, e1, e2, by omega, ?_⟩⟩)
    · simp only [aSlice, hu, hsz, e1, e2, if_true, aBoundO, aBound]
      rw [if_pos ⟨by omega, by omega⟩]
      simp only [Int.toNat_natCast, Nat.zero_mul, Nat.add_zero, Nat.sub_zero, hl]
      split <;> simp_all
    · rw [Nat.mul_one, hl, List.map_take, ← e4, List.take_take, Nat.min_eq_left hk]
end Go.AM
