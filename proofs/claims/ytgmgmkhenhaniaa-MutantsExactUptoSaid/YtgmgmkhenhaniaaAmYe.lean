/-
  Contracts: maps whose keys are numbers.
-/
import Derived.Test.YtgmgmkhenhaniaaAmYd
set_option linter.unusedSimpArgs false
set_option linter.unusedVariables false
namespace Go.AM
variable {P : Program} {h h' h0 h1 h2 : Heap} {K : Value → Heap → Prop} {v x : Value}

/-- The keys are the places, counted from d. -/
def IdxK (d : Nat) (es : List (Value × Value)) : Prop := ∀ (j : Nat) (e : Value × Value), es[j]? = some e → e.1 = .int .i64 ((d + j : Nat) : Int)
theorem IdxK.nil (d : Nat) : IdxK d [] := fun j e he => by simp at he
theorem IdxK.tail {d : Nat} {e : Value × Value} {es : List (Value × Value)} (hk : IdxK d (e :: es)) : IdxK (d + 1) es := fun j x hx => by
  have := hk (j + 1) x (by simpa using hx)
  rw [this]; congr 2; omega
theorem IdxK.snoc {d : Nat} {es : List (Value × Value)} (hk : IdxK d es) (v : Value) : IdxK d (es ++ [(.int .i64 ((d + es.length : Nat) : Int), v)]) := fun j e he => by
  by_cases q : j < es.length
  · rw [List.getElem?_append_left q] at he; exact hk j e he
  · rw [List.getElem?_append_right (by omega)] at he
    have : j - es.length = 0 := by
      rcases Nat.eq_zero_or_pos (j - es.length) with q | q
      · exact q
      · rw [List.getElem?_eq_none (by simp; omega)] at he; cases he
    rw [this] at he
    simp at he
    subst he
    have : j = es.length := by omega
    subst this; rfl
theorem eqV_int (a b : Int) : eqV (.int .i64 a) (.int .i64 b) = decide (a = b) := by
  simp [eqV, eqV1, BEq.beq]
theorem IdxK.nodup : ∀ {es : List (Value × Value)} {d : Nat}, IdxK d es → nodupV (es.map (·.1)) = true
  | [], d, _ => rfl
  | e :: es, d, hk => by
    simp only [List.map_cons, nodupV, Bool.and_eq_true, Bool.not_eq_true']
    refine ⟨?_, IdxK.nodup hk.tail⟩
    rw [← Bool.not_eq_true, List.any_eq_true]
    rintro ⟨b, hb, hq⟩
    obtain ⟨x, hx, rfl⟩ := List.mem_map.mp hb
    obtain ⟨j, hj, rfl⟩ := List.mem_iff_getElem.mp hx
    have h1 := hk.tail j es[j] (by simp [hj])
    have h2 := hk 0 e rfl
    rw [h1, h2, eqV_int, decide_eq_true_eq] at hq
    omega
theorem IdxK.ok {kt : TypeId} {es : List (Value × Value)} {d : Nat} (hk : IdxK d es) (hf : ∀ n : Int, keyF P kt (.int .i64 n) = true) : entOK P kt es = true := by
  unfold entOK
  rw [hk.nodup, Bool.and_true, List.all_eq_true]
  intro x hx
  obtain ⟨j, hj, rfl⟩ := List.mem_iff_getElem.mp hx
  rw [hk j es[j] (by simp [hj])]
  exact hf _
theorem IdxK.find : ∀ {es : List (Value × Value)} {d i s : Nat} {k v : Value}, IdxK d es → es[s]? = some (k, v) → findI (.int .i64 ((d + s : Nat) : Int)) es i = some (i + s, v)
  | [], d, i, s, k, v, _, he => by simp at he
  | e :: es, d, i, 0, k, v, hk, he => by
    have h2 := hk 0 e rfl
    simp at he
    subst he
    simp only [findI]
    simp only at h2
    rw [h2, eqV_int]
    simp
  | e :: es, d, i, s + 1, k, v, hk, he => by
    have h2 := hk 0 e rfl
    simp only [findI]
    rw [h2, eqV_int, if_neg (by simp; omega)]
    have := IdxK.find (i := i + 1) hk.tail (s := s) (k := k) (v := v) (by simpa using he)
    rw [show d + (s + 1) = d + 1 + s by omega, this]
    congr 2; omega
theorem Sub.setMap {i : Nat} {es es' : List (Value × Value)} (hi : h[i]? = some (.map es)) : Sub h (h.set i (.map es')) := ⟨by simp, fun j a e => by
  rw [List.getElem?_set, if_neg (by rintro rfl; rw [hi] at e; cases e)]; exact e⟩
end Go.AM
