/-
  Contracts: finite machines, their steps.
-/
import Derived.Test.YtalnnkpdpjmmkaaAmZ
set_option linter.unusedSimpArgs false
set_option linter.unusedVariables false
namespace Go.AM
variable {P : Program} {h h' h0 h1 h2 : Heap} {K : Value → Heap → Prop} {v x : Value}

/-- A step: from, input, output, to. -/
structure St where
  fr : Int
  inp : Int
  out : Int
  to : Int
  deriving DecidableEq
def St.get (s : St) : Nat → Int | 0 => s.fr | 1 => s.inp | 2 => s.out | _ => s.to
def St.cells (s : St) : List Value := [.int .i64 s.fr, .int .i64 s.inp, .int .i64 s.out, .int .i64 s.to]
structure Mac where
  states : Int
  inputs : Int
  outputs : Int
  start : Int
  steps : List St
def StepsS (h : Heap) (v : Value) (l : List St) : Prop := Seg 4 h v l.length (l.flatMap St.cells)
theorem StepsS.mono {l : List St} (s : StepsS h v l) (hs : Sub h h') : StepsS h' v l := Seg.mono s hs
theorem StepsS.lt {l : List St} (s : StepsS h v l) : l.length ≤ 2 ^ 50 := s.1.2
theorem StepsS.keep {i : Nat} {l : List St} {a : Arr} (s : StepsS h v l) (k : KeptB i h h') (hi : h[i]? = some (.arr a)) (he : a.esz ≠ 4) : StepsS h' v l := Seg.keep s k hi he
def MacV (h : Heap) (v : Value) (m : Mac) : Prop := ∃ o l c, v = .agg #[.int .i64 m.states, .int .i64 m.inputs, .int .i64 m.outputs, .int .i64 m.start, .slice o l c] ∧ StepsS h (.slice o l c) m.steps
theorem MacV.mono {m : Mac} (s : MacV h v m) (hs : Sub h h') : MacV h' v m := by
  obtain ⟨o, l, c, e, s⟩ := s; exact ⟨o, l, c, e, s.mono hs⟩

theorem flat_at {l : List St} {k j : Nat} (hk : k < l.length) (hj : j < 4) (d : St) : (l.flatMap St.cells)[k * 4 + j]? = some (.int .i64 ((l.getD k d).get j)) := by
  induction l generalizing k with
  | nil => simp at hk
  | cons a l ih =>
    simp only [List.flatMap_cons]
    cases k with
    | zero =>
      rw [List.getElem?_append_left (by simp [St.cells]; omega)]
      match j, hj with
      | 0, _ => rfl
      | 1, _ => rfl
      | 2, _ => rfl
      | 3, _ => rfl
    | succ k =>
      rw [List.getElem?_append_right (by simp [St.cells]; omega)]
      have e : (k + 1) * 4 + j - a.cells.length = k * 4 + j := by simp [St.cells]; omega
      rw [e, ih (by simpa using hk)]
      simp
/-- A field of a slice's element. -/
def eltf (v : Value) (k j : Nat) : Value := match v with | .slice (some a) _ _ => .pointer (some ⟨a.block, a.off + k * 4 + j, none⟩) | _ => undef
/-- The type of steps: four numbers in a row. -/
def rowT4 (P : Program) (t e : Nat) : Bool :=
  (match P.underlying t with
  | some (.struct fs) => Nat.beq fs.size 4 && (List.range 4).all (fun j => match fs[j]? with | some f => Nat.beq f.offset j && Nat.beq f.type e | none => false)
  | _ => false) && (match P.underlying e with | some (.int .i64) => true | _ => false) && (match szOf P e with | some n => Nat.beq n 1 | none => false) && (match szOf P t with | some n => Nat.beq n 4 | none => false)
theorem rowT4_of {t e : Nat} (hh : rowT4 P t e = true) : (∃ fs, P.underlying t = some (.struct fs) ∧ ∀ j, j < 4 → ∃ f, fs[j]? = some f ∧ f.offset = j ∧ f.type = e) ∧ P.underlying e = some (.int .i64) ∧ szOf P e = some 1 ∧ szOf P t = some 4 := by
  unfold rowT4 at hh
  simp only [Bool.and_eq_true] at hh
  obtain ⟨⟨⟨h1, h2⟩, h3⟩, h4⟩ := hh
  refine ⟨?_, ?_, ?_, ?_⟩
  · split at h1
    · rename_i fs hu
      simp only [Bool.and_eq_true, List.all_eq_true, List.mem_range] at h1
      refine ⟨fs, hu, fun j hj => ?_⟩
      have := h1.2 j hj
      split at this
      · rename_i f hf
        simp only [Bool.and_eq_true, Nat.beq_eq] at this
        exact ⟨f, hf, this.1, this.2⟩
      · cases this
    · cases h1
  · split at h2
    · assumption
    · cases h2
  · split at h3
    · rename_i n hn; rw [hn, Nat.eq_of_beq_eq_true h3]
    · cases h3
  · split at h4
    · rename_i n hn; rw [hn, Nat.eq_of_beq_eq_true h4]
    · cases h4
theorem fae_i {t e j k : Nat} {l : List St} (ht : rowT4 P t e = true) (s : StepsS h1 x l) (hk : k < l.length) (hj : j < 4) (hK : K (eltf x k j) h) : vK (aFieldAddr P t (elt 4 x k) j) h K := by
  obtain ⟨⟨fs, hu, hfs⟩, _, hsz, _⟩ := rowT4_of ht
  obtain ⟨f, hf, ho, hty⟩ := hfs j hj
  refine vk_i (v := eltf x k j) ?_ hK
  rcases s.2 with ⟨_, _, rfl, _, e0⟩ | ⟨i, o, c, a, rfl, _⟩
  · omega
  · simp only [aFieldAddr, elt, hu, hf, hty, hsz, ho, eltf]
theorem ldf_i {t e j k : Nat} {l : List St} (ht : rowT4 P t e = true) (s : StepsS h x l) (hk : k < l.length) (hj : j < 4) (d : St) (hK : K (.int .i64 ((l.getD k d).get j)) h) : vK (aLoad P e (eltf x k j) h) h K := by
  obtain ⟨_, he, _, _⟩ := rowT4_of ht
  refine vk_i (v := .int .i64 ((l.getD k d).get j)) ?_ hK
  rcases s.2 with ⟨_, _, rfl, _, e0⟩ | ⟨i, o, c, a, rfl, e1, e2, e3, e4⟩
  · omega
  · simp only [eltf, aLoad, e1, he]
    have := flat_at hk hj d
    rw [← e4, List.getElem?_take, if_pos (by omega), List.getElem?_drop] at this
    rw [if_neg (by simp [TypeDesc.isRow])]
    rw [← this]
    congr 1
    omega
theorem ldst_i {t e k : Nat} {l : List St} (ht : rowT4 P t e = true) (s : StepsS h x l) (hk : k < l.length) (d : St) (hK : K (.agg ((l.getD k d).cells).toArray) h) : vK (aLoad P t (elt 4 x k) h) h K := by
  obtain ⟨⟨fs, hu, _⟩, _, _, hsz⟩ := rowT4_of ht
  refine vk_i (v := .agg ((l.getD k d).cells).toArray) ?_ hK
  rcases s.2 with ⟨_, _, rfl, _, e0⟩ | ⟨i, o, c, a, rfl, e1, e2, e3, e4⟩
  · omega
  · simp only [elt, aLoad, e1, hu, hsz]
    rw [if_pos (by simp [TypeDesc.isRow]), if_pos (by omega)]
    congr 3
    refine List.ext_getElem? fun j => ?_
    by_cases hj : j < 4
    · rw [List.getElem?_take, if_pos hj, List.getElem?_drop]
      have := flat_at hk hj d
      rw [← e4, List.getElem?_take, if_pos (by omega), List.getElem?_drop] at this
      rw [show o + k * 4 + j = o + (k * 4 + j) by omega, this]
      match j, hj with
      | 0, _ => rfl
      | 1, _ => rfl
      | 2, _ => rfl
      | 3, _ => rfl
    · rw [List.getElem?_take, if_neg hj, List.getElem?_eq_none (by simp [St.cells]; omega)]

/-! fields of structs of four and of five cells -/
theorem ld4_0 {t : TypeId} {i : Nat} {a b c d : Value} (hr : isPlain P t = true) (hi : h[i]? = some (.arr ⟨[a, b, c, d], 4, false⟩)) (hK : K a h) : vK (aLoad P t (.pointer (some ⟨i, 0, none⟩)) h) h K := ldc_i hr hi rfl hK
theorem ld4_1 {t : TypeId} {i : Nat} {a b c d : Value} (hr : isPlain P t = true) (hi : h[i]? = some (.arr ⟨[a, b, c, d], 4, false⟩)) (hK : K b h) : vK (aLoad P t (.pointer (some ⟨i, 1, none⟩)) h) h K := ldc_i hr hi rfl hK
theorem ld4_2 {t : TypeId} {i : Nat} {a b c d : Value} (hr : isPlain P t = true) (hi : h[i]? = some (.arr ⟨[a, b, c, d], 4, false⟩)) (hK : K c h) : vK (aLoad P t (.pointer (some ⟨i, 2, none⟩)) h) h K := ldc_i hr hi rfl hK
theorem ld4_3 {t : TypeId} {i : Nat} {a b c d : Value} (hr : isPlain P t = true) (hi : h[i]? = some (.arr ⟨[a, b, c, d], 4, false⟩)) (hK : K d h) : vK (aLoad P t (.pointer (some ⟨i, 3, none⟩)) h) h K := ldc_i hr hi rfl hK
theorem ld5_0 {t : TypeId} {i : Nat} {a b c d e : Value} (hr : isPlain P t = true) (hi : h[i]? = some (.arr ⟨[a, b, c, d, e], 5, false⟩)) (hK : K a h) : vK (aLoad P t (.pointer (some ⟨i, 0, none⟩)) h) h K := ldc_i hr hi rfl hK
theorem ld5_1 {t : TypeId} {i : Nat} {a b c d e : Value} (hr : isPlain P t = true) (hi : h[i]? = some (.arr ⟨[a, b, c, d, e], 5, false⟩)) (hK : K b h) : vK (aLoad P t (.pointer (some ⟨i, 1, none⟩)) h) h K := ldc_i hr hi rfl hK
theorem ld5_2 {t : TypeId} {i : Nat} {a b c d e : Value} (hr : isPlain P t = true) (hi : h[i]? = some (.arr ⟨[a, b, c, d, e], 5, false⟩)) (hK : K c h) : vK (aLoad P t (.pointer (some ⟨i, 2, none⟩)) h) h K := ldc_i hr hi rfl hK
theorem ld5_3 {t : TypeId} {i : Nat} {a b c d e : Value} (hr : isPlain P t = true) (hi : h[i]? = some (.arr ⟨[a, b, c, d, e], 5, false⟩)) (hK : K d h) : vK (aLoad P t (.pointer (some ⟨i, 3, none⟩)) h) h K := ldc_i hr hi rfl hK
theorem ld5_4 {t : TypeId} {i : Nat} {a b c d e : Value} (hr : isPlain P t = true) (hi : h[i]? = some (.arr ⟨[a, b, c, d, e], 5, false⟩)) (hK : K e h) : vK (aLoad P t (.pointer (some ⟨i, 4, none⟩)) h) h K := ldc_i hr hi rfl hK
end Go.AM
