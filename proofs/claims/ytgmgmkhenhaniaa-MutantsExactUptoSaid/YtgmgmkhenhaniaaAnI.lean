import Derived.Test.YtgmgmkhenhaniaaAnH
set_option linter.unusedVariables false
set_option linter.unusedSimpArgs false
set_option linter.unnecessarySimpa false
set_option linter.unusedSectionVars false
/-! Memory of one's own in another order; pointers to structs that are only read; slices made. -/
namespace Go.AM
open Go
variable {P : Program} {h h' h1 h2 : Heap} {h0 : Base} {K : Value → Heap → Prop} {v x : Value} {l : List E} {i k sz o : Nat} {cs : List Value}
theorem Mem.perm {l' : List E} (m : Mem h0 h l) (p : l.Perm l') : Mem h0 h l' :=
  ⟨m.keep, fun e he => m.has e (p.symm.subset he), (p.filterMap _).nodup_iff.mp m.nd⟩
/-- A pointer to a struct that is only read. -/
structure Bx (α : Type) where
  get : α
instance {α : Type} [F : Flat α] : Rep (Bx α) := ⟨1, fun h cs b => ∃ v, cs = [v] ∧ Pt h v (F.cells b.get) 0, by rintro h cs a ⟨v, rfl, _⟩; rfl,
  by rintro h h' cs a hs ⟨v, e, s⟩; exact ⟨v, e, s.mono hs⟩, by rintro h cs a ⟨v, rfl, i, b, c, rfl, _⟩; rfl⟩
theorem idx_b {α : Type} [F : Flat α] {t e sz by_ : Nat} {z : Int} {l : List (Bx α)} [T : SlT P t e sz by_] (s : L h1 x l) (hz : sz = 1) (h0 : 0 ≤ z) (hk : z.toNat < l.length)
    (hK : ∀ p v, Pt h1 p [v] 0 → Pt h1 v (F.cells l[z.toNat].get) 0 → K p h) : vK (aIndexAddr P t x (.int .i64 z)) h K :=
  idx_g hz s h0 hk fun p cs hp ⟨v, e, hl⟩ => by subst e; exact hK p v hp hl
theorem idx_lz {α : Type} [R : Rep α] {t e sz by_ : Nat} {z : Int} {l : List (List α)} [T : SlT P t e sz by_] (s : L h1 x l) (hz : sz = 1) (h0 : 0 ≤ z) (hk : z.toNat < l.length)
    (hK : ∀ p v, Pt h1 p [v] 0 → L h1 v l[z.toNat] → K p h) : vK (aIndexAddr P t x (.int .i64 z)) h K :=
  idx_g hz s h0 hk fun p cs hp ⟨v, e, hl⟩ => by subst e; exact hK p v hp hl
theorem Mem.retp (m : Mem h0 h l) (hk : l[k]? = some ⟨some i, cs, sz⟩) : Pt (frz h0.g.length h) (.pointer (some ⟨i, 0, none⟩)) cs 0 := by
  obtain ⟨b, e1, e2, e3, e4, _⟩ := frz_arr (n := h0.g.length) (m.get hk) (.inr trivial)
  have := ((m.has _ (List.mem_of_getElem? hk)).2 i rfl).1.1
  exact ⟨i, 0, b, rfl, e1, e4 this, by rw [e2]; simp, by rw [e2]; simp⟩
theorem zero_of {t : Nat} {z0 : Value} [T : ZrT P t [z0]] : zeroB P t z0 := by
  have h1 := T.ok.1
  cases hz : zeroOf P t with
  | none => rw [hz] at h1; cases h1
  | some z =>
    rw [hz] at h1
    simp only [Option.map_some, Option.some.injEq] at h1
    exact ⟨z, hz, by apply Array.toList_inj.mp; simpa using h1⟩
theorem mk_g {t e by_ : Nat} {z0 : Value} {n : Int} [T : SlT P t e 1 by_] [Z : ZrT P e [z0]] (m : Mem h0 h l) (hn : 0 ≤ n) (hb : n * by_ ≤ 2 ^ 46 ∧ n ≤ 2 ^ 46)
    (hK : ∀ i h', Prec h h' → Mem h0 h' (⟨some i, List.replicate n.toNat z0, 1⟩ :: l) → K (.slice (some ⟨i, 0, none⟩) n.toNat (n.toNat + 1)) h') : okK (aMakeSlice P t (.int .i64 n) (.int .i64 n) h) K :=
  mk1_i T.ok zero_of hn hb (hK h.length _ ⟨Stab.of_pre (pre_new _ _ _)⟩ (m.add _ _))
/-! ### lists of lists, all of one's own -/
/-- The entries of the lists. -/
def rowsW {α : Type} [F : Flat α] (W : List (Option Nat)) (ls : List (List α)) : List E := List.zipWith (fun o l => ⟨o, flat l, F.sz⟩) W ls
/-- The slices over them. -/
def LL {α : Type} (vs : List Value) (W : List (Option Nat)) (ls : List (List α)) : Prop :=
  vs.length = ls.length ∧ W.length = ls.length ∧ ∀ j, j < ls.length → IsSl (vs.getD j undef) (W.getD j none) (ls.getD j []).length
section
variable {α : Type} [F : Flat α] {vs : List Value} {W : List (Option Nat)} {ls : List (List α)} {a : List α}
theorem rowsW_get {j : Nat} (s : LL vs W ls) (hj : j < ls.length) : (rowsW W ls)[j]? = some ⟨W.getD j none, flat (ls.getD j []), F.sz⟩ := by
  unfold rowsW
  have := s.2.1
  rw [List.getElem?_zipWith, List.getElem?_eq_getElem hj, List.getElem?_eq_getElem (by omega)]
  simp [List.getD, hj, show j < W.length by omega]
theorem rowsW_add (s : LL vs W ls) {o : Option Nat} : rowsW (W ++ [o]) (ls ++ [a]) = rowsW W ls ++ [⟨o, flat a, F.sz⟩] := by
  unfold rowsW
  rw [List.zipWith_append s.2.1]; rfl
theorem LL.add (s : LL vs W ls) {o : Option Nat} {v : Value} (hv : IsSl v o a.length) : LL (vs ++ [v]) (W ++ [o]) (ls ++ [a]) := by
  obtain ⟨s1, s2, s3⟩ := s
  refine ⟨by simp [s1], by simp [s2], fun j hj => ?_⟩
  by_cases e : j < ls.length
  · have h1 : (vs ++ [v]).getD j undef = vs.getD j undef := by simp [List.getD, List.getElem?_append_left (show j < vs.length by omega)]
    have h2 : (W ++ [o]).getD j none = W.getD j none := by simp [List.getD, List.getElem?_append_left (show j < W.length by omega)]
    have h3 : (ls ++ [a]).getD j [] = ls.getD j [] := by simp [List.getD, List.getElem?_append_left e]
    rw [h1, h2, h3]
    exact s3 j e
  · have e : j = ls.length := by simp at hj; omega
    subst e
    have h1 : (vs ++ [v]).getD ls.length undef = v := by rw [← s1]; simp [List.getD]
    have h2 : (W ++ [o]).getD ls.length none = o := by rw [← s2]; simp [List.getD]
    have h3 : (ls ++ [a]).getD ls.length [] = a := by simp [List.getD]
    rw [h1, h2, h3]; exact hv
theorem LL.at (s : LL vs W ls) {j : Nat} (hj : j < ls.length) : ∃ v, vs[j]? = some v ∧ IsSl v (W.getD j none) (ls.getD j []).length := by
  have e : j < vs.length := by have := s.1; omega
  refine ⟨vs[j], List.getElem?_eq_getElem e, ?_⟩
  have := s.2.2 j hj
  simpa [List.getD, e] using this
end
end Go.AM
