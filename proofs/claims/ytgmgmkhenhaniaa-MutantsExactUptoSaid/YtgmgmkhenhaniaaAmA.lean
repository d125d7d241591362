/-
  The abstract memory: a heap of arrays that are told by lists, its relation to the machine's memory.
-/
import Derived.Orders
import Derived.Laws.Append
import Derived.Laws.Slices
import Derived.RowKit3
namespace Go.AM

/-- An abstract array: its cells; how many cells an element of a slice of it has; may it be written? -/
structure Arr where
  cells : List Value
  esz : Nat
  ro : Bool

/-- What a number of the abstract heap names. -/
inductive Ob where
  | dead
  | arr (a : Arr)
  | map (es : List (Value × Value))

abbrev Heap := List Ob

/-- Where an abstract array lies: a block, the place of its first cell, the block's cells, an element's cells. -/
structure Loc where
  blk : Nat
  off : Nat
  size : Nat
  esz : Nat

abbrev Place := Nat → Option Loc

/-- An abstract value and the machine's. -/
inductive VRel (ρ : Place) : Value → Value → Prop
  | bool (b : Bool) : VRel ρ (.bool b) (.bool b)
  | int (k : IntKind) (n : Int) : VRel ρ (.int k n) (.int k n)
  | string (s : ByteArray) : VRel ρ (.string s) (.string s)
  | nilFunc : VRel ρ .nilFunc .nilFunc
  | nilIface : VRel ρ .nilIface .nilIface
  | nilPtr : VRel ρ (.pointer none) (.pointer none)
  | ptr {i off : Nat} {L : Loc} (h : ρ i = some L) : VRel ρ (.pointer (some ⟨i, off, none⟩)) (.pointer (some ⟨L.blk, L.off + off, none⟩))
  | nilSlice : VRel ρ (.slice none 0 0) (.slice none 0 0)
  | slice {i off len capA capC : Nat} {c : Addr} {L : Loc} (h : ρ i = some L) (hlen : len ≤ capC) (hcap : capA ≠ 0 → capA = capC + 1)
      (hc : 0 < capC → c = ⟨L.blk, L.off + off, none⟩ ∧ L.off + off + capC * L.esz ≤ L.size) :
      VRel ρ (.slice (some ⟨i, off, none⟩) len capA) (.slice (some c) len capC)
  | nilMap : VRel ρ (.map none) (.map none)
  | map {i : Nat} {L : Loc} (h : ρ i = some L) : VRel ρ (.map (some i)) (.map (some L.blk))
  | func (f : FuncId) {fa fc ca cc : Array Value} (h1 : fa.size = fc.size) (h2 : ∀ j, VRel ρ (fa.getD j undef) (fc.getD j undef))
      (h3 : ca.size = cc.size) (h4 : ∀ j, VRel ρ (ca.getD j undef) (cc.getD j undef)) : VRel ρ (.func (.func f) fa ca) (.func (.func f) fc cc)
  | agg {a c : Array Value} (h1 : a.size = c.size) (h2 : ∀ j, VRel ρ (a.getD j undef) (c.getD j undef)) : VRel ρ (.agg a) (.agg c)
  | tuple {a c : Array Value} (h1 : a.size = c.size) (h2 : ∀ j, j < a.size → VRel ρ (a.getD j undef) (c.getD j undef)) : VRel ρ (.tuple a) (.tuple c)

theorem VRel.undef' (ρ : Place) : VRel ρ undef undef := by
  unfold undef
  exact .tuple rfl (fun j h => absurd h (by simp))

def Le (ρ ρ' : Place) : Prop := ∀ i L, ρ i = some L → ρ' i = some L
theorem Le.refl (ρ : Place) : Le ρ ρ := fun _ _ h => h
theorem Le.trans {a b c : Place} (h : Le a b) (k : Le b c) : Le a c := fun i L x => k i L (h i L x)

theorem VRel.mono {ρ ρ' : Place} (hle : Le ρ ρ') {v c : Value} (h : VRel ρ v c) : VRel ρ' v c := by
  induction h with
  | bool => exact .bool _
  | int => exact .int _ _
  | string => exact .string _
  | nilFunc => exact .nilFunc
  | nilIface => exact .nilIface
  | nilPtr => exact .nilPtr
  | ptr h => exact .ptr (hle _ _ h)
  | nilSlice => exact .nilSlice
  | slice h hl hcap hc => exact .slice (hle _ _ h) hl hcap hc
  | nilMap => exact .nilMap
  | map h => exact .map (hle _ _ h)
  | func f h1 _ h3 _ ih2 ih4 => exact .func f h1 ih2 h3 ih4
  | agg h1 _ ih2 => exact .agg h1 ih2
  | tuple h1 _ ih2 => exact .tuple h1 ih2

/-- What is related below, and above too, is related below. -/
theorem VRel.back {ρ ρ' : Place} (hle : Le ρ ρ') {v c : Value} (h : VRel ρ v c) : ∀ {c' : Value}, VRel ρ' v c' → VRel ρ v c' := by
  induction h with
  | bool => intro c' h'; cases h'; exact .bool _
  | int => intro c' h'; cases h'; exact .int _ _
  | string => intro c' h'; cases h'; exact .string _
  | nilFunc => intro c' h'; cases h'; exact .nilFunc
  | nilIface => intro c' h'; cases h'; exact .nilIface
  | nilPtr => intro c' h'; cases h'; exact .nilPtr
  | ptr h =>
    intro c' h'
    cases h' with
    | ptr h2 => rw [hle _ _ h] at h2; cases h2; exact .ptr h
  | nilSlice => intro c' h'; cases h'; exact .nilSlice
  | slice h hl hcap hc =>
    intro c' h'
    cases h' with
    | slice h2 hl2 hcap2 hc2 => rw [hle _ _ h] at h2; cases h2; exact .slice h hl2 hcap2 hc2
  | nilMap => intro c' h'; cases h'; exact .nilMap
  | map h =>
    intro c' h'
    cases h' with
    | map h2 => rw [hle _ _ h] at h2; cases h2; exact .map h
  | func f h1 _ h3 _ ih2 ih4 =>
    intro c' h'
    cases h' with
    | func _ k1 k2 k3 k4 => exact .func f k1 (fun j => ih2 j (k2 j)) k3 (fun j => ih4 j (k4 j))
  | agg h1 _ ih2 =>
    intro c' h'
    cases h' with
    | agg k1 k2 => exact .agg k1 (fun j => ih2 j (k2 j))
  | tuple h1 _ ih2 =>
    intro c' h'
    cases h' with
    | tuple k1 k2 => exact .tuple k1 (fun j hj => ih2 j hj (k2 j hj))

/-- May this number's block be written? -/
def Writable (h : Heap) (i : Nat) : Prop := (∃ a, h[i]? = some (.arr a) ∧ a.ro = false) ∨ (∃ es, h[i]? = some (.map es))
def Alive (h : Heap) (i : Nat) : Prop := (∃ a, h[i]? = some (.arr a)) ∨ (∃ es, h[i]? = some (.map es))
theorem Writable.alive {h : Heap} {i : Nat} (w : Writable h i) : Alive h i := w.imp (fun ⟨a, e, _⟩ => ⟨a, e⟩) id

/-- Two lists of cells, one by one. -/
def CRel (ρ : Place) (vs : List Value) (cs : Array Value) (off : Nat) : Prop := ∀ k, k < vs.length → VRel ρ (vs.getD k undef) (cs.getD (off + k) undef)

structure Rel (h : Heap) (ρ : Place) (w : World) : Prop where
  dom : ∀ i L, ρ i = some L → i < h.length
  arr : ∀ i L a, ρ i = some L → h[i]? = some (.arr a) → ∃ cs ty fr, w.heap[L.blk]? = some (.cells cs ty fr) ∧ cs.size = L.size ∧
    L.off + a.cells.length ≤ L.size ∧ L.esz = a.esz ∧ CRel ρ a.cells cs L.off ∧ (a.ro = false → fr = (0, 0))
  map : ∀ i L es, ρ i = some L → h[i]? = some (.map es) → ∃ (entries : Array MapEntry) (clock : Nat), w.heap[L.blk]? = some (.map entries clock) ∧ entries.size = es.length ∧
    ∀ (k : Nat) (e : MapEntry) (x : Value × Value), entries[k]? = some e → es[k]? = some x → VRel ρ x.1 e.key ∧ VRel ρ x.2 e.val
  inj : ∀ i j Li Lj, ρ i = some Li → ρ j = some Lj → i ≠ j → Writable h i → Alive h j → Li.blk ≠ Lj.blk

/-- What one stretch of the machine's way leaves as it was. -/
structure Step (h : Heap) (ρ : Place) (w : World) (h' : Heap) (ρ' : Place) (w' : World) : Prop where
  ext : Le ρ ρ'
  new : ∀ i L, ρ' i = some L → ρ i = some L ∨ (h.length ≤ i ∧ ρ i = none)
  len : h.length ≤ h'.length
  os : w'.os = w.os
  tape : w'.tape = w.tape
  output : w'.output = w.output
  size : w.heap.size ≤ w'.heap.size
  drawn : w.drawn ≤ w'.drawn
  keep : ∀ b, b < w.heap.size → (∀ i L, ρ i = some L → Writable h i → L.blk ≠ b) → w'.heap[b]? = w.heap[b]?
  old : ∀ i L, ρ' i = some L → Alive h' i → L.blk < w.heap.size → ∃ i0 L0, ρ i0 = some L0 ∧ L0.blk = L.blk ∧ Alive h i0 ∧ (Writable h' i → Writable h i0)

theorem Step.refl (h : Heap) (ρ : Place) (w : World) : Step h ρ w h ρ w :=
  ⟨Le.refl _, fun _ _ h => .inl h, Nat.le_refl _, rfl, rfl, rfl, Nat.le_refl _, by first | exact Nat.le_refl _ | exact Nat.le_add_right _ _, fun _ _ _ => rfl, fun i L h1 h2 _ => ⟨i, L, h1, rfl, h2, id⟩⟩

theorem Step.trans {h h1 h2 : Heap} {ρ ρ1 ρ2 : Place} {w w1 w2 : World} (s : Step h ρ w h1 ρ1 w1) (t : Step h1 ρ1 w1 h2 ρ2 w2) : Step h ρ w h2 ρ2 w2 where
  ext := s.ext.trans t.ext
  new i L hi := by
    rcases t.new i L hi with h3 | ⟨h3, h4⟩
    · exact s.new i L h3
    · refine .inr ⟨Nat.le_trans s.len h3, ?_⟩
      cases e : ρ i with
      | none => rfl
      | some L' => exact absurd (s.ext _ _ e) (by simp [h4])
  len := Nat.le_trans s.len t.len
  os := t.os.trans s.os
  tape := t.tape.trans s.tape
  output := t.output.trans s.output
  size := Nat.le_trans s.size t.size
  drawn := Nat.le_trans s.drawn t.drawn
  keep b hb hn := by
    rw [t.keep b (Nat.lt_of_lt_of_le hb s.size) ?_]
    · exact s.keep b hb hn
    · intro i L hi hw e
      obtain ⟨i0, L0, r0, e0, _, w0⟩ := s.old i L hi hw.alive (by omega)
      exact hn i0 L0 r0 (w0 hw) (by omega)
  old i L hi hw hlt := by
    obtain ⟨i1, L1, r1, e1, a1, w1'⟩ := t.old i L hi hw (Nat.lt_of_lt_of_le hlt s.size)
    obtain ⟨i0, L0, r0, e0, a0, w0⟩ := s.old i1 L1 r1 a1 (by omega)
    exact ⟨i0, L0, r0, by omega, a0, fun x => w0 (w1' x)⟩

theorem Rel.blk_lt {h : Heap} {ρ : Place} {w : World} (R : Rel h ρ w) {i : Nat} {L : Loc} (hi : ρ i = some L) (ha : Alive h i) : L.blk < w.heap.size := by
  rcases ha with ⟨a, e⟩ | ⟨es, e⟩
  · obtain ⟨cs, ty, fr, hb, _⟩ := R.arr i L a hi e
    exact (Array.getElem?_eq_some_iff.mp hb).1
  · obtain ⟨en, cl, hb, _⟩ := R.map i L es hi e
    exact (Array.getElem?_eq_some_iff.mp hb).1

/-- Nothing but a draw. -/
theorem Rel.drew {h : Heap} {ρ : Place} {w : World} (R : Rel h ρ w) : Rel h ρ w.drew := ⟨R.dom, R.arr, R.map, R.inj⟩
theorem Step.drew (h : Heap) (ρ : Place) (w : World) : Step h ρ w h ρ w.drew :=
  ⟨Le.refl _, fun _ _ h => .inl h, Nat.le_refl _, rfl, rfl, rfl, Nat.le_refl _, by first | exact Nat.le_refl _ | exact Nat.le_add_right _ _, fun _ _ _ => rfl, fun i L h1 h2 _ => ⟨i, L, h1, rfl, h2, id⟩⟩

/-- The places, with one more. -/
def Place.put (ρ : Place) (i : Nat) (L : Loc) : Place := fun j => if j = i then some L else ρ j
theorem Place.put_same (ρ : Place) (i : Nat) (L : Loc) : ρ.put i L i = some L := by simp [Place.put]
theorem Place.put_ne (ρ : Place) {i j : Nat} (L : Loc) (h : j ≠ i) : ρ.put i L j = ρ j := by simp [Place.put, h]
theorem Rel.fresh {h : Heap} {ρ : Place} {w : World} (R : Rel h ρ w) : ρ h.length = none := by
  cases e : ρ h.length with
  | none => rfl
  | some L => exact absurd (R.dom _ _ e) (by omega)
theorem Rel.le_put {h : Heap} {ρ : Place} {w : World} (R : Rel h ρ w) (L : Loc) : Le ρ (ρ.put h.length L) := by
  intro i L' hi
  have : i ≠ h.length := fun e => by have := R.dom _ _ hi; omega
  rw [Place.put_ne _ _ this]; exact hi

theorem getElem?_snoc_lt {h : Heap} {o : Ob} {i : Nat} (hi : i < h.length) : (h ++ [o])[i]? = h[i]? := by
  rw [List.getElem?_append_left hi]
theorem alive_snoc {h : Heap} {o : Ob} {i : Nat} (hi : i < h.length) : Alive (h ++ [o]) i ↔ Alive h i := by
  unfold Alive; rw [getElem?_snoc_lt hi]
theorem writable_snoc {h : Heap} {o : Ob} {i : Nat} (hi : i < h.length) : Writable (h ++ [o]) i ↔ Writable h i := by
  unfold Writable; rw [getElem?_snoc_lt hi]

/-- A new array in a new block. -/
theorem Rel.newArr {h : Heap} {ρ : Place} {w : World} (R : Rel h ρ w) (a : Arr) (cs : Array Value) (ty : TypeId)
    (hl : a.cells.length ≤ cs.size) (hc : CRel ρ a.cells cs 0) :
    Rel (h ++ [.arr a]) (ρ.put h.length ⟨w.heap.size, 0, cs.size, a.esz⟩) (w.alloc (.cells cs ty)) ∧
    Step h ρ w (h ++ [.arr a]) (ρ.put h.length ⟨w.heap.size, 0, cs.size, a.esz⟩) (w.alloc (.cells cs ty)) := by
  have hle := R.le_put ⟨w.heap.size, 0, cs.size, a.esz⟩
  have hcases : ∀ i L, ρ.put h.length ⟨w.heap.size, 0, cs.size, a.esz⟩ i = some L → (i = h.length ∧ L = ⟨w.heap.size, 0, cs.size, a.esz⟩) ∨ (i < h.length ∧ ρ i = some L) := by
    intro i L hi
    by_cases e : i = h.length
    · subst e; rw [Place.put_same] at hi; exact .inl ⟨rfl, (Option.some.inj hi).symm⟩
    · rw [Place.put_ne _ _ e] at hi; exact .inr ⟨R.dom _ _ hi, hi⟩
  have hold : ∀ k, k < w.heap.size → (w.alloc (.cells cs ty)).heap[k]? = w.heap[k]? := by
    intro k hk
    show (w.heap.push _)[k]? = _
    rw [Array.getElem?_push, if_neg (by omega)]
  refine ⟨⟨?_, ?_, ?_, ?_⟩, ⟨hle, ?_, ?_, rfl, rfl, rfl, ?_, Nat.le_refl _, ?_, ?_⟩⟩
  · intro i L hi
    rcases hcases i L hi with ⟨e, _⟩ | ⟨e, _⟩ <;> simp <;> omega
  · intro i L b hi hb
    rcases hcases i L hi with ⟨rfl, rfl⟩ | ⟨e, hi'⟩
    · rw [List.getElem?_append_right (Nat.le_refl _)] at hb
      simp at hb; subst hb
      refine ⟨cs, ty, (0, 0), ?_, rfl, by simpa using hl, rfl, ?_, fun _ => rfl⟩
      · show (w.heap.push _)[w.heap.size]? = _
        simp
      · intro k hk; simpa using (hc k hk).mono hle
    · rw [getElem?_snoc_lt e] at hb
      obtain ⟨cs', ty', fr', h1, h2, h3, h4, h5, h6⟩ := R.arr i L b hi' hb
      refine ⟨cs', ty', fr', ?_, h2, h3, h4, fun k hk => (h5 k hk).mono hle, h6⟩
      rw [hold _ (R.blk_lt hi' (.inl ⟨b, hb⟩))]; exact h1
  · intro i L es hi hb
    rcases hcases i L hi with ⟨rfl, rfl⟩ | ⟨e, hi'⟩
    · rw [List.getElem?_append_right (Nat.le_refl _)] at hb; simp at hb
    · rw [getElem?_snoc_lt e] at hb
      obtain ⟨en, cl, h1, h2, h3⟩ := R.map i L es hi' hb
      refine ⟨en, cl, ?_, h2, fun k e' x he hx => ⟨((h3 k e' x he hx).1).mono hle, ((h3 k e' x he hx).2).mono hle⟩⟩
      rw [hold _ (R.blk_lt hi' (.inr ⟨es, hb⟩))]; exact h1
  · intro i j Li Lj hi hj hne hwi haj
    rcases hcases i Li hi with ⟨rfl, rfl⟩ | ⟨ei, hi'⟩
    · rcases hcases j Lj hj with ⟨rfl, rfl⟩ | ⟨ej, hj'⟩
      · exact absurd rfl hne
      · rw [alive_snoc ej] at haj
        have := R.blk_lt hj' haj
        simp only; omega
    · rw [writable_snoc ei] at hwi
      rcases hcases j Lj hj with ⟨rfl, rfl⟩ | ⟨ej, hj'⟩
      · have := R.blk_lt hi' hwi.alive
        simp only; omega
      · rw [alive_snoc ej] at haj
        exact R.inj i j Li Lj hi' hj' hne hwi haj
  · intro i L hi
    rcases hcases i L hi with ⟨rfl, _⟩ | ⟨_, hi'⟩
    · exact .inr ⟨Nat.le_refl _, R.fresh⟩
    · exact .inl hi'
  · simp
  · simp
  · intro b hb _; exact hold b hb
  · intro i L hi hw hlt
    rcases hcases i L hi with ⟨rfl, rfl⟩ | ⟨e, hi'⟩
    · simp only at hlt; omega
    · rw [alive_snoc e] at hw
      exact ⟨i, L, hi', rfl, hw, fun x => by rwa [writable_snoc e] at x⟩

end Go.AM
