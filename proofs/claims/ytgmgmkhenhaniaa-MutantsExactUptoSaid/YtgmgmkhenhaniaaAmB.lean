/-
  The operations over the abstract memory, each held against the machine's: loads, addresses, parts, numbers.
-/
import Derived.Test.YtgmgmkhenhaniaaAmA
import Derived.Laws.CopyRow
import Derived.Deep.MidRow
set_option linter.unusedSimpArgs false
set_option linter.unusedVariables false
namespace Go.AM
variable {P : Program} {h h' : Heap} {ρ : Place} {w : World}

def szOf (P : Program) (t : TypeId) : Option Nat := (P.info? t).map (·.size)
def zeroOf (P : Program) (t : TypeId) : Option Value := (P.info? t).bind (·.zero)
def bytesOf' (P : Program) (t : TypeId) : Option Nat := (P.info? t).map (·.bytes)

theorem run_sizeOf {t : TypeId} {n : Nat} (hs : szOf P t = some n) (w : World) : (sizeOf t).run P w = .ok n w := by
  unfold szOf at hs
  cases hq : P.info? t with
  | none => simp [hq] at hs
  | some i => simp [hq] at hs; simp [sizeOf, typeInfo, hq, hs]
theorem run_zeroValue {t : TypeId} {z : Value} (hs : zeroOf P t = some z) (w : World) : (zeroValue t).run P w = .ok z w := by
  unfold zeroOf at hs
  cases hq : P.info? t with
  | none => simp [hq] at hs
  | some i => simp [hq] at hs; simp [zeroValue, typeInfo, hq, hs]
theorem run_isAgg {t : TypeId} {d : TypeDesc} (hu : P.underlying t = some d) (w : World) : (isAgg t).run P w = .ok d.isRow w := by
  unfold isAgg
  rw [Sem.run_bind, run_underlying hu w]
  cases d <;> simp

theorem cell_at {b o j : Nat} {cs : Array Value} {ty : TypeId} {fr : Nat × Nat} (hb : w.heap[b]? = some (.cells cs ty fr)) (hj : o + j < cs.size) :
    w.cell? ⟨b, o + j, none⟩ = some (cs.getD (o + j) undef) := by
  simp [World.cell?, hb, Array.getD, hj]

theorem getD_eq_of_getElem? {l : List Value} {k : Nat} {v : Value} (h : l[k]? = some v) : l.getD k undef = v := by simp [List.getD, h]

/-! ### loads -/
def aLoad (P : Program) (t : TypeId) (a : Value) (h : Heap) : Option Value :=
  match a with
  | .pointer (some ⟨i, off, none⟩) =>
    match h[i]? with
    | some (.arr ar) =>
      match P.underlying t with
      | some d =>
        if d.isRow then
          match szOf P t with
          | some n => if off + n ≤ ar.cells.length then some (.agg ((ar.cells.drop off).take n).toArray) else none
          | none => none
        else ar.cells[off]?
      | none => none
    | _ => none
  | _ => none

theorem aLoad_sound {t : TypeId} {a v c : Value} (hl : aLoad P t a h = some v) (R : Rel h ρ w) (ha : VRel ρ a c) :
    ∃ c', (Instr.loadAt t c).run P w = .ok c' w ∧ VRel ρ v c' := by
  unfold aLoad at hl
  split at hl
  · rename_i i off
    cases ha with
    | ptr hi =>
      rename_i L
      split at hl
      · rename_i ar har
        obtain ⟨cs, ty, fr, hb, hsz, hfit, _, hc, _⟩ := R.arr i L ar hi har
        split at hl
        · rename_i d hd
          split at hl
          · rename_i hrow
            split at hl
            · rename_i n hn
              split at hl
              · rename_i hle
                cases hl
                have hlen : ((cs.toList.drop (L.off + off)).take n).length = n := by simp; omega
                refine ⟨.agg ((cs.toList.drop (L.off + off)).take n).toArray, ?_, ?_⟩
                · refine run_loadAt_mid w L.blk (L.off + off) t _ d ?_ hd hrow ?_
                  · intro j v hv
                    rw [List.getElem?_take, List.getElem?_drop] at hv
                    split at hv
                    · rename_i hj
                      rw [cell_at hb (by omega)]
                      simp at hv
                      simp [Array.getD, hv]
                      obtain ⟨h1, h2⟩ := Array.getElem?_eq_some_iff.mp hv
                      simp [h1, h2]
                    · simp at hv
                  · unfold szOf at hn; rw [hlen]; exact hn
                · refine .agg ?_ ?_
                  · simp; omega
                  · intro j
                    by_cases hj : j < n
                    · have h1 := hc (off + j) (by omega)
                      have e1 : (((ar.cells.drop off).take n).toArray).getD j undef = ar.cells.getD (off + j) undef := by
                        simp [Array.getD, List.getD, hj]
                        split
                        · rename_i hh
                          rw [List.getElem?_eq_getElem (by omega)]; rfl
                        · rename_i hh; omega
                      have e2 : (((cs.toList.drop (L.off + off)).take n).toArray).getD j undef = cs.getD (L.off + (off + j)) undef := by
                        simp [Array.getD, hj]
                        rw [dif_pos (by omega), dif_pos (by omega)]
                        simp [Nat.add_assoc]
                      rw [e1, e2]; exact h1
                    · have e1 : (((ar.cells.drop off).take n).toArray).getD j undef = undef := by
                        simp [Array.getD]; intro h1; omega
                      have e2 : (((cs.toList.drop (L.off + off)).take n).toArray).getD j undef = undef := by
                        simp [Array.getD]; intro h1; omega
                      rw [e1, e2]; exact VRel.undef' ρ
              · cases hl
            · cases hl
          · rename_i hrow
            obtain ⟨hlt, _⟩ := List.getElem?_eq_some_iff.mp hl
            have h1 := hc off hlt
            rw [getD_eq_of_getElem? hl] at h1
            refine ⟨cs.getD (L.off + off) undef, ?_, h1⟩
            have hcell := cell_at (w := w) (j := off) (o := L.off) hb (by omega)
            have hag := run_isAgg hd w
            simp only [Instr.loadAt, Instr.sureAddr, Sem.run_bind, Sem.run_pure, Result.andThen_ok, loadVar, hag]
            simp [hrow, hcell]
        · cases hl
      · cases hl
  · cases hl

/-! ### parts of values -/
def aPart (P : Program) (t : TypeId) (cs : Array Value) (off : Nat) : Option Value :=
  match P.underlying t with
  | some d =>
    if d.isRow then
      match szOf P t with
      | some n => some (.agg (cs.extract off (off + n)))
      | none => none
    else cs[off]?
  | none => none

theorem agg_extract {a c : Array Value} (h1 : a.size = c.size) (h2 : ∀ j, VRel ρ (a.getD j undef) (c.getD j undef)) (off m : Nat) :
    VRel ρ (.agg (a.extract off m)) (.agg (c.extract off m)) := by
  refine .agg (by simp [h1]) fun j => ?_
  by_cases hj : j < (a.extract off m).size
  · have hj' : j < (c.extract off m).size := by simpa [h1] using hj
    have e1 : (a.extract off m).getD j undef = a.getD (off + j) undef := by
      simp only [Array.getD, hj, dif_pos, Array.getInternal_eq_getElem, Array.getElem_extract]
      rw [dif_pos (by simp at hj; omega)]
    have e2 : (c.extract off m).getD j undef = c.getD (off + j) undef := by
      simp only [Array.getD, hj', dif_pos, Array.getInternal_eq_getElem, Array.getElem_extract]
      rw [dif_pos (by simp at hj'; omega)]
    rw [e1, e2]; exact h2 _
  · have hj' : ¬ j < (c.extract off m).size := by simpa [h1] using hj
    have e1 : (a.extract off m).getD j undef = undef := by simp only [Array.getD, hj]; rfl
    have e2 : (c.extract off m).getD j undef = undef := by simp only [Array.getD, hj']; rfl
    rw [e1, e2]; exact VRel.undef' ρ

theorem aPart_sound {t : TypeId} {a c : Array Value} {off : Nat} {v : Value} (hl : aPart P t a off = some v) (h1 : a.size = c.size) (h2 : ∀ j, VRel ρ (a.getD j undef) (c.getD j undef)) (w : World) :
    ∃ c', (part t c off).run P w = .ok c' w ∧ VRel ρ v c' := by
  unfold aPart at hl
  split at hl
  · rename_i d hd
    have hag := run_isAgg hd w
    split at hl
    · rename_i hrow
      split at hl
      · rename_i n hn
        cases hl
        refine ⟨.agg (c.extract off (off + n)), ?_, agg_extract h1 h2 _ _⟩
        simp only [part, Sem.run_bind, hag, Result.andThen_ok, hrow, if_true, run_sizeOf hn w, Sem.run_pure]
      · cases hl
    · rename_i hrow
      obtain ⟨hlt, he⟩ := Array.getElem?_eq_some_iff.mp hl
      have := h2 off
      have e1 : a.getD off undef = v := by simp [Array.getD, hlt, he]
      have e2 : c[off]? = some (c.getD off undef) := by simp [Array.getD, h1 ▸ hlt]
      rw [e1] at this
      generalize c.getD off undef = z at *
      refine ⟨z, ?_, this⟩
      simp only [part, Sem.run_bind, hag, Result.andThen_ok]
      simp [hrow, e2]
  · cases hl

def aField (P : Program) (t : TypeId) (x : Value) (k : Nat) : Option Value :=
  match P.underlying t, x with
  | some (.struct fields), .agg cs =>
    match fields[k]? with
    | some f => aPart P f.type cs f.offset
    | none => none
  | _, _ => none

theorem aField_sound {t : TypeId} {x c v : Value} {k : Nat} (hl : aField P t x k = some v) (hx : VRel ρ x c) (w : World) :
    ∃ c', (Instr.field t c k).run P w = .ok c' w ∧ VRel ρ v c' := by
  unfold aField at hl
  split at hl
  · rename_i fields cs hu
    cases hx with
    | agg h1 h2 =>
      split at hl
      · rename_i f hf
        obtain ⟨c', hr, hv⟩ := aPart_sound hl h1 h2 w
        exact ⟨c', by simp [Instr.field, run_underlying hu w, hf, asAgg, hr], hv⟩
      · cases hl
  · cases hl

def aExtract (x : Value) (k : Nat) : Option Value :=
  match x with
  | .tuple vs => vs[k]?
  | _ => none
theorem aExtract_sound {x c v : Value} {k : Nat} (hl : aExtract x k = some v) (hx : VRel ρ x c) (w : World) :
    ∃ c', (Instr.extract c k).run P w = .ok c' w ∧ VRel ρ v c' := by
  unfold aExtract at hl
  split at hl
  · cases hx with
    | tuple h1 h2 =>
      rename_i vs cs
      obtain ⟨hlt, he⟩ := Array.getElem?_eq_some_iff.mp hl
      have := h2 k hlt
      have e1 : vs.getD k undef = v := by simp [Array.getD, hlt, he]
      have e2 : cs[k]? = some (cs.getD k undef) := by simp [Array.getD, h1 ▸ hlt]
      rw [e1] at this
      generalize cs.getD k undef = z at *
      exact ⟨z, by simp [Instr.extract, e2], this⟩
  · cases hl

/-! ### addresses -/
theorem add_none (b o n : Nat) : (⟨b, o, none⟩ : Addr).add n = ⟨b, o + n, none⟩ := by
  unfold Addr.add; split
  · rename_i h; subst h; rfl
  · rfl

def aFieldAddr (P : Program) (t : TypeId) (x : Value) (k : Nat) : Option Value :=
  match P.underlying t, x with
  | some (.struct fields), .pointer (some ⟨i, off, none⟩) =>
    match fields[k]? with
    | some f =>
      match szOf P f.type with
      | some (_ + 1) => some (.pointer (some ⟨i, off + f.offset, none⟩))
      | _ => none
    | none => none
  | _, _ => none
theorem aFieldAddr_sound {t : TypeId} {x c v : Value} {k : Nat} (hl : aFieldAddr P t x k = some v) (hx : VRel ρ x c) (w : World) :
    ∃ c', (Instr.fieldAt t c k).run P w = .ok c' w ∧ VRel ρ v c' := by
  unfold aFieldAddr at hl
  split at hl
  · rename_i fields i off hu
    cases hx with
    | ptr hi =>
      rename_i L
      split at hl
      · rename_i f hf
        split at hl
        · rename_i n hn
          cases hl
          refine ⟨.pointer (some ⟨L.blk, L.off + (off + f.offset), none⟩), ?_, .ptr hi⟩
          simp [Instr.fieldAt, run_underlying hu w, hf, Instr.sureAddr, fieldPlace, run_sizeOf hn w, add_none, Nat.add_assoc]
        · cases hl
      · cases hl
  · cases hl

def aIndexAddr (P : Program) (t : TypeId) (x ix : Value) : Option Value :=
  match ix with
  | .int _ n =>
    match P.underlying t, x with
    | some (.slice e), .slice (some ⟨i, off, none⟩) len _ =>
      match szOf P e with
      | some sz => if 0 ≤ n ∧ n < len then some (.pointer (some ⟨i, off + n.toNat * sz, none⟩)) else none
      | none => none
    | some (.array len e), .pointer (some ⟨i, off, none⟩) =>
      match szOf P e with
      | some sz => if 0 ≤ n ∧ n < len then some (.pointer (some ⟨i, off + n.toNat * sz, none⟩)) else none
      | none => none
    | _, _ => none
  | _ => none
theorem aIndexAddr_sound {t : TypeId} {x ix c cx v : Value} (hl : aIndexAddr P t x ix = some v) (hx : VRel ρ x c) (hix : VRel ρ ix cx) (w : World) :
    ∃ c', (Instr.indexAt t c cx).run P w = .ok c' w ∧ VRel ρ v c' := by
  unfold aIndexAddr at hl
  split at hl
  · rename_i k n
    cases hix
    split at hl
    · rename_i e i off len cap hu
      split at hl
      · rename_i sz hsz
        split at hl
        · rename_i hb
          cases hl
          cases hx with
          | slice hi hlen hcap hc =>
            rename_i capC a L
            obtain ⟨rfl, _⟩ := hc (by omega)
            refine ⟨.pointer (some ⟨L.blk, L.off + (off + n.toNat * sz), none⟩), ?_, .ptr hi⟩
            simp [Instr.indexAt, asIntOf, run_underlying hu w, hb, run_sizeOf hsz w, add_none, Nat.add_assoc]
        · cases hl
      · cases hl
    · rename_i len e i off hu
      split at hl
      · rename_i sz hsz
        split at hl
        · rename_i hb
          cases hl
          cases hx with
          | ptr hi =>
            rename_i L
            refine ⟨.pointer (some ⟨L.blk, L.off + (off + n.toNat * sz), none⟩), ?_, .ptr hi⟩
            simp [Instr.indexAt, asIntOf, run_underlying hu w, hb, run_sizeOf hsz w, add_none, Nat.add_assoc, Instr.sureAddr]
        · cases hl
      · cases hl
    · cases hl
  · cases hl

def aIndex (P : Program) (t : TypeId) (x ix : Value) : Option Value :=
  match ix with
  | .int _ n =>
    match P.underlying t, x with
    | some (.array len e), .agg cs =>
      match szOf P e with
      | some sz => if 0 ≤ n ∧ n < len then aPart P e cs (n.toNat * sz) else none
      | none => none
    | some .string, .string s =>
      if 0 ≤ n then (s[n.toNat]?).map fun b => .int .u8 b.toNat else none
    | _, _ => none
  | _ => none
theorem aIndex_sound {t : TypeId} {x ix c cx v : Value} (hl : aIndex P t x ix = some v) (hx : VRel ρ x c) (hix : VRel ρ ix cx) (w : World) :
    ∃ c', (Instr.index t c cx).run P w = .ok c' w ∧ VRel ρ v c' := by
  unfold aIndex at hl
  split at hl
  · rename_i k n
    cases hix
    split at hl
    · rename_i len e cs hu
      split at hl
      · rename_i sz hsz
        split at hl
        · rename_i hb
          cases hx with
          | agg h1 h2 =>
            obtain ⟨c', hr, hv⟩ := aPart_sound hl h1 h2 w
            exact ⟨c', by simp [Instr.index, asIntOf, run_underlying hu w, hb, run_sizeOf hsz w, hr], hv⟩
        · cases hl
      · cases hl
    · rename_i s hu
      cases hx
      split at hl
      · rename_i h0
        cases hs : s[n.toNat]? with
        | none => simp [hs] at hl
        | some b =>
          simp [hs] at hl
          subst hl
          exact ⟨_, by simp [Instr.index, asIntOf, run_underlying hu w, h0, hs], .int _ _⟩
      · cases hl
    · cases hl
  · cases hl

end Go.AM
