/-
  The operations over the abstract memory, the fifth part: append, copy.
-/
import Derived.Test.YtgmgmkhenhaniaaAmE
set_option linter.unusedSimpArgs false
set_option linter.unusedVariables false
namespace Go.AM
variable {P : Program} {h h' : Heap} {ρ : Place} {w : World}

/-- Lists of values, one by one. -/
def LRel (ρ : Place) (a c : List Value) : Prop := a.length = c.length ∧ ∀ k, VRel ρ (a.getD k undef) (c.getD k undef)
theorem getD_append_left {a b : List Value} {k : Nat} (h : k < a.length) : (a ++ b).getD k undef = a.getD k undef := by
  simp only [List.getD]; rw [List.getElem?_append_left h]
theorem getD_append_right {a b : List Value} {k : Nat} (h : a.length ≤ k) : (a ++ b).getD k undef = b.getD (k - a.length) undef := by
  simp only [List.getD]; rw [List.getElem?_append_right h]
theorem LRel.append {a b c d : List Value} (r : LRel ρ a c) (s : LRel ρ b d) : LRel ρ (a ++ b) (c ++ d) := by
  refine ⟨by simp [r.1, s.1], fun k => ?_⟩
  by_cases hk : k < a.length
  · rw [getD_append_left hk, getD_append_left (r.1 ▸ hk)]; exact r.2 k
  · rw [getD_append_right (by omega), getD_append_right (by have := r.1; omega), r.1]; exact s.2 _
theorem LRel.nil : LRel ρ [] [] := ⟨rfl, fun k => by simp [List.getD]; exact VRel.undef' ρ⟩
theorem LRel.mono {ρ' : Place} (hle : Le ρ ρ') {a c : List Value} (r : LRel ρ a c) : LRel ρ' a c := ⟨r.1, fun k => (r.2 k).mono hle⟩
theorem ARel.list {a c : Array Value} (r : ARel ρ a c) : LRel ρ a.toList c.toList := ⟨by simp [r.1], fun k => by
  have := r.2 k
  simpa [Array.getD_eq_getD_getElem?, List.getD] using this⟩
theorem crel_stretch {l : List Value} {cs : Array Value} {o off n : Nat} (hc : CRel ρ l cs o) (hfit : off + n ≤ l.length) (hsz : o + l.length ≤ cs.size) :
    LRel ρ ((l.drop off).take n) ((cs.toList.drop (o + off)).take n) := by
  refine ⟨by simp; omega, fun k => ?_⟩
  by_cases hk : k < n
  · have := hc (off + k) (by omega)
    have e1 : ((l.drop off).take n).getD k undef = l.getD (off + k) undef := by
      simp only [List.getD]; rw [List.getElem?_take, if_pos hk, List.getElem?_drop]
    have e2 : ((cs.toList.drop (o + off)).take n).getD k undef = cs.getD (o + (off + k)) undef := by
      simp only [List.getD, Array.getD_eq_getD_getElem?]; rw [List.getElem?_take, if_pos hk, List.getElem?_drop]; simp [Nat.add_assoc]
    rw [e1, e2]; exact this
  · have e1 : ((l.drop off).take n).getD k undef = undef := by
      simp only [List.getD]; rw [List.getElem?_take, if_neg hk]; rfl
    have e2 : ((cs.toList.drop (o + off)).take n).getD k undef = undef := by
      simp only [List.getD]; rw [List.getElem?_take, if_neg hk]; rfl
    rw [e1, e2]; exact VRel.undef' ρ

/-- What a slice reads, in cells. -/
def aCells (h : Heap) (sz : Nat) (x : Value) : Option (Nat × List Value) :=
  match x with
  | .slice none _ _ => some (0, [])
  | .slice (some ⟨i, off, none⟩) n _ =>
    if n = 0 then some (0, []) else
    match h[i]? with
    | some (.arr a) => if off + n * sz ≤ a.cells.length then some (n, (a.cells.drop off).take (n * sz)) else none
    | _ => none
  | _ => none

theorem aCells_sound {sz n : Nat} {x c : Value} {xs : List Value} (hl : aCells h sz x = some (n, xs)) (R : Rel h ρ w) (hx : VRel ρ x c) :
    (∀ w', (Builtin.lenOf c).run P w' = .ok n w') ∧ xs.length = n * sz ∧ ∃ cx, LRel ρ xs cx ∧ ∀ w', w'.heap = w.heap → (Builtin.firstCells sz n c).run P w' = .ok cx.toArray w' := by
  unfold aCells at hl
  split at hl
  · cases hl
    cases hx
    exact ⟨fun _ => by simp [Builtin.lenOf], by simp, [], .nil, fun _ _ => by simp [Builtin.firstCells]⟩
  · rename_i i off m cap
    cases hx with
    | slice hi hlen hcap hc =>
      rename_i capC c0 L
      split at hl
      · rename_i h0
        cases hl
        subst h0
        exact ⟨fun _ => by simp [Builtin.lenOf], by simp, [], .nil, fun _ _ => by simp [Builtin.firstCells, loadCells, loadCellsFrom]⟩
      · rename_i h0
        obtain ⟨rfl, _⟩ := hc (by omega)
        split at hl
        · rename_i a ha
          split at hl
          · rename_i hfit
            cases hl
            obtain ⟨cs, ty, fr, hb, h2, h3, h4, h5, h6⟩ := R.arr i L a hi ha
            have r := crel_stretch h5 hfit (by omega)
            refine ⟨fun _ => by simp [Builtin.lenOf], by simp; omega, _, r, ?_⟩
            intro w' hw'
            rw [← hw'] at hb
            refine run_firstCells_some w' sz n _ n capC _ ?_ ?_
            · simp; omega
            · intro j v hv
              rw [List.getElem?_take, List.getElem?_drop] at hv
              split at hv
              · rename_i hj
                rw [add_none, cell_at hb (by omega)]
                simp at hv
                simp [Array.getD_eq_getD_getElem?, hv]
              · cases hv
          · cases hl
        · cases hl
  · cases hl

def aSrc (P : Program) (h : Heap) (sz : Nat) (z : Array Value) (xT : TypeId) (x : Value) : Option (Nat × List Value) :=
  match P.underlying xT with
  | some (.int _) =>
    match x with
    | .int _ l => if 0 ≤ l ∧ l ≤ 2 ^ 46 then some (l.toNat, (Builtin.zeroCells z l.toNat).toList) else none
    | _ => none
  | some (.slice _) => aCells h sz x
  | _ => none

def aAppend (P : Program) (sT xT : TypeId) (s x : Value) (h : Heap) : Option (Value × Heap) :=
  match P.underlying sT with
  | some (.slice e) =>
    match szOf P e, zeroOf P e, bytesOf' P e with
    | some sz, some z, some by_ =>
      if z.cells.all flatV = true ∧ z.cells.size = sz ∧ 0 < sz then
        match s, aSrc P h sz z.cells xT x with
        | .slice sb len capA, some (n, xs) =>
          if n = 0 then some (s, h) else
          if (len + n) * by_ ≤ 2 ^ 46 ∧ len + n ≤ 2 ^ 46 ∧ xs.all (·.oneCell') = true then
            match aCells h sz s with
            | some (_, olds) =>
              match sb with
              | none => some (.slice (some ⟨h.length, 0, none⟩) n 0, newArr h xs sz)
              | some ⟨i, off, none⟩ =>
                if capA ≠ 0 ∧ capA - 1 < len + n then
                  some (.slice (some ⟨h.length, 0, none⟩) (len + n) 0, newArr h (olds ++ xs) sz)
                else
                  match h[i]? with
                  | some (.arr ar) =>
                    if ar.ro = false ∧ ar.esz = sz ∧ off + len * sz ≤ ar.cells.length then
                      some (.slice (some ⟨h.length, 0, none⟩) (len + n) 0, newArr (h.set i .dead) (olds ++ xs) sz)
                    else none
                  | _ => none
              | _ => none
            | none => none
          else none
        | _, _ => none
      else none
    | _, _, _ => none
  | _ => none

/-- Which block may an append write? -/
def appWr (s : Value) : Option Nat :=
  match s with
  | .slice (some ⟨i, _, _⟩) _ _ => some i
  | _ => none

theorem flat_list_rel {z : List Value} (hz : ∀ v ∈ z, flatV v = true) : LRel ρ z z := by
  refine ⟨rfl, fun k => ?_⟩
  by_cases hk : k < z.length
  · have : z.getD k undef = z[k] := by simp [List.getD, hk]
    rw [this]; exact flatV_rel (hz _ (List.getElem_mem _))
  · have : z.getD k undef = undef := by simp [List.getD, Nat.le_of_not_lt hk]
    rw [this]; exact VRel.undef' ρ

theorem zeroCells_flat {z : Array Value} (hz : z.all flatV = true) (n : Nat) : ∀ v ∈ (Builtin.zeroCells z n).toList, flatV v = true := by
  intro v hv
  simp only [Builtin.zeroCells, Array.toList_map, List.mem_map] at hv
  obtain ⟨i, hi, rfl⟩ := hv
  have hi' : i < n * z.size := by simpa using hi
  have hp : 0 < z.size := by
    rcases Nat.eq_zero_or_pos z.size with h0 | h0
    · rw [h0] at hi'; omega
    · exact h0
  have hlt : i % z.size < z.size := Nat.mod_lt _ hp
  rw [getElem!_pos z _ hlt]
  exact Array.all_eq_true.mp hz _ hlt

theorem aSrc_sound {xT : TypeId} {sz n : Nat} {z : Array Value} {x c : Value} {xs : List Value} (hl : aSrc P h sz z xT x = some (n, xs)) (R : Rel h ρ w) (hx : VRel ρ x c)
    (hf : z.all flatV = true) (hzs : z.size = sz) :
    xs.length = n * sz ∧ ∃ cx, LRel ρ xs cx ∧
      ((∃ k l, P.underlying xT = some (.int k) ∧ (∃ k', c = .int k' l) ∧ 0 ≤ l ∧ l ≤ 2 ^ 46 ∧ n = l.toNat ∧ cx = (Builtin.zeroCells z n).toList) ∨
       (∃ d, P.underlying xT = some (.slice d) ∧ (∀ w', (Builtin.lenOf c).run P w' = .ok n w') ∧ ∀ w', w'.heap = w.heap → (Builtin.firstCells sz n c).run P w' = .ok cx.toArray w')) := by
  unfold aSrc at hl
  split at hl
  · rename_i k hu
    split at hl
    · rename_i k' l
      cases hx
      split at hl
      · rename_i hh
        cases hl
        exact ⟨by simp [Builtin.zeroCells, hzs], _, flat_list_rel (zeroCells_flat hf _), .inl ⟨_, _, hu, ⟨_, rfl⟩, hh.1, hh.2, rfl, rfl⟩⟩
      · cases hl
    · cases hl
  · rename_i d hu
    obtain ⟨h1, h2, cx, h3, h4⟩ := aCells_sound (P := P) hl R hx
    exact ⟨h2, cx, h3, .inr ⟨d, hu, h1, h4⟩⟩
  · cases hl

theorem grownCap_ge' (w : World) (need old e : Nat) : need ≤ grownCap w need old e := by simp [grownCap, Question.cut]

/-- The machine's append, either way. -/
theorem run_append {sT xT ty e : TypeId} {i : TypeInfo} {z : Value} {sz n sLen sCap : Nat} {sb : Option Addr} {c : Value} {cx co : List Value}
    (hu : P.underlying sT = some (.slice e)) (hi : P.info? e = some i) (hz : i.zero = some z) (hsz : i.size = sz) (hn : 0 < n)
    (hb : (sLen + n) * i.bytes ≤ 2 ^ 46) (hm : sLen + n ≤ 2 ^ 46)
    (hsrc : (∃ k l, P.underlying xT = some (.int k) ∧ (∃ k', c = .int k' l) ∧ 0 ≤ l ∧ l ≤ 2 ^ 46 ∧ n = l.toNat ∧ cx = (Builtin.zeroCells z.cells n).toList) ∨
       (∃ d, P.underlying xT = some (.slice d) ∧ (∀ w', (Builtin.lenOf c).run P w' = .ok n w') ∧ ∀ w', w'.heap = w.heap → (Builtin.firstCells sz n c).run P w' = .ok cx.toArray w'))
    (hold : ∀ w', w'.heap = w.heap → (Builtin.firstCells sz sLen (.slice sb sLen sCap)).run P w' = .ok co.toArray w')
    (hpos : 0 < sz) :
    (sLen + n ≤ sCap → ∀ a w1, sb = some a → (storeCells (a.add (sLen * sz)) cx).run P w = .ok () w1 →
      (Builtin.append_ #[sT, xT] ty #[.slice sb sLen sCap, c]).run P w = .ok (.slice sb (sLen + n) sCap) w1) ∧
    (sCap < sLen + n → ∃ newCap, sLen + n ≤ newCap ∧ (Builtin.append_ #[sT, xT] ty #[.slice sb sLen sCap, c]).run P w =
      .ok (.slice (some ⟨w.heap.size, 0, none⟩) (sLen + n) newCap) (w.drew.alloc (.cells (co.toArray ++ cx.toArray ++ Builtin.zeroCells z.cells (newCap - (sLen + n))) e))) := by
  have hfit : sCap < sLen + n → ¬ (281474976710656 < Builtin.nextslicecap (sLen + n) sCap * i.bytes) := fun hlt => by
    have := growslice_fits hlt (bytes := i.bytes) (by omega); omega
  have hso := run_sizeOf (P := P) (show szOf P e = some sz by simp [szOf, hi, hsz])
  have hzo := run_zeroValue (P := P) (show zeroOf P e = some z by simp [zeroOf, hi, hz])
  have hti : ∀ w', (typeInfo e).run P w' = .ok i w' := fun w' => by simp [typeInfo, hi]
  have hold' := hold w.drew rfl
  rcases hsrc with ⟨k, l, hx, ⟨k', rfl⟩, h0, h1, hl, rfl⟩ | ⟨d, hx, hlen, hfirst⟩
  · have e1 : IntKind.i64.wrap l = l := by simp [IntKind.wrap, IntKind.bits, IntKind.signed]; omega
    have c0 : ¬ (l < 0) := by omega
    have c1 : ¬ (281474976710656 < l * (i.bytes : Int)) := by
      have h2 : (l.toNat * i.bytes : Nat) ≤ 2 ^ 46 := by
        refine Nat.le_trans (Nat.mul_le_mul_right _ ?_) hb; omega
      have e : ((l.toNat * i.bytes : Nat) : Int) = l * i.bytes := by rw [Int.natCast_mul, Int.toNat_of_nonneg h0]
      omega
    have hne : ¬ (n * sz = 0) := by
      have : 0 < n * sz := Nat.mul_pos hn hpos
      omega
    have hne0 : ¬ (n = 0) := by omega
    have hsz0 : ¬ (sz = 0) := by omega
    have h63 : ¬ (9223372036854775807 < (sLen : Int) + (n : Int)) := by omega
    constructor
    · intro hle a w1 hsb hst
      subst hsb
      simp [Builtin.append_, run_underlying hu, run_underlying hx, hso, hti, asInt, asIntOf, e1, c0, c1, ← hl, hle, hne, hne0, hsz0, hzo, hst]
    · intro hlt
      have hnle : ¬ (sLen + n ≤ sCap) := by omega
      refine ⟨grownCap w (sLen + n) sCap e, grownCap_ge' _ _ _ _, ?_⟩
      simp [Builtin.append_, run_underlying hu, run_underlying hx, hso, hti, asInt, asIntOf, e1, c0, c1, ← hl, hnle, hne, hne0, hsz0, hzo, h63, hfit hlt, Question.forced, hold', newRow, grownCap]
      intro hh; omega
  · have h63 : ¬ (9223372036854775807 < (sLen : Int) + (n : Int)) := by omega
    constructor
    · intro hle a w1 hsb hst
      subst hsb
      simp [Builtin.append_, run_underlying hu, run_underlying hx, hso, hti, hlen, hle, hfirst w rfl, hst]
    · intro hlt
      have hnle : ¬ (sLen + n ≤ sCap) := by omega
      refine ⟨grownCap w (sLen + n) sCap e, grownCap_ge' _ _ _ _, ?_⟩
      simp [Builtin.append_, run_underlying hu, run_underlying hx, hso, hti, hlen, hnle, hfirst w.drew rfl, hzo, h63, hfit hlt, Question.forced, hold', newRow, grownCap]
      congr 2
      apply Array.ext'
      simp

theorem seg_new {cs : Array Value} {cv : List Value} {olds xs : List Value} {p0 m : Nat} (ho : LRel ρ olds ((cs.toList.drop p0).take m)) (hx : LRel ρ xs cv) (hm : olds.length = m) (hfit : p0 + m + cv.length ≤ cs.size) :
    CRel ρ (olds ++ xs) (cs.toList.take (p0 + m) ++ cv ++ cs.toList.drop (p0 + m + cv.length)).toArray p0 := by
  intro k hk
  have e : (cs.toList.take (p0 + m) ++ cv ++ cs.toList.drop (p0 + m + cv.length)).toArray.getD (p0 + k) undef = (((cs.toList.drop p0).take m) ++ cv).getD k undef := by
    simp only [Array.getD_eq_getD_getElem?, List.getElem?_toArray, List.getD]
    by_cases h1 : k < m
    · rw [List.append_assoc, List.getElem?_append_left (by simp; omega), List.getElem?_append_left (by simp; omega), List.getElem?_take, if_pos (by omega), List.getElem?_take, if_pos h1, List.getElem?_drop]
    · have hk' : k - m < cv.length := by have := hx.1; simp at hk; omega
      rw [List.append_assoc, List.getElem?_append_right (by simp; omega), List.getElem?_append_left (by simp; omega), List.getElem?_append_right (by simp; omega)]
      simp only [List.length_take, List.length_drop, Array.length_toList]
      congr 2; omega
  rw [e]
  exact (ho.append hx).2 k

/-- Of an array whose whole a slice tells, the cells stay. -/
def Kept (h : Heap) (ρ : Place) (w w' : World) (wr : Option Nat) (n : Nat) : Prop :=
  ∀ i L cs ty fr, wr = some i → ρ i = some L → w.heap[L.blk]? = some (.cells cs ty fr) → ∃ cs', w'.heap[L.blk]? = some (.cells cs' ty fr) ∧ cs'.size = cs.size ∧ ∀ k, k < L.off + n → cs'[k]? = cs[k]?

def appEnd (sz : Nat) (s : Value) : Nat :=
  match s with
  | .slice (some ⟨_, off, _⟩) len _ => off + len * sz
  | _ => 0

set_option maxHeartbeats 1000000 in
theorem aAppend_sound {sT xT ty : TypeId} {s x cs cx v : Value} (hl : aAppend P sT xT s x h = some (v, h')) (R : Rel h ρ w) (hs : VRel ρ s cs) (hx : VRel ρ x cx) :
    ∃ ρ' w' c, (Builtin.append_ #[sT, xT] ty #[cs, cx]).run P w = .ok c w' ∧ Rel h' ρ' w' ∧ Step h ρ w h' ρ' w' ∧ VRel ρ' v c ∧ Frm ρ w w' (appWr s) ∧
      (∀ e sz, P.underlying sT = some (.slice e) → szOf P e = some sz → Kept h ρ w w' (appWr s) (appEnd sz s)) := by
  unfold aAppend at hl
  split at hl
  rotate_left
  · cases hl
  rename_i e hu
  split at hl
  rotate_left
  · cases hl
  rename_i sz z by_ hsz hz hby
  split at hl
  rotate_left
  · cases hl
  rename_i hfl
  obtain ⟨hf, hzs, hpos⟩ := hfl
  obtain ⟨i, hi, hib⟩ : ∃ i, P.info? e = some i ∧ i.bytes = by_ := by
    unfold bytesOf' at hby
    cases hq : P.info? e with
    | none => simp [hq] at hby
    | some i => simp [hq] at hby; exact ⟨i, rfl, hby⟩
  have hisz : i.size = sz := by simpa [szOf, hi] using hsz
  have hiz : i.zero = some z := by simpa [zeroOf, hi] using hz
  split at hl
  rotate_left
  · cases hl
  rename_i sb len capA n xs hsrc
  obtain ⟨hxl, cxs, hxr, hcase⟩ := aSrc_sound (P := P) hsrc R hx hf hzs
  split at hl
  · rename_i hn0
    cases hl
    subst hn0
    obtain ⟨sb', len', capC, rfl, hle, hkeep⟩ : ∃ sb' len' capC, cs = .slice sb' len' capC ∧ len' ≤ capC ∧ VRel ρ (.slice sb len capA) (.slice sb' len' capC) := by
      cases hs with
      | nilSlice => exact ⟨_, _, _, rfl, by omega, .nilSlice⟩
      | slice g1 g2 g3 g4 => exact ⟨_, _, _, rfl, g2, .slice g1 g2 g3 g4⟩
    refine ⟨ρ, w, .slice sb' len' capC, ?_, R, .refl _ _ _, hkeep, .refl _ _ _, fun _ _ _ _ i L cs ty fr _ _ hb => ⟨cs, hb, rfl, fun _ _ => rfl⟩⟩
    have hso := run_sizeOf (P := P) hsz
    have hti : ∀ w', (typeInfo e).run P w' = .ok i w' := fun w' => by simp [typeInfo, hi]
    rcases hcase with ⟨k, l, hxt, ⟨k', rfl⟩, h0, h1, hl, _⟩ | ⟨d, hxt, hlen, hfirst⟩
    · have hl0 : l = 0 := by omega
      subst hl0
      have e1 : IntKind.i64.wrap 0 = 0 := by simp [IntKind.wrap, IntKind.bits, IntKind.signed]
      cases sb' <;> simp [Builtin.append_, run_underlying hu, run_underlying hxt, hso, hti, asInt, asIntOf, e1, hle, storeCells]
    · have hc0 : cxs = [] := by
        have := hxr.1; simp [hxl] at this; exact List.eq_nil_of_length_eq_zero this.symm
      subst hc0
      cases sb' <;> simp [Builtin.append_, run_underlying hu, run_underlying hxt, hso, hti, hlen, hle, hfirst w rfl, storeCells]
  rename_i hn0
  split at hl
  rotate_left
  · cases hl
  rename_i hbd
  obtain ⟨hb1, hb2, hone0⟩ := hbd
  rw [← hib] at hb1
  split at hl
  rotate_left
  · cases hl
  rename_i n0 olds holds
  obtain ⟨_, hol, co, hor, hofirst⟩ := aCells_sound (P := P) holds R hs
  have hn0' : n0 = len := by
    unfold aCells at holds
    split at holds
    · rename_i h1; cases h1; cases holds; cases hs; rfl
    · rename_i h1; cases h1
      split at holds
      · rename_i h2; cases holds; exact h2.symm
      · split at holds
        · split at holds
          · cases holds; rfl
          · cases holds
        · cases holds
    · cases holds
  subst hn0'
  have hnpos : 0 < n := by omega
  -- a new block
  have hfresh : ∀ (sb' : Option Addr) (capC : Nat) (c0 : Value), (∀ w', w'.heap = w.heap → (Builtin.firstCells sz n0 (.slice sb' n0 capC)).run P w' = .ok co.toArray w') → capC < n0 + n →
      ∃ ρ' w' c, (Builtin.append_ #[sT, xT] ty #[.slice sb' n0 capC, cx]).run P w = .ok c w' ∧ Rel (newArr h (olds ++ xs) sz) ρ' w' ∧ Step h ρ w (newArr h (olds ++ xs) sz) ρ' w' ∧
        VRel ρ' (.slice (some ⟨h.length, 0, none⟩) (n0 + n) 0) c ∧ ∀ b, b < w.heap.size → w'.heap[b]? = w.heap[b]? := by
    intro sb' capC c0 hof hlt
    obtain ⟨newCap, hge, hrun⟩ := (run_append (ty := ty) hu hi hiz hisz hnpos hb1 hb2 hcase hof hpos).2 hlt
    have hcl := hor.1
    have hxl' := hxr.1
    have hsize : (co.toArray ++ cxs.toArray ++ Builtin.zeroCells z.cells (newCap - (n0 + n))).size = newCap * sz := by
      simp only [Array.size_append, List.size_toArray, Builtin.zeroCells, Array.size_map, Array.size_range, hzs]
      rw [← hcl, ← hxl', hol, hxl, ← Nat.add_mul, ← Nat.add_mul]; congr 1; omega
    have hcr : CRel ρ (olds ++ xs) (co.toArray ++ cxs.toArray ++ Builtin.zeroCells z.cells (newCap - (n0 + n))) 0 := by
      intro k hk
      have e : (co.toArray ++ cxs.toArray ++ Builtin.zeroCells z.cells (newCap - (n0 + n))).getD (0 + k) undef = (co ++ cxs).getD k undef := by
        simp only [Array.getD_eq_getD_getElem?, List.getD, Nat.zero_add]
        rw [Array.getElem?_append_left (by simp at hk ⊢; omega)]
        simp
      rw [e]; exact (hor.append hxr).2 k
    obtain ⟨R', S'⟩ := R.drew.newArr ⟨olds ++ xs, sz, false⟩ _ e (by rw [hsize]; simp [hol, hxl]; rw [← Nat.add_mul]; exact Nat.mul_le_mul_right _ hge) hcr
    refine ⟨_, _, _, hrun, R', (Step.drew h ρ w).trans S', ?_, ?_⟩
    · refine .slice (Place.put_same _ _ _) hge (fun hh => absurd rfl hh) ?_
      intro _
      refine ⟨by simp, ?_⟩
      simp only [Nat.zero_add]
      omega
    · intro b hb
      show (w.heap.push _)[b]? = _
      rw [Array.getElem?_push, if_neg (by omega)]
  have hsame : ∀ (w' : World), (∀ b, b < w.heap.size → w'.heap[b]? = w.heap[b]?) → ∀ wr m, Kept h ρ w w' wr m := by
    intro w' hw wr m i L cs ty fr _ _ hb
    refine ⟨cs, ?_, rfl, fun _ _ => rfl⟩
    rw [hw _ (Array.getElem?_eq_some_iff.mp hb).1]; exact hb
  split at hl
  · -- nil
    cases hl
    cases hs
    have hol0 : olds = [] := List.eq_nil_of_length_eq_zero (by simpa using hol)
    subst hol0
    obtain ⟨ρ', w', c, h1, h2, h3, h4, h5⟩ := hfresh none 0 undef hofirst (by omega)
    simp only [List.nil_append, Nat.zero_add] at h2 h3 h4
    exact ⟨ρ', w', c, h1, h2, h3, h4, fun b hb _ => h5 b hb, fun _ _ _ _ => hsame w' h5 _ _⟩
  · rename_i i0 off
    cases hs with
    | @slice _ _ _ _ capC c0 L hi0 hlen hcap hcc =>
      split at hl
      · rename_i hcond
        cases hl
        have := hcap hcond.1
        obtain ⟨ρ', w', c, h1, h2, h3, h4, h5⟩ := hfresh (some c0) capC undef hofirst (by omega)
        exact ⟨ρ', w', c, h1, h2, h3, h4, fun b hb _ => h5 b hb, fun _ _ _ _ => hsame w' h5 _ _⟩
      · split at hl
        · rename_i ar har
          split at hl
          · rename_i hg
            obtain ⟨hro, hes, hfit⟩ := hg
            cases hl
            by_cases hroom : n0 + n ≤ capC
            · -- in place
              obtain ⟨rfl, hcb⟩ := hcc (by omega)
              obtain ⟨cs, ty0, fr, hb, g2, g3, g4, g5, g6⟩ := R.arr i0 L ar hi0 har
              have hfr := g6 hro
              subst hfr
              have hLs : L.esz = sz := by rw [g4, hes]
              rw [hLs] at hcb
              have hmul : n0 * sz + n * sz ≤ capC * sz := by rw [← Nat.add_mul]; exact Nat.mul_le_mul_right _ hroom
              have hone : ∀ v ∈ cxs, v.oneCell' = true := by
                intro v hv
                obtain ⟨k, hk, rfl⟩ := List.mem_iff_getElem.mp hv
                have hk' : k < xs.length := by rw [hxr.1]; exact hk
                have h1 := hxr.2 k
                have e1 : xs.getD k undef = xs[k] := by simp [List.getD, hk']
                have e2 : cxs.getD k undef = cxs[k] := by simp [List.getD, hk]
                rw [e1, e2] at h1
                rw [← oneCell_rel h1]
                exact List.all_eq_true.mp hone0 _ (List.getElem_mem _)
              have hst := run_storeCells_at P L.blk (L.off + off + n0 * sz) ty0 cxs 0 cs w hb (by have := hxr.1; omega) hone
              have hrun := (run_append (ty := ty) hu hi hiz hisz hnpos hb1 hb2 hcase hofirst hpos).1 hroom _ _ rfl (by rw [add_none]; exact hst)
              have hcr : CRel ρ (olds ++ xs) (cs.toList.take (L.off + off + n0 * sz) ++ cxs ++ cs.toList.drop (L.off + off + n0 * sz + cxs.length)).toArray (L.off + off) := by
                refine seg_new ?_ hxr hol (by have := hxr.1; omega)
                have := crel_stretch g5 hfit (by omega)
                have e : olds = (ar.cells.drop off).take (n0 * sz) := by
                  unfold aCells at holds
                  simp only at holds
                  split at holds
                  · rename_i hz0; cases holds; simp [hz0]
                  · rw [har] at holds
                    simp only [hfit, if_true] at holds
                    cases holds; rfl
                rw [e]; exact this
              obtain ⟨R', S', F'⟩ := R.take hi0 har hro hb (cs' := (cs.toList.take (L.off + off + n0 * sz) ++ cxs ++ cs.toList.drop (L.off + off + n0 * sz + cxs.length)).toArray)
                (by have := hxr.1; simp; omega) (off := off) (cells' := olds ++ xs) (by simp [hol, hxl]; omega) hcr
              rw [hes] at R' S'
              refine ⟨_, _, _, hrun, R', S', ?_, F', ?_⟩
              · refine .slice (Place.put_same _ _ _) hroom (fun hh => absurd rfl hh) ?_
                intro _
                refine ⟨by simp, ?_⟩
                simp only [hLs]; omega
              · intro e' sz' hu' hsz' i L' cs2 ty2 fr2 hwr hρ hb2'
                simp only [appWr, Option.some.injEq] at hwr
                subst hwr
                rw [hi0] at hρ; cases hρ
                rw [hb] at hb2'; cases hb2'
                rw [hu] at hu'; cases hu'
                rw [hsz] at hsz'; cases hsz'
                refine ⟨_, setRow_heap _ _ _ _ _ _ hb, by have := hxr.1; simp; omega, ?_⟩
                intro k hk
                simp only [appEnd] at hk
                simp only [List.getElem?_toArray]
                rw [List.append_assoc, List.getElem?_append_left (by simp; omega), List.getElem?_take, if_pos (by omega)]
                simp
            · obtain ⟨ρ', w', c, h1, h2, h3, h4, h5⟩ := hfresh (some c0) capC undef hofirst (by omega)
              obtain ⟨K, KS⟩ := h2.kill i0
              have hlt : i0 < h.length := R.dom _ _ hi0
              have e : (newArr h (olds ++ xs) sz).set i0 .dead = newArr (h.set i0 .dead) (olds ++ xs) sz := by
                unfold newArr; rw [List.set_append_left _ _ hlt]
              rw [e] at K KS
              exact ⟨ρ', w', c, h1, K, h3.trans KS, h4, fun b hb _ => h5 b hb, fun _ _ _ _ => hsame w' h5 _ _⟩
          · cases hl
        · cases hl
  · cases hl

end Go.AM
