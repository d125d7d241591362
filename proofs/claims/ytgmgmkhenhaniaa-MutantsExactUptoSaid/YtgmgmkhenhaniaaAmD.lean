/-
  The operations over the abstract memory, the third part: new arrays, stores, append, copy.
-/
import Derived.Test.YtgmgmkhenhaniaaAmC
set_option linter.unusedSimpArgs false
set_option linter.unusedVariables false
namespace Go.AM
variable {P : Program} {h h' : Heap} {ρ : Place} {w : World}

def flatV : Value → Bool
  | .bool _ | .int _ _ | .string _ | .pointer none | .nilFunc | .nilIface | .map none => true
  | .slice none 0 0 => true
  | _ => false
theorem flatV_rel {v : Value} (hv : flatV v = true) : VRel ρ v v := by
  unfold flatV at hv
  split at hv
  · exact .bool _
  · exact .int _ _
  · exact .string _
  · exact .nilPtr
  · exact .nilFunc
  · exact .nilIface
  · exact .nilMap
  · exact .nilSlice
  · cases hv

/-- Arrays of values, one by one. -/
def ARel (ρ : Place) (a c : Array Value) : Prop := a.size = c.size ∧ ∀ j, VRel ρ (a.getD j undef) (c.getD j undef)
theorem ARel.agg {a c : Array Value} (r : ARel ρ a c) : VRel ρ (.agg a) (.agg c) := .agg r.1 r.2
theorem getD_out {a : Array Value} {j : Nat} (h : a.size ≤ j) : a.getD j undef = undef := by
  simp [Array.getD]; intro hh; omega
theorem getD_in {a : Array Value} {j : Nat} (h : j < a.size) : a.getD j undef = a[j] := by simp [Array.getD, h]
theorem ARel.single {v c : Value} (r : VRel ρ v c) : ARel ρ #[v] #[c] := by
  refine ⟨rfl, fun j => ?_⟩
  cases j with
  | zero => exact r
  | succ j => rw [getD_out (by simp), getD_out (by simp)]; exact VRel.undef' ρ
theorem cells_rel {v c : Value} (r : VRel ρ v c) : ARel ρ v.cells c.cells := by
  cases r
  case agg h1 h2 => exact ⟨h1, h2⟩
  all_goals exact ARel.single (by constructor <;> assumption)
theorem ARel.set {a c : Array Value} (r : ARel ρ a c) (i : Nat) {v x : Value} (hv : VRel ρ v x) : ARel ρ (a.setIfInBounds i v) (c.setIfInBounds i x) := by
  refine ⟨by simp [r.1], fun j => ?_⟩
  have h2 := r.2 j
  rw [Array.getD_eq_getD_getElem?, Array.getD_eq_getD_getElem?] at h2 ⊢
  rw [Array.getElem?_setIfInBounds, Array.getElem?_setIfInBounds, ← r.1]
  by_cases e : i = j
  · rw [if_pos e, if_pos e]
    by_cases hi : i < a.size
    · rw [if_pos hi, if_pos hi]; exact hv
    · rw [if_neg hi, if_neg hi]; exact VRel.undef' ρ
  · rw [if_neg e, if_neg e]; exact h2
theorem range_zero (f : Nat → Value) : Array.map f (Array.range 0) = #[] := by apply Array.ext <;> simp
theorem flat_cells_rel {z : Array Value} (hz : z.all flatV = true) : ARel ρ z z := by
  refine ⟨rfl, fun j => ?_⟩
  by_cases hj : j < z.size
  · rw [getD_in hj]
    exact flatV_rel (by have := Array.all_eq_true.mp hz; exact this j hj)
  · rw [getD_out (by omega)]; exact VRel.undef' ρ
theorem ARel.crel {a c : Array Value} (r : ARel ρ a c) : CRel ρ a.toList c 0 := by
  intro k hk
  have := r.2 k
  have hk' : k < a.size := by simpa using hk
  rw [getD_in hk'] at this
  have e : a.toList.getD k undef = a[k] := by simp [List.getD, hk']
  rw [e, Nat.zero_add]; exact this
theorem ARel.mono {ρ' : Place} (hle : Le ρ ρ') {a c : Array Value} (r : ARel ρ a c) : ARel ρ' a c := ⟨r.1, fun j => (r.2 j).mono hle⟩

def Frm (ρ : Place) (w w' : World) (wr : Option Nat) : Prop :=
  ∀ b, b < w.heap.size → (∀ i L, wr = some i → ρ i = some L → L.blk ≠ b) → w'.heap[b]? = w.heap[b]?
theorem Frm.refl (ρ : Place) (w : World) (wr : Option Nat) : Frm ρ w w wr := fun _ _ _ => rfl

/-- The machine's way through an operation, and what it means for the abstract memory. -/
def Good (P : Program) (s : Sem Value) (h : Heap) (ρ : Place) (w : World) (v : Value) (h' : Heap) (wr : Option Nat) : Prop :=
  ∃ ρ' w' c, s.run P w = .ok c w' ∧ Rel h' ρ' w' ∧ Step h ρ w h' ρ' w' ∧ VRel ρ' v c ∧ Frm ρ w w' wr
theorem Good.pure {s : Sem Value} {v : Value} (R : Rel h ρ w) (hs : ∃ c, s.run P w = .ok c w ∧ VRel ρ v c) (wr : Option Nat) : Good P s h ρ w v h wr :=
  let ⟨c, hr, hv⟩ := hs
  ⟨ρ, w, c, hr, R, .refl _ _ _, hv, .refl _ _ _⟩

/-! ### a new array -/
def newArr (h : Heap) (cells : List Value) (esz : Nat) : Heap := h ++ [.arr ⟨cells, esz, false⟩]

/-- An operation that does nothing but make a block, whatever else lies there. -/
def RawOp (P : Program) (s : Sem Value) (h : Heap) (v : Value) (h' : Heap) (ρ : Place) (w : World) : Prop :=
  ∃ (mkv : Nat → Value) (cells : List Value) (esz : Nat) (cs : Array Value) (ty : TypeId) (c : Value), v = mkv h.length ∧ h' = newArr h cells esz ∧
    s.run P w = .ok c (w.alloc (.cells cs ty)) ∧ cells.length ≤ cs.size ∧ CRel ρ cells cs 0 ∧ ∀ (ρ' : Place) (i : Nat), ρ' i = some ⟨w.heap.size, 0, cs.size, esz⟩ → VRel ρ' (mkv i) c
theorem raw_of {s : Sem Value} {a c : Array Value} {ty : TypeId} {esz : Nat} {mkv : Nat → Value} {mk : Addr → Value} (r : ARel ρ a c)
    (hs : s.run P w = .ok (mk ⟨w.heap.size, 0, none⟩) (w.alloc (.cells c ty)))
    (hv : ∀ (ρ' : Place) (i : Nat), ρ' i = some ⟨w.heap.size, 0, c.size, esz⟩ → VRel ρ' (mkv i) (mk ⟨w.heap.size, 0, none⟩)) : RawOp P s h (mkv h.length) (newArr h a.toList esz) ρ w :=
  ⟨mkv, a.toList, esz, c, ty, _, rfl, rfl, hs, by simp [r.1], r.crel, hv⟩
theorem RawOp.good {s : Sem Value} {v : Value} (R : Rel h ρ w) (hr : RawOp P s h v h' ρ w) : Good P s h ρ w v h' none := by
  obtain ⟨mkv, cells, esz, cs, ty, c, rfl, rfl, hs, hl, hc, hv⟩ := hr
  obtain ⟨R', S'⟩ := R.newArr ⟨cells, esz, false⟩ cs ty hl hc
  refine ⟨_, _, _, hs, R', S', hv _ _ (Place.put_same _ _ _), ?_⟩
  intro b hb _
  show (w.heap.push _)[b]? = _
  rw [Array.getElem?_push, if_neg (by omega)]

def eszOf (P : Program) (t : TypeId) (n : Nat) : Nat :=
  match P.underlying t with
  | some (.array _ e) => (szOf P e).getD n
  | _ => n

def aAlloc (P : Program) (t : TypeId) (h : Heap) : Option (Value × Heap) :=
  match zeroOf P t with
  | some z => if z.cells.all flatV then some (.pointer (some ⟨h.length, 0, none⟩), newArr h z.cells.toList (eszOf P t z.cells.size)) else none
  | none => none
theorem aAlloc_raw {t : TypeId} {v : Value} (hl : aAlloc P t h = some (v, h')) (ρ : Place) (w : World) : RawOp P (Instr.alloc t true (.tuple #[])) h v h' ρ w := by
  unfold aAlloc at hl
  split at hl
  · rename_i z hz
    split at hl
    · rename_i hf
      cases hl
      refine raw_of (mkv := fun i => .pointer (some ⟨i, 0, none⟩)) (mk := fun a => .pointer (some a)) (ty := t) (flat_cells_rel hf) ?_ ?_
      · simp [Instr.alloc, run_zeroValue hz, newVar, newRow]
      · intro ρ' i hr
        exact .ptr hr
    · cases hl
  · cases hl

def aBox (P : Program) (t : TypeId) (x : Value) (h : Heap) : Value × Heap :=
  (.pointer (some ⟨h.length, 0, none⟩), newArr h x.cells.toList (eszOf P t x.cells.size))
theorem aBox_raw {t : TypeId} {x c : Value} (w : World) (hx : VRel ρ x c) : RawOp P (Instr.box t c) h (aBox P t x h).1 (aBox P t x h).2 ρ w := by
  refine raw_of (mkv := fun i => .pointer (some ⟨i, 0, none⟩)) (mk := fun a => .pointer (some a)) (ty := t) (cells_rel hx) ?_ ?_
  · simp [Instr.box, newVar, newRow]
  · intro ρ' i hr
    exact .ptr hr

/-! ### build -/
theorem foldl_set_rel (off : Nat) : ∀ (vs cs : List Value) (k : Nat) (a c : Array Value), vs.length = cs.length → (∀ j, VRel ρ (vs.getD j undef) (cs.getD j undef)) → ARel ρ a c →
    ARel ρ ((vs.zipIdx k).foldl (fun (s : Array Value) (x : Value × Nat) => s.setIfInBounds (off + x.2) x.1) a) ((cs.zipIdx k).foldl (fun (s : Array Value) (x : Value × Nat) => s.setIfInBounds (off + x.2) x.1) c)
  | [], [], _, _, _, _, _, r => r
  | v :: vs, x :: cs, k, a, c, hl, hr, r => by
    simp only [List.zipIdx_cons, List.foldl_cons]
    exact foldl_set_rel off vs cs (k + 1) _ _ (by simpa using hl) (fun j => by simpa using hr (j + 1)) (r.set _ (by simpa using hr 0))
  | [], _ :: _, _, _, _, hl, _, _ => by simp at hl
  | _ :: _, [], _, _, _, hl, _, _ => by simp at hl

theorem zipIdx_foldl {β : Type} (a : Array Value) (f : β → Value × Nat → β) (b : β) : a.zipIdx.foldl f b = (a.toList.zipIdx).foldl f b := by
  rw [← Array.foldl_toList]; simp

/-- Parts, one by one. -/
def PRel (ρ : Place) : List (Nat × Value) → List (Nat × Value) → Prop
  | [], [] => True
  | (i, v) :: l, (j, c) :: m => i = j ∧ VRel ρ v c ∧ PRel ρ l m
  | _, _ => False

theorem fill_rel (place : Nat → Option (Nat × Nat)) : ∀ (ps qs : List (Nat × Value)) (a c r : Array Value), PRel ρ ps qs → ARel ρ a c → Instr.fill place a ps = some r →
    ∃ r', Instr.fill place c qs = some r' ∧ ARel ρ r r'
  | [], [], a, c, r, _, ha, hf => by simp [Instr.fill] at hf; subst hf; exact ⟨c, rfl, ha⟩
  | (i, v) :: l, (j, x) :: m, a, c, r, hp, ha, hf => by
    obtain ⟨rfl, hv, hp⟩ := hp
    have hc := cells_rel hv
    simp only [Instr.fill] at hf ⊢
    split at hf
    · cases hf
    · rename_i off size hpl
      split at hf
      · cases hf
      · rename_i hh
        rw [hc.1, ha.1] at hh
        rw [if_neg hh]
        refine fill_rel place l m _ _ r hp ?_ hf
        have hcl : ∀ j, VRel ρ (v.cells.toList.getD j undef) (x.cells.toList.getD j undef) := by
          intro j
          have := hc.2 j
          simpa [Array.getD_eq_getD_getElem?, List.getD] using this
        have := foldl_set_rel (ρ := ρ) off v.cells.toList x.cells.toList 0 a c (by simp [hc.1]) hcl ha
        rw [zipIdx_foldl, zipIdx_foldl]
        exact this
  | [], _ :: _, _, _, _, hp, _, _ => hp.elim
  | _ :: _, [], _, _, _, hp, _, _ => hp.elim

def aBuild (P : Program) (t : TypeId) (parts : List (Nat × Value)) : Option Value :=
  match zeroOf P t with
  | some z =>
    if z.cells.all flatV then
      match P.underlying t with
      | some (.struct fields) =>
        match (fields.mapM fun f => (szOf P f.type).map fun n => (f.offset, n) : Option (Array (Nat × Nat))) with
        | some places => (Instr.fill (places[·]?) z.cells parts).map .agg
        | none => none
      | some (.array _ e) =>
        match szOf P e with
        | some n => (Instr.fill (fun i => some (i * n, n)) z.cells parts).map .agg
        | none => none
      | _ => none
    else none
  | none => none

theorem run_mapM_places (w : World) : ∀ (fs : List Field) (ps : List (Nat × Nat)), (fs.mapM fun f => (szOf P f.type).map fun n => (f.offset, n) : Option (List (Nat × Nat))) = some ps →
    (fs.mapM fun f => do pure (f.offset, ← sizeOf f.type) : Sem (List (Nat × Nat))).run P w = .ok ps w
  | [], ps, hm => by simp at hm; subst hm; simp
  | f :: fs, ps, hm => by
    simp only [List.mapM_cons, Option.bind_eq_bind, Option.bind_eq_some_iff, Option.pure_def, Option.some.injEq] at hm
    obtain ⟨x, hx, ys, hys, rfl⟩ := hm
    cases hn : szOf P f.type with
    | none => simp [hn] at hx
    | some n =>
      simp [hn] at hx; subst hx
      have ih := run_mapM_places w fs ys hys
      simp only [List.mapM_cons, Sem.run_bind, run_sizeOf hn, Result.andThen_ok, Sem.run_pure] at ih ⊢
      rw [ih]
      rfl

theorem aBuild_sound {t : TypeId} {ps qs : List (Nat × Value)} {v : Value} (hl : aBuild P t ps = some v) (hp : PRel ρ ps qs) (w : World) :
    ∃ c, (Instr.build t qs.toArray).run P w = .ok c w ∧ VRel ρ v c := by
  unfold aBuild at hl
  split at hl
  · rename_i z hz
    split at hl
    · rename_i hf
      split at hl
      · rename_i fields hu
        split at hl
        · rename_i places hpl
          cases hfill : Instr.fill (places[·]?) z.cells ps with
          | none => simp [hfill] at hl
          | some r =>
            simp [hfill] at hl; subst hl
            obtain ⟨r', hr', rr⟩ := fill_rel _ ps qs _ _ _ hp (flat_cells_rel hf) hfill
            refine ⟨.agg r', ?_, rr.agg⟩
            have hm : (fields.mapM fun f => do pure (f.offset, ← sizeOf f.type) : Sem (Array (Nat × Nat))).run P w = .ok places w := by
              have h1 : (fields.toList.mapM fun f => (szOf P f.type).map fun n => (f.offset, n) : Option (List (Nat × Nat))) = some places.toList := by
                rw [Array.mapM_eq_mapM_toList] at hpl
                cases hh : (fields.toList.mapM fun f => (szOf P f.type).map fun n => (f.offset, n) : Option (List (Nat × Nat))) with
                | none => simp [hh] at hpl
                | some l => simp [hh] at hpl; subst hpl; simp
              have h2 := run_mapM_places (P := P) w fields.toList places.toList h1
              rw [Array.mapM_eq_mapM_toList]
              simp only [Sem.run_map, h2, Result.andThen_ok]
            simp only [Instr.build, Sem.run_bind, run_zeroValue hz, Result.andThen_ok, run_underlying hu, hm]
            simp [hr']
        · cases hl
      · rename_i m e hu
        split at hl
        · rename_i n hn
          cases hfill : Instr.fill (fun i => some (i * n, n)) z.cells ps with
          | none => simp [hfill] at hl
          | some r =>
            simp [hfill] at hl; subst hl
            obtain ⟨r', hr', rr⟩ := fill_rel _ ps qs _ _ _ hp (flat_cells_rel hf) hfill
            refine ⟨.agg r', ?_, rr.agg⟩
            simp only [Instr.build, Sem.run_bind, run_zeroValue hz, Result.andThen_ok, run_underlying hu, run_sizeOf hn]
            simp [hr']
        · cases hl
      · cases hl
    · cases hl
  · cases hl

def zeroRow (z : Array Value) (n : Nat) : Array Value := (Array.range n).map (z[· % z.size]!)
theorem zeroRow_rel {z : Array Value} (hz : z.all flatV = true) (n : Nat) (h0 : 0 < n → 0 < z.size) : ARel ρ (zeroRow z n) (zeroRow z n) := by
  refine ⟨rfl, fun j => ?_⟩
  by_cases hj : j < (zeroRow z n).size
  · rw [getD_in hj]
    have hj' : j < n := by simpa [zeroRow] using hj
    have hp := h0 (by omega)
    have hlt : j % z.size < z.size := Nat.mod_lt _ hp
    simp only [zeroRow, Array.getElem_map, Array.getElem_range]
    rw [getElem!_pos z _ hlt]
    exact flatV_rel (by have := Array.all_eq_true.mp hz; exact this _ hlt)
  · rw [getD_out (by omega)]; exact VRel.undef' ρ

def aBuildSlice (P : Program) (t : TypeId) (len : Nat) (parts : List (Nat × Value)) (h : Heap) : Option (Value × Heap) :=
  match P.underlying t with
  | some (.slice e) =>
    match szOf P e, zeroOf P e with
    | some sz, some z =>
      if len * sz ≤ 2 ^ 24 ∧ z.cells.all flatV = true ∧ 0 < z.cells.size then
        match Instr.fill (fun i => some (i * sz, sz)) (zeroRow z.cells (len * sz)) parts with
        | some r => if r.size = len * sz then some (.slice (some ⟨h.length, 0, none⟩) len (len + 1), newArr h r.toList sz) else none
        | none => none
      else none
    | _, _ => none
  | _ => none

theorem aBuildSlice_raw {t : TypeId} {len : Nat} {ps qs : List (Nat × Value)} {v : Value} (hl : aBuildSlice P t len ps h = some (v, h')) (w : World) (hp : PRel ρ ps qs) :
    RawOp P (Instr.buildSlice t len qs.toArray) h v h' ρ w := by
  unfold aBuildSlice at hl
  split at hl
  · rename_i e hu
    split at hl
    · rename_i sz z hsz hz
      split at hl
      · rename_i hg
        obtain ⟨hg, hf, hpos⟩ := hg
        split at hl
        · rename_i r hfill
          split at hl
          · rename_i hrs
            cases hl
            obtain ⟨r', hr', rr⟩ := fill_rel _ ps qs _ _ _ hp (zeroRow_rel hf (len * sz) (fun _ => hpos)) hfill
            refine raw_of (mkv := fun i => .slice (some ⟨i, 0, none⟩) len (len + 1)) (mk := fun a => .slice (some a) len len) (ty := e) rr ?_ ?_
            · have hng : ¬ (len * sz > 2 ^ 24) := by omega
              simp only [Instr.buildSlice, Sem.run_bind, run_underlying hu, Result.andThen_ok, run_sizeOf hsz, hng, if_false]
              by_cases h0 : len * sz = 0
              · have hz0 : zeroRow z.cells 0 = #[] := by simp [zeroRow]
                simp only [h0, if_true, Sem.run_pure, Result.andThen_ok]
                rw [h0, hz0] at hr'
                simp [hr', newRow, range_zero]
              · simp only [h0, if_false, Sem.run_bind, run_zeroValue hz, Result.andThen_ok, Sem.run_pure]
                have : (Array.range (len * sz)).map (z.cells[· % z.cells.size]!) = zeroRow z.cells (len * sz) := rfl
                simp [this, hr', newRow]
            · intro ρ' i hr
              refine .slice hr (Nat.le_refl _) (fun _ => rfl) ?_
              intro _
              refine ⟨by simp, ?_⟩
              have := rr.1
              simp; omega
          · cases hl
        · cases hl
      · cases hl
    · cases hl
  · cases hl

def aMakeSlice (P : Program) (t : TypeId) (len cap : Value) (h : Heap) : Option (Value × Heap) :=
  match P.underlying t, len, cap with
  | some (.slice e), .int _ l, .int _ c =>
    match szOf P e, zeroOf P e, bytesOf' P e with
    | some sz, some z, some by_ =>
      if 0 ≤ l ∧ l ≤ c ∧ c * by_ ≤ 2 ^ 46 ∧ c ≤ 2 ^ 46 ∧ z.cells.all flatV = true ∧ 0 < z.cells.size then
        some (.slice (some ⟨h.length, 0, none⟩) l.toNat (c.toNat + 1), newArr h (zeroRow z.cells (c.toNat * sz)).toList sz)
      else none
    | _, _, _ => none
  | _, _, _ => none

theorem aMakeSlice_raw {t : TypeId} {len cap cl cc : Value} {v : Value} (hl : aMakeSlice P t len cap h = some (v, h')) (w : World) (h1 : VRel ρ len cl) (h2 : VRel ρ cap cc) :
    RawOp P (Instr.makeSlice t cl cc) h v h' ρ w := by
  unfold aMakeSlice at hl
  split at hl
  · rename_i e _ l _ c hu
    cases h1; cases h2
    split at hl
    · rename_i sz z by_ hsz hz hby
      split at hl
      · rename_i hg
        obtain ⟨g1, g2, g3, g4, hf, hpos⟩ := hg
        cases hl
        refine raw_of (mkv := fun i => .slice (some ⟨i, 0, none⟩) l.toNat (c.toNat + 1)) (mk := fun a => .slice (some a) l.toNat c.toNat) (ty := e) (zeroRow_rel hf (c.toNat * sz) (fun _ => hpos)) ?_ ?_
        · have hi : ∃ i, P.info? e = some i ∧ i.bytes = by_ := by
            unfold bytesOf' at hby
            cases hq : P.info? e with
            | none => simp [hq] at hby
            | some i => simp [hq] at hby; exact ⟨i, rfl, hby⟩
          obtain ⟨i, hi, hib⟩ := hi
          have e1 : IntKind.i64.wrap l = l := by simp [IntKind.wrap, IntKind.bits, IntKind.signed]; omega
          have e2 : IntKind.i64.wrap c = c := by simp [IntKind.wrap, IntKind.bits, IntKind.signed]; omega
          have c1 : ¬ (c < 0) := by omega
          have c2 : ¬ ((i.bytes : Int) * c > 2 ^ 48) := by rw [hib, Int.mul_comm]; omega
          have c3 : ¬ (l < 0) := by omega
          have c4 : ¬ (l > c) := by omega
          simp only [Instr.makeSlice, Sem.run_bind, run_underlying hu, Result.andThen_ok, asInt, asIntOf, Sem.run_pure, typeInfo, run_program, hi, e1, e2]
          simp only [c1, c2, c3, c4, decide_false, Bool.or_self, Bool.false_eq_true, if_false, Sem.run_bind, run_askRoom, Result.andThen_ok, run_sizeOf hsz, or_self]
          by_cases h0 : c.toNat * sz = 0
          · have hz0 : zeroRow z.cells 0 = #[] := by simp [zeroRow]
            simp only [h0, if_true, Sem.run_pure, Result.andThen_ok]
            simp [hz0, newRow, range_zero]
          · simp only [h0, if_false, Sem.run_bind, run_zeroValue hz, Result.andThen_ok, Sem.run_pure]
            have : (Array.range (c.toNat * sz)).map (z.cells[· % z.cells.size]!) = zeroRow z.cells (c.toNat * sz) := rfl
            simp [this, newRow]
        · intro ρ' i hr
          refine .slice hr (by omega) (fun _ => rfl) ?_
          intro _
          refine ⟨by simp, ?_⟩
          simp [zeroRow]
      · cases hl
    · cases hl
  · cases hl

theorem aAlloc_sound {t : TypeId} {v : Value} (hl : aAlloc P t h = some (v, h')) (R : Rel h ρ w) : Good P (Instr.alloc t true (.tuple #[])) h ρ w v h' none := (aAlloc_raw hl ρ w).good R
theorem aBox_sound {t : TypeId} {x c : Value} (R : Rel h ρ w) (hx : VRel ρ x c) : Good P (Instr.box t c) h ρ w (aBox P t x h).1 (aBox P t x h).2 none := (aBox_raw w hx).good R
theorem aBuildSlice_sound {t : TypeId} {len : Nat} {ps qs : List (Nat × Value)} {v : Value} (hl : aBuildSlice P t len ps h = some (v, h')) (R : Rel h ρ w) (hp : PRel ρ ps qs) :
    Good P (Instr.buildSlice t len qs.toArray) h ρ w v h' none := (aBuildSlice_raw hl w hp).good R
theorem aMakeSlice_sound {t : TypeId} {len cap cl cc : Value} {v : Value} (hl : aMakeSlice P t len cap h = some (v, h')) (R : Rel h ρ w) (h1 : VRel ρ len cl) (h2 : VRel ρ cap cc) :
    Good P (Instr.makeSlice t cl cc) h ρ w v h' none := (aMakeSlice_raw hl w h1 h2).good R

end Go.AM
