/-
  One operation over the abstract memory, held against the machine's.
-/
import Derived.Test.YtgmgmkhenhaniaaAmFm
set_option linter.unusedSimpArgs false
set_option linter.unusedVariables false
namespace Go.AM
variable {P : Program} {h h' : Heap} {ρ : Place} {w : World}

/-! ### copy -/
def aCopy (P : Program) (dT sT : TypeId) (s x : Value) (h : Heap) : Option (Value × Heap) :=
  match P.underlying dT with
  | some (.slice e) =>
    match szOf P e, s, x with
    | some sz, .slice db dLen _, .slice xb xLen _ =>
      if Nat.min xLen dLen = 0 then some (.int .i64 0, h) else
      match db, aCells h sz (.slice xb (Nat.min xLen dLen) 0) with
      | some ⟨i, off, none⟩, some (_, xs) =>
        match h[i]? with
        | some (.arr ar) =>
          if ar.ro = false ∧ off + xs.length ≤ ar.cells.length ∧ xs.all (·.oneCell') = true then
            some (.int .i64 (Nat.min xLen dLen), h.set i (.arr { ar with cells := setSeg ar.cells off xs }))
          else none
        | _ => none
      | _, _ => none
    | _, _, _ => none
  | _ => none

theorem list_oneCell {xs cxs : List Value} (r : LRel ρ xs cxs) (h0 : xs.all (·.oneCell') = true) : ∀ v ∈ cxs, v.oneCell' = true := by
  intro v hv
  obtain ⟨k, hk, rfl⟩ := List.mem_iff_getElem.mp hv
  have hk' : k < xs.length := by rw [r.1]; exact hk
  have h1 := r.2 k
  have e1 : xs.getD k undef = xs[k] := by simp [List.getD, hk']
  have e2 : cxs.getD k undef = cxs[k] := by simp [List.getD, hk]
  rw [e1, e2] at h1
  rw [← oneCell_rel h1]
  exact List.all_eq_true.mp h0 _ (List.getElem_mem _)

theorem aCells_len {sz n m c : Nat} {b : Option Addr} {xs : List Value} (hl : aCells h sz (.slice b n c) = some (m, xs)) (hb : b = none → n = 0) : m = n := by
  unfold aCells at hl
  split at hl
  · rename_i e; cases e; cases hl; exact (hb rfl).symm
  · rename_i e; cases e
    split at hl
    · cases hl; omega
    · split at hl
      · split at hl
        · cases hl; rfl
        · cases hl
      · cases hl
  · cases hl

theorem aCopy_sound {dT sT ty : TypeId} {s x cs cx v : Value} (hl : aCopy P dT sT s x h = some (v, h')) (R : Rel h ρ w) (hs : VRel ρ s cs) (hx : VRel ρ x cx) :
    Good P (Builtin.copy_ #[dT, sT] ty #[cs, cx]) h ρ w v h' (appWr s) := by
  unfold aCopy at hl
  split at hl
  rotate_left
  · cases hl
  rename_i e hu
  split at hl
  rotate_left
  · cases hl
  rename_i sz db dLen dcap xb xLen xcap hsz
  have hso := run_sizeOf (P := P) hsz
  obtain ⟨cdb, cdCap, hcs⟩ : ∃ cdb cdCap, cs = .slice cdb dLen cdCap := by cases hs <;> exact ⟨_, _, rfl⟩
  obtain ⟨cxb, cxCap, hcx⟩ : ∃ cxb cxCap, cx = .slice cxb xLen cxCap := by cases hx <;> exact ⟨_, _, rfl⟩
  subst hcs hcx
  split at hl
  · rename_i h0
    cases hl
    refine ⟨ρ, w, .int .i64 0, ?_, R, .refl _ _ _, .int _ _, .refl _ _ _⟩
    have h0' : xLen.min dLen = 0 := h0
    cases cdb <;> cases cxb <;> simp [Builtin.copy_, run_underlying hu, Builtin.lenOf, h0', hso, Builtin.firstCells, loadCells, loadCellsFrom, storeCells, goInt]
  rename_i h0
  split at hl
  rotate_left
  · cases hl
  rename_i i off n0 xs hxs
  have hx' : VRel ρ (.slice xb (xLen.min dLen) 0) (.slice cxb (xLen.min dLen) cxCap) := by
    cases hx with
    | nilSlice => exact absurd (Nat.zero_min _) h0
    | slice g1 g2 g3 g4 => exact .slice g1 (Nat.le_trans (Nat.min_le_left _ _) g2) (fun hh => absurd rfl hh) g4
  have hn0 := aCells_len hxs (fun e => by subst e; cases hx; exact Nat.zero_min _)
  subst hn0
  obtain ⟨_, hxl, cxs, hxr, hfirst⟩ := aCells_sound (P := P) hxs R hx'
  split at hl
  rotate_left
  · cases hl
  rename_i ar har
  split at hl
  rotate_left
  · cases hl
  rename_i hg
  obtain ⟨hro, hfit, hone⟩ := hg
  cases hl
  cases hs with
  | @slice _ _ _ _ capC c0 L hi hlen hcap hcc =>
    have hdl : 0 < dLen := by
      rcases Nat.eq_zero_or_pos dLen with hh | hh
      · subst hh; exact absurd (Nat.min_zero _) h0
      · exact hh
    obtain ⟨rfl, _⟩ := hcc (by omega)
    obtain ⟨cs, ty0, fr, hb, g2, g3, g4, g5, g6⟩ := R.arr i L ar hi har
    have hfr := g6 hro
    subst hfr
    have hst := run_storeCells_at P L.blk (L.off + off) ty0 cxs 0 cs w hb (by have := hxr.1; omega) (list_oneCell hxr hone)
    have hcr : CRel ρ (setSeg ar.cells off xs) (cs.toList.take (L.off + off) ++ cxs ++ cs.toList.drop (L.off + off + cxs.length)).toArray L.off :=
      seg_crel g5 hfit (by omega) hxr.1.symm (fun k _ => hxr.2 k)
    obtain ⟨R', S', F'⟩ := R.setArr hi har hro hb (cs' := (cs.toList.take (L.off + off) ++ cxs ++ cs.toList.drop (L.off + off + cxs.length)).toArray)
      (by have := hxr.1; simp; omega) (setSeg_length _ _ _) hcr
    refine ⟨ρ, _, .int .i64 (xLen.min dLen : Nat), ?_, R', S', .int _ _, F'⟩
    have hf : (Builtin.firstCells sz (xLen.min dLen) (.slice cxb xLen cxCap)).run P w = .ok cxs.toArray w := by
      have := hfirst w rfl
      cases cxb <;> simpa [Builtin.firstCells] using this
    simp only [Nat.add_zero] at hst
    simp [Builtin.copy_, run_underlying hu, Builtin.lenOf, hso, hf, hst, goInt]

/-! ### an operation -/
abbrev Tmps := Nat → Value
def upd (t : Tmps) (d : Nat) (v : Value) : Tmps := fun i => if i = d then v else t i
def updO (t : Tmps) (d : Option Nat) (v : Value) : Tmps :=
  match d with
  | some d => upd t d v
  | none => t

def ev (t : Tmps) : Operand → Value
  | .tmp i => t i
  | .const v => v
  | .global g => .pointer (some ⟨g, 0, none⟩)
  | .func f => .func (.func f) #[] #[]

def constV (v : Value) : Bool :=
  match v with
  | .agg cs => cs.all flatV
  | v => flatV v
def opOK (N : Nat) : Operand → Bool
  | .tmp i => decide (i < N)
  | .const v => constV v
  | .global _ => false
  | .func _ => true

structure TRel (ρ : Place) (N : Nat) (t : Tmps) (a : Act) : Prop where
  size : a.tmps.size = N
  defers : a.defers = []
  vals : ∀ i, i < N → VRel ρ (t i) (a.tmps.getD i undef)

theorem constV_rel {v : Value} (hv : constV v = true) : VRel ρ v v := by
  unfold constV at hv
  split at hv
  · exact (flat_cells_rel hv).agg
  · exact flatV_rel hv

theorem TRel.eval {N : Nat} {t : Tmps} {a : Act} (T : TRel ρ N t a) {x : Operand} (hx : opOK N x = true) : VRel ρ (ev t x) (a.eval x) := by
  cases x with
  | tmp i => simp [opOK] at hx; exact T.vals i hx
  | const v => exact constV_rel hx
  | global g => simp [opOK] at hx
  | func f => exact .func f rfl (fun _ => by simp [Array.getD]; exact VRel.undef' ρ) rfl (fun _ => by simp [Array.getD]; exact VRel.undef' ρ)

theorem TRel.put {N : Nat} {t : Tmps} {a : Act} (T : TRel ρ N t a) {v c : Value} (hv : VRel ρ v c) (d : Option Nat) : TRel ρ N (updO t d v) (a.put d c) := by
  cases d with
  | none => exact T
  | some d =>
    refine ⟨by simp [Act.put, T.size], T.defers, fun i hi => ?_⟩
    have := T.vals i hi
    simp only [updO, upd, Act.put, Array.getD_eq_getD_getElem?] at this ⊢
    rw [Array.getElem?_setIfInBounds]
    by_cases e : i = d
    · subst e; rw [if_pos rfl, if_pos rfl, if_pos (by rw [T.size]; exact hi)]; exact hv
    · rw [if_neg e, if_neg (Ne.symm e)]; exact this

theorem TRel.mono {ρ' : Place} {N : Nat} {t : Tmps} {a : Act} (hle : Le ρ ρ') (T : TRel ρ N t a) : TRel ρ' N t a := ⟨T.size, T.defers, fun i hi => (T.vals i hi).mono hle⟩

def evParts (t : Tmps) (ps : Array (Nat × Operand)) : List (Nat × Value) := ps.toList.map fun x => (x.1, ev t x.2)

/-- A builtin. -/
def bVal (P : Program) (t : Tmps) (b : Builtin) (args : List Operand) (ats : List TypeId) (h : Heap) : Option (Value × Heap) :=
  match b with
  | .len => match args, ats with | [x], [ty] => (aLen P ty (ev t x)).map (·, h) | _, _ => none
  | .append => match args, ats with | [s, x], [sT, xT] => aAppend P sT xT (ev t s) (ev t x) h | _, _ => none
  | .copy => match args, ats with | [s, x], [sT, xT] => aCopy P sT xT (ev t s) (ev t x) h | _, _ => none
  | .max => match args, ats with | [x, y], [_, _] => (aMax (ev t x) (ev t y)).map (·, h) | [x, y, z], [_, _, _] => (aMax3 (ev t x) (ev t y) (ev t z)).map (·, h) | _, _ => none
  | .min => match args, ats with | [x, y], [_, _] => (aMin (ev t x) (ev t y)).map (·, h) | _, _ => none
  | _ => none
def callVal (P : Program) (t : Tmps) (c : Call) (h : Heap) : Option (Value × Heap) :=
  match c.callee with
  | .builtin b => bVal P t b c.args.toList c.argTypes.toList h
  | _ => none
/-- The same in the text's order, where a map's length may be asked for. -/
def bLenM (P : Program) (t : Tmps) (b : Builtin) (args : List Operand) (ats : List TypeId) (h : Heap) : Option Value :=
  match b, args, ats with
  | .len, [x], [ty] => aLenM P ty (ev t x) h
  | _, _, _ => none
def bValL (P : Program) (t : Tmps) (b : Builtin) (args : List Operand) (ats : List TypeId) (h : Heap) : Option (Value × Heap) :=
  match bVal P t b args ats h with
  | some r => some r
  | none => (bLenM P t b args ats h).map (·, h)
/-- Which block it may write. -/
def bWr (t : Tmps) (b : Builtin) (args : List Operand) : Option Nat :=
  match b with
  | .append => match args with | s :: _ => appWr (ev t s) | _ => none
  | .copy => match args with | s :: _ => appWr (ev t s) | _ => none
  | _ => none
def callWr (t : Tmps) (c : Call) : Option Nat :=
  match c.callee with
  | .builtin b => bWr t b c.args.toList
  | _ => none
/-- Of an append: how far the cells of the array that it goes on stay. -/
def bKept (P : Program) (t : Tmps) (b : Builtin) (args : List Operand) (ats : List TypeId) : Option Nat :=
  match b with
  | .append =>
    match args, ats with
    | [s, _], [sT, _] =>
      match P.underlying sT with
      | some (.slice e) => (szOf P e).map fun sz => appEnd sz (ev t s)
      | _ => none
    | _, _ => none
  | _ => none

/-- What an operation that is no call of Go code gives. -/
def opVal (P : Program) (t : Tmps) (op : Op) (h : Heap) : Option (Value × Heap) :=
  match op with
  | .move x | .assign x => some (ev t x, h)
  | .pick c a b => (match ev t c with | .bool z => some (if z then ev t a else ev t b) | _ => none : Option Value).map (·, h)
  | .alloc e => aAlloc P e h
  | .box e x => some (aBox P e (ev t x) h)
  | .build ty ps => (aBuild P ty (evParts t ps)).map (·, h)
  | .buildSlice ty n ps => aBuildSlice P ty n (evParts t ps) h
  | .load ty a => (aLoad P ty (ev t a) h).map (·, h)
  | .store ty a x => (aStore P ty (ev t a) (ev t x) h).map (undef, ·)
  | .nilCheck x => (match ev t x with | .pointer (some a) => some (.pointer (some a)) | .func (.func f) a b => some (.func (.func f) a b) | _ => none : Option Value).map (·, h)
  | .binOp op xt x y _ => (aBin P op xt (ev t x) (ev t y)).map (·, h)
  | .unOp op _ x => (aUn op (ev t x)).map (·, h)
  | .convert s d x => (aConvert P s d (ev t x)).map (·, h)
  | .makeFunc (.func f) first cap => some (.func (.func f) (first.toList.map (ev t)).toArray (cap.toList.map (ev t)).toArray, h)
  | .makeSlice ty l c => aMakeSlice P ty (ev t l) (ev t c) h
  | .slice ty x lo hi mx => (aSlice P ty (ev t x) (lo.map (ev t)) (hi.map (ev t)) (mx.map (ev t)) h).map (·, h)
  | .fieldAddr ty x k => (aFieldAddr P ty (ev t x) k).map (·, h)
  | .field ty x k => (aField P ty (ev t x) k).map (·, h)
  | .indexAddr ty x i => (aIndexAddr P ty (ev t x) (ev t i)).map (·, h)
  | .index ty x i => (aIndex P ty (ev t x) (ev t i)).map (·, h)
  | .extract x k => (aExtract (ev t x) k).map (·, h)
  | .makeMap _ none => some (.map (some h.length), newMap h)
  | .lookup ty x k ok => (aLookup P ty (ev t x) (ev t k) ok h).map (·, h)
  | .mapUpdate ty m k x | .insert ty m k x => (aMapUpd P ty (ev t m) (ev t k) (ev t x) h).map (undef, ·)
  | .call c => callVal P t c h
  | _ => none

def opWr (t : Tmps) (op : Op) : Option Nat :=
  match op with
  | .store _ a _ => ptrWr (ev t a)
  | .mapUpdate _ m _ _ | .insert _ m _ _ => mapIdx (ev t m)
  | .call c => callWr t c
  | _ => none

end Go.AM
