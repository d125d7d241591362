/-
  A region that draws its order, over the abstract memory: kinds of operations.
-/
import Derived.Test.YtgmgmkhenhaniaaAmI
set_option linter.unusedSimpArgs false
set_option linter.unusedVariables false
namespace Go.AM
variable {P : Program} {h h' : Heap} {ρ : Place} {w : World}

/-- Kinds: plain ones, such as read, such as make a new array, such as act. -/
inductive Kind' where
  | plain | read | make | act
  deriving DecidableEq

def kindOf (op : Op) : Kind' :=
  match op with
  | .load _ _ | .slice _ _ _ _ _ | .lookup _ _ _ _ => .read
  | .alloc _ | .box _ _ | .buildSlice _ _ _ | .makeSlice _ _ _ => .make
  | .store _ _ _ | .makeMap _ _ | .mapUpdate _ _ _ _ | .insert _ _ _ _ => .act
  | .call c => match c.callee with | .builtin .len => .plain | .builtin .max => .plain | .builtin .min => .plain | _ => .act
  | _ => .plain

/-- The one array that an action changes. -/
def tgt (t : Tmps) (op : Op) : Option Nat := opWr t op

theorem map_eq {α β : Type} {o : Option α} {f : α → β} {x : β} (h : o.map f = some x) : ∃ a, o = some a ∧ f a = x := by
  cases o with
  | none => cases h
  | some a => exact ⟨a, rfl, by simpa using h⟩

theorem plain_val {t : Tmps} {op : Op} {v : Value} (hk : kindOf op = .plain) (hl : opVal P t op h = some (v, h')) : h' = h ∧ ∀ g, opVal P t op g = some (v, g) := by
  cases op <;> simp only [kindOf] at hk <;> try cases hk
  case makeFunc fn first cap =>
    cases fn <;> simp only [opVal] at hl ⊢ <;> first | (cases hl; done) | (cases hl; exact ⟨rfl, fun _ => rfl⟩)
  case call c =>
    split at hk
    · rename_i hc
      simp only [opVal, callVal, hc, bVal] at hl ⊢
      split at hl
      · rename_i ha hat
        obtain ⟨a, ha', e⟩ := map_eq hl; cases e; exact ⟨rfl, fun g => by simp only [ha']; rfl⟩
      · cases hl
    · rename_i hc
      simp only [opVal, callVal, hc, bVal] at hl ⊢
      split at hl
      · rename_i ha hat
        obtain ⟨a, ha', e⟩ := map_eq hl; cases e; exact ⟨rfl, fun g => by simp only [ha']; rfl⟩
      · rename_i ha hat
        obtain ⟨a, ha', e⟩ := map_eq hl; cases e; exact ⟨rfl, fun g => by simp only [ha']; rfl⟩
      · cases hl
    · rename_i hc
      simp only [opVal, callVal, hc, bVal] at hl ⊢
      split at hl
      · rename_i ha hat
        obtain ⟨a, ha', e⟩ := map_eq hl; cases e; exact ⟨rfl, fun g => by simp only [ha']; rfl⟩
      · cases hl
    · cases hk
  all_goals
    simp only [opVal] at hl ⊢
    first
    | (cases hl; done)
    | (cases hl; exact ⟨rfl, fun _ => rfl⟩)
    | (obtain ⟨a, ha, e⟩ := map_eq hl; cases e; exact ⟨rfl, fun g => by rw [ha]; rfl⟩)

/-- A read looks at one array. -/
def seen (t : Tmps) (op : Op) : Option Nat :=
  match op with
  | .load _ a => ptrWr (ev t a)
  | .slice _ x _ _ _ => (appWr (ev t x)).or (ptrWr (ev t x))
  | .lookup _ x _ _ => mapIdx (ev t x)
  | _ => none

theorem read_val {t : Tmps} {op : Op} {v : Value} (hk : kindOf op = .read) (hl : opVal P t op h = some (v, h')) :
    h' = h ∧ ∀ g, (∀ i, seen t op = some i → g[i]? = h[i]?) → opVal P t op g = some (v, g) := by
  cases op <;> simp only [kindOf] at hk <;> try cases hk
  case load ty x =>
    simp only [opVal] at hl ⊢
    obtain ⟨a, ha, e⟩ := map_eq hl; cases e
    refine ⟨rfl, fun g hg => ?_⟩
    have : aLoad P ty (ev t x) g = aLoad P ty (ev t x) h := by
      simp only [seen] at hg
      unfold aLoad
      split
      · rename_i i off hx
        rw [hx] at hg
        rw [hg i rfl]
      · rfl
    rw [this, ha]; rfl
  case slice ty x lo hi mx =>
    simp only [opVal] at hl ⊢
    obtain ⟨a, ha, e⟩ := map_eq hl; cases e
    refine ⟨rfl, fun g hg => ?_⟩
    have : aSlice P ty (ev t x) (lo.map (ev t)) (hi.map (ev t)) (mx.map (ev t)) g = aSlice P ty (ev t x) (lo.map (ev t)) (hi.map (ev t)) (mx.map (ev t)) h := by
      simp only [seen] at hg
      unfold aSlice
      split
      · rfl
      · rfl
      · rename_i e i off len cap hu hx
        rw [hx] at hg
        rw [hg i rfl]
      · rename_i n e i off hu hx
        rw [hx] at hg
        rw [hg i rfl]
      · rfl
    rw [this, ha]; rfl
  case lookup ty x k ok =>
    simp only [opVal] at hl ⊢
    obtain ⟨a, ha, e⟩ := map_eq hl; cases e
    refine ⟨rfl, fun g hg => ?_⟩
    have : aLookup P ty (ev t x) (ev t k) ok g = aLookup P ty (ev t x) (ev t k) ok h := by
      simp only [seen] at hg
      unfold aLookup
      split
      · rename_i kt et i hu hx
        rw [hx] at hg
        rw [hg i rfl]
      · rfl
    rw [this, ha]; rfl
  all_goals split at hk <;> cases hk

/-- A new array is what it is, whatever else lies there. -/
theorem make_val {o : Oper} {t : Tmps} {a : Act} {v : Value} (hk : kindOf o.op = .make) (hl : opVal P t o.op h = some (v, h')) (w : World) (T : ∀ x ∈ o.op.operands, VRel ρ (ev t x) (a.eval x)) :
    ∃ s, execOp a.eval o = (do pure (.value (← s)) : Sem Next) ∧ RawOp P s h v h' ρ w := by
  obtain ⟨dst, op, type, pos, after, guard⟩ := o
  simp only at hl T hk
  cases op <;> simp only [kindOf] at hk <;> try cases hk
  case alloc e => exact ⟨_, rfl, aAlloc_raw hl ρ w⟩
  case box e x =>
    simp only [opVal] at hl
    cases hl
    exact ⟨_, rfl, aBox_raw w (T x (by simp [Op.operands]))⟩
  case buildSlice ty n ps =>
    have hp := prel_of (ρ := ρ) (t := t) (a := a) ps.toList (fun p hp => T p.2 (by simp [Op.operands]; exact ⟨p.1, by simpa using hp⟩))
    refine ⟨_, ?_, aBuildSlice_raw (P := P) hl w hp⟩
    simp only [execOp]
    congr 2
    apply Array.ext'
    simp
  case makeSlice ty l c =>
    exact ⟨_, rfl, aMakeSlice_raw (P := P) hl w (T l (by simp [Op.operands])) (T c (by simp [Op.operands]))⟩
  all_goals split at hk <;> cases hk

/-- An action changes one array, and may make one. -/
theorem act_val {t : Tmps} {op : Op} {v : Value} (hk : kindOf op = .act) (hl : opVal P t op h = some (v, h')) :
    h.length ≤ h'.length ∧ (∀ i, i < h.length → tgt t op ≠ some i → h'[i]? = h[i]?) := by
  cases op <;> simp only [kindOf] at hk <;> try cases hk
  case store ty a x =>
    simp only [opVal] at hl
    obtain ⟨a', ha, e⟩ := map_eq hl; cases e
    unfold aStore at ha
    split at ha
    · rename_i i off hx
      split at ha
      · split at ha
        · cases ha
          refine ⟨by simp, fun j hj hne => ?_⟩
          simp only [tgt, opWr, hx, ptrWr] at hne
          rw [List.getElem?_set_ne (fun e => hne (by rw [e]))]
        · cases ha
      · cases ha
    · cases ha
  case makeMap ty r =>
    cases r with
    | none =>
      simp only [opVal] at hl
      cases hl
      refine ⟨by simp [newMap], fun i hi _ => ?_⟩
      unfold newMap; rw [List.getElem?_append_left hi]
    | some _ => cases hl
  case mapUpdate ty m k x =>
    simp only [opVal] at hl
    obtain ⟨a', ha, e⟩ := map_eq hl; cases e
    unfold aMapUpd at ha
    split at ha
    rotate_left
    · cases ha
    rename_i kt et i hu hx
    split at ha
    rotate_left
    · cases ha
    split at ha
    rotate_left
    · cases ha
    simp only [tgt, opWr, hx, mapIdx]
    split at ha <;> cases ha <;> exact ⟨by simp, fun j hj hne => by rw [List.getElem?_set_ne (fun e => hne (by rw [e]))]⟩
  case insert ty m k x =>
    simp only [opVal] at hl
    obtain ⟨a', ha, e⟩ := map_eq hl; cases e
    unfold aMapUpd at ha
    split at ha
    rotate_left
    · cases ha
    rename_i kt et i hu hx
    split at ha
    rotate_left
    · cases ha
    split at ha
    rotate_left
    · cases ha
    simp only [tgt, opWr, hx, mapIdx]
    split at ha <;> cases ha <;> exact ⟨by simp, fun j hj hne => by rw [List.getElem?_set_ne (fun e => hne (by rw [e]))]⟩
  case call c =>
    simp only [opVal, callVal] at hl
    split at hl
    · rename_i b hb
      unfold bVal at hl
      cases b <;> simp only at hl <;> try cases hl
      case append =>
        split at hl
        · rename_i s x sT xT ha hat
          have htg : tgt t (.call c) = appWr (ev t s) := by simp only [tgt, opWr, callWr, hb, bWr, ha]
          rw [htg]
          unfold aAppend at hl
          split at hl
          rotate_left
          · cases hl
          split at hl
          rotate_left
          · cases hl
          split at hl
          rotate_left
          · cases hl
          split at hl
          rotate_left
          · cases hl
          rename_i hs _
          split at hl
          · cases hl; exact ⟨Nat.le_refl _, fun _ _ _ => rfl⟩
          split at hl
          rotate_left
          · cases hl
          split at hl
          rotate_left
          · cases hl
          have hnew : ∀ (g : Heap) (cells : List Value) (esz : Nat), h.length = g.length → h.length ≤ (newArr g cells esz).length ∧ ∀ i, i < h.length → (newArr g cells esz)[i]? = g[i]? := by
            intro g cells esz hg
            refine ⟨by simp [newArr]; omega, fun i hi => ?_⟩
            unfold newArr; rw [List.getElem?_append_left (by omega)]
          split at hl
          · cases hl
            exact ⟨(hnew h _ _ rfl).1, fun i hi _ => (hnew h _ _ rfl).2 i hi⟩
          · split at hl
            · cases hl
              exact ⟨(hnew h _ _ rfl).1, fun i hi _ => (hnew h _ _ rfl).2 i hi⟩
            · split at hl
              · split at hl
                · cases hl
                  refine ⟨(hnew (h.set _ .dead) _ _ (by simp)).1, fun i hi hne => ?_⟩
                  rw [(hnew (h.set _ .dead) _ _ (by simp)).2 i hi]
                  simp only [hs, appWr] at hne
                  rw [List.getElem?_set_ne (fun e => hne (by rw [e]))]
                · cases hl
              · cases hl
          · cases hl
        · cases hl
      case copy =>
        split at hl
        · rename_i s x sT xT ha hat
          have htg : tgt t (.call c) = appWr (ev t s) := by simp only [tgt, opWr, callWr, hb, bWr, ha]
          rw [htg]
          unfold aCopy at hl
          split at hl
          rotate_left
          · cases hl
          split at hl
          rotate_left
          · cases hl
          rename_i hs _
          split at hl
          · cases hl; exact ⟨Nat.le_refl _, fun _ _ _ => rfl⟩
          split at hl
          rotate_left
          · cases hl
          split at hl
          rotate_left
          · cases hl
          split at hl
          rotate_left
          · cases hl
          cases hl
          refine ⟨by simp, fun j hj hne => ?_⟩
          simp only [hs, appWr] at hne
          rw [List.getElem?_set_ne (fun e => hne (by rw [e]))]
        · cases hl
      case len => simp only [hb] at hk; cases hk
      case max => simp only [hb] at hk; cases hk
      case min => simp only [hb] at hk; cases hk
    · cases hl

end Go.AM
