/-
  The operations over the abstract memory, the second part: numbers, slices, new arrays.
-/
import Derived.Test.YtgmgmkhenhaniaaAmB
import Derived.Laws.StructEq
import Derived.ChangeKeysEq
set_option linter.unusedSimpArgs false
set_option linter.unusedVariables false
namespace Go.AM
variable {P : Program} {h h' : Heap} {ρ : Place} {w : World}

/-! ### numbers -/
def aInt (op : BinOp) (k : IntKind) (a b : Int) : Option Value :=
  match op with
  | .add => some (.int k (k.wrap (a + b)))
  | .sub => some (.int k (k.wrap (a - b)))
  | .mul => some (.int k (k.wrap (a * b)))
  | .quo => if b = 0 then none else some (.int k (k.wrap (a.tdiv b)))
  | .rem => if b = 0 then none else some (.int k (a.tmod b))
  | .and => some (.int k (k.wrap (BitVec.ofInt k.bits a &&& BitVec.ofInt k.bits b).toNat))
  | .or => some (.int k (k.wrap (BitVec.ofInt k.bits a ||| BitVec.ofInt k.bits b).toNat))
  | .xor => some (.int k (k.wrap (BitVec.ofInt k.bits a ^^^ BitVec.ofInt k.bits b).toNat))
  | .andNot => some (.int k (k.wrap (BitVec.ofInt k.bits a &&& ~~~ BitVec.ofInt k.bits b).toNat))
  | .eql => some (.bool (a == b))
  | .neq => some (.bool (a != b))
  | .lss => some (.bool (decide (a < b)))
  | .leq => some (.bool (decide (a ≤ b)))
  | .gtr => some (.bool (decide (a > b)))
  | .geq => some (.bool (decide (a ≥ b)))
  | .shl => if b < 0 then none else some (.int k (k.wrap (a * 2 ^ (min b.toNat k.bits))))
  | .shr => if b < 0 then none else some (.int k (a.fdiv (2 ^ (min b.toNat k.bits))))

theorem aInt_sound {op : BinOp} {t : TypeId} {k : IntKind} {a b : Int} {v : Value} (hl : aInt op k a b = some v) (w : World) :
    ∃ c', (binOp op t (.int k a) (.int k b)).run P w = .ok c' w ∧ VRel ρ v c' := by
  unfold aInt at hl
  cases op <;> simp only at hl
  case add => cases hl; exact ⟨_, by simp [binOp, Op.intArith], .int _ _⟩
  case sub => cases hl; exact ⟨_, by simp [binOp, Op.intArith], .int _ _⟩
  case mul => cases hl; exact ⟨_, by simp [binOp, Op.intArith], .int _ _⟩
  case quo =>
    by_cases hb : b = 0
    · rw [if_pos hb] at hl; cases hl
    · rw [if_neg hb] at hl; cases hl; exact ⟨_, by simp [binOp, Op.intDiv, hb], .int _ _⟩
  case rem =>
    by_cases hb : b = 0
    · rw [if_pos hb] at hl; cases hl
    · rw [if_neg hb] at hl; cases hl; exact ⟨_, by simp [binOp, Op.intDiv, hb], .int _ _⟩
  case and => cases hl; exact ⟨_, by simp only [binOp, if_true, ne_eq, not_true, if_false]; rfl, .int _ _⟩
  case or => cases hl; exact ⟨_, by simp only [binOp, if_true, ne_eq, not_true, if_false]; rfl, .int _ _⟩
  case xor => cases hl; exact ⟨_, by simp only [binOp, if_true, ne_eq, not_true, if_false]; rfl, .int _ _⟩
  case andNot => cases hl; exact ⟨_, by simp only [binOp, if_true, ne_eq, not_true, if_false]; rfl, .int _ _⟩
  case eql => cases hl; exact ⟨_, by simp [binOp, Op.intCmp], .bool _⟩
  case neq => cases hl; exact ⟨_, by simp [binOp, Op.intCmp], .bool _⟩
  case lss => cases hl; exact ⟨_, by simp [binOp, Op.intCmp], .bool _⟩
  case leq => cases hl; exact ⟨_, by simp [binOp, Op.intCmp], .bool _⟩
  case gtr => cases hl; exact ⟨_, by simp [binOp, Op.intCmp], .bool _⟩
  case geq => cases hl; exact ⟨_, by simp [binOp, Op.intCmp], .bool _⟩
  case shl =>
    by_cases hh : b < 0
    · rw [if_pos hh] at hl; cases hl
    · rw [if_neg hh] at hl; cases hl; exact ⟨_, by simp only [binOp, Op.shift, hh, if_false]; rfl, .int _ _⟩
  case shr =>
    by_cases hh : b < 0
    · rw [if_pos hh] at hl; cases hl
    · rw [if_neg hh] at hl; cases hl; exact ⟨_, by simp only [binOp, Op.shift, hh, if_false]; rfl, .int _ _⟩
  all_goals cases hl

def isShift : BinOp → Bool
  | .shl | .shr => true
  | _ => false
theorem shift_kind {op : BinOp} (h : isShift op = true) (t : TypeId) (k k' : IntKind) (a b : Int) : binOp op t (.int k a) (.int k' b) = binOp op t (.int k a) (.int k b) := by
  cases op <;> simp [isShift] at h <;> rfl

/-- Structs of plain fields, compared. -/
def eqPart (P : Program) (t : TypeId) (a b : Value) : Option Bool :=
  match P.underlying t, a, b with
  | some (.int _), .int k a, .int k' b => if k = k' then some (a == b) else none
  | some .string, .string a, .string b => some (a.toList == b.toList)
  | some .bool, .bool a, .bool b => some (a == b)
  | _, _, _ => none
def eqFA (P : Program) : List Field → Array Value → Array Value → Option Bool
  | [], _, _ => some true
  | f :: fs, xs, ys =>
    if f.name = "_" then none else
    match xs[f.offset]?, ys[f.offset]? with
    | some a, some b =>
      match eqPart P f.type a b with
      | some true => eqFA P fs xs ys
      | some false => some false
      | none => none
    | _, _ => none
def eqIA (P : Program) (e : TypeId) (c : Nat) : List Nat → Array Value → Array Value → Option Bool
  | [], _, _ => some true
  | i :: is, xs, ys =>
    match xs[i * c]?, ys[i * c]? with
    | some a, some b =>
      match eqPart P e a b with
      | some true => eqIA P e c is xs ys
      | some false => some false
      | none => none
    | _, _ => none
def eqSt (P : Program) (t : TypeId) (xs ys : Array Value) : Option Bool :=
  match P.underlying t with
  | some (.array n e) => if (P.info? e).isSome = true ∧ P.eqGuardType P.depth t = false then eqIA P e (P.cellsOf e) (List.range n) xs ys else none
  | some (.struct fs) => if P.stoodInHeld t = false ∧ P.eqGuardType P.depth t = false then eqFA P fs.toList xs ys else none
  | _ => none
theorem eqPart_sound (d : Nat) {t : TypeId} {a b : Value} {r : Bool} (hl : eqPart P t a b = some r) (w : World) : (Op.equalIn (d + 1) t a b).run P w = .ok r w ∧ P.plainKey t = true := by
  unfold eqPart at hl
  split at hl
  · rename_i hu
    split at hl
    · rename_i hk; subst hk; cases hl; exact ⟨run_equalIn_int w d t _ _ _ _ hu, by simp [Program.plainKey, hu]⟩
    · cases hl
  · rename_i hu; cases hl; exact ⟨run_equalIn_string w d t _ _ hu, by simp [Program.plainKey, hu]⟩
  · rename_i hu; cases hl; exact ⟨run_equalIn_bool' w d t _ _ hu, by simp [Program.plainKey, hu]⟩
  · cases hl
theorem eqPart_rel {t : TypeId} {a b ca cb : Value} {r : Bool} (hl : eqPart P t a b = some r) (ha : VRel ρ a ca) (hb : VRel ρ b cb) : eqPart P t ca cb = some r := by
  unfold eqPart at hl
  split at hl
  · cases ha; cases hb; rename_i hu; unfold eqPart; rw [hu]; exact hl
  · cases ha; cases hb; rename_i hu; unfold eqPart; rw [hu]; exact hl
  · cases ha; cases hb; rename_i hu; unfold eqPart; rw [hu]; exact hl
  · cases hl
theorem at_rel {a c : Array Value} (h1 : a.size = c.size) (h2 : ∀ j, VRel ρ (a.getD j undef) (c.getD j undef)) {k : Nat} {x : Value} (hx : a[k]? = some x) : ∃ y, c[k]? = some y ∧ VRel ρ x y := by
  obtain ⟨hk, rfl⟩ := Array.getElem?_eq_some_iff.mp hx
  have := h2 k
  have hk' : k < c.size := h1 ▸ hk
  rw [show a.getD k undef = a[k] by simp [Array.getD, hk], show c.getD k undef = c[k] by simp [Array.getD, hk']] at this
  exact ⟨_, Array.getElem?_eq_getElem hk', this⟩
theorem eqFA_sound (d : Nat) {xs ys cx cy : Array Value} (h1 : xs.size = cx.size) (h2 : ∀ j, VRel ρ (xs.getD j undef) (cx.getD j undef)) (g1 : ys.size = cy.size) (g2 : ∀ j, VRel ρ (ys.getD j undef) (cy.getD j undef)) (w : World) :
    ∀ (fs : List Field) {r : Bool}, eqFA P fs xs ys = some r → (Op.eqFields (d + 1) cx cy fs).run P w = .ok r w
  | [], r, hl => by cases hl; rfl
  | f :: fs, r, hl => by
    simp only [eqFA] at hl
    split at hl
    · cases hl
    · rename_i hn
      split at hl
      · rename_i a b ha hb
        obtain ⟨ca, ea, ra⟩ := at_rel h1 h2 ha
        obtain ⟨cb, eb, rb⟩ := at_rel g1 g2 hb
        simp only [Op.eqFields]
        rw [if_pos hn]
        split at hl
        · rename_i hq
          obtain ⟨q1, q2⟩ := eqPart_sound d (eqPart_rel hq ra rb) w
          simp only [Sem.run_bind, run_part_plain w q2 ea, run_part_plain w q2 eb, q1, Result.andThen_ok, Bool.not_true, Bool.false_eq_true, if_false]
          exact eqFA_sound d h1 h2 g1 g2 w fs hl
        · rename_i hq
          cases hl
          obtain ⟨q1, q2⟩ := eqPart_sound d (eqPart_rel hq ra rb) w
          simp only [Sem.run_bind, run_part_plain w q2 ea, run_part_plain w q2 eb, q1, Result.andThen_ok, Bool.not_false, if_true]
          rfl
        · cases hl
      · cases hl
theorem eqIA_sound (d : Nat) {e : TypeId} {c : Nat} {xs ys cx cy : Array Value} (h1 : xs.size = cx.size) (h2 : ∀ j, VRel ρ (xs.getD j undef) (cx.getD j undef)) (g1 : ys.size = cy.size) (g2 : ∀ j, VRel ρ (ys.getD j undef) (cy.getD j undef)) (w : World) :
    ∀ (is : List Nat) {r : Bool}, eqIA P e c is xs ys = some r → (Op.eqItems (d + 1) e c cx cy is).run P w = .ok r w
  | [], r, hl => by cases hl; rfl
  | i :: is, r, hl => by
    simp only [eqIA] at hl
    split at hl
    · rename_i a b ha hb
      obtain ⟨ca, ea, ra⟩ := at_rel h1 h2 ha
      obtain ⟨cb, eb, rb⟩ := at_rel g1 g2 hb
      simp only [Op.eqItems]
      split at hl
      · rename_i hq
        obtain ⟨q1, q2⟩ := eqPart_sound d (eqPart_rel hq ra rb) w
        simp only [Sem.run_bind, run_part_plain w q2 ea, run_part_plain w q2 eb, q1, Result.andThen_ok, Bool.not_true, Bool.false_eq_true, if_false]
        exact eqIA_sound d h1 h2 g1 g2 w is hl
      · rename_i hq
        cases hl
        obtain ⟨q1, q2⟩ := eqPart_sound d (eqPart_rel hq ra rb) w
        simp only [Sem.run_bind, run_part_plain w q2 ea, run_part_plain w q2 eb, q1, Result.andThen_ok, Bool.not_false, if_true]
        rfl
      · cases hl
    · cases hl
theorem eqSt_sound {t : TypeId} {xs ys cx cy : Array Value} {r : Bool} (hl : eqSt P t xs ys = some r) (h1 : xs.size = cx.size) (h2 : ∀ j, VRel ρ (xs.getD j undef) (cx.getD j undef)) (g1 : ys.size = cy.size) (g2 : ∀ j, VRel ρ (ys.getD j undef) (cy.getD j undef)) (w : World) :
    (Op.equalIn 10000 t (.agg cx) (.agg cy)).run P w = .ok r w ∧ P.eqGuardType P.depth t = false := by
  unfold eqSt at hl
  split at hl
  · rename_i n e hu
    split at hl
    · rename_i hg
      obtain ⟨i, hi⟩ := Option.isSome_iff_exists.mp hg.1
      refine ⟨?_, hg.2⟩
      rw [show 10000 = 9999 + 1 from rfl, run_equalIn_array w 9999 cx cy hu hi]
      exact eqIA_sound 9998 h1 h2 g1 g2 w (List.range n) hl
    · cases hl
  · rename_i fs hu
    split at hl
    · rename_i hg
      have hf : P.fieldsOf t = fs := by simp [Program.fieldsOf, hu]
      refine ⟨?_, hg.2⟩
      rw [show 10000 = 9999 + 1 from rfl, run_equalIn_struct w 9999 t cx cy (by rw [hf]; exact hu) hg.1, hf]
      exact eqFA_sound 9998 h1 h2 g1 g2 w fs.toList hl
    · cases hl
  · cases hl
def aBin (P : Program) (op : BinOp) (t : TypeId) (x y : Value) : Option Value :=
  match x, y with
  | .int k a, .int k' b => if k = k' ∨ isShift op = true then aInt op k a b else none
  | .string a, .string b =>
    match op with
    | .add => if ((a.size + b.size : Nat) : Int) > IntKind.i64.max then none else some (.string (a ++ b))
    | .eql => some (.bool (a.toList == b.toList))
    | .neq => some (.bool !(a.toList == b.toList))
    | .lss => some (.bool (Op.bytesLess a.toList b.toList))
    | .leq => some (.bool (Op.bytesLess a.toList b.toList || a.toList == b.toList))
    | .gtr => some (.bool !(Op.bytesLess a.toList b.toList || a.toList == b.toList))
    | .geq => some (.bool !(Op.bytesLess a.toList b.toList))
    | _ => none
  | .bool a, .bool b =>
    match P.underlying t, op with
    | some .bool, .eql => some (.bool (a == b))
    | some .bool, .neq => some (.bool !(a == b))
    | _, _ => none
  | .pointer a, .pointer none =>
    match P.underlying t, op with
    | some (.pointer _), .eql => some (.bool a.isNone)
    | some (.pointer _), .neq => some (.bool !a.isNone)
    | _, _ => none
  | .slice a _ _, .slice none _ _ =>
    match P.underlying t, op with
    | some (.slice _), .eql => some (.bool a.isNone)
    | some (.slice _), .neq => some (.bool !a.isNone)
    | _, _ => none
  | .agg xs, .agg ys =>
    match op with
    | .eql => (eqSt P t xs ys).map .bool
    | .neq => (eqSt P t xs ys).map fun b => .bool !b
    | _ => none
  | _, _ => none

theorem run_eqGuard_plain {op : BinOp} {t : TypeId} {x y : Operand} {a b : Value} (h1 : a ≠ .nilIface) (h2 : ∀ cs, a ≠ .agg cs) (w : World) :
    (eqGuard op t x y a b).run P w = .ok () w := by
  unfold eqGuard
  cases op <;> cases a <;> simp_all

theorem run_equal_bool {t : TypeId} {a b : Bool} (hu : P.underlying t = some .bool) (w : World) : (Op.equal t (.bool a) (.bool b)).run P w = .ok (a == b) w := by
  show (Op.equalIn (9999 + 1) t _ _).run P w = _
  rw [Op.equalIn, Sem.run_bind, run_underlying hu]; rfl
theorem run_equal_ptr_nil {t e : TypeId} {a : Option Addr} (hu : P.underlying t = some (.pointer e)) (w : World) : (Op.equal t (.pointer a) (.pointer none)).run P w = .ok a.isNone w := by
  show (Op.equalIn (9999 + 1) t _ _).run P w = _
  rw [Op.equalIn, Sem.run_bind, run_underlying hu]; cases a <;> rfl
theorem run_equal_slice_nil {t e : TypeId} {a : Option Addr} {l c l' c' : Nat} (hu : P.underlying t = some (.slice e)) (w : World) : (Op.equal t (.slice a l c) (.slice none l' c')).run P w = .ok a.isNone w := by
  show (Op.equalIn (9999 + 1) t _ _).run P w = _
  rw [Op.equalIn, Sem.run_bind, run_underlying hu]; cases a <;> rfl

theorem aBin_sound {op : BinOp} {t : TypeId} {x y : Operand} {a b ca cb v : Value} (hl : aBin P op t a b = some v) (ha : VRel ρ a ca) (hb : VRel ρ b cb) (w : World) :
    ∃ c', (do eqGuard op t x y ca cb; binOp op t ca cb : Sem Value).run P w = .ok c' w ∧ VRel ρ v c' := by
  unfold aBin at hl
  split at hl
  · rename_i k a k' b
    cases ha; cases hb
    rw [Sem.run_bind, run_eqGuard_plain (by simp) (by simp)]
    simp only [Result.andThen_ok]
    split at hl
    · rename_i hk
      rcases hk with rfl | hk
      · exact aInt_sound hl w
      · rw [shift_kind hk]; exact aInt_sound hl w
    · cases hl
  · rename_i a b
    cases ha; cases hb
    rw [Sem.run_bind, run_eqGuard_plain (by simp) (by simp)]
    simp only [Result.andThen_ok]
    cases op <;> simp only at hl
    case add => split at hl; (· cases hl); rename_i hh; cases hl; exact ⟨_, by simp only [binOp, Op.stringOp, hh, if_false, Sem.run_pure], .string _⟩
    case eql => cases hl; exact ⟨_, rfl, .bool _⟩
    case neq => cases hl; exact ⟨_, rfl, .bool _⟩
    case lss => cases hl; exact ⟨_, rfl, .bool _⟩
    case leq => cases hl; exact ⟨_, rfl, .bool _⟩
    case gtr => cases hl; exact ⟨_, rfl, .bool _⟩
    case geq => cases hl; exact ⟨_, rfl, .bool _⟩
    all_goals cases hl
  · rename_i a b
    cases ha; cases hb
    rw [Sem.run_bind, run_eqGuard_plain (by simp) (by simp)]
    simp only [Result.andThen_ok]
    split at hl
    · rename_i hu; cases hl
      refine ⟨.bool (a == b), ?_, .bool _⟩
      show (do pure (.bool (← Op.equal t (.bool a) (.bool b))) : Sem Value).run P w = _
      rw [Sem.run_bind, run_equal_bool hu]; rfl
    · rename_i hu; cases hl
      refine ⟨.bool (!(a == b)), ?_, .bool _⟩
      show (do pure (.bool (!(← Op.equal t (.bool a) (.bool b)))) : Sem Value).run P w = _
      rw [Sem.run_bind, run_equal_bool hu]; rfl
    · cases hl
  · rename_i a
    cases hb
    obtain ⟨a', rfl, ha'⟩ : ∃ a', ca = .pointer a' ∧ a'.isNone = a.isNone := by cases ha <;> exact ⟨_, rfl, rfl⟩
    rw [Sem.run_bind, run_eqGuard_plain (by simp) (by simp)]
    simp only [Result.andThen_ok]
    split at hl
    · rename_i e hu; cases hl
      refine ⟨.bool a.isNone, ?_, .bool _⟩
      show (do pure (.bool (← Op.equal t (.pointer a') (.pointer none))) : Sem Value).run P w = _
      rw [Sem.run_bind, run_equal_ptr_nil hu, ha']; rfl
    · rename_i e hu; cases hl
      refine ⟨.bool (!a.isNone), ?_, .bool _⟩
      show (do pure (.bool (!(← Op.equal t (.pointer a') (.pointer none)))) : Sem Value).run P w = _
      rw [Sem.run_bind, run_equal_ptr_nil hu, ha']; rfl
    · cases hl
  · rename_i a l1 c1 l2 c2
    obtain ⟨a', l', c', rfl, ha'⟩ : ∃ a' l' c', ca = .slice a' l' c' ∧ a'.isNone = a.isNone := by cases ha <;> exact ⟨_, _, _, rfl, rfl⟩
    cases hb
    rw [Sem.run_bind, run_eqGuard_plain (by simp) (by simp)]
    simp only [Result.andThen_ok]
    split at hl
    · rename_i e hu; cases hl
      refine ⟨.bool a.isNone, ?_, .bool _⟩
      show (do pure (.bool (← Op.equal t (.slice a' l' c') (.slice none 0 0))) : Sem Value).run P w = _
      rw [Sem.run_bind, run_equal_slice_nil hu, ha']; rfl
    · rename_i e hu; cases hl
      refine ⟨.bool (!a.isNone), ?_, .bool _⟩
      show (do pure (.bool (!(← Op.equal t (.slice a' l' c') (.slice none 0 0)))) : Sem Value).run P w = _
      rw [Sem.run_bind, run_equal_slice_nil hu, ha']; rfl
    · cases hl
  · rename_i xs ys
    cases ha with
    | agg h1 h2 =>
    cases hb with
    | agg g1 g2 =>
    split at hl
    · obtain ⟨r, hr, e⟩ := Option.map_eq_some_iff.mp hl
      cases e
      obtain ⟨q1, q2⟩ := eqSt_sound hr h1 h2 g1 g2 w
      refine ⟨.bool r, ?_, .bool _⟩
      rw [Sem.run_bind, run_eqGuard_agg w _ _ _ _ _ _ q2, Result.andThen_ok, run_eql_struct, q1]
      rfl
    · obtain ⟨r, hr, e⟩ := Option.map_eq_some_iff.mp hl
      cases e
      obtain ⟨q1, q2⟩ := eqSt_sound hr h1 h2 g1 g2 w
      refine ⟨.bool (!r), ?_, .bool _⟩
      rw [Sem.run_bind, run_eqGuard_agg w _ _ _ _ _ _ q2, Result.andThen_ok, run_neq_struct, q1]
      rfl
    · cases hl
  · cases hl

def aUn (op : UnOp) (x : Value) : Option Value :=
  match op, x with
  | .neg, .int k n => some (.int k (k.wrap (0 - n)))
  | .xor, .int k n => some (.int k (k.wrap (BitVec.ofInt k.bits (if k.signed then -1 else k.max) ^^^ BitVec.ofInt k.bits n).toNat))
  | .not, .bool b => some (.bool !b)
  | _, _ => none
theorem aUn_sound {op : UnOp} {a c v : Value} (hl : aUn op a = some v) (ha : VRel ρ a c) (w : World) :
    ∃ c', (Op.unary op c).run P w = .ok c' w ∧ VRel ρ v c' := by
  unfold aUn at hl
  split at hl
  · cases ha; cases hl; exact ⟨_, by simp [Op.unary, Op.intArith], .int _ _⟩
  · cases ha; cases hl; exact ⟨_, by simp only [Op.unary, Op.intBits, Sem.run_pure], .int _ _⟩
  · cases ha; cases hl; exact ⟨_, by simp [Op.unary], .bool _⟩
  · cases hl

def aConvert (P : Program) (src dst : TypeId) (x : Value) : Option Value :=
  match P.underlying src, P.underlying dst, x with
  | some _, some (.int k), .int _ n => some (.int k (k.wrap n))
  | some .string, some .string, .string s => some (.string s)
  | _, _, _ => none
theorem aConvert_sound {src dst : TypeId} {a c v : Value} (hl : aConvert P src dst a = some v) (ha : VRel ρ a c) (w : World) :
    ∃ c', (convert src dst c).run P w = .ok c' w ∧ VRel ρ v c' := by
  unfold aConvert at hl
  split at hl
  · rename_i d k k' n hs hd
    cases ha; cases hl
    exact ⟨_, by simp [convert, run_underlying hs, run_underlying hd, Conv.intToInt], .int _ _⟩
  · rename_i s hs hd
    cases ha; cases hl
    exact ⟨_, by simp [convert, run_underlying hs, run_underlying hd], .string _⟩
  · cases hl

/-! ### len, cap -/
def aLen (P : Program) (t : TypeId) (x : Value) : Option Value :=
  match P.underlying t, x with
  | some .string, .string s => some (.int .i64 s.size)
  | some (.slice _), .slice _ n _ => some (.int .i64 n)
  | some (.array n _), _ => some (.int .i64 n)
  | _, _ => none
theorem aLen_sound {t ty : TypeId} {a c v : Value} (hl : aLen P t a = some v) (ha : VRel ρ a c) (w : World) :
    ∃ c', (Builtin.len_ #[t] ty #[c]).run P w = .ok c' w ∧ VRel ρ v c' := by
  unfold aLen at hl
  split at hl
  · rename_i s hu
    cases ha; cases hl
    exact ⟨_, by simp [Builtin.len_, run_underlying hu, goInt], .int _ _⟩
  · rename_i e a n cap hu
    cases hl
    cases ha
    · exact ⟨_, by simp [Builtin.len_, run_underlying hu, goInt], .int _ _⟩
    · exact ⟨_, by simp [Builtin.len_, run_underlying hu, goInt], .int _ _⟩
  · rename_i n e hu
    cases hl
    exact ⟨_, by simp [Builtin.len_, run_underlying hu, goInt], .int _ _⟩
  · cases hl

def aMax (x y : Value) : Option Value := match x, y with | .int k a, .int _ b => some (.int k (if b > a then b else a)) | _, _ => none
def aMin (x y : Value) : Option Value := match x, y with | .int k a, .int _ b => some (.int k (if b < a then b else a)) | _, _ => none
theorem aMax_sound {ats : Array TypeId} {ty : TypeId} {a b c d v : Value} (hl : aMax a b = some v) (ha : VRel ρ a c) (hb : VRel ρ b d) (w : World) : ∃ c', (Builtin.max_ ats ty #[c, d]).run P w = .ok c' w ∧ VRel ρ v c' := by
  unfold aMax at hl
  split at hl
  · cases ha; cases hb; cases hl
    exact ⟨_, by simp [Builtin.max_, Builtin.max2], .int _ _⟩
  · cases hl
def aMax3 (x y z : Value) : Option Value := (aMax x y).bind fun v => aMax v z
theorem aMax_int {x y v : Value} (h : aMax x y = some v) : ∃ k n k2 m, x = .int k n ∧ y = .int k2 m ∧ v = .int k (if m > n then m else n) := by
  unfold aMax at h
  split at h
  · cases h; exact ⟨_, _, _, _, rfl, rfl, rfl⟩
  · cases h
theorem aMax3_sound {ats : Array TypeId} {ty : TypeId} {a b e c d f v : Value} (hl : aMax3 a b e = some v) (ha : VRel ρ a c) (hb : VRel ρ b d) (he : VRel ρ e f) (w : World) : ∃ c', (Builtin.max_ ats ty #[c, d, f]).run P w = .ok c' w ∧ VRel ρ v c' := by
  unfold aMax3 at hl
  obtain ⟨u, h1, h2⟩ := Option.bind_eq_some_iff.mp hl
  obtain ⟨k, n, k2, m, rfl, rfl, rfl⟩ := aMax_int h1
  obtain ⟨_, _, k3, o, e1, rfl, rfl⟩ := aMax_int h2
  cases ha; cases hb; cases he
  injection e1 with e2 e3
  subst e2 e3
  exact ⟨_, by simp [Builtin.max_, Builtin.max2], .int _ _⟩
theorem aMin_sound {ats : Array TypeId} {ty : TypeId} {a b c d v : Value} (hl : aMin a b = some v) (ha : VRel ρ a c) (hb : VRel ρ b d) (w : World) : ∃ c', (Builtin.min_ ats ty #[c, d]).run P w = .ok c' w ∧ VRel ρ v c' := by
  unfold aMin at hl
  split at hl
  · cases ha; cases hb; cases hl
    exact ⟨_, by simp [Builtin.min_, Builtin.min2], .int _ _⟩
  · cases hl

/-! ### slicing -/
def capOf (len capA : Nat) : Nat := if capA = 0 then len else capA - 1
/-- A bound: a number from 0 to a limit. -/
def aBound (v : Value) (y : Nat) : Option Nat :=
  match v with
  | .int _ n => if 0 ≤ n ∧ n ≤ y then some n.toNat else none
  | _ => none
def aBoundO (v : Option Value) (y d : Nat) : Option Nat :=
  match v with
  | some v => aBound v y
  | none => some d

def aSlice (P : Program) (t : TypeId) (x : Value) (lo hi mx : Option Value) (h : Heap) : Option Value :=
  match P.underlying t, x with
  | some .string, .string s =>
    match mx with
    | some _ => none
    | none =>
      match aBoundO hi s.size s.size with
      | some m =>
        match aBoundO lo m 0 with
        | some l => some (.string (s.extract l m))
        | none => none
      | none => none
  | some (.slice e), .slice none _ _ =>
    match szOf P e, mx with
    | some _, none =>
      match aBoundO hi 0 0 with
      | some m =>
        match aBoundO lo m 0 with
        | some _ => some (.slice none 0 0)
        | none => none
      | none => none
    | _, _ => none
  | some (.slice e), .slice (some ⟨i, off, none⟩) len capA =>
    match szOf P e, h[i]? with
    | some sz, some (.arr ar) =>
      if ar.esz = sz then
        match mx with
        | none =>
          match aBoundO hi (capOf len capA) len with
          | some m =>
            match aBoundO lo m 0 with
            | some l => some (.slice (some ⟨i, off + l * sz, none⟩) (m - l) (if capA = 0 then 0 else capA - l))
            | none => none
          | none => none
        | some mx =>
          match aBound mx (capOf len capA), hi with
          | some c, some hi =>
            match aBound hi c with
            | some m =>
              match aBoundO lo m 0 with
              | some l => some (.slice (some ⟨i, off + l * sz, none⟩) (m - l) (c - l + 1))
              | none => none
            | none => none
          | _, _ => none
      else none
    | _, _ => none
  | some (.array n e), .pointer (some ⟨i, off, none⟩) =>
    match szOf P e, h[i]?, lo, hi, mx with
    | some sz, some (.arr ar), none, none, none => if ar.esz = sz ∧ 0 < n ∧ off + n * sz ≤ ar.cells.length then some (.slice (some ⟨i, off, none⟩) n (n + 1)) else none
    | _, _, _, _, _ => none
  | _, _ => none

theorem run_sliceBound {v c : Value} {y y' n : Nat} {code : BoundsCode} (hb : aBound v y = some n) (hv : VRel ρ v c) (hy : y ≤ y') (w : World) :
    (Instr.sliceBound c y' code).run P w = .ok n w ∧ n ≤ y := by
  unfold aBound at hb
  split at hb
  · cases hv
    split at hb
    · rename_i hh
      cases hb
      refine ⟨?_, by omega⟩
      simp only [Instr.sliceBound, asIntOf, Sem.run_bind, Sem.run_pure, Result.andThen_ok]
      rw [if_pos (by omega)]; rfl
    · cases hb
  · cases hb

/-- The machine's optional value. -/
def ORel (ρ : Place) : Option Value → Option Value → Prop
  | none, none => True
  | some v, some c => VRel ρ v c
  | _, _ => False

theorem run_bound {v cv : Option Value} {y d n y' : Nat} {code : BoundsCode} (hb : aBoundO v y d = some n) (hv : ORel ρ v cv) (hy : y ≤ y') (w : World) :
    (match cv with | some c => Instr.sliceBound c y' code | none => pure d : Sem Nat).run P w = .ok n w ∧ (n ≤ y ∨ n = d) := by
  cases v with
  | none =>
    cases cv <;> simp [ORel] at hv
    simp [aBoundO] at hb; subst hb
    exact ⟨rfl, .inr rfl⟩
  | some v =>
    cases cv <;> simp [ORel] at hv
    have := run_sliceBound (P := P) (code := code) hb hv hy w
    exact ⟨this.1, .inl this.2⟩

theorem run_sliceBounds {len cap y : Nat} {isS : Bool} {lo hi clo chi : Option Value} {m l : Nat} (hm : aBoundO hi y len = some m) (hl : aBoundO lo m 0 = some l)
    (hlo : ORel ρ lo clo) (hhi : ORel ρ hi chi) (hy : y ≤ cap) (w : World) :
    (Instr.sliceBounds isS len cap clo chi none).run P w = .ok (l, m, cap) w ∧ l ≤ m ∧ (m ≤ y ∨ m = len) := by
  have h1 := fun code => run_bound (P := P) (code := code) hm hhi hy w
  have h2 := fun code => run_bound (P := P) (code := code) hl hlo (Nat.le_refl _) w
  refine ⟨?_, by rcases (h2 .index).2 with h | h <;> omega, (h1 .index).2⟩
  unfold Instr.sliceBounds
  simp only [Sem.run_bind, Sem.run_pure, Result.andThen_ok]
  cases chi with
  | none =>
    have := (h1 .index).1
    simp at this; subst this
    cases clo with
    | none => have := (h2 .index).1; simp at this; subst this; simp
    | some v => have := fun code => (h2 code).1; simp at this; simp [this]
  | some v =>
    have h3 := fun code => (h1 code).1
    simp at h3
    cases clo with
    | none => have := (h2 .index).1; simp at this; subst this; simp [h3]
    | some v => have := fun code => (h2 code).1; simp at this; simp [this, h3]

theorem run_sliceBounds3 {len cap y : Nat} {lo clo : Option Value} {hv mv chv cmv : Value} {m l c : Nat} (hc : aBound mv y = some c) (hm : aBound hv c = some m) (hl : aBoundO lo m 0 = some l)
    (hlo : ORel ρ lo clo) (hhi : VRel ρ hv chv) (hmx : VRel ρ mv cmv) (hy : y ≤ cap) (w : World) :
    (Instr.sliceBounds true len cap clo (some chv) (some cmv)).run P w = .ok (l, m, c) w ∧ l ≤ m ∧ m ≤ c ∧ c ≤ y := by
  have h0 := fun code => run_sliceBound (P := P) (code := code) hc hmx hy w
  have h1 := fun code => run_sliceBound (P := P) (code := code) hm hhi (Nat.le_refl _) w
  have h2 := fun code => run_bound (P := P) (code := code) hl hlo (Nat.le_refl _) w
  refine ⟨?_, by rcases (h2 .index).2 with h | h <;> omega, (h1 .index).2, (h0 .index).2⟩
  unfold Instr.sliceBounds
  simp only [Sem.run_bind, Sem.run_pure, Result.andThen_ok, (h0 _).1, (h1 _).1, if_true]
  cases clo with
  | none => have := (h2 .index).1; simp at this; subst this; simp
  | some v => have := fun code => (h2 code).1; simp at this; simp [this]

theorem aSlice_sound {t : TypeId} {x c v : Value} {lo hi mx clo chi cmx : Option Value} (hl : aSlice P t x lo hi mx h = some v) (R : Rel h ρ w) (hx : VRel ρ x c)
    (hlo : ORel ρ lo clo) (hhi : ORel ρ hi chi) (hmx : ORel ρ mx cmx) :
    ∃ c', (Instr.sliceAt t c clo chi cmx).run P w = .ok c' w ∧ VRel ρ v c' := by
  unfold aSlice at hl
  split at hl
  · rename_i s hu
    cases hx
    split at hl
    · cases hl
    · cases cmx <;> simp [ORel] at hmx
      split at hl
      · rename_i m hm
        split at hl
        · rename_i l hl'
          cases hl
          obtain ⟨hr, _⟩ := run_sliceBounds (P := P) (isS := false) (cap := s.size) hm hl' hlo hhi (Nat.le_refl _) w
          exact ⟨.string (s.extract l m), by simp [Instr.sliceAt, Instr.slice, run_underlying hu, hr], .string _⟩
        · cases hl
      · cases hl
  · rename_i e _ _ hu
    cases hx
    split at hl
    · rename_i sz hsz
      cases cmx <;> simp [ORel] at hmx
      split at hl
      · rename_i m hm
        split at hl
        · rename_i l hl'
          cases hl
          obtain ⟨hr, h1, h2⟩ := run_sliceBounds (P := P) (isS := true) (cap := 0) hm hl' hlo hhi (Nat.le_refl _) w
          obtain ⟨rfl, rfl⟩ : m = 0 ∧ l = 0 := by omega
          exact ⟨.slice none 0 0, by simp [Instr.sliceAt, Instr.slice, run_underlying hu, hr, run_sizeOf hsz], .nilSlice⟩
        · cases hl
      · cases hl
    · cases hl
  · rename_i e i off len capA hu
    cases hx with
    | slice hi' hlen hcap hcc =>
      rename_i capC c0 L
      split at hl
      · rename_i sz ar hsz har
        obtain ⟨_, _, _, _, _, _, hesz, _⟩ := R.arr i L ar hi' har
        have hcapy : capOf len capA ≤ capC := by unfold capOf; split <;> omega
        split at hl
        · rename_i hes
          split at hl
          · cases cmx <;> simp [ORel] at hmx
            split at hl
            · rename_i m hm
              split at hl
              · rename_i l hl'
                cases hl
                obtain ⟨hr, h1, h2⟩ := run_sliceBounds (P := P) (isS := true) (cap := capC) hm hl' hlo hhi hcapy w
                have hmc : m ≤ capC := by omega
                refine ⟨.slice (some (if capC = l then c0 else c0.add (l * sz))) (m - l) (capC - l), ?_, ?_⟩
                · simp [Instr.sliceAt, Instr.slice, run_underlying hu, hr, run_sizeOf hsz]
                  split <;> simp
                · refine .slice hi' (by omega) ?_ ?_
                  · intro hne; split at hne; (· exact absurd rfl hne); rename_i hh; rw [if_neg hh]; have := hcap hh; omega
                  · intro hp
                    obtain ⟨rfl, hfit⟩ := hcc (by omega)
                    rw [if_neg (by omega), add_none]
                    refine ⟨by rw [Nat.add_assoc], ?_⟩
                    rw [hesz, hes] at hfit ⊢
                    have : (capC - l) * sz + l * sz = capC * sz := by rw [← Nat.add_mul]; congr 1; omega
                    omega
              · cases hl
            · cases hl
          · rename_i mv
            cases cmx <;> simp [ORel] at hmx
            split at hl
            · rename_i c hv hc
              cases chi <;> simp [ORel] at hhi
              split at hl
              · rename_i m hm
                split at hl
                · rename_i l hl'
                  cases hl
                  obtain ⟨hr, h1, h2, h3⟩ := run_sliceBounds3 (P := P) (len := len) (cap := capC) hc hm hl' hlo hhi hmx hcapy w
                  refine ⟨.slice (some (if c = l then c0 else c0.add (l * sz))) (m - l) (c - l), ?_, ?_⟩
                  · simp [Instr.sliceAt, Instr.slice, run_underlying hu, hr, run_sizeOf hsz]
                    split <;> simp
                  · refine .slice hi' (by omega) (by omega) ?_
                    · intro hp
                      obtain ⟨rfl, hfit⟩ := hcc (by omega)
                      rw [if_neg (by omega), add_none]
                      refine ⟨by rw [Nat.add_assoc], ?_⟩
                      rw [hesz, hes] at hfit ⊢
                      have h4 : (c - l) * sz + l * sz = c * sz := by rw [← Nat.add_mul]; congr 1; omega
                      have h5 : c * sz ≤ capC * sz := Nat.mul_le_mul_right _ (by omega)
                      omega
                · cases hl
              · cases hl
            · cases hl
        · cases hl
      · cases hl
  · rename_i n e i off hu
    cases hx with
    | ptr hi' =>
      rename_i L
      split at hl
      · rename_i sz ar hsz har
        cases clo <;> simp [ORel] at hlo
        cases chi <;> simp [ORel] at hhi
        cases cmx <;> simp [ORel] at hmx
        split at hl
        · rename_i hh
          cases hl
          obtain ⟨hh1, hh2, hh3⟩ := hh
          obtain ⟨_, _, _, _, _, hfit, hesz, _⟩ := R.arr i L ar hi' har
          have hal : P.arrayLen t = n := by simp [Program.arrayLen, hu]
          have hel : P.elem t = e := by simp [Program.elem, hu]
          refine ⟨.slice (some ⟨L.blk, L.off + off, none⟩) n n, ?_, .slice hi' (Nat.le_refl _) (fun _ => rfl) fun _ => ⟨rfl, by rw [hesz, hh1]; omega⟩⟩
          have hr := run_sliceAt_array_all (P := P) w t (⟨L.blk, L.off + off, none⟩ : Addr) (by rw [hal, hel]; exact hu)
          rw [hr, hal, hel, run_sizeOf hsz]
          simp [Result.andThen, slicedAt, Addr.add]
        · cases hl
      · cases hl
  · cases hl

end Go.AM
