/-
  Maps over the abstract memory: keys that name no place; makeMap, lookup, mapUpdate, the length.
-/
import Derived.Test.YtgmgmkhenhaniaaAmF
import Derived.MapKept
import Derived.DeepKeys3
import Derived.ChangeKeysEq
set_option linter.unusedSimpArgs false
set_option linter.unusedVariables false
namespace Go.AM
open Go.MapKept
variable {P : Program} {h h' : Heap} {ρ : Place} {w : World}

/-! ### keys -/
def flat1 : Value → Bool | .bool _ | .int _ _ | .string _ => true | _ => false
def flatK : Value → Bool | .agg cs => cs.all flat1 | v => flat1 v
theorem flat1_eq {v c : Value} (hv : flat1 v = true) (r : VRel ρ v c) : c = v := by
  cases r <;> first | rfl | (simp [flat1] at hv; done)
theorem flatK_eq {v c : Value} (hv : flatK v = true) (r : VRel ρ v c) : c = v := by
  cases r <;> first | rfl | (simp [flatK, flat1] at hv; done) | skip
  rename_i a c h1 h2
  congr 1
  apply Array.ext h1.symm
  intro j hj1 hj2
  have := h2 j
  rw [getD_in hj2, getD_in hj1] at this
  exact flat1_eq (Array.all_eq_true.mp hv j hj2) this
def eqV1 : Value → Value → Bool
  | .bool a, .bool b => a == b
  | .int k a, .int j b => k == j && a == b
  | .string a, .string b => decide (a.data.toList = b.data.toList)
  | _, _ => false
def eqL1 : List Value → List Value → Bool
  | [], [] => true
  | a :: l, b :: m => eqV1 a b && eqL1 l m
  | _, _ => false
def eqV : Value → Value → Bool
  | .agg a, .agg b => eqL1 a.toList b.toList
  | a, b => eqV1 a b
theorem eqV1_iff {a b : Value} (ha : flat1 a = true) (hb : flat1 b = true) : eqV1 a b = true ↔ a = b := by
  cases a <;> cases b <;> simp_all [flat1, eqV1]
  rename_i x y
  obtain ⟨x⟩ := x
  obtain ⟨y⟩ := y
  simp
theorem eqL1_iff : ∀ {l m : List Value}, l.all flat1 = true → m.all flat1 = true → (eqL1 l m = true ↔ l = m)
  | [], [], _, _ => by simp [eqL1]
  | [], _ :: _, _, _ => by simp [eqL1]
  | _ :: _, [], _, _ => by simp [eqL1]
  | a :: l, b :: m, h1, h2 => by
    simp only [List.all_cons, Bool.and_eq_true] at h1 h2
    simp only [eqL1, Bool.and_eq_true, eqV1_iff h1.1 h2.1, eqL1_iff h1.2 h2.2, List.cons.injEq]
theorem eqV_iff {a b : Value} (ha : flatK a = true) (hb : flatK b = true) : eqV a b = true ↔ a = b := by
  by_cases h1 : ∃ x, a = .agg x
  · obtain ⟨x, rfl⟩ := h1
    by_cases h2 : ∃ y, b = .agg y
    · obtain ⟨y, rfl⟩ := h2
      simp only [eqV, flatK] at *
      rw [eqL1_iff (by rw [Array.all_toList]; exact ha) (by rw [Array.all_toList]; exact hb)]
      constructor
      · intro e; congr 1; exact Array.ext' e
      · intro e; cases e; rfl
    · constructor
      · intro e; cases b <;> first | exact absurd ⟨_, rfl⟩ h2 | (simp [eqV, eqV1] at e; done)
      · intro e; exact absurd ⟨x, e.symm⟩ h2
  · have ha' : flat1 a = true := by cases a <;> first | exact ha | exact absurd ⟨_, rfl⟩ h1
    by_cases h2 : ∃ y, b = .agg y
    · obtain ⟨y, rfl⟩ := h2
      constructor
      · intro e; cases a <;> first | exact absurd ⟨_, rfl⟩ h1 | (simp [eqV, eqV1] at e; done)
      · intro e; exact absurd ⟨y, e⟩ h1
    · have hb' : flat1 b = true := by cases b <;> first | exact hb | exact absurd ⟨_, rfl⟩ h2
      have : eqV a b = eqV1 a b := by cases a <;> first | rfl | (exact absurd ⟨_, rfl⟩ h1)
      rw [this]; exact eqV1_iff ha' hb'
/-- Types of keys. -/
def wideT (P : Program) (kt : TypeId) : Bool := match P.underlying kt with | some (.array _ _) | some (.struct _) => true | _ => false
def keyT (P : Program) (kt : TypeId) : Bool := P.plainKey kt || (P.keyTypeAt 100 kt && P.tiled 100 kt && wideT P kt)
def isKeyB (d : Option TypeDesc) (v : Value) : Bool :=
  match d, v with
  | some .bool, .bool _ => true
  | some .string, .string _ => true
  | some (.int k), .int k' _ => k' == k
  | _, _ => false
def keyF (P : Program) (kt : TypeId) (v : Value) : Bool := flatK v && (if P.plainKey kt then isKeyB (P.underlying kt) v else (keyOf P kt v).isSome)
theorem isKey_of {d : TypeDesc} {v : Value} (h : isKeyB (some d) v = true) : IsKey d v := by
  cases d <;> cases v <;> simp_all [isKeyB, IsKey]
theorem find_key {kt : TypeId} (ht : keyT P kt = true) {x : Value} (hx : keyF P kt x = true) (es : List MapEntry) (he : ∀ e ∈ es, keyF P kt e.key = true) (em : Bool) (w : World) :
    (Instr.checkKey em 10000 kt x).run P w = .ok () w ∧ (Instr.keyThatStays x x).run P w = .ok x w ∧
    (((Instr.findKey kt x es).run P w = .ok none w ∧ ∀ e ∈ es, e.key ≠ x) ∨ ∃ j e, (Instr.findKey kt x es).run P w = .ok (some (j, e.val)) w ∧ es[j]? = some e ∧ e.key = x) := by
  unfold keyT at ht
  unfold keyF at hx he
  cases hp : P.plainKey kt with
  | true =>
    simp only [hp, if_true, Bool.and_eq_true] at hx he
    cases hu : P.underlying kt with
    | none => simp [Program.plainKey, hu] at hp
    | some d =>
      rw [hu] at hx
      have hk := isKey_of hx.2
      have hks : ∀ e ∈ es, IsKey d e.key := fun e h => isKey_of (by have := (he e h).2; rw [hu] at this; exact this)
      refine ⟨run_checkKey hu hk em 9999, run_keyThatStays hk, ?_⟩
      rcases findNow_spec hk es 0 hks with ⟨h1, h2⟩ | ⟨j, e, h1, h2, h3⟩
      · exact .inl ⟨run_findKey hu h1, h2⟩
      · exact .inr ⟨j, e, by rw [run_findKey hu h1]; simp, h2, h3⟩
  | false =>
    simp only [hp, Bool.false_or, Bool.and_eq_true] at ht
    simp only [hp, Bool.false_eq_true, if_false, Bool.and_eq_true] at hx he
    have K := deep_law (P := P) (m := 100) (by omega) ht.1.1 ht.1.2 (by have := ht.2; unfold wideT at this; exact this)
    obtain ⟨lx, hlx⟩ := Option.isSome_iff_exists.mp hx.2
    exact ⟨K.check w em hlx, K.stays w hlx, K.find w hlx es fun e h => Option.isSome_iff_exists.mp (he e h).2⟩

/-! ### a map's entries -/
def nodupV : List Value → Bool
  | [] => true
  | a :: l => !(l.any fun b => eqV b a) && nodupV l
def entOK (P : Program) (kt : TypeId) (es : List (Value × Value)) : Bool := es.all (fun e => keyF P kt e.1) && nodupV (es.map (·.1))
theorem nodup_at : ∀ {l : List Value}, l.all flatK = true → nodupV l = true → ∀ (i j : Nat) (a : Value), l[i]? = some a → l[j]? = some a → i = j
  | [], _, _, i, j, a, h, _ => by simp at h
  | b :: l, hf, hn, i, j, a, hi, hj => by
    simp only [List.all_cons, Bool.and_eq_true] at hf
    simp only [nodupV, Bool.and_eq_true, Bool.not_eq_true'] at hn
    have hno : ∀ c ∈ l, c ≠ b := by
      rintro c hc rfl
      have h1 := hn.1
      rw [← Bool.not_eq_true, List.any_eq_true] at h1
      have hfc := List.all_eq_true.mp hf.2 c hc
      exact h1 ⟨c, hc, (eqV_iff hfc hfc).mpr rfl⟩
    cases i with
    | zero =>
      simp only [List.getElem?_cons_zero, Option.some.injEq] at hi
      subst hi
      cases j with
      | zero => rfl
      | succ j =>
        simp only [List.getElem?_cons_succ] at hj
        exact absurd rfl (hno b (List.mem_of_getElem? hj))
    | succ i =>
      simp only [List.getElem?_cons_succ] at hi
      cases j with
      | zero =>
        simp only [List.getElem?_cons_zero, Option.some.injEq] at hj
        subst hj
        exact absurd rfl (hno b (List.mem_of_getElem? hi))
      | succ j =>
        simp only [List.getElem?_cons_succ] at hj
        rw [nodup_at hf.2 hn.2 i j a hi hj]
def findI (k : Value) : List (Value × Value) → Nat → Option (Nat × Value)
  | [], _ => none
  | e :: es, i => if eqV e.1 k = true then some (i, e.2) else findI k es (i + 1)
theorem findI_none {k : Value} : ∀ {es : List (Value × Value)} {i : Nat}, findI k es i = none → ∀ e ∈ es, eqV e.1 k = false
  | [], _, _, e, he => by cases he
  | x :: es, i, h, e, he => by
    simp only [findI] at h
    split at h
    · cases h
    · rename_i hx
      rcases List.mem_cons.mp he with rfl | he
      · simpa using hx
      · exact findI_none h e he
theorem findI_some {k : Value} : ∀ {es : List (Value × Value)} {i j : Nat} {v : Value}, findI k es i = some (j, v) → ∃ d key, j = i + d ∧ es[d]? = some (key, v) ∧ eqV key k = true
  | [], _, _, _, h => by cases h
  | x :: es, i, j, v, h => by
    simp only [findI] at h
    split at h
    · rename_i hx
      cases h
      exact ⟨0, x.1, rfl, rfl, hx⟩
    · obtain ⟨d, key, e1, e2, e3⟩ := findI_some h
      exact ⟨d + 1, key, by omega, by simpa using e2, e3⟩
/-- What the search in the machine finds, told by the search in the list. -/
theorem find_rel {kt : TypeId} (ht : keyT P kt = true) {k : Value} (hk : keyF P kt k = true) {es : List (Value × Value)} (hes : entOK P kt es = true) {en : Array MapEntry} (hsz : en.size = es.length)
    (hr : ∀ (j : Nat) (e : MapEntry) (x : Value × Value), en[j]? = some e → es[j]? = some x → VRel ρ x.1 e.key ∧ VRel ρ x.2 e.val) (em : Bool) (w : World) :
    (Instr.checkKey em 10000 kt k).run P w = .ok () w ∧ (Instr.keyThatStays k k).run P w = .ok k w ∧
    (match findI k es 0 with
     | none => (Instr.findKey kt k en.toList).run P w = .ok none w
     | some (j, v) => ∃ e, (Instr.findKey kt k en.toList).run P w = .ok (some (j, e.val)) w ∧ en[j]? = some e ∧ e.key = k ∧ VRel ρ v e.val ∧ j < es.length) := by
  unfold entOK at hes
  rw [Bool.and_eq_true] at hes
  have hkf : flatK k = true := by unfold keyF at hk; exact (Bool.and_eq_true _ _ ▸ hk).1
  have hef : ∀ x ∈ es, flatK x.1 = true := fun x hx => by
    have := List.all_eq_true.mp hes.1 x hx
    unfold keyF at this
    exact (Bool.and_eq_true _ _ ▸ this).1
  have hkey : ∀ (j : Nat) (e : MapEntry) (x : Value × Value), en[j]? = some e → es[j]? = some x → e.key = x.1 := fun j e x h1 h2 => flatK_eq (hef x (List.mem_of_getElem? h2)) (hr j e x h1 h2).1
  have hpair : ∀ (j : Nat) (e : MapEntry), en[j]? = some e → ∃ x, es[j]? = some x := fun j e h1 => by
    have hj : j < en.size := (Array.getElem?_eq_some_iff.mp h1).1
    exact ⟨es[j]'(by omega), List.getElem?_eq_getElem (by omega)⟩
  have hall : ∀ e ∈ en.toList, keyF P kt e.key = true := by
    intro e he
    obtain ⟨j, hj, rfl⟩ := List.mem_iff_getElem.mp he
    have h1 : en[j]? = some en.toList[j] := by simp
    obtain ⟨x, hx⟩ := hpair j _ h1
    rw [hkey j _ x h1 hx]
    exact List.all_eq_true.mp hes.1 x (List.mem_of_getElem? hx)
  obtain ⟨h1, h2, h3⟩ := find_key ht hk en.toList hall em w
  refine ⟨h1, h2, ?_⟩
  have hnd := nodup_at (l := es.map (·.1)) (by rw [List.all_map]; exact List.all_eq_true.mpr fun x hx => hef x hx) hes.2
  cases hf : findI k es 0 with
  | none =>
    rcases h3 with ⟨h4, _⟩ | ⟨j, e, _, h5, h6⟩
    · exact h4
    · exfalso
      have h5' : en[j]? = some e := by simpa using h5
      obtain ⟨x, hx⟩ := hpair j e h5'
      have hm := List.mem_of_getElem? hx
      have := findI_none hf x hm
      rw [← hkey j e x h5' hx, h6, (eqV_iff hkf hkf).mpr rfl] at this
      cases this
  | some r =>
    obtain ⟨j, v⟩ := r
    obtain ⟨d, key, e1, e2, e3⟩ := findI_some hf
    rw [Nat.zero_add] at e1
    subst e1
    have hkk : key = k := (eqV_iff (hef _ (List.mem_of_getElem? e2)) hkf).mp e3
    subst hkk
    have hjl : j < es.length := (List.getElem?_eq_some_iff.mp e2).1
    have hjn : en[j]? = some (en[j]'(by omega)) := by simp
    have hkj := hkey j _ _ hjn e2
    have hvj := (hr j _ _ hjn e2).2
    rcases h3 with ⟨_, h5⟩ | ⟨i, e, h4, h5, h6⟩
    · exact absurd hkj (h5 _ (by simp))
    · have h5' : en[i]? = some e := by simpa using h5
      obtain ⟨x, hx⟩ := hpair i e h5'
      have hij : i = j := hnd i j key (by simp [hx, ← hkey i e x h5' hx, h6]) (by simp [e2])
      subst hij
      rw [hjn] at h5'
      cases h5'
      exact ⟨_, h4, hjn, h6, hvj, hjl⟩

/-! ### the operations -/
def mapIdx (v : Value) : Option Nat := match v with | .map (some i) => some i | _ => none
def newMap (h : Heap) : Heap := h ++ [.map []]
def flatC (z : Value) : Bool := match z with | .agg cs => cs.all flatV | v => flatV v
theorem flatC_rel {v : Value} (hv : flatC v = true) : VRel ρ v v := by
  unfold flatC at hv
  split at hv
  · exact (flat_cells_rel hv).agg
  · exact flatV_rel hv
def lookV (ok : Bool) (v : Value) (z : Bool) : Value := if ok then .tuple #[v, .bool z] else v
theorem lookV_rel {ok z : Bool} {v c : Value} (r : VRel ρ v c) : VRel ρ (lookV ok v z) (lookV ok c z) := by
  cases ok with
  | false => exact r
  | true =>
    refine .tuple rfl fun j hj => ?_
    match j, hj with
    | 0, _ => exact r
    | 1, _ => exact .bool _
def aLookup (P : Program) (ty : TypeId) (x k : Value) (ok : Bool) (h : Heap) : Option Value :=
  match P.underlying ty, x with
  | some (.map kt et), .map (some i) =>
    match h[i]?, zeroOf P et with
    | some (.map es), some z =>
      if (keyT P kt && keyF P kt k && entOK P kt es && flatC z) = true then
        match findI k es 0 with
        | some (_, v) => some (lookV ok v true)
        | none => some (lookV ok z false)
      else none
    | _, _ => none
  | _, _ => none
def aMapUpd (P : Program) (ty : TypeId) (x k v : Value) (h : Heap) : Option Heap :=
  match P.underlying ty, x with
  | some (.map kt et), .map (some i) =>
    match h[i]? with
    | some (.map es) =>
      if (keyT P kt && keyF P kt k && entOK P kt es) = true then
        match findI k es 0 with
        | some (j, _) => some (h.set i (.map (es.set j (k, v))))
        | none => some (h.set i (.map (es ++ [(k, v)])))
      else none
    | _ => none
  | _, _ => none
def aLenM (P : Program) (ty : TypeId) (x : Value) (h : Heap) : Option Value :=
  match P.underlying ty, x with
  | some (.map _ _), .map (some i) => match h[i]? with | some (.map es) => some (.int .i64 es.length) | _ => none
  | _, _ => none

theorem aLookup_sound {ty : TypeId} {x k v cx ck : Value} {ok : Bool} (hl : aLookup P ty x k ok h = some v) (R : Rel h ρ w) (hx : VRel ρ x cx) (hk : VRel ρ k ck) :
    ∃ c, (Instr.lookup ty cx ck ok).run P w = .ok c w ∧ VRel ρ v c := by
  unfold aLookup at hl
  split at hl
  rotate_left
  · cases hl
  rename_i kt et i hu
  cases hx with
  | map hi =>
    rename_i L
    split at hl
    rotate_left
    · cases hl
    rename_i es z hes hz
    split at hl
    rotate_left
    · cases hl
    rename_i hg
    simp only [Bool.and_eq_true] at hg
    obtain ⟨⟨⟨g1, g2⟩, g3⟩, g4⟩ := hg
    have hkf : flatK k = true := by have := g2; unfold keyF at this; exact (Bool.and_eq_true _ _ ▸ this).1
    have := flatK_eq hkf hk
    subst this
    obtain ⟨en, cl, hb, hsz, hr⟩ := R.map i L es hi hes
    obtain ⟨h1, h2, h3⟩ := find_rel g1 g2 g3 hsz hr en.isEmpty w
    have hrz := run_zeroValue (P := P) (w := w) hz
    cases hf : findI ck es 0 with
    | none =>
      rw [hf] at hl h3
      simp only at hl h3
      cases hl
      refine ⟨lookV ok z false, ?_, lookV_rel (flatC_rel g4)⟩
      simp [Instr.lookup, run_underlying hu, MapKept.run_getObj_map hb, h1, h3, hrz, Result.andThen, lookV]
    | some r =>
      obtain ⟨j, v0⟩ := r
      rw [hf] at hl h3
      simp only at hl h3
      cases hl
      obtain ⟨e, h4, _, _, h5, _⟩ := h3
      refine ⟨lookV ok e.val true, ?_, lookV_rel h5⟩
      simp [Instr.lookup, run_underlying hu, MapKept.run_getObj_map hb, h1, h4, Result.andThen, lookV]

/-- A map in a new block. -/
theorem Rel.newMap (R : Rel h ρ w) :
    Rel (h ++ [.map []]) (ρ.put h.length ⟨w.heap.size, 0, 0, 0⟩) (w.alloc (.map #[] 0)) ∧ Step h ρ w (h ++ [.map []]) (ρ.put h.length ⟨w.heap.size, 0, 0, 0⟩) (w.alloc (.map #[] 0)) := by
  have hle := R.le_put ⟨w.heap.size, 0, 0, 0⟩
  have hcases : ∀ i L, ρ.put h.length ⟨w.heap.size, 0, 0, 0⟩ i = some L → (i = h.length ∧ L = ⟨w.heap.size, 0, 0, 0⟩) ∨ (i < h.length ∧ ρ i = some L) := by
    intro i L hi
    by_cases e : i = h.length
    · subst e; rw [Place.put_same] at hi; exact .inl ⟨rfl, (Option.some.inj hi).symm⟩
    · rw [Place.put_ne _ _ e] at hi; exact .inr ⟨R.dom _ _ hi, hi⟩
  have hold : ∀ k, k < w.heap.size → (w.alloc (.map #[] 0)).heap[k]? = w.heap[k]? := by
    intro k hk
    show (w.heap.push _)[k]? = _
    rw [Array.getElem?_push, if_neg (by omega)]
  refine ⟨⟨?_, ?_, ?_, ?_⟩, ⟨hle, ?_, ?_, rfl, rfl, rfl, ?_, Nat.le_refl _, ?_, ?_⟩⟩
  · intro i L hi
    rcases hcases i L hi with ⟨e, _⟩ | ⟨e, _⟩ <;> simp <;> omega
  · intro i L b hi hb
    rcases hcases i L hi with ⟨rfl, rfl⟩ | ⟨e, hi'⟩
    · rw [List.getElem?_append_right (Nat.le_refl _)] at hb
      simp at hb
    · rw [getElem?_snoc_lt e] at hb
      obtain ⟨cs', ty', fr', h1, h2, h3, h4, h5, h6⟩ := R.arr i L b hi' hb
      refine ⟨cs', ty', fr', ?_, h2, h3, h4, fun k hk => (h5 k hk).mono hle, h6⟩
      rw [hold _ (R.blk_lt hi' (.inl ⟨b, hb⟩))]; exact h1
  · intro i L es hi hb
    rcases hcases i L hi with ⟨rfl, rfl⟩ | ⟨e, hi'⟩
    · rw [List.getElem?_append_right (Nat.le_refl _)] at hb
      simp at hb
      subst hb
      refine ⟨#[], 0, ?_, rfl, fun k e x he => by simp at he⟩
      show (w.heap.push _)[w.heap.size]? = _
      simp
    · rw [getElem?_snoc_lt e] at hb
      obtain ⟨en, cl, h1, h2, h3⟩ := R.map i L es hi' hb
      refine ⟨en, cl, ?_, h2, fun k e' x he hx => ⟨((h3 k e' x he hx).1).mono hle, ((h3 k e' x he hx).2).mono hle⟩⟩
      rw [hold _ (R.blk_lt hi' (.inr ⟨es, hb⟩))]; exact h1
  · intro i j Li Lj hi hj hne hwi haj
    rcases hcases i Li hi with ⟨rfl, rfl⟩ | ⟨ei, hi'⟩
    · rcases hcases j Lj hj with ⟨rfl, rfl⟩ | ⟨ej, hj'⟩
      · exact absurd rfl hne
      · rw [alive_snoc ej] at haj
        have := R.blk_lt hj' haj
        simp only; omega
    · rw [writable_snoc ei] at hwi
      rcases hcases j Lj hj with ⟨rfl, rfl⟩ | ⟨ej, hj'⟩
      · have := R.blk_lt hi' hwi.alive
        simp only; omega
      · rw [alive_snoc ej] at haj
        exact R.inj i j Li Lj hi' hj' hne hwi haj
  · intro i L hi
    rcases hcases i L hi with ⟨rfl, _⟩ | ⟨_, hi'⟩
    · exact .inr ⟨Nat.le_refl _, R.fresh⟩
    · exact .inl hi'
  · simp
  · show w.heap.size ≤ (w.heap.push _).size
    simp
  · intro b hb _; exact hold b hb
  · intro i L hi ha hlt
    rcases hcases i L hi with ⟨rfl, rfl⟩ | ⟨e, hi'⟩
    · simp only at hlt; omega
    · exact ⟨i, L, hi', rfl, (alive_snoc e).mp ha, (writable_snoc e).mp⟩

/-- A map's entries are written in place. -/
theorem Rel.setMap (R : Rel h ρ w) {i : Nat} {L : Loc} {es es' : List (Value × Value)} (hi : ρ i = some L) (hes : h[i]? = some (.map es)) {en en' : Array MapEntry} {cl cl' : Nat} (hb : w.heap[L.blk]? = some (.map en cl)) (hsz : en'.size = es'.length)
    (hr : ∀ (k : Nat) (e : MapEntry) (x : Value × Value), en'[k]? = some e → es'[k]? = some x → VRel ρ x.1 e.key ∧ VRel ρ x.2 e.val) :
    Rel (h.set i (.map es')) ρ { w with heap := w.heap.setIfInBounds L.blk (.map en' cl') } ∧ Step h ρ w (h.set i (.map es')) ρ { w with heap := w.heap.setIfInBounds L.blk (.map en' cl') } ∧ Frm ρ w { w with heap := w.heap.setIfInBounds L.blk (.map en' cl') } (some i) := by
  have hlt : i < h.length := R.dom _ _ hi
  have hwi : Writable h i := .inr ⟨es, hes⟩
  have hblt : L.blk < w.heap.size := (Array.getElem?_eq_some_iff.mp hb).1
  have hnew : (h.set i (.map es'))[i]? = some (.map es') := by simp [hlt]
  have hother : ∀ b, b ≠ L.blk → (w.heap.setIfInBounds L.blk (.map en' cl'))[b]? = w.heap[b]? := fun b hne => by simp [Ne.symm hne]
  have hw : ∀ j, Writable (h.set i (.map es')) j ↔ Writable h j := by
    intro j
    by_cases e : j = i
    · subst e; exact ⟨fun _ => hwi, fun _ => .inr ⟨_, hnew⟩⟩
    · exact writable_set_ne e
  have ha : ∀ j, Alive (h.set i (.map es')) j ↔ Alive h j := by
    intro j
    by_cases e : j = i
    · subst e; exact ⟨fun _ => hwi.alive, fun _ => .inr ⟨_, hnew⟩⟩
    · exact alive_set_ne e
  refine ⟨⟨?_, ?_, ?_, ?_⟩, ⟨Le.refl _, fun _ _ h => .inl h, by simp, rfl, rfl, rfl, by simp, by first | exact Nat.le_refl _ | exact Nat.le_add_right _ _, ?_, ?_⟩, ?_⟩
  · intro j L' hj; simpa using R.dom _ _ hj
  · intro j L' b hj hbj
    have e : j ≠ i := by intro e; subst e; rw [hnew] at hbj; cases hbj
    rw [List.getElem?_set_ne (Ne.symm e)] at hbj
    obtain ⟨cs0, ty0, fr0, h1, h2, h3, h4, h5, h6⟩ := R.arr j L' b hj hbj
    have hne := R.inj i j L L' hi hj (Ne.symm e) hwi (.inl ⟨b, hbj⟩)
    exact ⟨cs0, ty0, fr0, by rw [hother _ (Ne.symm hne)]; exact h1, h2, h3, h4, h5, h6⟩
  · intro j L' es0 hj hbj
    by_cases e : j = i
    · subst e
      rw [hi] at hj; cases hj
      rw [hnew] at hbj; cases hbj
      exact ⟨en', cl', by simp [hblt], hsz, hr⟩
    · rw [List.getElem?_set_ne (Ne.symm e)] at hbj
      obtain ⟨en0, cl0, h1, h2, h3⟩ := R.map j L' es0 hj hbj
      have hne := R.inj i j L L' hi hj (Ne.symm e) hwi (.inr ⟨es0, hbj⟩)
      exact ⟨en0, cl0, by rw [hother _ (Ne.symm hne)]; exact h1, h2, h3⟩
  · intro j k Lj Lk hj hk hne hwj hak
    exact R.inj j k Lj Lk hj hk hne ((hw j).mp hwj) ((ha k).mp hak)
  · intro b hbl hn
    exact hother b (fun e => hn i L hi hwi e.symm)
  · intro j L' hj hwj _
    exact ⟨j, L', hj, rfl, (ha j).mp hwj, (hw j).mp⟩
  · intro b hbl hn
    exact hother b (fun e => hn i L rfl hi e.symm)

theorem aMapUpd_sound {ty : TypeId} {x k v cx ck cv : Value} (hl : aMapUpd P ty x k v h = some h') (R : Rel h ρ w) (hx : VRel ρ x cx) (hk : VRel ρ k ck) (hv : VRel ρ v cv) :
    ∃ w', (Instr.mapUpdate ty cx ck cv).run P w = .ok () w' ∧ Rel h' ρ w' ∧ Step h ρ w h' ρ w' ∧ Frm ρ w w' (mapIdx x) := by
  unfold aMapUpd at hl
  split at hl
  rotate_left
  · cases hl
  rename_i kt et i hu
  cases hx with
  | map hi =>
    rename_i L
    split at hl
    rotate_left
    · cases hl
    rename_i es hes
    split at hl
    rotate_left
    · cases hl
    rename_i hg
    simp only [Bool.and_eq_true] at hg
    obtain ⟨⟨g1, g2⟩, g3⟩ := hg
    have hkf : flatK k = true := by have := g2; unfold keyF at this; exact (Bool.and_eq_true _ _ ▸ this).1
    have := flatK_eq hkf hk
    subst this
    obtain ⟨en, cl, hb, hsz, hr⟩ := R.map i L es hi hes
    obtain ⟨h1, h2, h3⟩ := find_rel g1 g2 g3 hsz hr false w
    cases hf : findI ck es 0 with
    | none =>
      rw [hf] at hl h3
      simp only at hl h3
      cases hl
      obtain ⟨R', S', F'⟩ := R.setMap hi hes hb (en' := en.push { key := ck, val := cv, born := cl }) (es' := es ++ [(ck, v)]) (cl' := cl + 1) (by simp [hsz]) (by
        intro j e x he hxx
        rw [Array.getElem?_push] at he
        split at he
        · rename_i hj
          cases he
          rw [hj, hsz, List.getElem?_append_right (Nat.le_refl _)] at hxx
          simp at hxx
          subst hxx
          exact ⟨hk, hv⟩
        · have hj : j < en.size := (Array.getElem?_eq_some_iff.mp he).1
          rw [List.getElem?_append_left (by omega)] at hxx
          exact hr j e x he hxx)
      refine ⟨_, ?_, R', S', F'⟩
      simp [Instr.mapUpdate, run_underlying hu, MapKept.run_getObj_map hb, h1, h3, MapKept.run_setObj_map _ hb, Result.andThen]
    | some r =>
      obtain ⟨j, v0⟩ := r
      rw [hf] at hl h3
      simp only at hl h3
      cases hl
      obtain ⟨e, h4, h5, h6, _, h7⟩ := h3
      obtain ⟨R', S', F'⟩ := R.setMap hi hes hb (en' := en.modify j fun e => { e with key := ck, val := cv }) (es' := es.set j (ck, v)) (cl' := cl) (by simp [hsz]) (by
        intro q e' x he hxx
        rw [Array.getElem?_modify] at he
        by_cases hq : j = q
        · subst hq
          rw [if_pos rfl] at he
          rw [List.getElem?_set_self h7] at hxx
          cases hxx
          obtain ⟨e0, _, rfl⟩ := Option.map_eq_some_iff.mp he
          exact ⟨hk, hv⟩
        · rw [if_neg hq] at he
          rw [List.getElem?_set_ne hq] at hxx
          exact hr q e' x he hxx)
      refine ⟨_, ?_, R', S', F'⟩
      subst h6
      simp [Instr.mapUpdate, run_underlying hu, MapKept.run_getObj_map hb, h1, h4, h5, h2, MapKept.run_setObj_map _ hb, Result.andThen]
theorem aLenM_sound {ty rt : TypeId} {x v cx : Value} (hl : aLenM P ty x h = some v) (R : Rel h ρ w) (hx : VRel ρ x cx) : ∃ c, (Builtin.len_ #[ty] rt #[cx]).run P w = .ok c w ∧ VRel ρ v c := by
  unfold aLenM at hl
  split at hl
  rotate_left
  · cases hl
  rename_i kt et i hu
  cases hx with
  | map hi =>
    rename_i L
    split at hl
    rotate_left
    · cases hl
    rename_i es hes
    cases hl
    obtain ⟨en, cl, hb, hsz, hr⟩ := R.map i L es hi hes
    refine ⟨.int .i64 en.size, ?_, by rw [hsz]; exact .int _ _⟩
    simp [Builtin.len_, run_underlying hu, MapKept.run_getObj_map hb, Result.andThen, goInt]
theorem aMakeMap_sound {t : TypeId} (R : Rel h ρ w) : Good P (Instr.makeMap t none) h ρ w (.map (some h.length)) (newMap h) none := by
  obtain ⟨R', S'⟩ := R.newMap
  refine ⟨_, _, .map (some w.heap.size), rfl, R', S', .map (Place.put_same _ _ _), ?_⟩
  intro b hb _
  show (w.heap.push _)[b]? = _
  rw [Array.getElem?_push, if_neg (by omega)]
end Go.AM
