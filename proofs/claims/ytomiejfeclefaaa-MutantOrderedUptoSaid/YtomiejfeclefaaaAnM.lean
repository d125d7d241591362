/-
  Maps of one's own: sets of keys, and keys with values, in memory that is held beside the arrays.
-/
import Derived.Test.YtomiejfeclefaaaAnL
set_option linter.unusedSimpArgs false
set_option linter.unusedVariables false
set_option linter.unusedSectionVars false
namespace Go.AM
open Go
variable {P : Program} {h h' h1 h2 g : Heap} {K : Value → Heap → Prop} {v x : Value} {l : List E} {i k sz : Nat}

/-- A type of maps, and how its keys are told. -/
class MapT (P : Program) (ty : TypeId) (κ : Type) (enc : outParam (κ → Value)) (z : outParam Value) (vd : outParam (κ → Prop)) : Prop where
  ok : ∃ kt et, P.underlying ty = some (.map kt et) ∧ zeroOf P et = some z ∧ flatC z = true ∧ keyT P kt = true ∧ ∀ a : κ, vd a → keyF P kt (enc a) = true
  flat : ∀ a : κ, flatK (enc a) = true
  inj : ∀ a b : κ, enc a = enc b → a = b
variable {κ : Type} [DecidableEq κ] {enc : κ → Value} {z : Value} {ty : TypeId} {vd : κ → Prop}
def mapE (enc : κ → Value) (es : List (κ × Value)) : List (Value × Value) := es.map fun p => (enc p.1, p.2)
def lookM (a : κ) : List (κ × Value) → Nat → Option (Nat × Value)
  | [], _ => none
  | p :: l, i => if p.1 = a then some (i, p.2) else lookM a l (i + 1)
theorem find_mapE (inj : ∀ a b : κ, enc a = enc b → a = b) (hf : ∀ a, flatK (enc a) = true) (a : κ) : ∀ (es : List (κ × Value)) (i : Nat), findI (enc a) (mapE enc es) i = lookM a es i
  | [], _ => rfl
  | p :: es, i => by
    show (if eqV (enc p.1) (enc a) = true then some (i, p.2) else findI (enc a) (mapE enc es) (i + 1)) = _
    rw [find_mapE inj hf a es (i + 1)]
    show _ = (if p.1 = a then some (i, p.2) else lookM a es (i + 1))
    by_cases e : p.1 = a
    · rw [if_pos e, if_pos ((eqV_iff (hf _) (hf _)).mpr (by rw [e]))]
    · rw [if_neg e, if_neg (fun q => e (inj _ _ ((eqV_iff (hf _) (hf _)).mp q)))]
theorem mapE_ok {kt : TypeId} (inj : ∀ a b : κ, enc a = enc b → a = b) (hf : ∀ a, flatK (enc a) = true) (hk : ∀ a, vd a → keyF P kt (enc a) = true) : ∀ (es : List (κ × Value)), (es.map (·.1)).Nodup → (∀ p ∈ es, vd p.1) → entOK P kt (mapE enc es) = true := by
  intro es hn hv
  unfold entOK
  rw [Bool.and_eq_true]
  refine ⟨by rw [List.all_eq_true]; intro q hq; obtain ⟨p, hp, rfl⟩ := List.mem_map.mp hq; exact hk _ (hv _ hp), ?_⟩
  clear hv
  induction es with
  | nil => rfl
  | cons p es ih =>
    simp only [List.map_cons, List.nodup_cons] at hn
    simp only [mapE, List.map_cons, nodupV, Bool.and_eq_true, Bool.not_eq_true']
    refine ⟨?_, ih hn.2⟩
    rw [← Bool.not_eq_true, List.any_eq_true]
    rintro ⟨b, hb, hq⟩
    rw [List.map_map] at hb
    obtain ⟨r, hr, rfl⟩ := List.mem_map.mp hb
    have := inj _ _ ((eqV_iff (hf r.1) (hf p.1)).mp hq)
    exact hn.1 (this ▸ List.mem_map_of_mem hr)
/-- A map of one's own beside the arrays. -/
theorem Mem.mget {B : Base} (m : Mem B h l) {ob : Ob} (hi : (i, ob) ∈ B.fr) : h[i]? = some ob := (m.keep.fr _ hi).2
theorem look_m [T : MapT P ty κ enc z vd] {B : Base} (m : Mem B h l) {es : List (κ × Value)} (hi : (i, .map (mapE enc es)) ∈ B.fr) (hn : (es.map (·.1)).Nodup) (hes : ∀ p ∈ es, vd p.1) {ok : Bool} {a : κ} (ha : vd a) (hv : v = enc a)
    (hK : K (match lookM a es 0 with | some (_, v) => lookV ok v true | none => lookV ok z false) h) : vK (aLookup P ty (.map (some i)) v ok h) h K := by
  obtain ⟨kt, et, hu, hz, hf, h1, h2⟩ := T.ok
  subst hv
  refine vk_i (v := (match lookM a es 0 with | some (_, v) => lookV ok v true | none => lookV ok z false)) ?_ hK
  simp only [aLookup, hu, m.mget hi, hz]
  rw [if_pos (by simp [h1, h2 a ha, mapE_ok T.inj T.flat h2 es hn hes, hf]), find_mapE T.inj T.flat]
  cases lookM a es 0 <;> rfl
/-! ### keys that are structs -/
theorem lit_i {d : Nat} {t : TypeId} {n : Int} (ht : P.underlying t = some (.int .i64)) (hn : (Lit.int .i64 n).wf = true) : P.keyLits (d + 1) t [.int .i64 n] = some [.int .i64 n] := by
  simp [Program.keyLits, ht, hn]
theorem lit_b {d : Nat} {t : TypeId} {b : Bool} (ht : P.underlying t = some .bool) : P.keyLits (d + 1) t [.bool b] = some [.bool b] := by
  simp [Program.keyLits, ht]
theorem wf_i {n : Int} (h1 : -9223372036854775808 ≤ n) (h2 : n ≤ 9223372036854775807) : (Lit.int .i64 n).wf = true := by
  simp only [Lit.wf, Bool.and_eq_true, decide_eq_true_eq]
  exact ⟨h1, h2⟩
/-! ### sets -/
def setE (enc : κ → Value) (ks : List κ) : List (Value × Value) := mapE enc (ks.map fun a => (a, .bool true))
theorem setE_keys (ks : List κ) : ((ks.map fun a => (a, Value.bool true)).map (·.1)) = ks := by rw [List.map_map]; exact List.map_id' ks
theorem look_set (a : κ) : ∀ (ks : List κ) (i : Nat), (a ∈ ks → ∃ j, lookM a (ks.map fun a => (a, Value.bool true)) i = some (j, .bool true)) ∧ (¬ a ∈ ks → lookM a (ks.map fun a => (a, Value.bool true)) i = none)
  | [], i => ⟨fun q => by simp at q, fun _ => rfl⟩
  | b :: ks, i => by
    have ih := look_set a ks (i + 1)
    simp only [List.map_cons, lookM]
    by_cases e : b = a
    · refine ⟨fun _ => ⟨i, by rw [if_pos e]⟩, fun q => absurd (by simp [e]) q⟩
    · rw [if_neg e]
      refine ⟨fun q => ih.1 (by rcases List.mem_cons.mp q with q | q; exact absurd q.symm e; exact q), fun q => ih.2 (fun q' => q (List.mem_cons_of_mem _ q'))⟩
theorem set_vd {ks : List κ} (hes : ∀ a ∈ ks, vd a) : ∀ p ∈ ks.map (fun a => (a, Value.bool true)), vd p.1 := by
  intro p hp
  obtain ⟨a, ha, rfl⟩ := List.mem_map.mp hp
  exact hes a ha
theorem look_s [T : MapT P ty κ enc (.bool false) vd] {B : Base} (m : Mem B h l) {ks : List κ} (hi : (i, .map (setE enc ks)) ∈ B.fr) (hn : ks.Nodup) (hes : ∀ a ∈ ks, vd a) (a : κ) (ha : vd a) (hv : v = enc a)
    (hK : K (.bool (decide (a ∈ ks))) h) : vK (aLookup P ty (.map (some i)) v false h) h K := by
  refine look_m (a := a) m hi (by rw [setE_keys]; exact hn) (set_vd hes) ha hv ?_
  by_cases e : a ∈ ks
  · obtain ⟨j, hj⟩ := (look_set a ks 0).1 e
    rw [hj]; rw [decide_eq_true e] at hK; exact hK
  · rw [(look_set a ks 0).2 e]; rw [decide_eq_false e] at hK; exact hK
/-- The map's number bears something else. -/
theorem Mem.mset {ob ob' : Ob} (m : Mem ⟨g, [(i, ob)]⟩ h l) : Mem ⟨g, [(i, ob')]⟩ (h.set i ob') l := by
  obtain ⟨f1, f2⟩ := m.keep.fr _ (List.mem_singleton.mpr rfl)
  have hlt : i < h.length := (List.getElem?_eq_some_iff.mp f2).1
  refine ⟨⟨pre_set m.keep.pre f1 _, fun q hq => ?_⟩, fun e he => ⟨(m.has e he).1, fun j hj => ?_⟩, m.nd⟩
  · obtain rfl := List.mem_singleton.mp hq
    exact ⟨f1, by rw [List.getElem?_set, if_pos rfl, if_pos hlt]⟩
  · obtain ⟨⟨o1, o2⟩, o3⟩ := (m.has e he).2 j hj
    have hne : i ≠ j := o2 (i, ob) (List.mem_singleton.mpr rfl)
    exact ⟨⟨o1, fun q hq => by obtain rfl := List.mem_singleton.mp hq; exact hne⟩, by rw [List.getElem?_set, if_neg hne]; exact o3⟩
theorem Stab.mset {es : List (Value × Value)} (hi : h[i]? = some (.map es)) (ob : Ob) : Stab h (h.set i ob) := ⟨by simp, fun j a e hr => by
  rw [List.getElem?_set, if_neg (by rintro rfl; rw [hi] at e; cases e)]; exact e⟩
theorem mup_s [T : MapT P ty κ enc (.bool false) vd] {ks : List κ} (m : Mem ⟨g, [(i, .map (setE enc ks))]⟩ h l) (hn : ks.Nodup) (hes : ∀ a ∈ ks, vd a) (a : κ) (hva : vd a) (ha : ¬ a ∈ ks) (hv : v = enc a)
    (hK : ∀ h', Prec h h' → Mem ⟨g, [(i, .map (setE enc (ks ++ [a])))]⟩ h' l → K undef h') : okK ((aMapUpd P ty (.map (some i)) v (.bool true) h).map (undef, ·)) K := by
  obtain ⟨kt, et, hu, hz, hf, h1, h2⟩ := T.ok
  subst hv
  have hg := (m.keep.fr _ (List.mem_singleton.mpr rfl)).2
  refine ok_i (v := undef) (h' := h.set i (.map (setE enc (ks ++ [a])))) ?_ (hK _ ⟨Stab.mset hg _⟩ m.mset)
  simp only at hg
  simp only [aMapUpd, hu, hg]
  have hok : entOK P kt (setE enc ks) = true := mapE_ok T.inj T.flat h2 _ (by rw [setE_keys]; exact hn) (set_vd hes)
  rw [if_pos (by simp [h1, h2 a hva, hok])]
  have hfi : findI (enc a) (setE enc ks) 0 = none := by
    rw [setE, find_mapE T.inj T.flat, (look_set a ks 0).2 ha]
  rw [hfi]
  simp [setE, mapE]
theorem Mem.mnew (m : Mem g h l) : Mem ⟨g, [(h.length, .map [])]⟩ (newMap h) l := by
  have p : h <+: newMap h := ⟨_, rfl⟩
  have m' := m.ext p
  refine ⟨⟨m'.pre, fun q hq => ?_⟩, fun e he => ⟨(m'.has e he).1, fun j hj => ⟨⟨((m'.has e he).2 j hj).1.1, fun q hq => ?_⟩, ((m'.has e he).2 j hj).2⟩⟩, m.nd⟩
  · obtain rfl := List.mem_singleton.mp hq
    exact ⟨m.pre.length_le, by simp [newMap]⟩
  · obtain rfl := List.mem_singleton.mp hq
    have := m.lt he hj
    simp only
    omega
theorem mk_m (m : Mem g h l) (hK : ∀ (i : Nat) (h' : Heap), Prec h h' → Mem ⟨g, [(i, .map (setE enc []))]⟩ h' l → K (.map (some i)) h') : okK (some (.map (some h.length), newMap h)) K :=
  ok_i rfl (hK h.length _ ⟨Stab.of_pre ⟨_, rfl⟩⟩ m.mnew)
/-- The map forgotten. -/
theorem Mem.mdrop {fr : List (Nat × Ob)} (m : Mem ⟨g, fr⟩ h l) : Mem g h l :=
  ⟨⟨m.keep.pre, fun q hq => by simp at hq⟩, fun e he => ⟨(m.has e he).1, fun j hj => ⟨⟨((m.has e he).2 j hj).1.1, fun q hq => by simp at hq⟩, ((m.has e he).2 j hj).2⟩⟩, m.nd⟩
/-! ### parts of lists -/
theorem one_g {α : Type} [F : Flat α] [Df α] {t e sz by_ k : Nat} {h1 : Heap} {l : List α} [T : SlT P t e sz by_] [S : Stb h1 h] (s : L h1 x l) (hz : sz = F.sz) (hk : k < l.length) {z : Int} (hz2 : z = k + 1) (hK : ∀ y, L h y [gt l k] → K y h) :
    vK (aSlice P t x (some (.int .i64 (k : Int))) (some (.int .i64 z)) none h) h K := by
  obtain ⟨hu, hsz, _⟩ := sliceT_of T.ok
  subst hz hz2
  obtain ⟨hb, hs⟩ := (s.mono S.st).flat
  rcases hs with ⟨_, _, _, _, e⟩ | ⟨i, off, c, a, rfl, e1, e2, e3, e4, e5, e6⟩
  · omega
  · have hfit : (k + 1) * F.sz ≤ l.length * F.sz := Nat.mul_le_mul_right _ hk
    rw [Nat.add_mul, Nat.one_mul] at hfit
    refine vk_i (v := .slice (some ⟨i, off + k * F.sz, none⟩) 1 (if c = 0 then 0 else c - k)) ?_ (hK _ (L.of_flat ⟨⟨flat_length _, by simp⟩, .inr ⟨i, off + k * F.sz, _, a, rfl, e1, e2, e3, ?_, ?_, ?_⟩⟩))
    · simp only [aSlice, hu, hsz, e1, e3, if_true, aBoundO, aBound]
      have h7 : k + 1 ≤ capOf l.length c := by unfold capOf at *; split <;> simp_all <;> omega
      rw [if_pos ⟨by omega, by omega⟩]
      simp only [show ((k : Int) + 1).toNat = k + 1 by omega]
      rw [if_pos ⟨by omega, by omega⟩]
      simp only [Int.toNat_natCast, show k + 1 - k = 1 by omega]
    · simp only [List.length_cons, List.length_nil, Nat.zero_add, Nat.one_mul]
      omega
    · simp only [List.length_cons, List.length_nil, Nat.zero_add, Nat.one_mul]
      have h8 : ((a.cells.drop off).take (l.length * F.sz)) = flat l := e5
      rw [← List.drop_drop]
      have h9 : ((a.cells.drop off).drop (k * F.sz)).take F.sz = (((a.cells.drop off).take (l.length * F.sz)).drop (k * F.sz)).take F.sz := by
        rw [List.drop_take, List.take_take, Nat.min_eq_left (by omega)]
      rw [h9, h8, flat_row hk, gt_at hk]
      simp [flat]
    · simp only [List.length_cons, List.length_nil, Nat.zero_add]
      unfold capOf at *
      by_cases hc0 : c = 0
      · simp [hc0]
      · rw [if_neg hc0] at e6
        rw [if_neg hc0, if_neg (by omega)]
        omega
/-- A slice of all of an array of one's own. -/
theorem arr_all {t n e i k : Nat} {cs : List Value} (ht : P.underlying t = some (.array n e)) (hs : szOf P e = some 1) {B : Base} (m : Mem B h l) (q : Ent l i k cs 1) (hn : 0 < n) (hl : n ≤ cs.length) (hK : K (.slice (some ⟨i, 0, none⟩) n (n + 1)) h) :
    vK (aSlice P t (.pointer (some ⟨i, 0, none⟩)) none none none h) h K := by
  refine vk_i (v := .slice (some ⟨i, 0, none⟩) n (n + 1)) ?_ hK
  simp only [aSlice, ht, hs, m.get q.ok]
  rw [if_pos ⟨trivial, hn, by omega⟩]
end Go.AM
