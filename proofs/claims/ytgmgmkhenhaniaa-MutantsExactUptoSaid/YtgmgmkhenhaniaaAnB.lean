/-
  Memory of one's own: arrays in a list; steps that read and write them; parts of lists.
-/
import Derived.Test.YtgmgmkhenhaniaaAnA
set_option linter.unusedSimpArgs false
set_option linter.unusedVariables false
namespace Go.AM
variable {P : Program} {h h' h1 h2 : Heap} {K : Value → Heap → Prop} {v x : Value}

/-- What stays: a beginning of the memory, and some numbers beyond it. -/
structure Base where
  g : Heap
  fr : List (Nat × Ob)
instance : Coe Heap Base := ⟨fun g => ⟨g, []⟩⟩
def Base.Own (B : Base) (i : Nat) : Prop := B.g.length ≤ i ∧ ∀ q ∈ B.fr, q.1 ≠ i
structure Kp (B : Base) (h : Heap) : Prop where
  pre : B.g <+: h
  fr : ∀ q ∈ B.fr, B.g.length ≤ q.1 ∧ h[q.1]? = some q.2
theorem Kp.ext {B : Base} (k : Kp B h) (p : h <+: h') : Kp B h' := ⟨k.pre.trans p, fun q hq => ⟨(k.fr q hq).1, (by obtain ⟨t, rfl⟩ := p; rw [List.getElem?_append_left (List.getElem?_eq_some_iff.mp (k.fr q hq).2).1]; exact (k.fr q hq).2)⟩⟩
theorem Kp.set {B : Base} (k : Kp B h) {i : Nat} (o : B.Own i) (x : Ob) : Kp B (h.set i x) :=
  ⟨pre_set k.pre o.1 x, fun q hq => ⟨(k.fr q hq).1, by rw [List.getElem?_set, if_neg (fun e => o.2 q hq e.symm)]; exact (k.fr q hq).2⟩⟩
theorem Kp.new {B : Base} (k : Kp B h) : B.Own h.length := ⟨k.pre.length_le, fun q hq e => by have := (List.getElem?_eq_some_iff.mp (k.fr q hq).2).1; omega⟩
variable {h0 : Base}

/-- An array of one's own: where (if it is there yet), its cells, an element's cells. -/
structure E where
  o : Option Nat
  cs : List Value
  sz : Nat
structure Mem (h0 : Base) (h : Heap) (l : List E) : Prop where
  keep : Kp h0 h
  has : ∀ e ∈ l, (e.o = none → e.cs = []) ∧ ∀ i, e.o = some i → h0.Own i ∧ h[i]? = some (.arr ⟨e.cs, e.sz, false⟩)
  nd : (l.filterMap (·.o)).Nodup
variable {l : List E}
theorem Mem.pre {g : Heap} (m : Mem g h l) : g <+: h := m.keep.pre
theorem Mem.start (h : Heap) : Mem h h [] := ⟨⟨List.prefix_refl h, fun q hq => by simp at hq⟩, fun e he => by simp at he, by simp⟩
theorem Mem.stab {g : Heap} (m : Mem g h l) : Stab g h := Stab.of_pre m.pre
theorem Mem.ext (m : Mem h0 h l) (p : h <+: h') : Mem h0 h' l :=
  ⟨m.keep.ext p, fun e he => ⟨(m.has e he).1, fun i hi => ⟨((m.has e he).2 i hi).1, (Sub.of_pre p).2 _ _ ((m.has e he).2 i hi).2⟩⟩, m.nd⟩
theorem Mem.get (m : Mem h0 h l) {k i sz : Nat} {cs : List Value} (hk : l[k]? = some ⟨some i, cs, sz⟩) : h[i]? = some (.arr ⟨cs, sz, false⟩) :=
  ((m.has _ (List.mem_of_getElem? hk)).2 i rfl).2
theorem Mem.lt (m : Mem h0 h l) {e : E} (he : e ∈ l) {i : Nat} (hi : e.o = some i) : i < h.length := (List.getElem?_eq_some_iff.mp ((m.has e he).2 i hi).2).1
theorem Mem.nil (m : Mem h0 h l) (sz : Nat) : Mem h0 h (⟨none, [], sz⟩ :: l) := by
  refine ⟨m.keep, fun e he => ?_, by simpa using m.nd⟩
  rcases List.mem_cons.mp he with rfl | he
  · exact ⟨fun _ => rfl, fun i hi => by cases hi⟩
  · exact m.has e he
theorem Mem.add (m : Mem h0 h l) (cs : List Value) (sz : Nat) : Mem h0 (newArr h cs sz) (⟨some h.length, cs, sz⟩ :: l) := by
  have m' := m.ext (pre_new h cs sz)
  refine ⟨m'.keep, fun e he => ?_, ?_⟩
  · rcases List.mem_cons.mp he with rfl | he
    · exact ⟨fun hh => (by cases hh), fun i hi => by cases hi; exact ⟨m.keep.new, newArr_get h cs sz⟩⟩
    · exact m'.has e he
  · simp only [List.filterMap_cons_some (a := ({ o := some h.length, cs := cs, sz := sz } : E)) (f := fun e : E => e.o) (l := l) rfl, List.nodup_cons]
    refine ⟨fun hh => ?_, m.nd⟩
    obtain ⟨e, he, hi⟩ := List.mem_filterMap.mp hh
    have := m.lt he hi
    omega
theorem fm_nodup {l : List E} (nd : (l.filterMap (·.o)).Nodup) {j k : Nat} {a b : E} (ha : l[j]? = some a) (hb : l[k]? = some b) {i : Nat} (h1 : a.o = some i) (h2 : b.o = some i) : j = k := by
  induction l generalizing j k with
  | nil => simp at ha
  | cons e l ih =>
    have nd' : (l.filterMap (·.o)).Nodup := by
      rw [List.filterMap_cons] at nd
      split at nd
      · exact nd
      · exact (List.nodup_cons.mp nd).2
    have key : ∀ {k : Nat} {b : E}, l[k]? = some b → b.o = some i → e.o = some i → False := by
      intro k b hb h2 h1
      rw [List.filterMap_cons, h1] at nd
      exact (List.nodup_cons.mp nd).1 (List.mem_filterMap.mpr ⟨b, List.mem_of_getElem? hb, h2⟩)
    cases j with
    | zero =>
      cases k with
      | zero => rfl
      | succ k => simp at ha hb; subst ha; exact (key hb h2 h1).elim
    | succ j =>
      cases k with
      | zero => simp at ha hb; subst hb; exact (key ha h1 h2).elim
      | succ k => simp at ha hb; rw [ih nd' ha hb]
theorem fm_set {l : List E} {k : Nat} {a b : E} (ha : l[k]? = some a) (e : a.o = b.o) : (l.set k b).filterMap (·.o) = l.filterMap (·.o) := by
  induction l generalizing k with
  | nil => rfl
  | cons x l ih =>
    cases k with
    | zero => simp at ha; subst ha; simp [List.filterMap_cons, e]
    | succ k => simp at ha; simp only [List.set_cons_succ, List.filterMap_cons, ih ha]
/-- Its cells written. -/
theorem Mem.set (m : Mem h0 h l) {k i sz : Nat} {cs : List Value} (hk : l[k]? = some ⟨some i, cs, sz⟩) (cs' : List Value) : Mem h0 (h.set i (.arr ⟨cs', sz, false⟩)) (l.set k ⟨some i, cs', sz⟩) := by
  have hlt := m.lt (List.mem_of_getElem? hk) rfl
  have hlo := ((m.has _ (List.mem_of_getElem? hk)).2 i rfl).1
  refine ⟨m.keep.set hlo _, fun e he => ?_, by rw [fm_set hk (b := ⟨some i, cs', sz⟩) rfl]; exact m.nd⟩
  obtain ⟨j, hj⟩ := List.mem_iff_getElem?.mp he
  rw [List.getElem?_set] at hj
  split at hj
  · split at hj
    · cases hj
      exact ⟨fun hh => (by cases hh), fun i' hi => by cases hi; exact ⟨hlo, by simp [hlt]⟩⟩
    · cases hj
  · rename_i hne
    have hm := m.has e (List.mem_of_getElem? hj)
    refine ⟨hm.1, fun i' hi => ⟨(hm.2 i' hi).1, ?_⟩⟩
    rw [List.getElem?_set, if_neg ?_]
    · exact (hm.2 i' hi).2
    · rintro rfl; exact hne (fm_nodup m.nd hk hj rfl hi)
theorem Mem.setStab (m : Mem h0 h l) {k i sz : Nat} {cs : List Value} (hk : l[k]? = some ⟨some i, cs, sz⟩) (x : Ob) : Stab h (h.set i x) := Stab.set (m.get hk) rfl x
theorem fm_sub {l : List E} {k : Nat} {sz : Nat} : List.Sublist ((l.set k ⟨none, [], sz⟩).filterMap (·.o)) (l.filterMap (·.o)) := by
  induction l generalizing k with
  | nil => exact List.Sublist.refl _
  | cons x l ih =>
    cases k with
    | zero =>
      simp only [List.set_cons_zero, List.filterMap_cons]
      cases x.o with
      | none => exact List.Sublist.refl _
      | some i => exact List.sublist_cons_self _ _
    | succ k =>
      simp only [List.set_cons_succ, List.filterMap_cons]
      cases x.o with
      | none => exact ih
      | some i => exact ih.cons_cons _
/-- An array given up. -/
theorem Mem.kill (m : Mem h0 h l) {k i sz : Nat} {cs : List Value} (hk : l[k]? = some ⟨some i, cs, sz⟩) : Mem h0 (h.set i .dead) (l.set k ⟨none, [], sz⟩) := by
  have hlo := ((m.has _ (List.mem_of_getElem? hk)).2 i rfl).1
  refine ⟨m.keep.set hlo _, fun e he => ?_, m.nd.sublist fm_sub⟩
  obtain ⟨j, hj⟩ := List.mem_iff_getElem?.mp he
  rw [List.getElem?_set] at hj
  split at hj
  · split at hj
    · cases hj
      exact ⟨fun _ => rfl, fun i' hi => by cases hi⟩
    · cases hj
  · rename_i hne
    have hm := m.has e (List.mem_of_getElem? hj)
    refine ⟨hm.1, fun i' hi => ⟨(hm.2 i' hi).1, ?_⟩⟩
    rw [List.getElem?_set, if_neg ?_]
    · exact (hm.2 i' hi).2
    · rintro rfl; exact hne (fm_nodup m.nd hk hj rfl hi)
theorem Mem.tail {e : E} (m : Mem h0 h (e :: l)) : Mem h0 h l := by
  refine ⟨m.keep, fun e' he => m.has e' (List.mem_cons_of_mem _ he), ?_⟩
  have := m.nd
  rw [List.filterMap_cons] at this
  split at this
  · exact this
  · exact (List.nodup_cons.mp this).2
/-- An array that was not there yet. -/
theorem Mem.put (m : Mem h0 h l) {k sz0 : Nat} (hk : ∃ cs, l[k]? = some ⟨none, cs, sz0⟩) (cs : List Value) (sz : Nat) : Mem h0 (newArr h cs sz) (l.set k ⟨some h.length, cs, sz⟩) := by
  have m' := m.add cs sz
  obtain ⟨cs0, hk⟩ := hk
  refine ⟨m'.keep, fun e he => ?_, ?_⟩
  · obtain ⟨j, hj⟩ := List.mem_iff_getElem?.mp he
    rw [List.getElem?_set] at hj
    split at hj
    · split at hj
      · cases hj; exact m'.has _ (by simp)
      · cases hj
    · exact m'.has _ (by simp [List.mem_of_getElem? hj])
  · have h3 := m'.nd
    rw [List.filterMap_cons] at h3
    simp only [List.nodup_cons] at h3
    obtain ⟨h4, h5⟩ := h3
    clear m' m
    induction l generalizing k with
    | nil => simp at hk
    | cons x l ih =>
      cases k with
      | zero =>
        simp at hk; subst hk
        simp only [List.set_cons_zero, List.filterMap_cons, List.nodup_cons] at h4 h5 ⊢
        exact ⟨h4, h5⟩
      | succ k =>
        simp at hk
        simp only [List.set_cons_succ, List.filterMap_cons] at h4 h5 ⊢
        cases hx : x.o with
        | none => rw [hx] at h4 h5; exact ih hk h4 h5
        | some i =>
          rw [hx] at h4 h5
          simp only [List.nodup_cons, List.mem_cons, not_or] at h4 h5 ⊢
          refine ⟨?_, ih hk h4.2 h5.2⟩
          intro hh
          obtain ⟨e, he, hi⟩ := List.mem_filterMap.mp hh
          obtain ⟨j, hj⟩ := List.mem_iff_getElem?.mp he
          rw [List.getElem?_set] at hj
          split at hj
          · split at hj
            · cases hj; cases hi; exact h4.1 rfl
            · cases hj
          · exact h5.1 (List.mem_filterMap.mpr ⟨e, List.mem_of_getElem? hj, hi⟩)

/-! ### where it stands in the list -/
class Ent (l : List E) (i : Nat) (k : outParam Nat) (cs : outParam (List Value)) (sz : outParam Nat) : Prop where
  ok : l[k]? = some ⟨some i, cs, sz⟩
instance ent_tl {e : E} {l : List E} {i k sz : Nat} {cs : List Value} [q : Ent l i k cs sz] : Ent (e :: l) i (k + 1) cs sz := ⟨by simpa using q.ok⟩
instance ent_hd {l : List E} {i sz : Nat} {cs : List Value} : Ent (⟨some i, cs, sz⟩ :: l) i 0 cs sz := ⟨rfl⟩
class EntO (l : List E) (o : Option Nat) (k : outParam Nat) (cs : outParam (List Value)) (sz : outParam Nat) : Prop where
  ok : l[k]? = some ⟨o, cs, sz⟩
instance ento_tl {e : E} {l : List E} {o : Option Nat} {k sz : Nat} {cs : List Value} [q : EntO l o k cs sz] : EntO (e :: l) o (k + 1) cs sz := ⟨by simpa using q.ok⟩
instance ento_hd {l : List E} {o : Option Nat} {sz : Nat} {cs : List Value} : EntO (⟨o, cs, sz⟩ :: l) o 0 cs sz := ⟨rfl⟩
class Upd (l : List E) (k : Nat) (e : E) (l' : outParam (List E)) : Prop where
  ok : l.set k e = l'
instance upd_hd {e x : E} {l : List E} : Upd (x :: l) 0 e (e :: l) := ⟨rfl⟩
instance upd_tl {e x : E} {l l' : List E} {k : Nat} [q : Upd l k e l'] : Upd (x :: l) (k + 1) e (x :: l') := ⟨by simp [q.ok]⟩

/-! ### steps -/
variable {i k sz o : Nat} {cs : List Value} {l' : List E}
theorem box_g {t : Nat} (m : Mem h0 h l) (hK : ∀ (i : Nat) (h' : Heap), Prec h h' → Mem h0 h' (⟨some i, v.cells.toList, eszOf P t v.cells.size⟩ :: l) → K (.pointer (some ⟨i, 0, none⟩)) h') : okK (some (aBox P t v h)) K :=
  ok_i rfl (hK h.length _ ⟨Stab.of_pre (pre_new _ _ _)⟩ (m.add _ _))
class ZrT (P : Program) (t : Nat) (zs : outParam (List Value)) : Prop where
  ok : (zeroOf P t).map (fun z => z.cells.toList) = some zs ∧ zs.all flatV = true
theorem alloc_g {t : Nat} {zs : List Value} [T : ZrT P t zs] (m : Mem h0 h l) (hK : ∀ (i : Nat) (h' : Heap), Prec h h' → Mem h0 h' (⟨some i, zs, eszOf P t zs.length⟩ :: l) → K (.pointer (some ⟨i, 0, none⟩)) h') : okK (aAlloc P t h) K := by
  obtain ⟨h1, h2⟩ := T.ok
  cases hz : zeroOf P t with
  | none => rw [hz] at h1; cases h1
  | some z =>
    rw [hz] at h1
    simp only [Option.map_some, Option.some.injEq] at h1
    subst h1
    refine ok_i (v := .pointer (some ⟨h.length, 0, none⟩)) (h' := newArr h z.cells.toList (eszOf P t z.cells.toList.length)) ?_ (hK h.length _ ⟨Stab.of_pre (pre_new _ _ _)⟩ (m.add _ _))
    unfold aAlloc
    rw [hz]
    simp only
    rw [if_pos (by rw [← Array.all_toList]; exact h2)]
    simp only [Array.length_toList]
theorem ldo {t : Nat} {y : Value} [T : PlT P t] (m : Mem h0 h l) [q : Ent l i k cs sz] (hy : cs[o]? = some y) (hK : K y h) : vK (aLoad P t (.pointer (some ⟨i, o, none⟩)) h) h K :=
  ldc_i T.ok (m.get q.ok) hy hK
theorem ldor {t n : Nat} {ys : List Value} [T : RwT P t n] (m : Mem h0 h l) [q : Ent l i k cs sz] (hy : (cs.drop o).take n = ys) (hn : n ≤ ys.length) (hK : K (.agg ys.toArray) h) : vK (aLoad P t (.pointer (some ⟨i, o, none⟩)) h) h K := by
  obtain ⟨d, e1, e2, e3, e4⟩ := row_of T.ok
  refine vk_i (v := .agg ys.toArray) ?_ hK
  have hl : n ≤ (cs.drop o).length := by rw [← hy, List.length_take] at hn; omega
  rw [List.length_drop] at hl
  simp only [aLoad, m.get q.ok, e1, e3]
  rw [if_pos e2, if_pos (by omega), hy]
theorem fao {t j off ft : Nat} [T : FdT P t j off ft] (hK : K (.pointer (some ⟨i, o + off, none⟩)) h) : vK (aFieldAddr P t (.pointer (some ⟨i, o, none⟩)) j) h K := by
  obtain ⟨fs, f, n, e1, e2, e3, e4, e5⟩ := fld_of T.ok
  refine vk_i (v := .pointer (some ⟨i, o + off, none⟩)) ?_ hK
  unfold aFieldAddr
  simp only [e1, e2, e5, e3]
theorem sto {t : Nat} {y : Value} [T : OneT P t] (m : Mem h0 h l) [q : Ent l i k cs sz] (ho : o < cs.length) (h1 : y.cells = #[y]) (h2 : y.oneCell' = true) [u : Upd l k ⟨some i, cs.set o y, sz⟩ l']
    (hK : ∀ h', Prec h h' → Mem h0 h' l' → K undef h') : okK ((aStore P t (.pointer (some ⟨i, o, none⟩)) y h).map (undef, ·)) K := by
  refine st_i T.sz (m.get q.ok) rfl ho h1 h2 (hK _ ⟨m.setStab q.ok _⟩ ?_)
  rw [← u.ok]
  exact m.set q.ok _
/-- A struct of one's own, all its cells written. -/
theorem setSeg_eq : ∀ (xs l : List Value) (off : Nat), off + xs.length ≤ l.length → setSeg l off xs = l.take off ++ xs ++ l.drop (off + xs.length)
  | [], l, off, _ => by simp [setSeg]
  | v :: vs, l, off, hh => by
    simp only [List.length_cons] at hh
    rw [setSeg, setSeg_eq vs _ _ (by simp; omega)]
    rw [List.take_set, List.drop_set, if_pos (by omega)]
    have e : (l.take (off + 1)).set off v = l.take off ++ [v] := by
      rw [List.take_add_one, List.getElem?_eq_getElem (by omega)]
      simp only [Option.toList_some]
      rw [List.set_append_right _ _ (by simp; omega)]
      simp only [List.length_take]
      rw [show off - min off l.length = 0 by omega]; rfl
    rw [e]
    simp [Nat.add_assoc, Nat.add_comm, Nat.add_left_comm]
theorem stw {t n : Nat} {ys : Array Value} [T : RwT P t n] (m : Mem h0 h l) [q : Ent l i k cs sz] (h1 : ys.size = n) (h3 : cs.length = n) (h2 : ys.toList.all (·.oneCell') = true) [u : Upd l k ⟨some i, ys.toList, sz⟩ l']
    (hK : ∀ h', Prec h h' → Mem h0 h' l' → K undef h') : okK ((aStore P t (.pointer (some ⟨i, 0, none⟩)) (.agg ys) h).map (undef, ·)) K := by
  obtain ⟨d, e1, e2, e3, e4⟩ := row_of T.ok
  refine ok_i (v := undef) (h' := h.set i (.arr ⟨ys.toList, sz, false⟩)) ?_ (hK _ ⟨m.setStab q.ok _⟩ (by rw [← u.ok]; exact m.set q.ok _))
  simp only [aStore, m.get q.ok, e3]
  rw [if_pos ⟨trivial, h1, by omega, by rw [← Array.all_toList]; exact h2⟩]
  have : setSeg cs 0 ys.toList = ys.toList := by
    rw [setSeg_eq _ _ _ (by simp [h1, h3])]
    rw [List.drop_eq_nil_of_le (by simp [h1, h3])]; simp
  show some (undef, h.set i (.arr ⟨setSeg cs 0 ys.toList, sz, false⟩)) = _
  rw [this]
/-! slices of one's own -/
/-- A slice over an array of one's own (or none yet). -/
@[reducible] def slV (o : Option Nat) (n : Nat) : Value := match o with | none => .slice none 0 0 | some i => .slice (some ⟨i, 0, none⟩) n 0
theorem len_s {t e by_ n c : Nat} {a : Option Addr} [T : SlT P t e sz by_] (hK : K (.int .i64 (n : Int)) h) : vK (aLen P t (.slice a n c)) h K := by
  obtain ⟨hu, _⟩ := sliceT_of T.ok
  refine vk_i (v := .int .i64 (n : Int)) ?_ hK
  unfold aLen
  rw [hu]
theorem idxo {t e by_ n c : Nat} {z : Int} [T : SlT P t e sz by_] (hz : 0 ≤ z) (hn : z.toNat < n) (hK : K (.pointer (some ⟨i, z.toNat * sz, none⟩)) h) : vK (aIndexAddr P t (.slice (some ⟨i, 0, none⟩) n c) (.int .i64 z)) h K := by
  obtain ⟨hu, hsz, _⟩ := sliceT_of T.ok
  refine vk_i (v := .pointer (some ⟨i, z.toNat * sz, none⟩)) ?_ hK
  unfold aIndexAddr
  simp only [hu, hsz]
  rw [if_pos ⟨hz, by omega⟩, Nat.zero_add]
theorem idxon {t e by_ n c j : Nat} [T : SlT P t e sz by_] (hn : j < n) (hK : K (.pointer (some ⟨i, j * sz, none⟩)) h) : vK (aIndexAddr P t (.slice (some ⟨i, 0, none⟩) n c) (.int .i64 (j : Int))) h K :=
  idxo (by omega) (by simpa using hn) (by simpa using hK)
/-! elements that hold no slices -/
theorem flat_get {α : Type} [F : Flat α] {xs : List α} {j o : Nat} (hj : j < xs.length) (ho : o < F.sz) : (flat xs)[j * F.sz + o]? = (F.cells xs[j])[o]? := by
  unfold flat
  induction xs generalizing j with
  | nil => simp at hj
  | cons a xs ih =>
    rw [List.flatMap_cons]
    cases j with
    | zero => rw [List.getElem?_append_left (by rw [F.len]; omega)]; simp
    | succ j =>
      rw [List.getElem?_append_right (by rw [F.len, Nat.add_mul]; omega), F.len, show (j + 1) * F.sz + o - F.sz = j * F.sz + o by rw [Nat.add_mul]; omega]
      exact ih (by simpa using hj)
theorem flat_set {α : Type} [F : Flat α] {xs : List α} {j o : Nat} {y : Value} {a : α} (hj : j < xs.length) (ho : o < F.sz) (ha : F.cells a = (F.cells xs[j]).set o y) : (flat xs).set (j * F.sz + o) y = flat (xs.set j a) := by
  unfold flat
  induction xs generalizing j with
  | nil => simp at hj
  | cons b xs ih =>
    cases j with
    | zero =>
      simp only [List.flatMap_cons, List.set_cons_zero, Nat.zero_mul, Nat.zero_add] at ha ⊢
      rw [List.set_append_left _ _ (by rw [F.len]; omega), ha]; rfl
    | succ j =>
      simp only [List.flatMap_cons, List.set_cons_succ]
      rw [List.set_append_right _ _ (by rw [F.len, Nat.add_mul]; omega), F.len, show (j + 1) * F.sz + o - F.sz = j * F.sz + o by rw [Nat.add_mul]; omega]
      rw [ih (by simpa using hj) (by simpa using ha)]
theorem flat_fit {α : Type} [F : Flat α] {xs : List α} {j : Nat} (hj : j < xs.length) : j * F.sz + F.sz ≤ (flat xs).length := by
  rw [flat_length, ← Nat.succ_mul]
  exact Nat.mul_le_mul_right _ hj
theorem flat_setw {α : Type} [F : Flat α] {xs : List α} {j : Nat} {a : α} (hj : j < xs.length) : setSeg (flat xs) (j * F.sz) (F.cells a) = flat (xs.set j a) := by
  rw [setSeg_eq _ _ _ (by rw [F.len]; exact flat_fit hj), F.len]
  unfold flat
  induction xs generalizing j with
  | nil => simp at hj
  | cons b xs ih =>
    cases j with
    | zero =>
      simp only [List.flatMap_cons, List.set_cons_zero, Nat.zero_mul, List.take_zero, List.nil_append, Nat.zero_add]
      rw [← F.len b, List.drop_left]
    | succ j =>
      simp only [List.flatMap_cons, List.set_cons_succ]
      have := ih (j := j) (by simpa using hj)
      rw [show (j + 1) * F.sz = (F.cells b).length + j * F.sz by rw [F.len, Nat.add_mul]; omega, List.take_append]
      rw [List.take_of_length_le (by omega), show (F.cells b).length + j * F.sz - (F.cells b).length = j * F.sz by omega, show (F.cells b).length + j * F.sz + F.sz = (F.cells b).length + (j * F.sz + F.sz) by omega, ← List.drop_drop, List.drop_left]
      rw [← this]; simp [List.append_assoc]
theorem flat_row {α : Type} [F : Flat α] {xs : List α} {j : Nat} (hj : j < xs.length) : ((flat xs).drop (j * F.sz)).take F.sz = F.cells xs[j] := by
  unfold flat
  induction xs generalizing j with
  | nil => simp at hj
  | cons b xs ih =>
    rw [List.flatMap_cons]
    cases j with
    | zero =>
      simp only [Nat.zero_mul, List.drop_zero, List.getElem_cons_zero]
      rw [← F.len b, List.take_left]
    | succ j =>
      rw [show (j + 1) * F.sz = (F.cells b).length + j * F.sz by rw [F.len, Nat.add_mul]; omega, ← List.drop_drop, List.drop_left]
      simpa using ih (j := j) (by simpa using hj)
variable {α : Type} [F : Flat α] {xs : List α}
theorem ldoe {t j : Nat} {y : Value} [T : PlT P t] (m : Mem h0 h l) [q : Ent l i k cs sz] (hc : cs = flat xs) (hz : sz = F.sz) (hj : j < xs.length) (ho : o < F.sz) (hy : (F.cells xs[j])[o]? = some y) (hK : K y h) : vK (aLoad P t (.pointer (some ⟨i, j * sz + o, none⟩)) h) h K := by
  subst hc hz
  exact ldo m (by rw [flat_get hj ho]; exact hy) hK
theorem ldoer {t j : Nat} {ys : List Value} [T : RwT P t sz] (m : Mem h0 h l) [q : Ent l i k cs sz] (hc : cs = flat xs) (hz : sz = F.sz) (hj : j < xs.length) (hy : F.cells xs[j] = ys) (hK : K (.agg ys.toArray) h) : vK (aLoad P t (.pointer (some ⟨i, j * sz, none⟩)) h) h K := by
  subst hc hz hy
  exact ldor m (flat_row hj) (by rw [F.len]; exact Nat.le_refl _) hK
theorem stoe {t j : Nat} {y : Value} (a : α) [T : OneT P t] (m : Mem h0 h l) [q : Ent l i k cs sz] (hc : cs = flat xs) (hz : sz = F.sz) (hj : j < xs.length) (ho : o < F.sz) (h1 : y.cells = #[y]) (h2 : y.oneCell' = true)
    (ha : F.cells a = (F.cells xs[j]).set o y) [u : Upd l k ⟨some i, flat (xs.set j a), sz⟩ l'] (hK : ∀ h', Prec h h' → Mem h0 h' l' → K undef h') : okK ((aStore P t (.pointer (some ⟨i, j * sz + o, none⟩)) y h).map (undef, ·)) K := by
  subst hc hz
  have : Upd l k ⟨some i, (flat xs).set (j * F.sz + o) y, F.sz⟩ l' := ⟨by rw [flat_set hj ho ha]; exact u.ok⟩
  refine sto m ?_ h1 h2 hK
  rw [flat_length]
  have : (j + 1) * F.sz ≤ xs.length * F.sz := Nat.mul_le_mul_right _ hj
  rw [Nat.add_mul] at this
  omega
theorem stoer {t j : Nat} {ys : Array Value} (a : α) [T : RwT P t sz] (m : Mem h0 h l) [q : Ent l i k cs sz] (hc : cs = flat xs) (hz : sz = F.sz) (hj : j < xs.length) (ha : F.cells a = ys.toList)
    [u : Upd l k ⟨some i, flat (xs.set j a), sz⟩ l'] (hK : ∀ h', Prec h h' → Mem h0 h' l' → K undef h') : okK ((aStore P t (.pointer (some ⟨i, j * sz, none⟩)) (.agg ys) h).map (undef, ·)) K := by
  subst hc hz
  obtain ⟨d, e1, e2, e3, e4⟩ := row_of T.ok
  refine ok_i (v := undef) (h' := h.set i (.arr ⟨flat (xs.set j a), F.sz, false⟩)) ?_ (hK _ ⟨m.setStab q.ok _⟩ (by rw [← u.ok]; exact m.set q.ok _))
  have hys : ys.size = F.sz := by rw [← F.len a, ha]; simp
  simp only [aStore, m.get q.ok, e3]
  rw [if_pos ⟨trivial, hys, flat_fit hj, by rw [← Array.all_toList]; show ys.toList.all _ = true; rw [← ha]; exact flat_ones (F.flat a)⟩]
  show some (undef, h.set i (.arr ⟨setSeg (flat xs) (j * F.sz) ys.toList, F.sz, false⟩)) = _
  rw [← ha, flat_setw hj]
/-! appends -/
/-- What is appended: cells of an array of one's own, or of one that is only read. -/
def Src (sz : Nat) (h : Heap) (x : Value) (m : Nat) (xs : List Value) : Prop := Seg sz h x m xs ∧ xs.all (·.oneCell') = true ∧ 0 < m
/-- To a slice of one's own. -/
theorem app_own {t e by_ n m : Nat} {xs : List Value} {o : Option Nat} [T : SlT P t e sz by_] (M : Mem h0 h l) [q : EntO l o k cs sz] (hn : cs.length = n * sz) (s : Src sz h x m xs) (hb : (n + m) * by_ ≤ 2 ^ 46 ∧ n + m ≤ 2 ^ 46)
    (hK : ∀ (i : Nat) (h' : Heap), Prec h h' → Mem h0 h' (l.set k ⟨some i, cs ++ xs, sz⟩) → K (.slice (some ⟨i, 0, none⟩) (n + m) 0) h') : okK (aAppend P t t (slV o n) x h) K := by
  cases o with
  | none =>
    have he := (M.has _ (List.mem_of_getElem? q.ok)).1 rfl
    have hq := q.ok
    subst he
    have hpos : 0 < sz := (sliceT_of T.ok).2.2.elim fun z hz => hz.2.2.2.2
    have : n = 0 := by
      rcases Nat.eq_zero_or_pos n with e | e
      · exact e
      · have := Nat.mul_pos e hpos; simp at hn; omega
    subst this
    have := hK h.length _ ⟨Stab.of_pre (pre_new _ _ _)⟩ (M.put ⟨_, q.ok⟩ ([] ++ xs) sz)
    rw [Nat.zero_add] at this hb
    exact ok_i (app_nil T.ok s.1 s.2.1 s.2.2 hb) this
  | some i =>
    have e := app_at (c := 0) T.ok s.1 s.2.1 s.2.2 hb (M.get q.ok) (off := 0) (by omega)
    rw [if_neg (by simp), List.drop_zero, ← hn, List.take_length] at e
    have m1 := M.kill q.ok
    have hk2 : k < l.length := (List.getElem?_eq_some_iff.mp q.ok).1
    have m2 := m1.put (k := k) (sz0 := sz) ⟨[], by simp [hk2]⟩ (cs ++ xs) sz
    have hl : (h.set i Ob.dead).length = h.length := by simp
    rw [List.set_set, hl] at m2
    exact ok_i e (hK _ _ ⟨(M.setStab q.ok _).trans (Stab.of_pre (pre_new _ _ _))⟩ m2)
/-- Nothing is appended. -/
theorem app_none {t e by_ c : Nat} {a : Option Addr} {b : Option Addr} {n c2 : Nat} [T : SlT P t e sz by_] (hx : x = .slice b 0 c2) (hb : b = none ∨ ∃ i o, b = some ⟨i, o, none⟩) (hK : K (.slice a n c) h) : okK (aAppend P t t (.slice a n c) x h) K := by
  obtain ⟨hu, hsz, z, hz, hby, g1, g2, g3⟩ := sliceT_of T.ok
  refine ok_i (v := .slice a n c) (h' := h) ?_ hK
  subst hx
  unfold aAppend
  rw [hu]
  simp only [hsz, hz, hby]
  rw [if_pos ⟨g1, g2, g3⟩]
  rcases hb with rfl | ⟨i, o, rfl⟩ <;> simp [aSrc, hu, aCells]
theorem src_own {n c : Nat} (M : Mem h0 h l) [q : Ent l i k cs sz] (hn : cs.length = n * sz) (h0 : 0 < n) (hb : n ≤ 2 ^ 50) (h1 : cs.all (·.oneCell') = true) : Src sz h (.slice (some ⟨i, 0, none⟩) n c) n cs :=
  ⟨⟨⟨hn, hb⟩, .inr ⟨i, 0, c, _, rfl, M.get q.ok, rfl, by simp only; omega, by simp [← hn]⟩⟩, h1, h0⟩
theorem flat_all (l : List α) : (flat l).all (·.oneCell') = true := by
  rw [List.all_eq_true]
  intro v hv
  obtain ⟨a, ha, hv⟩ := List.mem_flatMap.mp hv
  exact List.all_eq_true.mp (flat_ones (F.flat a)) v hv
theorem src_ro {l : List α} [S : Stb h1 h] (s : L h1 x l) (h0 : 0 < l.length) : Src F.sz h x l.length (flat l) := ⟨((s.mono S.st).flat).seg, flat_all l, h0⟩

/-! ### what a function gives -/
theorem Mem.retro (m : Mem h0 h l) {n c : Nat} (hk : l[k]? = some ⟨some i, cs, sz⟩) (hn : n * sz = cs.length) (hb : n ≤ 2 ^ 50) (hc : n ≤ capOf n c) : Ro sz (frz h0.g.length h) (.slice (some ⟨i, 0, none⟩) n c) n cs := by
  obtain ⟨b, e1, e2, e3, e4, _⟩ := frz_arr (n := h0.g.length) (m.get hk) (.inr trivial)
  have := ((m.has _ (List.mem_of_getElem? hk)).2 i rfl).1.1
  exact ⟨⟨hn.symm, hb⟩, .inr ⟨i, 0, c, b, rfl, e1, e4 this, e3, by rw [e2]; simp only; omega, by rw [e2, List.drop_zero, hn, List.take_length], hc⟩⟩
/-- A list of one's own, given back. -/
theorem ret_flat (m : Mem h0 h l) {c : Nat} (q : l[k]? = some ⟨some i, flat xs, F.sz⟩) (hb : xs.length ≤ 2 ^ 50) (hc : c = 0 ∨ xs.length < c) : L (frz h0.g.length h) (.slice (some ⟨i, 0, none⟩) xs.length c) xs :=
  L.of_flat (m.retro q (flat_length xs).symm hb (by unfold capOf; split <;> omega))
theorem L.frz {β : Type} [R : Rep β] {l : List β} {n : Nat} (s : L h v l) : L (frz n h) v l := s.mono (frz_stab n h)

/-! ### parts of lists -/
end Go.AM
