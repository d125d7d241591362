/-
  The operations over the abstract memory, the fourth part: what writes: stores, append, copy.
-/
import Derived.Test.YtgmgmkhenhaniaaAmD
set_option linter.unusedSimpArgs false
set_option linter.unusedVariables false
namespace Go.AM
variable {P : Program} {h h' : Heap} {ρ : Place} {w : World}

theorem writable_set_ne {i j : Nat} {o : Ob} (hne : j ≠ i) : Writable (h.set i o) j ↔ Writable h j := by
  unfold Writable; rw [List.getElem?_set_ne (Ne.symm hne)]
theorem alive_set_ne {i j : Nat} {o : Ob} (hne : j ≠ i) : Alive (h.set i o) j ↔ Alive h j := by
  unfold Alive; rw [List.getElem?_set_ne (Ne.symm hne)]

/-- An array's cells are written in place. -/
theorem Rel.setArr (R : Rel h ρ w) {i : Nat} {L : Loc} {ar : Arr} (hi : ρ i = some L) (har : h[i]? = some (.arr ar)) (hro : ar.ro = false)
    {cs cs' : Array Value} {ty : TypeId} (hb : w.heap[L.blk]? = some (.cells cs ty (0, 0))) (hsz : cs'.size = cs.size) {cells' : List Value} (hl : cells'.length = ar.cells.length)
    (hc : CRel ρ cells' cs' L.off) :
    Rel (h.set i (.arr { ar with cells := cells' })) ρ (w.setRow L.blk cs') ∧ Step h ρ w (h.set i (.arr { ar with cells := cells' })) ρ (w.setRow L.blk cs') ∧ Frm ρ w (w.setRow L.blk cs') (some i) := by
  have hlt : i < h.length := R.dom _ _ hi
  have hwi : Writable h i := .inl ⟨ar, har, hro⟩
  have hnew : (h.set i (.arr { ar with cells := cells' }))[i]? = some (.arr { ar with cells := cells' }) := by simp [hlt]
  have hw : ∀ j, Writable (h.set i (.arr { ar with cells := cells' })) j ↔ Writable h j := by
    intro j
    by_cases e : j = i
    · subst e; exact ⟨fun _ => hwi, fun _ => .inl ⟨_, hnew, hro⟩⟩
    · exact writable_set_ne e
  have ha : ∀ j, Alive (h.set i (.arr { ar with cells := cells' })) j ↔ Alive h j := by
    intro j
    by_cases e : j = i
    · subst e; exact ⟨fun _ => hwi.alive, fun _ => .inl ⟨_, hnew⟩⟩
    · exact alive_set_ne e
  refine ⟨⟨?_, ?_, ?_, ?_⟩, ⟨Le.refl _, fun _ _ h => .inl h, by simp, rfl, rfl, rfl, by simp, by first | exact Nat.le_refl _ | exact Nat.le_add_right _ _, ?_, ?_⟩, ?_⟩
  · intro j L' hj; simpa using R.dom _ _ hj
  · intro j L' b hj hbj
    by_cases e : j = i
    · subst e
      rw [hi] at hj; cases hj
      rw [hnew] at hbj; cases hbj
      obtain ⟨cs0, ty0, fr0, h1, h2, h3, h4, h5, h6⟩ := R.arr j L ar hi har
      rw [hb] at h1; cases h1
      exact ⟨cs', ty, (0, 0), setRow_heap _ _ _ _ _ _ hb, by rw [hsz]; exact h2, by simp only; omega, h4, hc, fun _ => rfl⟩
    · rw [List.getElem?_set_ne (Ne.symm e)] at hbj
      obtain ⟨cs0, ty0, fr0, h1, h2, h3, h4, h5, h6⟩ := R.arr j L' b hj hbj
      have hne := R.inj i j L L' hi hj (Ne.symm e) hwi (.inl ⟨b, hbj⟩)
      exact ⟨cs0, ty0, fr0, by rw [setRow_other _ _ _ _ (Ne.symm hne)]; exact h1, h2, h3, h4, h5, h6⟩
  · intro j L' es hj hbj
    have e : j ≠ i := by intro e; subst e; rw [hnew] at hbj; cases hbj
    rw [List.getElem?_set_ne (Ne.symm e)] at hbj
    obtain ⟨en, cl, h1, h2, h3⟩ := R.map j L' es hj hbj
    have hne := R.inj i j L L' hi hj (Ne.symm e) hwi (.inr ⟨es, hbj⟩)
    exact ⟨en, cl, by rw [setRow_other _ _ _ _ (Ne.symm hne)]; exact h1, h2, h3⟩
  · intro j k Lj Lk hj hk hne hwj hak
    exact R.inj j k Lj Lk hj hk hne ((hw j).mp hwj) ((ha k).mp hak)
  · intro b hbl hn
    exact setRow_other _ _ _ _ (Ne.symm (hn i L hi hwi))
  · intro j L' hj hwj _
    exact ⟨j, L', hj, rfl, (ha j).mp hwj, (hw j).mp⟩
  · intro b hbl hn
    exact setRow_other _ _ _ _ (Ne.symm (hn i L rfl hi))

/-- An array is forgotten. -/
theorem Rel.kill (R : Rel h ρ w) (i : Nat) : Rel (h.set i .dead) ρ w ∧ Step h ρ w (h.set i .dead) ρ w := by
  have hw : ∀ j, Writable (h.set i .dead) j → Writable h j ∧ j ≠ i := by
    intro j hj
    by_cases e : j = i
    · subst e
      rcases hj with ⟨a, h1, _⟩ | ⟨es, h1⟩ <;>
      · rw [List.getElem?_set] at h1
        split at h1
        · split at h1 <;> cases h1
        · rename_i hh; exact absurd rfl hh
    · exact ⟨(writable_set_ne e).mp hj, e⟩
  have ha : ∀ j, Alive (h.set i .dead) j → Alive h j ∧ j ≠ i := by
    intro j hj
    by_cases e : j = i
    · subst e
      rcases hj with ⟨a, h1⟩ | ⟨es, h1⟩ <;>
      · rw [List.getElem?_set] at h1
        split at h1
        · split at h1 <;> cases h1
        · rename_i hh; exact absurd rfl hh
    · exact ⟨(alive_set_ne e).mp hj, e⟩
  refine ⟨⟨?_, ?_, ?_, ?_⟩, ⟨Le.refl _, fun _ _ h => .inl h, by simp, rfl, rfl, rfl, Nat.le_refl _, Nat.le_refl _, fun _ _ _ => rfl, ?_⟩⟩
  · intro j L hj; simpa using R.dom _ _ hj
  · intro j L b hj hb
    have e := (ha j (.inl ⟨b, hb⟩)).2
    rw [List.getElem?_set_ne (Ne.symm e)] at hb
    exact R.arr j L b hj hb
  · intro j L es hj hb
    have e := (ha j (.inr ⟨es, hb⟩)).2
    rw [List.getElem?_set_ne (Ne.symm e)] at hb
    exact R.map j L es hj hb
  · intro j k Lj Lk hj hk hne hwj hak
    exact R.inj j k Lj Lk hj hk hne (hw j hwj).1 (ha k hak).1
  · intro j L hj hwj _
    exact ⟨j, L, hj, rfl, (ha j hwj).1, fun x => (hw j x).1⟩

/-- An array is taken over by another one in the same block. -/
theorem Rel.take (R : Rel h ρ w) {i : Nat} {L : Loc} {ar : Arr} (hi : ρ i = some L) (har : h[i]? = some (.arr ar)) (hro : ar.ro = false)
    {cs cs' : Array Value} {ty : TypeId} (hb : w.heap[L.blk]? = some (.cells cs ty (0, 0))) (hsz : cs'.size = cs.size) {cells' : List Value} {off : Nat}
    (hl : L.off + off + cells'.length ≤ L.size) (hc : CRel ρ cells' cs' (L.off + off)) :
    Rel (h.set i .dead ++ [.arr ⟨cells', ar.esz, false⟩]) (ρ.put h.length ⟨L.blk, L.off + off, L.size, L.esz⟩) (w.setRow L.blk cs') ∧
    Step h ρ w (h.set i .dead ++ [.arr ⟨cells', ar.esz, false⟩]) (ρ.put h.length ⟨L.blk, L.off + off, L.size, L.esz⟩) (w.setRow L.blk cs') ∧ Frm ρ w (w.setRow L.blk cs') (some i) := by
  have hlt : i < h.length := R.dom _ _ hi
  have hwi : Writable h i := .inl ⟨ar, har, hro⟩
  obtain ⟨K, KS⟩ := R.kill i
  have hle := R.le_put ⟨L.blk, L.off + off, L.size, L.esz⟩
  obtain ⟨cs0, ty0, fr0, g1, g2, g3, g4, g5, g6⟩ := R.arr i L ar hi har
  rw [hb] at g1; cases g1
  have hlen : (h.set i .dead).length = h.length := by simp
  have hcases : ∀ j L', ρ.put h.length ⟨L.blk, L.off + off, L.size, L.esz⟩ j = some L' → (j = h.length ∧ L' = ⟨L.blk, L.off + off, L.size, L.esz⟩) ∨ (j < h.length ∧ ρ j = some L') := by
    intro j L' hj
    by_cases e : j = h.length
    · subst e; rw [Place.put_same] at hj; exact .inl ⟨rfl, (Option.some.inj hj).symm⟩
    · rw [Place.put_ne _ _ e] at hj; exact .inr ⟨R.dom _ _ hj, hj⟩
  have hget : ∀ j, j < h.length → (h.set i .dead ++ [Ob.arr ⟨cells', ar.esz, false⟩])[j]? = (h.set i .dead)[j]? := by
    intro j hj; rw [List.getElem?_append_left (by simpa using hj)]
  have hgetn : (h.set i .dead ++ [Ob.arr ⟨cells', ar.esz, false⟩])[h.length]? = some (.arr ⟨cells', ar.esz, false⟩) := by
    rw [List.getElem?_append_right (by simp)]; simp
  have hdead : ∀ o, (h.set i .dead)[i]? = some o → o = .dead := by
    intro o ho; simp [hlt] at ho; exact ho.symm
  have hwlt : ∀ j, j < h.length → Writable (h.set i .dead ++ [Ob.arr ⟨cells', ar.esz, false⟩]) j → Writable h j ∧ j ≠ i := by
    intro j hj hw
    unfold Writable at hw
    rw [hget j hj] at hw
    have e : j ≠ i := by
      intro e; subst e
      rcases hw with ⟨a, h1, _⟩ | ⟨es, h1⟩ <;> (have := hdead _ h1; cases this)
    rw [List.getElem?_set_ne (Ne.symm e)] at hw
    exact ⟨hw, e⟩
  have halt : ∀ j, j < h.length → Alive (h.set i .dead ++ [Ob.arr ⟨cells', ar.esz, false⟩]) j → Alive h j ∧ j ≠ i := by
    intro j hj hw
    unfold Alive at hw
    rw [hget j hj] at hw
    have e : j ≠ i := by
      intro e; subst e
      rcases hw with ⟨a, h1⟩ | ⟨es, h1⟩ <;> (have := hdead _ h1; cases this)
    rw [List.getElem?_set_ne (Ne.symm e)] at hw
    exact ⟨hw, e⟩
  refine ⟨⟨?_, ?_, ?_, ?_⟩, ⟨hle, ?_, by simp, rfl, rfl, rfl, by simp, by first | exact Nat.le_refl _ | exact Nat.le_add_right _ _, ?_, ?_⟩, ?_⟩
  · intro j L' hj
    rcases hcases j L' hj with ⟨e, _⟩ | ⟨e, _⟩ <;> simp <;> omega
  · intro j L' b hj hbj
    rcases hcases j L' hj with ⟨rfl, rfl⟩ | ⟨e, hj'⟩
    · rw [hgetn] at hbj; cases hbj
      exact ⟨cs', ty, (0, 0), setRow_heap _ _ _ _ _ _ hb, by rw [hsz]; exact g2, hl, g4, fun k hk => (hc k hk).mono hle, fun _ => rfl⟩
    · obtain ⟨haj, hne⟩ := halt j e (.inl ⟨b, hbj⟩)
      rw [hget j e, List.getElem?_set_ne (Ne.symm hne)] at hbj
      obtain ⟨cs1, ty1, fr1, h1, h2, h3, h4, h5, h6⟩ := R.arr j L' b hj' hbj
      have hnb := R.inj i j L L' hi hj' (Ne.symm hne) hwi haj
      exact ⟨cs1, ty1, fr1, by rw [setRow_other _ _ _ _ (Ne.symm hnb)]; exact h1, h2, h3, h4, fun k hk => (h5 k hk).mono hle, h6⟩
  · intro j L' es hj hbj
    rcases hcases j L' hj with ⟨rfl, rfl⟩ | ⟨e, hj'⟩
    · rw [hgetn] at hbj; cases hbj
    · obtain ⟨haj, hne⟩ := halt j e (.inr ⟨es, hbj⟩)
      rw [hget j e, List.getElem?_set_ne (Ne.symm hne)] at hbj
      obtain ⟨en, cl, h1, h2, h3⟩ := R.map j L' es hj' hbj
      have hnb := R.inj i j L L' hi hj' (Ne.symm hne) hwi haj
      exact ⟨en, cl, by rw [setRow_other _ _ _ _ (Ne.symm hnb)]; exact h1, h2, fun k e' x he hx => ⟨((h3 k e' x he hx).1).mono hle, ((h3 k e' x he hx).2).mono hle⟩⟩
  · intro j k Lj Lk hj hk hne hwj hak
    rcases hcases j Lj hj with ⟨rfl, rfl⟩ | ⟨ej, hj'⟩
    · rcases hcases k Lk hk with ⟨rfl, rfl⟩ | ⟨ek, hk'⟩
      · exact absurd rfl hne
      · obtain ⟨hak', hki⟩ := halt k ek hak
        exact R.inj i k L Lk hi hk' (Ne.symm hki) hwi hak'
    · obtain ⟨hwj', hji⟩ := hwlt j ej hwj
      rcases hcases k Lk hk with ⟨rfl, rfl⟩ | ⟨ek, hk'⟩
      · exact R.inj j i Lj L hj' hi hji hwj' hwi.alive
      · exact R.inj j k Lj Lk hj' hk' hne hwj' (halt k ek hak).1
  · intro j L' hj
    rcases hcases j L' hj with ⟨rfl, _⟩ | ⟨_, hj'⟩
    · exact .inr ⟨Nat.le_refl _, R.fresh⟩
    · exact .inl hj'
  · intro b hbl hn
    exact setRow_other _ _ _ _ (Ne.symm (hn i L hi hwi))
  · intro j L' hj hwj hlt'
    rcases hcases j L' hj with ⟨rfl, rfl⟩ | ⟨e, hj'⟩
    · exact ⟨i, L, hi, rfl, hwi.alive, fun _ => hwi⟩
    · exact ⟨j, L', hj', rfl, (halt j e hwj).1, fun x => (hwlt j e x).1⟩
  · intro b hbl hn
    exact setRow_other _ _ _ _ (Ne.symm (hn i L rfl hi))

/-! ### a list's stretch -/
def setSeg (l : List Value) (off : Nat) : List Value → List Value
  | [] => l
  | v :: vs => setSeg (l.set off v) (off + 1) vs
theorem setSeg_length : ∀ (vs : List Value) (l : List Value) (off : Nat), (setSeg l off vs).length = l.length
  | [], _, _ => rfl
  | v :: vs, l, off => by rw [setSeg, setSeg_length]; simp
theorem setSeg_get : ∀ (vs : List Value) (l : List Value) (off k : Nat), off + vs.length ≤ l.length →
    (setSeg l off vs)[k]? = if off ≤ k ∧ k < off + vs.length then vs[k - off]? else l[k]?
  | [], l, off, k, _ => by simp [setSeg]; intro h1 h2; omega
  | v :: vs, l, off, k, hl => by
    rw [setSeg, setSeg_get vs _ _ _ (by simp at hl ⊢; omega)]
    simp only [List.length_cons] at hl ⊢
    by_cases e : k = off
    · subst e
      rw [if_neg (by omega), if_pos (by omega)]
      simp [show k < l.length by omega]
    · by_cases h1 : off + 1 ≤ k ∧ k < off + 1 + vs.length
      · rw [if_pos h1, if_pos (by omega)]
        obtain ⟨m, hm⟩ : ∃ m, k - off = m + 1 := ⟨k - off - 1, by omega⟩
        rw [hm, List.getElem?_cons_succ]; congr 1; omega
      · rw [if_neg h1, if_neg (by omega), List.getElem?_set_ne (Ne.symm e)]

theorem seg_crel {l vs : List Value} {cs : Array Value} {cv : List Value} {off o : Nat} (hc : CRel ρ l cs o) (hfit : off + vs.length ≤ l.length) (hsz : o + l.length ≤ cs.size) (hlen : cv.length = vs.length)
    (hv : ∀ k, k < vs.length → VRel ρ (vs.getD k undef) (cv.getD k undef)) :
    CRel ρ (setSeg l off vs) (cs.toList.take (o + off) ++ cv ++ cs.toList.drop (o + off + cv.length)).toArray o := by
  intro k hk
  rw [setSeg_length] at hk
  have e1 : (setSeg l off vs).getD k undef = if off ≤ k ∧ k < off + vs.length then vs.getD (k - off) undef else l.getD k undef := by
    simp only [List.getD]
    rw [setSeg_get _ _ _ _ hfit]
    split <;> rfl
  have e2 : (cs.toList.take (o + off) ++ cv ++ cs.toList.drop (o + off + cv.length)).toArray.getD (o + k) undef = if off ≤ k ∧ k < off + vs.length then cv.getD (k - off) undef else cs.getD (o + k) undef := by
    simp only [Array.getD_eq_getD_getElem?, List.getElem?_toArray, List.getD]
    by_cases h1 : off ≤ k ∧ k < off + vs.length
    · rw [if_pos h1, List.getElem?_append_left (by simp; omega), List.getElem?_append_right (by simp; omega)]
      simp only [List.length_take, Array.length_toList]
      congr 2; omega
    · rw [if_neg h1]
      by_cases h2 : k < off
      · rw [List.getElem?_append_left (by simp; omega), List.getElem?_append_left (by simp; omega), List.getElem?_take, if_pos (by omega)]
        simp
      · rw [List.getElem?_append_right (by simp; omega), List.getElem?_drop]
        simp only [List.length_append, List.length_take, Array.length_toList]
        rw [show o + off + cv.length + (o + k - (min (o + off) cs.size + cv.length)) = o + k by omega]
        simp
  rw [e1, e2]
  split
  · rename_i hh; exact hv _ (by omega)
  · exact hc k hk

theorem oneCell_rel {v c : Value} (r : VRel ρ v c) : v.oneCell' = c.oneCell' := by cases r <;> rfl

/-! ### a store -/
def aStore (P : Program) (t : TypeId) (a x : Value) (h : Heap) : Option Heap :=
  match a with
  | .pointer (some ⟨i, off, none⟩) =>
    match h[i]?, szOf P t with
    | some (.arr ar), some n =>
      if ar.ro = false ∧ x.cells.size = n ∧ off + n ≤ ar.cells.length ∧ x.cells.all (·.oneCell') = true then
        some (h.set i (.arr { ar with cells := setSeg ar.cells off x.cells.toList }))
      else none
    | _, _ => none
  | _ => none

theorem cell_oneCell {a c : Array Value} (r : ARel ρ a c) (h : a.all (·.oneCell') = true) : ∀ v ∈ c.toList, v.oneCell' = true := by
  intro v hv
  obtain ⟨k, hk, rfl⟩ := List.mem_iff_getElem.mp hv
  have hk' : k < c.size := by simpa using hk
  have hka : k < a.size := by rw [r.1]; exact hk'
  have := r.2 k
  rw [getD_in hka, getD_in hk'] at this
  have e := oneCell_rel this
  have := Array.all_eq_true.mp h k hka
  simp only [Array.getElem_toList]
  rw [← e]; exact this

def ptrWr (s : Value) : Option Nat :=
  match s with
  | .pointer (some ⟨i, _, _⟩) => some i
  | _ => none

theorem aStore_sound {t : TypeId} {a x c cx : Value} (hl : aStore P t a x h = some h') (R : Rel h ρ w) (ha : VRel ρ a c) (hx : VRel ρ x cx) :
    ∃ w', (Instr.storeAt t c cx).run P w = .ok () w' ∧ Rel h' ρ w' ∧ Step h ρ w h' ρ w' ∧ Frm ρ w w' (ptrWr a) := by
  unfold aStore at hl
  split at hl
  · rename_i i off
    cases ha with
    | ptr hi =>
      rename_i L
      split at hl
      · rename_i ar n har hn
        split at hl
        · rename_i hg
          obtain ⟨hro, hsz, hfit, hone⟩ := hg
          cases hl
          obtain ⟨cs, ty, fr, hb, h2, h3, h4, h5, h6⟩ := R.arr i L ar hi har
          have hfr := h6 hro
          subst hfr
          have rc := cells_rel hx
          have hcl : cx.cells.toList.length = n := by simp [← rc.1, hsz]
          have hrun := run_storeCells_at P L.blk (L.off + off) ty cx.cells.toList 0 cs w hb (by rw [hcl]; omega) (cell_oneCell rc hone)
          have hcr : CRel ρ (setSeg ar.cells off x.cells.toList) (cs.toList.take (L.off + off) ++ cx.cells.toList ++ cs.toList.drop (L.off + off + cx.cells.toList.length)).toArray L.off := by
            refine seg_crel h5 (by simp [hsz, hfit]) (by omega) (by simp [rc.1]) ?_
            intro k hk
            have := rc.2 k
            simpa [Array.getD_eq_getD_getElem?, List.getD] using this
          obtain ⟨R', S', F'⟩ := R.setArr hi har hro hb (cs' := (cs.toList.take (L.off + off) ++ cx.cells.toList ++ cs.toList.drop (L.off + off + cx.cells.toList.length)).toArray)
            (by simp [hcl]; simp at hcl; omega) (setSeg_length _ _ _) hcr
          refine ⟨_, ?_, R', S', F'⟩
          have hne : ¬ (cx.cells.size ≠ n) := by simp at hcl; omega
          simp only [Instr.storeAt, Instr.sureAddr, Sem.run_bind, Sem.run_pure, Result.andThen_ok, storeVar, run_sizeOf hn, hne, if_false]
          simpa using hrun
        · cases hl
      · cases hl
  · cases hl

end Go.AM
