/-
  A region that draws its order, over the abstract memory: the theorem.
-/
import Derived.Test.YtgmgmkhenhaniaaAmO
set_option linter.unusedSimpArgs false
set_option linter.unusedVariables false
namespace Go.AM
variable {P : Program} {h h' : Heap} {ρ : Place} {w : World}

section
variable {ops : Array Oper} {T : Nat → Tmps} {H : Nat → Heap} {V : Nat → Value} {A : Nat → Bool}
variable {N : Nat} {ρ0 : Place} {w0 : World} {S : Nat → Prop} {g : Heap} {a : Act} {j : Nat} {o : Oper}

theorem Inv.free (I : Inv ops N T H V A ρ0 w0 S g ρ a w) (tr : Trace P ops T H V A 0) (hr : Ready ops S j o) {i : Nat} (h1 : (H j).length ≤ i) (h2 : i < (H (j + 1)).length) : ρ i = none := by
  have hj := lt_of_ops hr.here
  cases e : ρ i with
  | none => rfl
  | some L =>
    exfalso
    rcases I.dom i L e with h3 | ⟨q, hq, hS, h3, h4⟩
    · have := tr.len_mono (Nat.zero_le j) (by omega); omega
    · rcases Nat.lt_trichotomy q j with hlt | rfl | hgt
      · have := tr.len_mono (show q + 1 ≤ j by omega) (by omega); omega
      · exact hr.no hS
      · have := tr.len_mono (show j + 1 ≤ q by omega) (by omega); omega

/-- A new array has been made. -/
theorem Inv.made (I : Inv ops N T H V A ρ0 w0 S g ρ a w) (tr : Trace P ops T H V A 0) (hok : DrawOK ops N) (hr : Ready ops S j o) (ha : A j = true) (hk : kindOf o.op = .make)
    {s : Sem Value} (hraw : RawOp P s (H j) (V j) (H (j + 1)) (ρ.below (H j).length) w) :
    ∃ c w' g' ρ', s.run P w = .ok c w' ∧ Inv ops N T H V A ρ0 w0 (fun i => S i ∨ i = j) g' ρ' (a.put o.dst c) w' := by
  obtain ⟨mkv, cells, esz, cs, ty, c, hv, hh, hrun, hl, hcr, hvr⟩ := hraw
  have hj := lt_of_ops hr.here
  have hlen1 : (H (j + 1)).length = (H j).length + 1 := by rw [hh]; simp [newArr]
  have hnlt : (H j).length < g.length := by
    rw [I.glen]
    have := tr.len_mono (show j + 1 ≤ ops.size by omega) (Nat.le_refl _); omega
  have hfree := I.free tr hr (Nat.le_refl _) (by omega)
  have h0n := tr.len_mono (Nat.zero_le j) (by omega)
  obtain ⟨R', S', hle⟩ := I.rel.newAt I.stp hnlt hfree h0n (esz := esz) ty hl (fun k hk => (hcr k hk).mono (below_le _ _))
  have hna : ¬ (A j = true ∧ kindOf o.op = .act) := fun h => by rw [hk] at h; cases h.2
  have hdomc : ∀ i L, ρ.put (H j).length ⟨w.heap.size, 0, cs.size, esz⟩ i = some L → i = (H j).length ∨ (i ≠ (H j).length ∧ ρ i = some L) := by
    intro i L hi
    by_cases e : i = (H j).length
    · exact .inl e
    · rw [Place.put_ne _ _ e] at hi; exact .inr ⟨e, hi⟩
  have hne : ∀ i, i ≠ (H j).length → (g.set (H j).length (.arr ⟨cells, esz, false⟩))[i]? = g[i]? := fun i e => List.getElem?_set_ne (Ne.symm e)
  have hnew : (g.set (H j).length (.arr ⟨cells, esz, false⟩))[(H j).length]? = some (.arr ⟨cells, esz, false⟩) := by simp [hnlt]
  have htext : (H (j + 1))[(H j).length]? = some (.arr ⟨cells, esz, false⟩) := by rw [hh]; simp [newArr]
  have hother : ∀ (i : Nat) (p : Oper), ops[i]? = some p → S i → A i = true → kindOf p.op = .make → (H i).length ≠ (H j).length := by
    intro i p hp hS hai hki
    have hij : i ≠ j := fun e => hr.no (e ▸ hS)
    have hl' := step_val (by rw [hki]; simp) (tr.step i p (Nat.zero_le _) hp hai)
    obtain ⟨ar, e⟩ := make_len hki hl'
    have hi := lt_of_ops hp
    rcases Nat.lt_or_ge i j with hlt | hge
    · have := tr.len_mono (show i + 1 ≤ j by omega) (by omega)
      rw [e] at this; simp at this; omega
    · have := tr.len_mono (show j + 1 ≤ i by omega) (by omega); omega
  have hscn : ∀ b, (H (j + 1)).length ≤ b → Scoped ((ρ.put (H j).length ⟨w.heap.size, 0, cs.size, esz⟩).below b) (some (.arr ⟨cells, esz, false⟩)) := by
    intro b hb k hk
    exact ⟨_, (hcr k hk).mono (below_mono hle (by omega))⟩
  refine ⟨c, _, g.set (H j).length (.arr ⟨cells, esz, false⟩), ρ.put (H j).length ⟨w.heap.size, 0, cs.size, esz⟩, hrun, ?_⟩
  refine ⟨down_step I hr, bound_step I hr, R', by simpa using I.glen, ?_, ?_, ?_, ?_, ?_, ?_, ?_, S', (put_sz I _ _).1, (put_sz I _ _).2⟩
  · intro m hm hc i L hi hlt
    have hc' := con_step hr hna hc
    rcases hdomc i L hi with rfl | ⟨e, hi'⟩
    · rw [hnew, ← htext]
      have hjm : j < m := by
        rcases Nat.lt_or_ge j m with h1 | h1
        · exact h1
        · have := tr.len_mono h1 (by omega); omega
      have key : ∀ p, j + 1 ≤ p → p ≤ m → (H p)[(H j).length]? = (H (j + 1))[(H j).length]? := by
        intro p
        induction p with
        | zero => intro h; omega
        | succ p ih =>
          intro h1 h2
          by_cases e : p = j
          · rw [e]
          · rw [← ih (by omega) (by omega)]
            have hq : ops[p]? = some ops[p] := by simp
            have hgr := tr.grow hq
            have hplt : (H j).length < (H p).length := by
              have := tr.len_mono (show j + 1 ≤ p by omega) (by omega); omega
            by_cases hact : A p = true ∧ kindOf ops[p].op = .act
            · cases hcall : isCall ops[p].op with
              | true =>
                obtain ⟨new, e⟩ := tr.call p _ (Nat.zero_le _) hq hact.1 hcall
                rw [e, List.getElem?_append_left hplt]
              | false =>
                have hS : S p := (hc' p _ hq hact.1 hact.2).mpr (by omega)
                refine hgr.2.2.2.2.2 _ hplt ?_
                intro ht
                obtain ⟨L', hL'⟩ := I.tg p _ hq hS hact.1 hact.2 hcall _ ht
                rw [hfree] at hL'; cases hL'
            · exact hgr.2.1 hact _ hplt
      exact (key m (by omega) (Nat.le_refl _)).symm
    · rw [hne i e]; exact I.agr m hm hc' i L hi' hlt
  · intro i p hp hS hai hki m hm hc
    have hc' := con_step hr hna hc
    rcases hS with hS | rfl
    · rw [hne _ (hother i p hp hS hai hki)]; exact I.ear i p hp hS hai hki m hm hc'
    · rw [hnew, htext]
  · intro m hm hc i L hi hlt
    have hc' := con_step hr hna hc
    rcases hdomc i L hi with rfl | ⟨e, hi'⟩
    · rw [hnew]
      have hjm : j < m := by
        rcases Nat.lt_or_ge j m with h1 | h1
        · exact h1
        · have := tr.len_mono h1 (by omega); omega
      exact hscn _ (tr.len_mono (by omega) hm)
    · rw [hne i e]
      exact (I.sc m hm hc' i L hi' hlt).mono (below_mono hle (Nat.le_refl _))
  · intro i p hp hS hai hki m hm hc
    have hc' := con_step hr hna hc
    rcases hS with hS | rfl
    · rw [hne _ (hother i p hp hS hai hki)]
      exact (I.scN i p hp hS hai hki m hm hc').mono (below_mono hle (Nat.le_refl _))
    · rw [hnew]; exact hscn _ (Nat.le_refl _)
  · refine I.vals_step tr hok hr hle ?_
    rw [hv]
    exact hvr _ _ (below_of (by omega) (Place.put_same _ _ _))
  · intro i L hi
    rcases hdomc i L hi with rfl | ⟨e, hi'⟩
    · exact .inr ⟨j, hj, .inr rfl, Nat.le_refl _, by omega⟩
    · rcases I.dom i L hi' with h1 | ⟨q, h1, h2, h3⟩
      · exact .inl h1
      · exact .inr ⟨q, h1, .inl h2, h3⟩
  · intro i p hp hS hai hki hnc x hx
    rcases hS with hS | rfl
    · obtain ⟨L, hL⟩ := I.tg i p hp hS hai hki hnc x hx
      exact ⟨L, hle _ _ hL⟩
    · rw [hr.here] at hp; cases hp; exact absurd ⟨hai, hki⟩ hna

/-- What an action meets. -/
theorem Inv.at_act (I : Inv ops N T H V A ρ0 w0 S g ρ a w) (tr : Trace P ops T H V A 0) (hok : DrawOK ops N) (hr : Ready ops S j o) (hk : kindOf o.op = .act) :
    Rel (H j) (ρ.below (H j).length) w :=
  have hj := lt_of_ops hr.here
  have hc := hr.con (A := A) hok I.down hk
  I.rel.restrict fun i L hi hlt => ⟨I.agr j (by omega) hc i L hi hlt, I.sc j (by omega) hc i L hi hlt⟩

/-- An action has been. -/
theorem Inv.acted (I : Inv ops N T H V A ρ0 w0 S g ρ a w) (tr : Trace P ops T H V A 0) (hok : DrawOK ops N) (hr : Ready ops S j o) (ha : A j = true) (hk : kindOf o.op = .act)
    {ρ' : Place} {w' : World} {c : Value} (R' : Rel (H (j + 1)) ρ' w') (S' : Step (H j) (ρ.below (H j).length) w (H (j + 1)) ρ' w') (hv : VRel ρ' (V j) c) :
    ∃ g' ρ2, Inv ops N T H V A ρ0 w0 (fun i => S i ∨ i = j) g' ρ2 (a.put o.dst c) w' := by
  have hj := lt_of_ops hr.here
  have hcj := hr.con (A := A) hok I.down hk
  have hlen : (H (j + 1)).length ≤ g.length := by rw [I.glen]; exact tr.len_mono (by omega) (Nat.le_refl _)
  obtain ⟨ρ2, R2, S2, l1, l2, hc2⟩ := I.rel.merge I.stp (fun i L hi hlt => I.agr j (by omega) hcj i L hi hlt) R' S' hlen (tr.len_mono (Nat.zero_le j) (by omega)) (fun i h1 h2 => I.free tr hr h1 h2)
  have g1 : ∀ i, i < (H (j + 1)).length → (H (j + 1) ++ g.drop (H (j + 1)).length)[i]? = (H (j + 1))[i]? := fun i hi => List.getElem?_append_left hi
  have g2 : ∀ i, (H (j + 1)).length ≤ i → (H (j + 1) ++ g.drop (H (j + 1)).length)[i]? = g[i]? := by
    intro i hi
    rw [List.getElem?_append_right hi, List.getElem?_drop]; congr 1; omega
  have hmj : ∀ m, Con ops A (fun i => S i ∨ i = j) m → j < m := fun m hc => (hc j o hr.here ha hk).mp (.inr rfl)
  have hquiet : ∀ m, m ≤ ops.size → Con ops A (fun i => S i ∨ i = j) m → ∀ q, j + 1 ≤ q → q ≤ m → ∀ i, i < (H q).length → (H m)[i]? = (H q)[i]? := by
    intro m hm hc q hq hqm
    refine tr.quiet hqm hm ?_
    rintro p x hp hpm hx ⟨hap, hkp⟩
    have h1 := (hc p x hx hap hkp).mpr hpm
    have hS : S p := h1.resolve_right (by omega)
    have := (hcj p x hx hap hkp).mp hS
    omega
  have hearly : ∀ i L, (H (j + 1)).length ≤ i → ρ i = some L → ∃ (q : Nat) (p : Oper), ops[q]? = some p ∧ S q ∧ A q = true ∧ kindOf p.op = .make ∧ j ≤ q ∧ i = (H q).length ∧ i < (H (q + 1)).length :=
    fun i L hge hi => I.early tr (by omega) hcj hi (by have := tr.len_mono (show j ≤ j + 1 by omega) (by omega); omega)
  refine ⟨H (j + 1) ++ g.drop (H (j + 1)).length, ρ2, down_step I hr, bound_step I hr, R2, by simp; rw [← I.glen]; omega, ?_, ?_, ?_, ?_, ?_, ?_, ?_, S2, (put_sz I _ _).1, (put_sz I _ _).2⟩
  · intro m hm hc i L hi hlt
    have hjm := hmj m hc
    rcases hc2 i L hi with ⟨h1, _⟩ | ⟨h1, h2⟩
    · rw [g1 i h1]
      exact (hquiet m hm hc (j + 1) (Nat.le_refl _) (by omega) i h1).symm
    · rw [g2 i h1]
      obtain ⟨q, p, hp, hS, haq, hkq, hjq, e, hlt'⟩ := hearly i L h1 h2
      have h3 := I.ear q p hp hS haq hkq j hjq hcj
      rw [← e] at h3
      rw [h3]
      have hqm : q < m := by
        rcases Nat.lt_or_ge q m with h4 | h4
        · exact h4
        · have := tr.len_mono h4 (by have := lt_of_ops hp; omega); omega
      have hqj : q ≠ j := fun e => hr.no (e ▸ hS)
      exact (hquiet m hm hc (q + 1) (by omega) (by omega) i hlt').symm
  · intro i p hp hS hai hki m hm hc
    have hjm := hmj m hc
    rcases hS with hS | rfl
    · rw [g2 _ (tr.len_mono (show j + 1 ≤ i by omega) (by have := lt_of_ops hp; omega))]
      exact I.ear i p hp hS hai hki j (by omega) hcj
    · rw [hr.here] at hp; cases hp; rw [hk] at hki; cases hki
  · intro m hm hc i L hi hlt
    have hjm := hmj m hc
    rcases hc2 i L hi with ⟨h1, h2⟩ | ⟨h1, h2⟩
    · rw [g1 i h1]
      refine (R'.inScope h2).mono ?_
      intro x Lx hx
      exact below_of (Nat.lt_of_lt_of_le (R'.dom _ _ hx) (tr.len_mono (by omega) hm)) (l2 _ _ hx)
    · rw [g2 i h1]
      obtain ⟨q, p, hp, hS, haq, hkq, hjq, e, hlt'⟩ := hearly i L h1 h2
      have h3 := I.scN q p hp hS haq hkq j hjq hcj
      rw [← e] at h3
      have hqm : q < m := by
        rcases Nat.lt_or_ge q m with h4 | h4
        · exact h4
        · have := tr.len_mono h4 (by have := lt_of_ops hp; omega); omega
      exact h3.mono (below_mono l1 (tr.len_mono (by omega) hm))
  · intro i p hp hS hai hki m hm hc
    have hjm := hmj m hc
    rcases hS with hS | rfl
    · rw [g2 _ (tr.len_mono (show j + 1 ≤ i by omega) (by have := lt_of_ops hp; omega))]
      exact (I.scN i p hp hS hai hki j (by omega) hcj).mono (below_mono l1 (Nat.le_refl _))
    · rw [hr.here] at hp; cases hp; rw [hk] at hki; cases hki
  · refine I.vals_step tr hok hr l1 (hv.mono ?_)
    intro x Lx hx
    exact below_of (R'.dom _ _ hx) (l2 _ _ hx)
  · intro i L hi
    have hold : ρ i = some L → i < (H 0).length ∨ ∃ q, q < ops.size ∧ (S q ∨ q = j) ∧ (H q).length ≤ i ∧ i < (H (q + 1)).length := by
      intro h2
      rcases I.dom i L h2 with h3 | ⟨q, h3, h4, h5⟩
      · exact .inl h3
      · exact .inr ⟨q, h3, .inl h4, h5⟩
    rcases hc2 i L hi with ⟨h1, h2⟩ | ⟨_, h2⟩
    · rcases S'.new i L h2 with h3 | ⟨h3, _⟩
      · exact hold (below_some h3).2
      · exact .inr ⟨j, hj, .inr rfl, h3, h1⟩
    · exact hold h2
  · intro i p hp hS hai hki hnc x hx
    rcases hS with hS | rfl
    · obtain ⟨L, hL⟩ := I.tg i p hp hS hai hki hnc x hx
      exact ⟨L, l1 _ _ hL⟩
    · rw [hr.here] at hp; cases hp
      obtain ⟨L, hL⟩ := tgt_dom (I.operands hok hr).1 hx
      exact ⟨L, l1 _ _ (below_some hL).2⟩

/-- At the end. -/
theorem Inv.ended (I : Inv ops N T H V A ρ0 w0 S g ρ a w) (hall : ∀ i, i < ops.size → S i) :
    TRel (ρ.below (H ops.size).length) N (T ops.size) a ∧ Rel (H ops.size) (ρ.below (H ops.size).length) w ∧ Step (H 0) ρ0 w0 (H ops.size) (ρ.below (H ops.size).length) w := by
  have hc : Con ops A S ops.size := fun i p hp _ _ => ⟨fun _ => lt_of_ops hp, fun h => hall i h⟩
  have he : ρ.below (H ops.size).length = ρ := by
    funext i
    unfold Place.below
    split
    · rfl
    · rename_i h1
      cases e : ρ i with
      | none => rfl
      | some L => have := I.rel.dom _ _ e; rw [I.glen] at this; exact absurd this h1
  have R := I.rel.restrict (h := H ops.size) fun i L hi hlt => ⟨I.agr _ (Nat.le_refl _) hc i L hi hlt, I.sc _ (Nat.le_refl _) hc i L hi hlt⟩
  refine ⟨⟨I.asz, I.adef, fun k hk => I.vals k hk _ (Nat.le_refl _) fun i p hp _ => ⟨fun _ => lt_of_ops hp, fun h => hall i h⟩⟩, R, ?_⟩
  rw [he]
  have heq : ∀ i L, ρ i = some L → g[i]? = (H ops.size)[i]? := fun i L hi => I.agr _ (Nat.le_refl _) hc i L hi (by rw [← I.glen]; exact I.rel.dom _ _ hi)
  have s := I.stp
  exact ⟨s.ext, s.new, by rw [← I.glen]; exact s.len, s.os, s.tape, s.output, s.size, s.drawn, s.keep, fun i L hi ha hlt => by
    obtain ⟨i0, L0, r0, e0, a0, w0'⟩ := s.old i L hi ((alive_eq (heq i L hi)).mpr ha) hlt
    exact ⟨i0, L0, r0, e0, a0, fun x => w0' ((writable_eq (heq i L hi)).mpr x)⟩⟩

end

end Go.AM
