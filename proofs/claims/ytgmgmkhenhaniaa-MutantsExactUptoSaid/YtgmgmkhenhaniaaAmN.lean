/-
  A region that draws its order, over the abstract memory: the theorem.
-/
import Derived.Test.YtgmgmkhenhaniaaAmM
set_option linter.unusedSimpArgs false
set_option linter.unusedVariables false
namespace Go.AM
variable {P : Program} {h h' : Heap} {ρ : Place} {w : World}

theorem anc_lt_fold (l : List Oper) : ∀ (acc : List (List Nat)), (∀ i, i < acc.length → ∀ j ∈ acc.getD i [], j < i) →
    (∀ (k : Nat) (o : Oper), l[k]? = some o → ∀ e ∈ o.after.toList, Region.binds .any e = true → e.on < acc.length + k) →
    ∀ i, i < acc.length + l.length → ∀ j ∈ (l.foldl ancStep acc).getD i [], j < i := by
  induction l with
  | nil => intro acc h1 _ i hi; exact h1 i (by simpa using hi)
  | cons o l ih =>
    intro acc h1 h2 i hi j hj
    have hl : (ancStep acc o).length = acc.length + 1 := by simp [ancStep]
    refine ih (ancStep acc o) ?_ ?_ i (by simp at hi; omega) j hj
    · intro i hi j hj
      by_cases hlt : i < acc.length
      · refine h1 i hlt j ?_
        simp only [ancStep, List.getD] at hj
        rwa [List.getElem?_append_left hlt] at hj
      · obtain rfl : i = acc.length := by omega
        simp only [ancStep, List.getD] at hj
        rw [List.getElem?_append_right (Nat.le_refl _)] at hj
        simp at hj
        obtain ⟨e, ⟨he1, he2⟩, hj⟩ := hj
        have hSe : e.on < acc.length := by have := h2 0 o (by simp) e (by simpa using he1) he2; omega
        rcases hj with rfl | hj
        · exact hSe
        · have := h1 e.on hSe j (by simpa [List.getD] using hj)
          omega
    · intro k o' hk e he hb
      have := h2 (k + 1) o' (by simpa using hk) e he hb
      omega

theorem anc_lt {ops : Array Oper} {N : Nat} (hok : DrawOK ops N) {i j : Nat} (hj : j ∈ ancOf ops i) : j < i := by
  have hlt : i < ops.size := by
    rcases Nat.lt_or_ge i ops.size with h | h
    · exact h
    · unfold ancOf ancs at hj
      have := (ancs_fold ops.toList []).1
      simp only [List.getD] at hj
      rw [List.getElem?_eq_none (by rw [this]; simpa using h)] at hj
      simp at hj
  refine anc_lt_fold ops.toList [] (fun i hi => by simp at hi) ?_ i (by simpa using hlt) j hj
  intro k o hk e he hb
  have := hok.edge k o (by simpa using hk) e he hb
  simpa using this

section
variable {ops : Array Oper} {T : Nat → Tmps} {H : Nat → Heap} {V : Nat → Value} {A : Nat → Bool}

/-- The actions that have been are those ahead of m. -/
def Con (ops : Array Oper) (A : Nat → Bool) (S : Nat → Prop) (m : Nat) : Prop :=
  ∀ (i : Nat) (o : Oper), ops[i]? = some o → A i = true → kindOf o.op = .act → (S i ↔ i < m)

structure Inv (ops : Array Oper) (N : Nat) (T : Nat → Tmps) (H : Nat → Heap) (V : Nat → Value) (A : Nat → Bool) (ρ0 : Place) (w0 : World)
    (S : Nat → Prop) (g : Heap) (ρ : Place) (a : Act) (w : World) : Prop where
  down : Down ops S
  bound : ∀ i, S i → i < ops.size
  rel : Rel g ρ w
  glen : g.length = (H ops.size).length
  agr : ∀ m, m ≤ ops.size → Con ops A S m → ∀ i L, ρ i = some L → i < (H m).length → g[i]? = (H m)[i]?
  ear : ∀ (j : Nat) (o : Oper), ops[j]? = some o → S j → A j = true → kindOf o.op = .make → ∀ m, m ≤ j → Con ops A S m → g[(H j).length]? = (H (j + 1))[(H j).length]?
  sc : ∀ m, m ≤ ops.size → Con ops A S m → ∀ i L, ρ i = some L → i < (H m).length → Scoped (ρ.below (H m).length) g[i]?
  scN : ∀ (j : Nat) (o : Oper), ops[j]? = some o → S j → A j = true → kindOf o.op = .make → ∀ m, m ≤ j → Con ops A S m → Scoped (ρ.below (H (j + 1)).length) g[(H j).length]?
  vals : ∀ k, k < N → ∀ m, m ≤ ops.size → (∀ (i : Nat) (o : Oper), ops[i]? = some o → o.dst = some k → (S i ↔ i < m)) → VRel (ρ.below (H m).length) (T m k) (a.tmps.getD k undef)
  dom : ∀ i L, ρ i = some L → i < (H 0).length ∨ ∃ j, j < ops.size ∧ S j ∧ (H j).length ≤ i ∧ i < (H (j + 1)).length
  tg : ∀ (i : Nat) (o : Oper), ops[i]? = some o → S i → A i = true → kindOf o.op = .act → isCall o.op = false → ∀ x, tgt (T i) o.op = some x → (∃ L, ρ x = some L)
  stp : Step (H 0) ρ0 w0 g ρ w
  asz : a.tmps.size = N
  adef : a.defers = []

theorem lt_of_ops {i : Nat} {o : Oper} (ho : ops[i]? = some o) : i < ops.size := (Array.getElem?_eq_some_iff.mp ho).1

/-- What a place of the region knows of itself when its turn has come. -/
structure Ready (ops : Array Oper) (S : Nat → Prop) (j : Nat) (o : Oper) : Prop where
  here : ops[j]? = some o
  no : ¬ S j
  edges : ∀ e ∈ o.after.toList, Region.binds .any e = true → S e.on

variable {N : Nat} {ρ0 : Place} {w0 : World} {S : Nat → Prop} {g : Heap} {a : Act} {j : Nat} {o : Oper}

theorem Ready.anc (hok : DrawOK ops N) (hd : Down ops S) (hr : Ready ops S j o) {i : Nat} (hi : i ∈ ancOf ops j) : S i := by
  have hd' : Down ops (fun i => S i ∨ i = j) := by
    intro i p hp hS e he hb
    rcases hS with hS | rfl
    · exact .inl (hd i p hp hS e he hb)
    · rw [hr.here] at hp; cases hp
      exact .inl (hr.edges e he hb)
  rcases hd'.anc (Or.inr rfl) hi with h1 | rfl
  · exact h1
  · exact absurd (anc_lt hok hi) (by omega)

/-- Of two that are not ordered, of which the later one has been. -/
theorem Ready.not_anc (hd : Down ops S) (hr : Ready ops S j o) {i : Nat} (hi : S i) : j ∉ ancOf ops i := fun h => hr.no (hd.anc hi h)

/-- Who writes what this one looks at has been exactly if it stands ahead. -/
theorem Ready.writers (hok : DrawOK ops N) (hd : Down ops S) (hr : Ready ops S j o) {k : Nat} (hk : k ∈ touched ops o) :
    ∀ (i : Nat) (p : Oper), ops[i]? = some p → p.dst = some k → (S i ↔ i < j) := by
  intro i p hp hdst
  rcases Nat.lt_trichotomy i j with hlt | rfl | hgt
  · refine ⟨fun _ => hlt, fun _ => ?_⟩
    apply Classical.byContradiction
    intro hn
    have hna : i ∉ ancOf ops j := fun h => hn (hr.anc hok hd h)
    exact (hok.pair i j p o hlt hp hr.here hna).1 k hdst hk
  · exact ⟨fun h => absurd h hr.no, fun h => absurd h (by omega)⟩
  · refine ⟨fun hS => ?_, fun h => by omega⟩
    have hna := hr.not_anc hd hS
    exact absurd hk ((hok.pair j i o p hgt hr.here hp hna).2.1 k hdst)

theorem Ready.con (hok : DrawOK ops N) (hd : Down ops S) (hr : Ready ops S j o) (hact : kindOf o.op = .act) : Con ops A S j := by
  intro i p hp ha hk
  rcases Nat.lt_trichotomy i j with hlt | rfl | hgt
  · refine ⟨fun _ => hlt, fun _ => ?_⟩
    apply Classical.byContradiction
    intro hn
    have hna : i ∉ ancOf ops j := fun h => hn (hr.anc hok hd h)
    exact (hok.pair i j p o hlt hp hr.here hna).2.2.1 ⟨hk, hact⟩
  · exact ⟨fun h => absurd h hr.no, fun h => absurd h (by omega)⟩
  · refine ⟨fun hS => ?_, fun h => by omega⟩
    have hna := hr.not_anc hd hS
    exact absurd ⟨hact, hk⟩ (hok.pair j i o p hgt hr.here hp hna).2.2.1

/-- The operands, as they stand where the text has them. -/
theorem Inv.operands (I : Inv ops N T H V A ρ0 w0 S g ρ a w) (hok : DrawOK ops N) (hr : Ready ops S j o) :
    (∀ x ∈ o.op.operands, VRel (ρ.below (H j).length) (ev (T j) x) (a.eval x)) ∧
    (∀ gd z, o.guard = some (gd, z) → yielded ops a.tmps gd = yieldedA ops (T j) gd) := by
  have hj := lt_of_ops hr.here
  have ho := hok.oper j o hr.here
  simp only [operOK, Bool.and_eq_true] at ho
  have hv : ∀ k, k < N → k ∈ touched ops o → VRel (ρ.below (H j).length) (T j k) (a.tmps.getD k undef) := fun k hk ht =>
    I.vals k hk j (by omega) (hr.writers hok I.down ht)
  refine ⟨fun x hx => ?_, fun gd z hg => ?_⟩
  · have h1 := Array.all_eq_true.mp ho.1.1
    obtain ⟨i, hi, rfl⟩ := Array.mem_iff_getElem.mp hx
    have h2 := h1 i hi
    generalize he : o.op.operands[i] = x at h2 hx
    cases x with
    | tmp k =>
      have hk : k < N := by simpa [opOK] using h2
      refine hv k hk ?_
      simp only [touched, Oper.looksAt, List.mem_append]
      left; left
      refine List.mem_filterMap.mpr ⟨.tmp k, by simpa using hx, rfl⟩
    | const v => exact constV_rel h2
    | global _ => simp [opOK] at h2
    | func f => exact .func f rfl (fun _ => by simp [Array.getD]; exact VRel.undef' _) rfl (fun _ => by simp [Array.getD]; exact VRel.undef' _)
  · refine yielded_eq (ρ := ρ.below (H j).length) (N := N) ?_
    intro d hd
    have h3 := ho.2
    simp only [hg, hd] at h3
    have h3' : d < N := by simpa using h3
    refine ⟨hv d h3' ?_, by rw [I.asz]; exact h3'⟩
    simp only [touched, Oper.looksAt, List.mem_append, hg, hd]
    left; right; simp

/-- The slots, when one more has been. -/
theorem Inv.vals_step (I : Inv ops N T H V A ρ0 w0 S g ρ a w) (tr : Trace P ops T H V A 0) (hok : DrawOK ops N) (hr : Ready ops S j o) {ρ' : Place} (hle : Le ρ ρ') {c : Value}
    (hv : VRel (ρ'.below (H (j + 1)).length) (V j) c) :
    ∀ k, k < N → ∀ m, m ≤ ops.size → (∀ (i : Nat) (p : Oper), ops[i]? = some p → p.dst = some k → ((S i ∨ i = j) ↔ i < m)) →
      VRel (ρ'.below (H m).length) (T m k) ((a.put o.dst c).tmps.getD k undef) := by
  intro k hk m hm hw
  by_cases hd : o.dst = some k
  · have hjm : j < m := (hw j o hr.here hd).mp (.inr rfl)
    have e1 : (a.put o.dst c).tmps.getD k undef = c := by
      rw [hd]
      simp only [Act.put, Array.getD_eq_getD_getElem?]
      rw [Array.getElem?_setIfInBounds, if_pos rfl, if_pos (by rw [I.asz]; exact hk)]; rfl
    have e2 : ∀ q, j + 1 ≤ q → q ≤ m → T q k = V j := by
      intro q
      induction q with
      | zero => intro h; omega
      | succ q ih =>
        intro h1 h2
        by_cases e : q = j
        · subst e
          rw [tr.next q o (Nat.zero_le _) hr.here, hd]
          simp [updO, upd]
        · have hq : ops[q]? = some ops[q] := by simp
          rw [tr.next q _ (Nat.zero_le _) hq]
          have hne : ops[q].dst ≠ some k := by
            intro hdq
            rcases (hw q _ hq hdq).mpr (by omega) with hS | hS
            · have hna := hr.not_anc I.down hS
              have := (hok.pair j q o _ (by omega) hr.here hq hna).1 k hd
              apply this
              simp [touched, hdq]
            · omega
          have : updO (T q) ops[q].dst (V q) k = T q k := by
            generalize hdq : ops[q].dst = dq at hne
            cases dq with
            | none => rfl
            | some d =>
              simp only [updO, upd]
              rw [if_neg (fun e => hne (by rw [e]))]
          rw [this]
          exact ih (by omega) (by omega)
    rw [e1, e2 m (by omega) (Nat.le_refl _)]
    exact hv.mono (below_mono (Le.refl _) (tr.len_mono (by omega) hm))
  · have e1 : (a.put o.dst c).tmps.getD k undef = a.tmps.getD k undef := by
      cases hdst : o.dst with
      | none => rfl
      | some d =>
        simp only [Act.put, Array.getD_eq_getD_getElem?]
        rw [Array.getElem?_setIfInBounds, if_neg (fun e => hd (by rw [hdst, e]))]
    rw [e1]
    refine (I.vals k hk m hm ?_).mono (below_mono hle (Nat.le_refl _))
    intro i p hp hdst
    have hij : i ≠ j := by rintro rfl; rw [hr.here] at hp; cases hp; exact hd hdst
    have := hw i p hp hdst
    simpa [hij] using this

theorem down_step (I : Inv ops N T H V A ρ0 w0 S g ρ a w) (hr : Ready ops S j o) : Down ops (fun i => S i ∨ i = j) := by
  intro i p hp hS e he hb
  rcases hS with hS | rfl
  · exact .inl (I.down i p hp hS e he hb)
  · rw [hr.here] at hp; cases hp; exact .inl (hr.edges e he hb)
theorem bound_step (I : Inv ops N T H V A ρ0 w0 S g ρ a w) (hr : Ready ops S j o) : ∀ i, (S i ∨ i = j) → i < ops.size := by
  rintro i (hS | rfl)
  · exact I.bound i hS
  · exact lt_of_ops hr.here
theorem con_step (hr : Ready ops S j o) (hn : ¬ (A j = true ∧ kindOf o.op = .act)) {m : Nat} (hc : Con ops A (fun i => S i ∨ i = j) m) : Con ops A S m := by
  intro i p hp ha hk
  have hij : i ≠ j := by rintro rfl; rw [hr.here] at hp; cases hp; exact hn ⟨ha, hk⟩
  have := hc i p hp ha hk
  simpa [hij] using this
theorem put_sz (I : Inv ops N T H V A ρ0 w0 S g ρ a w) (d : Option Nat) (c : Value) : (a.put d c).tmps.size = N ∧ (a.put d c).defers = [] := by
  cases d <;> simp [Act.put, I.asz, I.adef]

/-- One more has been, and nothing has turned but a slot. -/
theorem Inv.still (I : Inv ops N T H V A ρ0 w0 S g ρ a w) (tr : Trace P ops T H V A 0) (hok : DrawOK ops N) (hr : Ready ops S j o) (hn : ¬ (A j = true ∧ (kindOf o.op = .act ∨ kindOf o.op = .make)))
    {w' : World} (R' : Rel g ρ w') (S' : Step (H 0) ρ0 w0 g ρ w') {c : Value} (hv : VRel (ρ.below (H (j + 1)).length) (V j) c) :
    Inv ops N T H V A ρ0 w0 (fun i => S i ∨ i = j) g ρ (a.put o.dst c) w' where
  down := down_step I hr
  bound := bound_step I hr
  rel := R'
  glen := I.glen
  agr m hm hc := I.agr m hm (con_step hr (fun h => hn ⟨h.1, .inl h.2⟩) hc)
  ear i p hp hS ha hk m hm hc := by
    rcases hS with hS | rfl
    · exact I.ear i p hp hS ha hk m hm (con_step hr (fun h => hn ⟨h.1, .inl h.2⟩) hc)
    · rw [hr.here] at hp; cases hp; exact absurd ⟨ha, .inr hk⟩ hn
  sc m hm hc := I.sc m hm (con_step hr (fun h => hn ⟨h.1, .inl h.2⟩) hc)
  scN i p hp hS ha hk m hm hc := by
    rcases hS with hS | rfl
    · exact I.scN i p hp hS ha hk m hm (con_step hr (fun h => hn ⟨h.1, .inl h.2⟩) hc)
    · rw [hr.here] at hp; cases hp; exact absurd ⟨ha, .inr hk⟩ hn
  vals := I.vals_step tr hok hr (Le.refl _) hv
  dom i L hi := by
    rcases I.dom i L hi with h1 | ⟨q, h1, h2, h3⟩
    · exact .inl h1
    · exact .inr ⟨q, h1, .inl h2, h3⟩
  tg i p hp hS ha hk hnc x hx := by
    rcases hS with hS | rfl
    · exact I.tg i p hp hS ha hk hnc x hx
    · rw [hr.here] at hp; cases hp; exact absurd ⟨ha, .inl hk⟩ hn
  stp := S'
  asz := (put_sz I _ _).1
  adef := (put_sz I _ _).2

end

end Go.AM
