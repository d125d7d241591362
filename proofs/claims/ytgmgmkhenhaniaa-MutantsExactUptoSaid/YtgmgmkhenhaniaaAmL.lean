/-
  A region that draws its order, over the abstract memory: what a trace's heaps have in common.
-/
import Derived.Test.YtgmgmkhenhaniaaAmK
set_option linter.unusedSimpArgs false
set_option linter.unusedVariables false
namespace Go.AM
variable {P : Program} {h h' : Heap} {ρ : Place} {w : World}

theorem make_len {t : Tmps} {op : Op} {v : Value} (hk : kindOf op = .make) (hl : opVal P t op h = some (v, h')) : ∃ a, h' = h ++ [.arr a] := by
  cases op <;> simp only [kindOf] at hk <;> try cases hk
  case alloc e =>
    simp only [opVal, aAlloc] at hl
    split at hl
    · split at hl
      · cases hl; exact ⟨_, rfl⟩
      · cases hl
    · cases hl
  case box e x => simp only [opVal, aBox] at hl; cases hl; exact ⟨_, rfl⟩
  case buildSlice ty n ps =>
    simp only [opVal, aBuildSlice] at hl
    split at hl
    · split at hl
      · split at hl
        · split at hl
          · split at hl
            · cases hl; exact ⟨_, rfl⟩
            · cases hl
          · cases hl
        · cases hl
      · cases hl
    · cases hl
  case makeSlice ty l c =>
    simp only [opVal, aMakeSlice] at hl
    split at hl
    · split at hl
      · split at hl
        · cases hl; exact ⟨_, rfl⟩
        · cases hl
      · cases hl
    · cases hl
  all_goals split at hk <;> cases hk

theorem append_more {sT xT : TypeId} {s x v : Value} (hl : aAppend P sT xT s x h = some (v, h')) : ∀ i, i < h.length → h'[i]? = h[i]? ∨ (h'[i]? = some .dead ∧ ∃ a, h[i]? = some (.arr a)) := by
  unfold aAppend at hl
  split at hl
  rotate_left
  · cases hl
  split at hl
  rotate_left
  · cases hl
  split at hl
  rotate_left
  · cases hl
  split at hl
  rotate_left
  · cases hl
  split at hl
  · cases hl; exact fun _ _ => .inl rfl
  split at hl
  rotate_left
  · cases hl
  split at hl
  rotate_left
  · cases hl
  have hnew : ∀ (g : Heap) (cells : List Value) (esz : Nat), h.length = g.length → ∀ i, i < h.length → (newArr g cells esz)[i]? = g[i]? := by
    intro g cells esz hg i hi
    unfold newArr; rw [List.getElem?_append_left (by omega)]
  split at hl
  · cases hl
    exact fun i hi => .inl (hnew h _ _ rfl i hi)
  · split at hl
    · cases hl
      exact fun i hi => .inl (hnew h _ _ rfl i hi)
    · split at hl
      · rename_i ar har
        split at hl
        · cases hl
          intro i hi
          rw [hnew (h.set _ .dead) _ _ (by simp) i hi]
          rw [List.getElem?_set]
          split
          · rename_i e; subst e; rw [if_pos hi]; exact .inr ⟨rfl, ar, har⟩
          · exact .inl rfl
        · cases hl
      · cases hl
  · cases hl

/-- What is forgotten stays forgotten; an append forgets, and changes nothing else. -/
theorem act_more {t : Tmps} {op : Op} {v : Value} (hk : kindOf op = .act) (hl : opVal P t op h = some (v, h')) :
    ∀ i, i < h.length → (h[i]? = some .dead → h'[i]? = some .dead) ∧ (isW op = false → h'[i]? = h[i]? ∨ h'[i]? = some .dead) := by
  intro i hi
  cases op <;> simp only [kindOf] at hk <;> try cases hk
  case store ty a x =>
    simp only [opVal] at hl
    obtain ⟨a', ha, e⟩ := map_eq hl; cases e
    unfold aStore at ha
    split at ha
    · rename_i i0 off hx
      split at ha
      · rename_i ar n har hn
        split at ha
        · cases ha
          refine ⟨fun hd => ?_, fun hw => by simp [isW] at hw⟩
          have hne : i0 ≠ i := by rintro rfl; rw [har] at hd; cases hd
          rw [List.getElem?_set_ne hne]; exact hd
        · cases ha
      · cases ha
    · cases ha
  case makeMap ty r =>
    cases r with
    | none =>
      simp only [opVal] at hl
      cases hl
      have : (newMap h)[i]? = h[i]? := by unfold newMap; rw [List.getElem?_append_left hi]
      exact ⟨fun hd => by rw [this]; exact hd, fun _ => .inl this⟩
    | some _ => cases hl
  case mapUpdate ty m k x =>
    refine ⟨fun hd => ?_, fun hw => by simp [isW] at hw⟩
    simp only [opVal] at hl
    obtain ⟨a', ha, e⟩ := map_eq hl; cases e
    unfold aMapUpd at ha
    split at ha
    rotate_left
    · cases ha
    split at ha
    rotate_left
    · cases ha
    rename_i kt et i0 hu hx _ es hes
    split at ha
    rotate_left
    · cases ha
    have hne : i0 ≠ i := by rintro rfl; rw [hes] at hd; cases hd
    split at ha <;> cases ha <;> (rw [List.getElem?_set_ne hne]; exact hd)
  case insert ty m k x =>
    refine ⟨fun hd => ?_, fun hw => by simp [isW] at hw⟩
    simp only [opVal] at hl
    obtain ⟨a', ha, e⟩ := map_eq hl; cases e
    unfold aMapUpd at ha
    split at ha
    rotate_left
    · cases ha
    split at ha
    rotate_left
    · cases ha
    rename_i kt et i0 hu hx _ es hes
    split at ha
    rotate_left
    · cases ha
    have hne : i0 ≠ i := by rintro rfl; rw [hes] at hd; cases hd
    split at ha <;> cases ha <;> (rw [List.getElem?_set_ne hne]; exact hd)
  case call c =>
    simp only [opVal, callVal] at hl
    split at hl
    · rename_i b hb
      unfold bVal at hl
      cases b <;> simp only at hl <;> try cases hl
      case append =>
        split at hl
        · have := append_more hl i hi
          refine ⟨fun hd => ?_, fun _ => ?_⟩
          · rcases this with h1 | ⟨h1, _⟩
            · rw [h1]; exact hd
            · exact h1
          · rcases this with h1 | ⟨h1, _⟩
            · exact .inl h1
            · exact .inr h1
        · cases hl
      case copy =>
        refine ⟨fun hd => ?_, fun hw => by simp [isW, hb] at hw⟩
        split at hl
        · unfold aCopy at hl
          split at hl
          rotate_left
          · cases hl
          split at hl
          rotate_left
          · cases hl
          split at hl
          · cases hl; exact hd
          split at hl
          rotate_left
          · cases hl
          split at hl
          rotate_left
          · cases hl
          rename_i ar har
          split at hl
          rotate_left
          · cases hl
          cases hl
          rw [List.getElem?_set]
          split
          · rename_i e; subst e; rw [har] at hd; cases hd
          · exact hd
        · cases hl
      case len => simp only [hb] at hk; cases hk
      case max => simp only [hb] at hk; cases hk
      case min => simp only [hb] at hk; cases hk
    · cases hl

section
variable {ops : Array Oper} {T : Nat → Tmps} {H : Nat → Heap} {V : Nat → Value} {A : Nat → Bool}

/-- One step of the trace. -/
theorem Trace.grow (tr : Trace P ops T H V A 0) {j : Nat} {o : Oper} (ho : ops[j]? = some o) :
    (H j).length ≤ (H (j + 1)).length ∧
    (¬ (A j = true ∧ kindOf o.op = .act) → ∀ i, i < (H j).length → (H (j + 1))[i]? = (H j)[i]?) ∧
    (¬ (A j = true ∧ (kindOf o.op = .act ∨ kindOf o.op = .make)) → H (j + 1) = H j) ∧
    (∀ i, i < (H j).length → (H j)[i]? = some .dead → (H (j + 1))[i]? = some .dead) ∧
    (isW o.op = false → ∀ i, i < (H j).length → (H (j + 1))[i]? = (H j)[i]? ∨ (H (j + 1))[i]? = some .dead) ∧
    (∀ i, i < (H j).length → tgt (T j) o.op ≠ some i → (H (j + 1))[i]? = (H j)[i]?) := by
  cases ha : A j with
  | false =>
    have e := (tr.idle j o (Nat.zero_le _) ho ha).1
    rw [e]
    exact ⟨Nat.le_refl _, fun _ _ _ => rfl, fun _ => rfl, fun _ _ h => h, fun _ _ _ => .inl rfl, fun _ _ _ => rfl⟩
  | true =>
    have hst := tr.step j o (Nat.zero_le _) ho ha
    have hpre : (∃ new, H (j + 1) = H j ++ new) → (H j).length ≤ (H (j + 1)).length ∧ ∀ i, i < (H j).length → (H (j + 1))[i]? = (H j)[i]? := by
      rintro ⟨new, e⟩
      rw [e]
      exact ⟨by simp, fun i hi => List.getElem?_append_left hi⟩
    by_cases hc : isCall o.op = true
    · obtain ⟨h1, h2⟩ := hpre (tr.call j o (Nat.zero_le _) ho ha hc)
      exact ⟨h1, fun _ => h2, fun hn => absurd ⟨rfl, .inl (isCall_act hc)⟩ hn, fun i hi hd => by rw [h2 i hi]; exact hd, fun _ i hi => .inl (h2 i hi), fun i hi _ => h2 i hi⟩
    · have hl : opVal P (T j) o.op (H j) = some (V j, H (j + 1)) := by
        rcases hst with hl | ⟨c, f, args, e, hcall, _⟩
        · exact hl
        · exfalso
          apply hc
          rw [e]
          unfold callOf at hcall
          unfold isCall
          simp only
          split at hcall
          · rename_i x hx; rw [hx]
          · cases hcall
      cases hk : kindOf o.op with
      | plain =>
        have e := (plain_val hk hl).1
        rw [e]
        exact ⟨Nat.le_refl _, fun _ _ _ => rfl, fun _ => rfl, fun _ _ h => h, fun _ _ _ => .inl rfl, fun _ _ _ => rfl⟩
      | read =>
        have e := (read_val hk hl).1
        rw [e]
        exact ⟨Nat.le_refl _, fun _ _ _ => rfl, fun _ => rfl, fun _ _ h => h, fun _ _ _ => .inl rfl, fun _ _ _ => rfl⟩
      | make =>
        obtain ⟨a, e⟩ := make_len hk hl
        obtain ⟨h1, h2⟩ := hpre ⟨_, e⟩
        exact ⟨h1, fun _ => h2, fun hn => absurd ⟨rfl, .inr rfl⟩ hn, fun i hi hd => by rw [h2 i hi]; exact hd, fun _ i hi => .inl (h2 i hi), fun i hi _ => h2 i hi⟩
      | act =>
        obtain ⟨h1, h2⟩ := act_val hk hl
        have h3 := act_more hk hl
        exact ⟨h1, fun hn => absurd ⟨rfl, rfl⟩ hn, fun hn => absurd ⟨rfl, .inl rfl⟩ hn, fun i hi hd => (h3 i hi).1 hd, fun hw i hi => (h3 i hi).2 hw, h2⟩

theorem Trace.len_mono (tr : Trace P ops T H V A 0) {p q : Nat} (hpq : p ≤ q) (hq : q ≤ ops.size) : (H p).length ≤ (H q).length := by
  induction q with
  | zero => obtain rfl : p = 0 := by omega
            exact Nat.le_refl _
  | succ q ih =>
    by_cases e : p = q + 1
    · subst e; exact Nat.le_refl _
    · have := (tr.grow (j := q) (o := ops[q]) (by simp)).1
      exact Nat.le_trans (ih (by omega) (by omega)) this

/-- Where nothing acts nothing changes. -/
theorem Trace.quiet (tr : Trace P ops T H V A 0) {p q : Nat} (hpq : p ≤ q) (hq : q ≤ ops.size)
    (hn : ∀ (i : Nat) (o : Oper), p ≤ i → i < q → ops[i]? = some o → ¬ (A i = true ∧ kindOf o.op = .act)) : ∀ i, i < (H p).length → (H q)[i]? = (H p)[i]? := by
  induction q with
  | zero => obtain rfl : p = 0 := by omega
            exact fun _ _ => rfl
  | succ q ih =>
    by_cases e : p = q + 1
    · subst e; exact fun _ _ => rfl
    · intro i hi
      have ho : ops[q]? = some ops[q] := by simp
      have h1 := (tr.grow ho).2.1 (hn q _ (by omega) (by omega) ho) i (Nat.lt_of_lt_of_le hi (tr.len_mono (by omega) (by omega)))
      rw [h1]
      exact ih (by omega) (by omega) (fun k o hk hk' => hn k o hk (by omega)) i hi

/-- What is told at the end was told before, where nothing is written but by appends. -/
theorem Trace.alive_back (tr : Trace P ops T H V A 0) {p q : Nat} (hpq : p ≤ q) (hq : q ≤ ops.size)
    (hn : ∀ (i : Nat) (o : Oper), p ≤ i → i < q → ops[i]? = some o → A i = true → kindOf o.op = .act → isW o.op = false) {i : Nat} (hi : i < (H p).length) (ha : (H q)[i]? ≠ some .dead) :
    (H q)[i]? = (H p)[i]? := by
  induction q with
  | zero => obtain rfl : p = 0 := by omega
            rfl
  | succ q ih =>
    by_cases e : p = q + 1
    · subst e; rfl
    · have ho : ops[q]? = some ops[q] := by simp
      have hiq := Nat.lt_of_lt_of_le hi (tr.len_mono (show p ≤ q by omega) (by omega))
      have hg := tr.grow ho
      have hstep : (H (q + 1))[i]? = (H q)[i]? := by
        by_cases hact : A q = true ∧ kindOf ops[q].op = .act
        · rcases hg.2.2.2.2.1 (hn q _ (by omega) (by omega) ho hact.1 hact.2) i hiq with h1 | h1
          · exact h1
          · exact absurd h1 ha
        · exact hg.2.1 hact i hiq
      rw [hstep]
      refine ih (by omega) (by omega) (fun k o hk hk' => hn k o hk (by omega)) ?_
      intro hd
      exact ha (hg.2.2.2.1 i hiq hd)

end

/-- A read looks at what is there. -/
theorem read_lt {t : Tmps} {op : Op} {v : Value} (hk : kindOf op = .read) (hl : opVal P t op h = some (v, h')) {i : Nat} (hs : seen t op = some i) :
    i < h.length ∧ h[i]? ≠ some .dead := by
  cases op <;> simp only [kindOf] at hk <;> try cases hk
  case load ty x =>
    simp only [opVal] at hl
    obtain ⟨a, ha, e⟩ := map_eq hl
    unfold aLoad at ha
    split at ha
    · rename_i i0 off hx
      simp only [seen, hx, ptrWr, Option.some.injEq] at hs
      subst hs
      split at ha
      · rename_i ar har
        exact ⟨(List.getElem?_eq_some_iff.mp har).1, by rw [har]; simp⟩
      · cases ha
    · cases ha
  case slice ty x lo hi mx =>
    simp only [opVal] at hl
    obtain ⟨a, ha, e⟩ := map_eq hl
    unfold aSlice at ha
    split at ha
    · rename_i hx; simp only [seen, hx, appWr, ptrWr, Option.or] at hs; cases hs
    · rename_i hx; simp only [seen, hx, appWr, ptrWr, Option.or] at hs; cases hs
    · rename_i e i0 off len cap hu hx
      simp only [seen, hx, appWr, Option.or, Option.some.injEq] at hs
      subst hs
      split at ha
      · rename_i sz ar hsz har
        exact ⟨(List.getElem?_eq_some_iff.mp har).1, by rw [har]; simp⟩
      · cases ha
    · rename_i n e i0 off hu hx
      simp only [seen, hx, appWr, ptrWr, Option.or, Option.some.injEq] at hs
      subst hs
      split at ha
      · rename_i sz ar hsz har _ _ _
        exact ⟨(List.getElem?_eq_some_iff.mp har).1, by rw [har]; simp⟩
      · cases ha
    · cases ha
  case lookup ty x k ok =>
    simp only [opVal] at hl
    obtain ⟨a, ha, e⟩ := map_eq hl
    unfold aLookup at ha
    split at ha
    · rename_i kt et i0 hu hx
      simp only [seen, hx, mapIdx, Option.some.injEq] at hs
      subst hs
      split at ha
      · rename_i es z hes hz
        exact ⟨(List.getElem?_eq_some_iff.mp hes).1, by rw [hes]; simp⟩
      · cases ha
    · cases ha
  all_goals split at hk <;> cases hk

theorem seen_dom {t : Tmps} {op : Op} {a : Act} (hk : kindOf op = .read) (T : ∀ x ∈ op.operands, VRel ρ (ev t x) (a.eval x)) {i : Nat} (hs : seen t op = some i) : ∃ L, ρ i = some L := by
  cases op <;> simp only [kindOf] at hk <;> try cases hk
  case load ty x =>
    have hx := T x (by simp [Op.operands])
    simp only [seen, ptrWr] at hs
    split at hs
    · rename_i i0 o1 o2 he
      cases hs
      rw [he] at hx
      generalize a.eval x = cx at hx
      cases hx with
      | ptr h => exact ⟨_, h⟩
    · cases hs
  case slice ty x lo hi mx =>
    have hx := T x (by simp [Op.operands])
    simp only [seen] at hs
    rcases Option.or_eq_some_iff.mp hs with hs | ⟨_, hs⟩
    · simp only [appWr] at hs
      split at hs
      · rename_i i0 o1 o2 o3 o4 he
        cases hs
        rw [he] at hx
        generalize a.eval x = cx at hx
        cases hx with
        | slice h _ _ _ => exact ⟨_, h⟩
      · cases hs
    · simp only [ptrWr] at hs
      split at hs
      · rename_i i0 o1 o2 he
        cases hs
        rw [he] at hx
        generalize a.eval x = cx at hx
        cases hx with
        | ptr h => exact ⟨_, h⟩
      · cases hs
  case lookup ty x k ok =>
    have hx := T x (by simp [Op.operands])
    simp only [seen, mapIdx] at hs
    split at hs
    · rename_i i0 he
      cases hs
      rw [he] at hx
      generalize a.eval x = cx at hx
      cases hx with
      | map h => exact ⟨_, h⟩
    · cases hs
  all_goals split at hk <;> cases hk

theorem tgt_dom {t : Tmps} {op : Op} {a : Act} (T : ∀ x ∈ op.operands, VRel ρ (ev t x) (a.eval x)) {i : Nat} (hs : tgt t op = some i) : ∃ L, ρ i = some L := by
  have hap : ∀ (x : Operand), VRel ρ (ev t x) (a.eval x) → appWr (ev t x) = some i → ∃ L, ρ i = some L := by
    intro x hx hs
    unfold appWr at hs
    split at hs
    · rename_i i0 o1 o2 o3 o4 he
      cases hs
      rw [he] at hx
      generalize a.eval x = cx at hx
      cases hx with
      | slice h _ _ _ => exact ⟨_, h⟩
    · cases hs
  cases op <;> simp only [tgt, opWr] at hs <;> try cases hs
  case store ty x y =>
    have hx := T x (by simp [Op.operands])
    simp only [ptrWr] at hs
    split at hs
    · rename_i i0 o1 o2 he
      cases hs
      rw [he] at hx
      generalize a.eval x = cx at hx
      cases hx with
      | ptr h => exact ⟨_, h⟩
    · cases hs
  case mapUpdate ty m k x =>
    have hx := T m (by simp [Op.operands])
    simp only [mapIdx] at hs
    split at hs
    · rename_i i0 he
      cases hs
      rw [he] at hx
      generalize a.eval m = cx at hx
      cases hx with
      | map h => exact ⟨_, h⟩
    · cases hs
  case insert ty m k x =>
    have hx := T m (by simp [Op.operands])
    simp only [mapIdx] at hs
    split at hs
    · rename_i i0 he
      cases hs
      rw [he] at hx
      generalize a.eval m = cx at hx
      cases hx with
      | map h => exact ⟨_, h⟩
    · cases hs
  case call c =>
    unfold callWr at hs
    split at hs
    · rename_i b hb
      unfold bWr at hs
      have hmem : ∀ s l, c.args.toList = s :: l → s ∈ (Op.call c).operands := by
        intro s l e
        simp only [Op.operands, Call.operands, hb]
        have : s ∈ c.args.toList := by rw [e]; simp
        simpa using this
      split at hs
      · split at hs
        · rename_i s l e; exact hap s (T s (hmem s l e)) hs
        · cases hs
      · split at hs
        · rename_i s l e; exact hap s (T s (hmem s l e)) hs
        · cases hs
      · cases hs
    · cases hs

end Go.AM
