/-
  A region that draws its order, over the abstract memory: what is looked at, and the trace of the text's order.
-/
import Derived.Test.YtgmgmkhenhaniaaAmJ
set_option linter.unusedSimpArgs false
set_option linter.unusedVariables false
namespace Go.AM
variable {P : Program} {h h' : Heap} {ρ : Place} {w : World}

def Place.below (ρ : Place) (b : Nat) : Place := fun i => if i < b then ρ i else none
theorem below_some {b i : Nat} {L : Loc} (hi : ρ.below b i = some L) : i < b ∧ ρ i = some L := by
  unfold Place.below at hi
  split at hi
  · exact ⟨by assumption, hi⟩
  · cases hi
theorem below_of {b i : Nat} {L : Loc} (hb : i < b) (hi : ρ i = some L) : ρ.below b i = some L := by
  unfold Place.below; rw [if_pos hb]; exact hi
theorem below_le (ρ : Place) (b : Nat) : Le (ρ.below b) ρ := fun _ _ h => (below_some h).2
theorem below_mono {ρ' : Place} (hle : Le ρ ρ') {b b' : Nat} (hb : b ≤ b') : Le (ρ.below b) (ρ'.below b') := fun i L h =>
  below_of (Nat.lt_of_lt_of_le (below_some h).1 hb) (hle _ _ (below_some h).2)

/-- Bounded values: all that they name is below b. -/
def VB0 (b : Nat) (v : Value) : Prop :=
  match v with
  | .pointer (some a) => a.block < b
  | .slice (some a) _ _ => a.block < b
  | .map (some r) => r < b
  | .agg cs => cs = #[]
  | .tuple cs => cs = #[]
  | .func _ fa ca => fa = #[] ∧ ca = #[]
  | _ => True
def VB (b : Nat) (v : Value) : Prop :=
  match v with
  | .agg cs => ∀ c ∈ cs.toList, VB0 b c
  | .func _ fa ca => (∀ c ∈ fa.toList, VB0 b c) ∧ ∀ c ∈ ca.toList, VB0 b c
  | v => VB0 b v

theorem vb0_rel {b : Nat} {v c : Value} (hv : VB0 b v) (r : VRel ρ v c) : VRel (ρ.below b) v c := by
  cases r with
  | bool => exact .bool _
  | int => exact .int _ _
  | string => exact .string _
  | nilFunc => exact .nilFunc
  | nilIface => exact .nilIface
  | nilPtr => exact .nilPtr
  | ptr h => exact .ptr (below_of hv h)
  | nilSlice => exact .nilSlice
  | slice h h1 h2 h3 => exact .slice (below_of hv h) h1 h2 h3
  | nilMap => exact .nilMap
  | map h => exact .map (below_of hv h)
  | func f h1 h2 h3 h4 =>
    obtain ⟨rfl, rfl⟩ := hv
    refine .func f h1 (fun j => ?_) h3 (fun j => ?_)
    · rw [getD_out (by simp), getD_out (by simp [← h1])]; exact VRel.undef' _
    · rw [getD_out (by simp), getD_out (by simp [← h3])]; exact VRel.undef' _
  | agg h1 h2 =>
    have : _ = #[] := hv
    subst this
    refine .agg h1 fun j => ?_
    rw [getD_out (by simp), getD_out (by simp [← h1])]; exact VRel.undef' _
  | tuple h1 h2 =>
    have : _ = #[] := hv
    subst this
    exact .tuple h1 fun j hj => absurd hj (by simp)

theorem vb_arel {b : Nat} {a c : Array Value} (hv : ∀ x ∈ a.toList, VB0 b x) (h1 : a.size = c.size) (h2 : ∀ j, VRel ρ (a.getD j undef) (c.getD j undef)) : ∀ j, VRel (ρ.below b) (a.getD j undef) (c.getD j undef) := by
  intro j
  by_cases hj : j < a.size
  · have := h2 j
    rw [getD_in hj, getD_in (h1 ▸ hj)] at this ⊢
    exact vb0_rel (hv _ (by simp)) this
  · rw [getD_out (by omega), getD_out (by omega)]; exact VRel.undef' _

theorem vb_rel {b : Nat} {v c : Value} (hv : VB b v) (r : VRel ρ v c) : VRel (ρ.below b) v c := by
  cases r with
  | func f h1 h2 h3 h4 => exact .func f h1 (vb_arel hv.1 h1 h2) h3 (vb_arel hv.2 h3 h4)
  | agg h1 h2 => exact .agg h1 (vb_arel hv h1 h2)
  | bool => exact .bool _
  | int => exact .int _ _
  | string => exact .string _
  | nilFunc => exact .nilFunc
  | nilIface => exact .nilIface
  | nilPtr => exact .nilPtr
  | ptr h => exact vb0_rel hv (.ptr h)
  | nilSlice => exact .nilSlice
  | slice h h1 h2 h3 => exact vb0_rel hv (.slice h h1 h2 h3)
  | nilMap => exact .nilMap
  | map h => exact vb0_rel hv (.map h)
  | tuple h1 h2 => exact vb0_rel hv (.tuple h1 h2)

/-! ### what stands ahead -/
def ancStep (acc : List (List Nat)) (o : Oper) : List (List Nat) :=
  acc ++ [(o.after.toList.filter (Region.binds .any)).flatMap fun e => e.on :: acc.getD e.on []]
def ancs (ops : Array Oper) : List (List Nat) := ops.toList.foldl ancStep []
def ancOf (ops : Array Oper) (i : Nat) : List Nat := (ancs ops).getD i []

/-- What stands ahead, as bits. -/
def ancStepB (acc : List Nat) (o : Oper) : List Nat :=
  acc ++ [(o.after.toList.filter (Region.binds .any)).foldl (fun m e => m ||| (1 <<< e.on) ||| acc.getD e.on 0) 0]
def ancB (ops : Array Oper) (i : Nat) : Nat := (ops.toList.foldl ancStepB []).getD i 0
theorem bits_fold {acc : List Nat} {acc' : List (List Nat)} (hl : acc.length = acc'.length) (ha : ∀ i j, (acc.getD i 0).testBit j = true → j ∈ acc'.getD i []) : ∀ (l : List Edge) (m : Nat) (s : List Nat),
    (∀ j, m.testBit j = true → j ∈ s) → ∀ j, (l.foldl (fun m e => m ||| (1 <<< e.on) ||| acc.getD e.on 0) m).testBit j = true → j ∈ s ++ l.flatMap fun e => e.on :: acc'.getD e.on []
  | [], m, s, hm, j, hj => by simpa using hm j hj
  | e :: l, m, s, hm, j, hj => by
    have := bits_fold hl ha l (m ||| (1 <<< e.on) ||| acc.getD e.on 0) (s ++ (e.on :: acc'.getD e.on [])) ?_ j hj
    · simpa [List.append_assoc] using this
    · intro k hk
      rw [Nat.testBit_or, Nat.testBit_or, Bool.or_eq_true, Bool.or_eq_true] at hk
      rcases hk with (hk | hk) | hk
      · exact List.mem_append_left _ (hm k hk)
      · rw [Nat.one_shiftLeft, Nat.testBit_two_pow] at hk
        have : e.on = k := by simpa using hk
        subst this; simp
      · exact List.mem_append_right _ (List.mem_cons_of_mem _ (ha _ _ hk))
theorem ancsB_fold : ∀ (l : List Oper) (acc : List Nat) (acc' : List (List Nat)), acc.length = acc'.length → (∀ i j, (acc.getD i 0).testBit j = true → j ∈ acc'.getD i []) →
    ∀ i j, ((l.foldl ancStepB acc).getD i 0).testBit j = true → j ∈ (l.foldl ancStep acc').getD i []
  | [], acc, acc', _, ha, i, j, h => ha i j h
  | o :: l, acc, acc', hl, ha, i, j, h => by
    refine ancsB_fold l (ancStepB acc o) (ancStep acc' o) (by simp [ancStepB, ancStep, hl]) ?_ i j h
    intro i j hj
    unfold ancStepB at hj
    unfold ancStep
    rcases Nat.lt_or_ge i acc.length with hlt | hge
    · simp only [List.getD, List.getElem?_append_left hlt] at hj
      simp only [List.getD, List.getElem?_append_left (show i < acc'.length by omega)]
      exact ha i j hj
    · simp only [List.getD, List.getElem?_append_right hge] at hj
      simp only [List.getD, List.getElem?_append_right (show acc'.length ≤ i by omega)]
      rw [← hl]
      cases hi : i - acc.length with
      | zero =>
        rw [hi] at hj
        have := bits_fold hl ha (o.after.toList.filter (Region.binds .any)) 0 [] (fun j hj => by simp at hj) j hj
        simpa using this
      | succ n => rw [hi] at hj; simp at hj
theorem ancB_mem {ops : Array Oper} {i j : Nat} (h : (ancB ops i).testBit j = true) : j ∈ ancOf ops i := by
  exact ancsB_fold ops.toList [] [] rfl (fun i j h => by simp at h) i j h

/-- Closed downwards, by one edge. -/
def Down (ops : Array Oper) (S : Nat → Prop) : Prop := ∀ (i : Nat) (o : Oper), ops[i]? = some o → S i → ∀ e ∈ o.after.toList, Region.binds .any e = true → S e.on

theorem ancs_fold (l : List Oper) : ∀ (acc : List (List Nat)), (l.foldl ancStep acc).length = acc.length + l.length ∧ ∀ i, i < acc.length → (l.foldl ancStep acc).getD i [] = acc.getD i [] := by
  induction l with
  | nil => intro acc; exact ⟨rfl, fun _ _ => rfl⟩
  | cons o l ih =>
    intro acc
    obtain ⟨h1, h2⟩ := ih (ancStep acc o)
    have hl : (ancStep acc o).length = acc.length + 1 := by simp [ancStep]
    refine ⟨by simp only [List.foldl_cons, h1, hl, List.length_cons]; omega, fun i hi => ?_⟩
    rw [List.foldl_cons, h2 i (by omega)]
    simp only [ancStep, List.getD]
    rw [List.getElem?_append_left hi]

theorem down_fold {S : Nat → Prop} (l : List Oper) : ∀ (acc : List (List Nat)), (∀ i, i < acc.length → S i → ∀ j ∈ acc.getD i [], S j) →
    (∀ (k : Nat) (o : Oper), l[k]? = some o → S (acc.length + k) → ∀ e ∈ o.after.toList, Region.binds .any e = true → S e.on) →
    ∀ i, i < acc.length + l.length → S i → ∀ j ∈ (l.foldl ancStep acc).getD i [], S j := by
  induction l with
  | nil => intro acc h1 _ i hi; exact h1 i (by simpa using hi)
  | cons o l ih =>
    intro acc h1 h2 i hi hS j hj
    have hl : (ancStep acc o).length = acc.length + 1 := by simp [ancStep]
    refine ih (ancStep acc o) ?_ ?_ i (by simp at hi; omega) hS j hj
    · intro i hi hS j hj
      by_cases hlt : i < acc.length
      · refine h1 i hlt hS j ?_
        simp only [ancStep, List.getD] at hj
        rwa [List.getElem?_append_left hlt] at hj
      · obtain rfl : i = acc.length := by omega
        simp only [ancStep, List.getD] at hj
        rw [List.getElem?_append_right (Nat.le_refl _)] at hj
        simp at hj
        obtain ⟨e, ⟨he1, he2⟩, hj⟩ := hj
        have hSe : S e.on := h2 0 o (by simp) (by simpa using hS) e (by simpa using he1) he2
        rcases hj with rfl | hj
        · exact hSe
        · by_cases hlt' : e.on < acc.length
          · exact h1 e.on hlt' hSe j (by simpa [List.getD] using hj)
          · rw [List.getElem?_eq_none (by omega)] at hj; simp at hj
    · intro k o' hk hS e he hb
      refine h2 (k + 1) o' (by simpa using hk) ?_ e he hb
      rw [hl] at hS
      rwa [show acc.length + (k + 1) = acc.length + 1 + k by omega]

theorem Down.anc {ops : Array Oper} {S : Nat → Prop} (hd : Down ops S) {i j : Nat} (hi : S i) (hj : j ∈ ancOf ops i) : S j := by
  have hlt : i < ops.size := by
    rcases Nat.lt_or_ge i ops.size with h | h
    · exact h
    · unfold ancOf ancs at hj
      have := (ancs_fold ops.toList []).1
      simp only [List.getD] at hj
      rw [List.getElem?_eq_none (by rw [this]; simpa using h)] at hj
      simp at hj
  refine down_fold ops.toList [] (fun i hi => by simp at hi) ?_ i (by simpa using hlt) hi j hj
  intro k o hk hS e he hb
  exact hd k o (by simpa using hk) (by simpa using hS) e he hb

def isCall (op : Op) : Bool :=
  match op with
  | .call c => match c.callee with | .value _ => true | _ => false
  | _ => false
theorem isCall_act {op : Op} (hc : isCall op = true) : kindOf op = .act := by
  cases op <;> simp only [isCall] at hc <;> try cases hc
  rename_i c
  split at hc
  · rename_i x hx; simp only [kindOf, hx]
  · cases hc
/-- It writes what was there before. -/
def isW (op : Op) : Bool :=
  match op with
  | .store _ _ _ | .mapUpdate _ _ _ _ | .insert _ _ _ _ => true
  | .call c => match c.callee with | .builtin .append => false | .builtin .len => false | .builtin .max => false | .builtin .min => false | .value _ => false | _ => true
  | _ => false

def touched (ops : Array Oper) (o : Oper) : List Nat := o.looksAt ops ++ o.dst.toList

def pairOK (ops : Array Oper) (A : Nat) (j : Nat) (p o : Oper) : Bool :=
  A.testBit j ||
  ((match p.dst with | some d => !(touched ops o).contains d | none => true) &&
   (match o.dst with | some d => !(touched ops p).contains d | none => true) &&
   !(kindOf p.op == .act && kindOf o.op == .act) && !(isW p.op && kindOf o.op == .read))

def drawOK (ops : Array Oper) (N : Nat) : Bool :=
  (List.range ops.size).all fun i =>
    match ops[i]? with
    | none => true
    | some o => operOK ops N o && o.after.toList.all (fun e => !Region.binds .any e || decide (e.on < i)) &&
      (List.range i).all fun j => match ops[j]? with | none => true | some p => pairOK ops (ancB ops i) j p o

structure DrawOK (ops : Array Oper) (N : Nat) : Prop where
  oper : ∀ (i : Nat) (o : Oper), ops[i]? = some o → operOK ops N o = true
  edge : ∀ (i : Nat) (o : Oper), ops[i]? = some o → ∀ e ∈ o.after.toList, Region.binds .any e = true → e.on < i
  pair : ∀ (j i : Nat) (p o : Oper), j < i → ops[j]? = some p → ops[i]? = some o → j ∉ ancOf ops i →
    (∀ d, p.dst = some d → d ∉ touched ops o) ∧ (∀ d, o.dst = some d → d ∉ touched ops p) ∧ ¬ (kindOf p.op = .act ∧ kindOf o.op = .act) ∧ ¬ (isW p.op = true ∧ kindOf o.op = .read)

theorem drawOK_spec {ops : Array Oper} {N : Nat} (hd : drawOK ops N = true) : DrawOK ops N := by
  unfold drawOK at hd
  simp only [List.all_eq_true, List.mem_range] at hd
  have hlt : ∀ (i : Nat) (o : Oper), ops[i]? = some o → i < ops.size := fun i o h => (Array.getElem?_eq_some_iff.mp h).1
  have key : ∀ (i : Nat) (o : Oper), ops[i]? = some o → operOK ops N o = true ∧ (∀ e ∈ o.after.toList, (!Region.binds .any e || decide (e.on < i)) = true) ∧
      ∀ j, j < i → ∀ p, ops[j]? = some p → pairOK ops (ancB ops i) j p o = true := by
    intro i o ho
    have := hd i (hlt i o ho)
    rw [ho] at this
    simp only [Bool.and_eq_true, List.all_eq_true, List.mem_range] at this
    refine ⟨this.1.1, this.1.2, fun j hj p hp => ?_⟩
    have h2 := this.2 j hj
    rw [hp] at h2
    exact h2
  refine ⟨fun i o ho => (key i o ho).1, fun i o ho e he hb => ?_, fun j i p o hj hp ho hn => ?_⟩
  · have := (key i o ho).2.1 e he
    rw [hb] at this
    simpa using this
  · have := (key i o ho).2.2 j hj p hp
    unfold pairOK at this
    have hc : (ancB ops i).testBit j = false := by
      rw [← Bool.not_eq_true]; intro h; exact hn (ancB_mem h)
    simp only [hc, Bool.false_or, Bool.and_eq_true] at this
    obtain ⟨⟨⟨h1, h2⟩, h3⟩, h4⟩ := this
    refine ⟨?_, ?_, ?_, ?_⟩
    · intro d hd'; rw [hd'] at h1; simpa using h1
    · intro d hd'; rw [hd'] at h2; simpa using h2
    · rintro ⟨a, b⟩; rw [a, b] at h3; simp at h3
    · rintro ⟨a, b⟩; rw [a, b] at h4; simp at h4

/-- The trace of the text's order, from one place on. -/
structure Trace (P : Program) (ops : Array Oper) (T : Nat → Tmps) (H : Nat → Heap) (V : Nat → Value) (A : Nat → Bool) (s : Nat) : Prop where
  step : ∀ (j : Nat) (o : Oper), s ≤ j → ops[j]? = some o → A j = true → OpStep P (T j) o.op (H j) (V j) (H (j + 1))
  want : ∀ (j : Nat) (o : Oper), s ≤ j → ops[j]? = some o → ∀ g z, o.guard = some (g, z) → (A j = true ↔ yieldedA ops (T j) g = some z)
  free : ∀ (j : Nat) (o : Oper), s ≤ j → ops[j]? = some o → o.guard = none → A j = true
  idle : ∀ (j : Nat) (o : Oper), s ≤ j → ops[j]? = some o → A j = false → H (j + 1) = H j ∧ V j = undef
  next : ∀ (j : Nat) (o : Oper), s ≤ j → ops[j]? = some o → T (j + 1) = updO (T j) o.dst (V j)
  call : ∀ (j : Nat) (o : Oper), s ≤ j → ops[j]? = some o → A j = true → isCall o.op = true → ∃ new, H (j + 1) = H j ++ new
  read : ∀ (j : Nat) (o : Oper), s ≤ j → ops[j]? = some o → A j = true → kindOf o.op = .read → VB (H j).length (V j)
  stab : ∀ (j i : Nat) (p o : Oper), s ≤ j → j < i → ops[j]? = some p → ops[i]? = some o → A j = true → A i = true → kindOf p.op = .read → kindOf o.op = .act → isCall o.op = false →
    j ∉ ancOf ops i → opVal P (T j) p.op (H (i + 1)) = some (V j, H (i + 1))

/-- What was read so far: where, with what, and what it gave. -/
structure Pend where
  i : Nat
  op : Op
  t : Tmps
  v : Value

/-- A region that draws its order, run where it stands. -/
def wpD (P : Program) (ops : Array Oper) (K : Tmps → Heap → Prop) : List Nat → List Pend → Tmps → Heap → Prop
  | [], _, t, h => K t h
  | i :: rest, pend, t, h =>
    match ops[i]? with
    | none => False
    | some o =>
      let go : Prop := opKD P t o.op h fun v h' =>
        (match kindOf o.op with
         | .act => if isCall o.op then ∃ new, h' = h ++ new else ∀ x ∈ pend, x.i ∈ ancOf ops i ∨ opVal P x.t x.op h' = some (x.v, h')
         | .read => VB h.length v
         | _ => True) ∧
        wpD P ops K rest (match kindOf o.op with | .read => ⟨i, o.op, t, v⟩ :: pend | _ => pend) (updO t o.dst v) h'
      match o.guard with
      | none => go
      | some (j, z) => if yieldedA ops t j = some z then go else wpD P ops K rest pend (updO t o.dst undef) h

def PendOK (P : Program) (ops : Array Oper) (H : Nat → Heap) (A : Nat → Bool) (s : Nat) (pend : List Pend) : Prop :=
  ∀ x ∈ pend, ∀ (i : Nat) (o : Oper), s ≤ i → ops[i]? = some o → A i = true → kindOf o.op = .act → isCall o.op = false → x.i ∉ ancOf ops i → opVal P x.t x.op (H (i + 1)) = some (x.v, H (i + 1))

/-- One more place ahead of a trace. -/
theorem Trace.cons {ops : Array Oper} {T : Nat → Tmps} {H : Nat → Heap} {V : Nat → Value} {A : Nat → Bool} {s : Nat} {o : Oper} {t : Tmps} {h : Heap} {v : Value} {z : Bool}
    (tr : Trace P ops T H V A (s + 1)) (ho : ops[s]? = some o)
    (h1 : z = true → OpStep P t o.op h v (H (s + 1))) (h2 : ∀ g b, o.guard = some (g, b) → (z = true ↔ yieldedA ops t g = some b)) (h3 : o.guard = none → z = true)
    (h4 : z = false → H (s + 1) = h ∧ v = undef) (h5 : T (s + 1) = updO t o.dst v) (h6 : z = true → isCall o.op = true → ∃ new, H (s + 1) = h ++ new)
    (h7 : z = true → kindOf o.op = .read → VB h.length v)
    (h8 : z = true → kindOf o.op = .read → PendOK P ops H A (s + 1) [⟨s, o.op, t, v⟩]) :
    Trace P ops (fun m => if m = s then t else T m) (fun m => if m = s then h else H m) (fun m => if m = s then v else V m) (fun m => if m = s then z else A m) s := by
  have hsuc : ∀ {α : Type} (a b : α) (m : Nat), s ≤ m → (if m + 1 = s then a else b) = b := fun a b m hm => if_neg (by omega)
  refine ⟨?_, ?_, ?_, ?_, ?_, ?_, ?_, ?_⟩
  · intro j p hj hp ha
    by_cases e : j = s
    · subst e; rw [ho] at hp; cases hp
      simp only [if_true, hsuc _ _ _ hj] at ha ⊢; exact h1 ha
    · simp only [if_neg e, hsuc _ _ _ hj] at ha ⊢; exact tr.step j p (by omega) hp ha
  · intro j p hj hp g b hg
    by_cases e : j = s
    · subst e; rw [ho] at hp; cases hp
      simp only [if_true]; exact h2 g b hg
    · simp only [if_neg e]; exact tr.want j p (by omega) hp g b hg
  · intro j p hj hp hg
    by_cases e : j = s
    · subst e; rw [ho] at hp; cases hp
      simp only [if_true]; exact h3 hg
    · simp only [if_neg e]; exact tr.free j p (by omega) hp hg
  · intro j p hj hp ha
    by_cases e : j = s
    · subst e; rw [ho] at hp; cases hp
      simp only [if_true, hsuc _ _ _ hj] at ha ⊢; exact h4 ha
    · simp only [if_neg e, hsuc _ _ _ hj] at ha ⊢; exact tr.idle j p (by omega) hp ha
  · intro j p hj hp
    by_cases e : j = s
    · subst e; rw [ho] at hp; cases hp
      simp only [if_true, hsuc _ _ _ hj]; exact h5
    · simp only [if_neg e, hsuc _ _ _ hj]; exact tr.next j p (by omega) hp
  · intro j p hj hp ha hc
    by_cases e : j = s
    · subst e; rw [ho] at hp; cases hp
      simp only [if_true, hsuc _ _ _ hj] at ha ⊢; exact h6 ha hc
    · simp only [if_neg e, hsuc _ _ _ hj] at ha ⊢; exact tr.call j p (by omega) hp ha hc
  · intro j p hj hp ha hc
    by_cases e : j = s
    · subst e; rw [ho] at hp; cases hp
      simp only [if_true] at ha ⊢; exact h7 ha hc
    · simp only [if_neg e] at ha ⊢; exact tr.read j p (by omega) hp ha hc
  · intro j i p q hj hji hp hq ha hai hk1 hk2 hk3 hn
    have ei : i ≠ s := by omega
    by_cases e : j = s
    · subst e; rw [ho] at hp; cases hp
      simp only [if_true, if_neg ei, hsuc _ _ i (by omega)] at ha hai ⊢
      exact h8 ha hk1 ⟨j, o.op, t, v⟩ (List.mem_singleton.mpr rfl) i q (by omega) hq hai hk2 hk3 hn
    · simp only [if_neg e, if_neg ei, hsuc _ _ i (by omega)] at ha hai ⊢
      exact tr.stab j i p q (by omega) hji hp hq ha hai hk1 hk2 hk3 hn

theorem wpD_trace {ops : Array Oper} {K : Tmps → Heap → Prop} : ∀ (k s : Nat) (pend : List Pend) (t : Tmps) (h : Heap), s + k = ops.size → wpD P ops K (List.range' s k) pend t h →
    ∃ T H V A, T s = t ∧ H s = h ∧ K (T ops.size) (H ops.size) ∧ Trace P ops T H V A s ∧ PendOK P ops H A s pend := by
  intro k
  induction k with
  | zero =>
    intro s pend t h hs hw
    have hs' : s = ops.size := by omega
    subst hs'
    have hno : ∀ {j : Nat} {o : Oper}, ops.size ≤ j → ops[j]? = some o → False := fun hj ho => by
      rw [Array.getElem?_eq_none hj] at ho; cases ho
    exact ⟨fun _ => t, fun _ => h, fun _ => undef, fun _ => true, rfl, rfl, hw,
      ⟨fun j o hj ho _ => (hno hj ho).elim, fun j o hj ho _ _ _ => (hno hj ho).elim, fun j o hj ho _ => (hno hj ho).elim, fun j o hj ho _ => (hno hj ho).elim, fun j o hj ho => (hno hj ho).elim,
        fun j o hj ho _ _ => (hno hj ho).elim, fun j o hj ho _ _ => (hno hj ho).elim, fun j i p o hj _ hp _ _ _ _ _ _ _ => (hno hj hp).elim⟩, fun x _ i o hi ho => (hno hi ho).elim⟩
  | succ k ih =>
    intro s pend t h hs hw
    have hlt : s < ops.size := by omega
    obtain ⟨o, ho⟩ : ∃ o, ops[s]? = some o := ⟨ops[s], by simp [hlt]⟩
    simp only [List.range'_succ, wpD, ho] at hw
    have hyes : (opKD P t o.op h fun v h' =>
        (match kindOf o.op with
         | .act => if isCall o.op then ∃ new, h' = h ++ new else ∀ x ∈ pend, x.i ∈ ancOf ops s ∨ opVal P x.t x.op h' = some (x.v, h')
         | .read => VB h.length v
         | _ => True) ∧
        wpD P ops K (List.range' (s + 1) k) (match kindOf o.op with | .read => ⟨s, o.op, t, v⟩ :: pend | _ => pend) (updO t o.dst v) h') →
        (∀ g b, o.guard = some (g, b) → (true = true ↔ yieldedA ops t g = some b)) →
        ∃ T H V A, T s = t ∧ H s = h ∧ K (T ops.size) (H ops.size) ∧ Trace P ops T H V A s ∧ PendOK P ops H A s pend := by
      intro hw hg
      obtain ⟨v, h', hst, hc, hk⟩ := opKD_step hw
      obtain ⟨T, H, V, A, e1, e2, hK, tr, hp⟩ := ih (s + 1) _ _ _ (by omega) hk
      subst e2
      refine ⟨_, _, _, _, if_pos rfl, if_pos rfl, ?_, tr.cons (v := v) (z := true) ho (fun _ => hst) hg (fun _ => rfl) (fun h => by cases h) e1 ?_ ?_ ?_, ?_⟩
      · rw [if_neg (by omega), if_neg (by omega)]; exact hK
      · intro _ hcall
        have hka := isCall_act hcall
        rw [hka] at hc
        simpa [hcall] using hc
      · intro _ hr
        rw [hr] at hc; exact hc
      · intro _ hr x hx
        rw [hr] at hp
        refine hp x ?_
        simp only [List.mem_singleton] at hx
        subst hx; simp
      · intro x hx i q hi hq ha hk1 hk2 hn
        by_cases e : i = s
        · subst e
          rw [ho] at hq; cases hq
          simp only [show ¬ (i + 1 = i) by omega, if_false]
          rw [hk1] at hc
          simp only [hk2] at hc
          exact (hc x hx).resolve_left hn
        · have ha' : A i = true := by simpa [e] using ha
          simp only [show ¬ (i + 1 = s) by omega, if_false]
          refine hp x ?_ i q (by omega) hq ha' hk1 hk2 hn
          split <;> simp [hx]
    cases hg : o.guard with
    | none =>
      rw [hg] at hw
      exact hyes hw (fun g b h => by rw [hg] at h; cases h)
    | some jz =>
      obtain ⟨j, z⟩ := jz
      rw [hg] at hw
      simp only at hw
      by_cases hz : yieldedA ops t j = some z
      · rw [if_pos hz] at hw
        exact hyes hw (fun g b h => by rw [hg] at h; cases h; exact ⟨fun _ => hz, fun _ => rfl⟩)
      · rw [if_neg hz] at hw
        obtain ⟨T, H, V, A, e1, e2, hK, tr, hp⟩ := ih (s + 1) _ _ _ (by omega) hw
        subst e2
        refine ⟨_, _, _, _, if_pos rfl, if_pos rfl, ?_, tr.cons (v := undef) (z := false) ho (fun h => by cases h) ?_ (fun h => by rw [hg] at h; cases h) (fun _ => ⟨rfl, rfl⟩) e1 (fun h => by cases h) (fun h => by cases h) (fun h => by cases h), ?_⟩
        · rw [if_neg (by omega), if_neg (by omega)]; exact hK
        · intro g b h; rw [hg] at h; cases h
          exact ⟨fun h => (by cases h), fun h => absurd h hz⟩
        · intro x hx i q hi hq ha hk1 hk2 hn
          by_cases e : i = s
          · subst e; simp at ha
          · have ha' : A i = true := by simpa [e] using ha
            simp only [show ¬ (i + 1 = s) by omega, if_false]
            exact hp x hx i q (by omega) hq ha' hk1 hk2 hn

end Go.AM
