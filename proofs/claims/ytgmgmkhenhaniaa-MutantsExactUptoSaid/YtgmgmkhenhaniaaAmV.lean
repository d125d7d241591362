/-
  Code over the abstract memory, run: where it ends, that is what every run of the machine gives.
-/
import Derived.Test.YtgmgmkhenhaniaaAmU
set_option linter.unusedSimpArgs false
set_option linter.unusedVariables false
namespace Go.AM
variable {P : Program} {h h' : Heap} {ρ : Place} {w : World}

/-! ### tests of sameness -/
def all2 {α : Type} (f : α → α → Bool) : List α → List α → Bool
  | [], [] => true
  | a :: l, b :: l' => f a b && all2 f l l'
  | _, _ => false
theorem all2_eq {α : Type} {f : α → α → Bool} (hf : ∀ a b, f a b = true → a = b) : ∀ l l' : List α, all2 f l l' = true → l = l'
  | [], [], _ => rfl
  | a :: l, b :: l', hh => by
    simp only [all2, Bool.and_eq_true] at hh
    rw [hf a b hh.1, all2_eq hf l l' hh.2]
  | [], _ :: _, hh => by simp [all2] at hh
  | _ :: _, [], hh => by simp [all2] at hh
def aeq (a b : Addr) : Bool := Nat.beq a.block b.block && Nat.beq a.off b.off && (match a.spot, b.spot with | none, none => true | _, _ => false)
theorem aeq_eq {a b : Addr} (hh : aeq a b = true) : a = b := by
  obtain ⟨x, y, z⟩ := a
  obtain ⟨x', y', z'⟩ := b
  simp only [aeq, Bool.and_eq_true, Nat.beq_eq] at hh
  obtain ⟨⟨h1, h2⟩, h3⟩ := hh
  subst h1 h2
  cases z <;> cases z' <;> simp_all
def veq : Nat → Value → Value → Bool
  | 0, _, _ => false
  | n + 1, a, b =>
    match a, b with
    | .bool a, .bool b => a == b
    | .int k a, .int l b => decide (k = l) && decide (a = b)
    | .pointer none, .pointer none => true
    | .pointer (some a), .pointer (some b) => aeq a b
    | .slice none a b, .slice none c d => Nat.beq a c && Nat.beq b d
    | .slice (some a) l c, .slice (some b) l' c' => aeq a b && Nat.beq l l' && Nat.beq c c'
    | .agg a, .agg b => all2 (veq n) a.toList b.toList
    | .tuple a, .tuple b => all2 (veq n) a.toList b.toList
    | .string a, .string b => decide (a.data.toList = b.data.toList)
    | .nilFunc, .nilFunc => true
    | .nilIface, .nilIface => true
    | .map none, .map none => true
    | _, _ => false
theorem veq_eq : ∀ (n : Nat) (a b : Value), veq n a b = true → a = b
  | 0, _, _, hh => by simp [veq] at hh
  | n + 1, a, b, hh => by
    unfold veq at hh
    split at hh
    · simpa using hh
    · simp only [Bool.and_eq_true, decide_eq_true_eq] at hh; rw [hh.1, hh.2]
    · rfl
    · rw [aeq_eq hh]
    · simp only [Bool.and_eq_true, Nat.beq_eq] at hh; rw [hh.1, hh.2]
    · simp only [Bool.and_eq_true, Nat.beq_eq] at hh; rw [aeq_eq hh.1.1, hh.1.2, hh.2]
    · have := all2_eq (veq_eq n) _ _ hh; rw [Array.toList_inj.mp this]
    · have := all2_eq (veq_eq n) _ _ hh; rw [Array.toList_inj.mp this]
    · rename_i a b
      simp only [decide_eq_true_eq] at hh
      obtain ⟨a⟩ := a
      obtain ⟨b⟩ := b
      have : a = b := Array.toList_inj.mp hh
      rw [this]
    · rfl
    · rfl
    · rfl
    · cases hh
def obeq : Ob → Ob → Bool
  | .dead, .dead => true
  | .arr a, .arr b => Nat.beq a.esz b.esz && (a.ro == b.ro) && all2 (veq 9) a.cells b.cells
  | _, _ => false
theorem obeq_eq : ∀ a b : Ob, obeq a b = true → a = b
  | .dead, .dead, _ => rfl
  | .arr ⟨a, b, c⟩, .arr ⟨a', b', c'⟩, hh => by
    simp only [obeq, Bool.and_eq_true, Nat.beq_eq, beq_iff_eq] at hh
    rw [hh.1.1, hh.1.2, all2_eq (veq_eq 9) _ _ hh.2]
  | .dead, .arr _, hh => by simp [obeq] at hh
  | .dead, .map _, hh => by simp [obeq] at hh
  | .arr _, .dead, hh => by simp [obeq] at hh
  | .arr _, .map _, hh => by simp [obeq] at hh
  | .map _, .dead, hh => by simp [obeq] at hh
  | .map _, .arr _, hh => by simp [obeq] at hh
  | .map _, .map _, hh => by simp [obeq] at hh
def preB : Heap → Heap → Bool
  | [], _ => true
  | a :: l, b :: l' => obeq a b && preB l l'
  | _ :: _, [] => false
theorem preB_ex : ∀ h h' : Heap, preB h h' = true → ∃ new, h' = h ++ new
  | [], h', _ => ⟨h', rfl⟩
  | a :: l, b :: l', hh => by
    simp only [preB, Bool.and_eq_true] at hh
    obtain ⟨new, e⟩ := preB_ex l l' hh.2
    exact ⟨new, by rw [obeq_eq a b hh.1, e]; rfl⟩
  | _ :: _, [], hh => by simp [preB] at hh
def vb0B (b : Nat) (v : Value) : Bool :=
  match v with
  | .pointer (some a) => Nat.ble (a.block + 1) b
  | .slice (some a) _ _ => Nat.ble (a.block + 1) b
  | .map (some r) => Nat.ble (r + 1) b
  | .agg cs => cs.toList.isEmpty
  | .tuple cs => cs.toList.isEmpty
  | .func _ fa ca => fa.toList.isEmpty && ca.toList.isEmpty
  | _ => true
theorem vb0B_of {b : Nat} {v : Value} (hh : vb0B b v = true) : VB0 b v := by
  unfold vb0B at hh
  unfold VB0
  split <;> simp_all [Nat.ble_eq, Nat.succ_le_iff]
def vbB (b : Nat) (v : Value) : Bool :=
  match v with
  | .agg cs => cs.toList.all (vb0B b)
  | .func _ fa ca => fa.toList.all (vb0B b) && ca.toList.all (vb0B b)
  | v => vb0B b v
theorem vbB_of {b : Nat} {v : Value} (hh : vbB b v = true) : VB b v := by
  unfold vbB at hh
  unfold VB
  split at hh
  · intro c hc; exact vb0B_of (List.all_eq_true.mp hh c hc)
  · simp only [Bool.and_eq_true] at hh
    exact ⟨fun c hc => vb0B_of (List.all_eq_true.mp hh.1 c hc), fun c hc => vb0B_of (List.all_eq_true.mp hh.2 c hc)⟩
  · rename_i x1 x2
    cases v <;> first | exact vb0B_of hh | exact absurd rfl (x1 _) | exact absurd rfl (x2 _ _ _)

/-! ### a region -/
abbrev Callee := FuncId → List Value → Heap → Option (Value × Heap)
def evOp (P : Program) (call : Callee) (t : Tmps) (op : Op) (h : Heap) : Option (Value × Heap) :=
  match op with
  | .call c => bif isFn c then (match callOf t c with | some (f, args) => call f args h | none => none) else callVal P t c h
  | op => opVal P t op h
def evS (P : Program) (call : Callee) (ops : Array Oper) : List Oper → Tmps → Heap → Option (Tmps × Heap)
  | [], t, h => some (t, h)
  | o :: rest, t, h =>
    match o.guard with
    | none => match evOp P call t o.op h with | some (v, h') => evS P call ops rest (updO t o.dst v) h' | none => none
    | some (j, z) =>
      match yldV (t (gdst ops j)) with
      | some b => bif (b == z) then (match evOp P call t o.op h with | some (v, h') => evS P call ops rest (updO t o.dst v) h' | none => none)
        else evS P call ops rest (updO t o.dst undef) h
      | none => none
def pendB (P : Program) (A : Nat) (h' : Heap) : List Pend → Bool
  | [] => true
  | x :: l => (A.testBit x.i || (match opVal P x.t x.op h' with | some (v, _) => isRead x.op && veq 9 v x.v | none => false)) && pendB P A h' l
theorem read_heap {t : Tmps} {op : Op} {v : Value} (hr : isRead op = true) (ho : opVal P t op h = some (v, h')) : h' = h := by
  unfold isRead kindOf at hr
  split at hr
  · rename_i hk
    split at hk <;> first
      | (cases hk; done)
      | (simp only [opVal, Option.map_eq_some_iff] at ho; obtain ⟨_, _, e⟩ := ho; cases e; rfl)
      | (split at hk <;> cases hk)
      | skip
  · cases hr
theorem pendB_of {A : Nat} : ∀ l : List Pend, pendB P A h' l = true → pendK P A h' l
  | [], _ => trivial
  | x :: l, hh => by
    simp only [pendB, Bool.and_eq_true, Bool.or_eq_true] at hh
    simp only [pendK]
    split
    · exact pendB_of l hh.2
    · rename_i hc
      refine ⟨?_, pendB_of l hh.2⟩
      rcases hh.1 with h1 | h1
      · rw [hc] at h1; cases h1
      · split at h1
        · rename_i v h'' hv
          simp only [Bool.and_eq_true] at h1
          rw [hv, veq_eq 9 _ _ h1.2, read_heap h1.1 hv]
        · cases h1
def sideB (P : Program) (ops : Array Oper) (i : Nat) (op : Op) (pend : List Pend) (h : Heap) (v : Value) (h' : Heap) : Bool :=
  match kindOf op with
  | .act => bif isCall op then preB h h' else pendB P (ancB ops i) h' pend
  | .read => vbB h.length v
  | _ => true
theorem sideB_of {ops : Array Oper} {i : Nat} {op : Op} {pend : List Pend} {v : Value} {rest : Prop} (hb : sideB P ops i op pend h v h' = true) (hr : rest) : sideK P ops i op pend h v h' rest := by
  unfold sideB at hb
  unfold sideK
  split
  · rename_i hk
    rw [hk] at hb
    simp only at hb
    split
    · rename_i hc; rw [hc] at hb; exact ⟨preB_ex _ _ hb, hr⟩
    · rename_i hc
      have : isCall op = false := by simpa using hc
      rw [this] at hb; exact ⟨pendB_of _ hb, hr⟩
  · rename_i hk; rw [hk] at hb; exact ⟨vbB_of hb, hr⟩
  · exact hr
def evDS (P : Program) (call : Callee) (ops : Array Oper) : List Oper → Nat → List Pend → Tmps → Heap → Option (Tmps × Heap)
  | [], _, _, t, h => some (t, h)
  | o :: rest, i, pend, t, h =>
    match o.guard with
    | none =>
      match evOp P call t o.op h with
      | some (v, h') => bif sideB P ops i o.op pend h v h' then evDS P call ops rest (i + 1) (pendS (later rest) i o.op t v pend) (updO t o.dst v) h' else none
      | none => none
    | some (j, z) =>
      match yldV (t (gdst ops j)) with
      | some b =>
        bif (b == z) then
          (match evOp P call t o.op h with
          | some (v, h') => bif sideB P ops i o.op pend h v h' then evDS P call ops rest (i + 1) (pendS (later rest) i o.op t v pend) (updO t o.dst v) h' else none
          | none => none)
        else evDS P call ops rest (i + 1) pend (updO t o.dst undef) h
      | none => none

def CallOK (P : Program) (call : Callee) : Prop := ∀ f args h v h', call f args h = some (v, h') → Runs P f args h v h'
theorem evOp_kd {call : Callee} (hc : CallOK P call) {t : Tmps} {op : Op} {v : Value} {K : Value → Heap → Prop} (he : evOp P call t op h = some (v, h')) (hk : K v h') : opKD P t op h K := by
  unfold evOp at he
  unfold opKD
  split at he
  · rename_i c
    simp only
    cases hcal : c.callee with
    | value x =>
      simp only [isFn, hcal, cond_true] at he ⊢
      split at he
      · rename_i f args hfa
        exact ⟨f, args, v, h', hfa, hc _ _ _ _ _ he, hk⟩
      · cases he
    | builtin b =>
      simp only [isFn, hcal, cond_false] at he ⊢
      exact ⟨v, h', by simpa only [callVal, hcal] using he, hk⟩
    | invoke r m =>
      simp only [isFn, hcal, cond_false] at he ⊢
      simp only [callVal, hcal] at he
      cases he
  · rename_i hno
    split
    · rename_i c; exact absurd rfl (hno c)
    · exact ⟨v, h', he, hk⟩
theorem opKD_K {t : Tmps} {op : Op} {K : Value → Heap → Prop} (hk : opKD P t op h K) : opK P t op h K := by
  unfold opKD at hk
  unfold opK
  split
  · rename_i c
    simp only at hk
    split
    · rename_i x hx
      rw [hx] at hk
      obtain ⟨f, args, v, h', h1, h2, h3⟩ := hk
      exact ⟨f, args, _, h1, h2, fun _ _ ⟨e1, e2⟩ => e1 ▸ e2 ▸ h3⟩
    · rename_i b hb
      rw [hb] at hk
      obtain ⟨v, h', h1, h2⟩ := hk
      exact ⟨v, h', by unfold bValL; rw [h1], h2⟩
    · rename_i x1 x2
      split at hk
      · rename_i x hx; exact absurd hx (x1 x)
      · rename_i b hb; exact absurd hb (x2 b)
      · exact hk
  · rename_i hno
    split at hk
    · rename_i c; exact absurd rfl (hno c)
    · exact hk

theorem vK_of {o : Option Value} {v : Value} {K : Value → Heap → Prop} (ho : o.map (·, h) = some (v, h')) (hk : K v h') : vK o h K := by
  obtain ⟨a, e1, e2⟩ := map_eq ho
  cases e2
  exact ⟨by rw [e1]; exact hk⟩
theorem okK_of {o : Option (Value × Heap)} {v : Value} {K : Value → Heap → Prop} (ho : o = some (v, h')) (hk : K v h') : okK o K := ⟨by rw [ho]; exact hk⟩
theorem bK_of {t : Tmps} {c : Call} {v : Value} {K : Value → Heap → Prop} (ho : callVal P t c h = some (v, h')) (hk : K v h') : bK P t c h K := by
  unfold callVal at ho
  split at ho
  · rename_i b hb
    unfold bK
    rw [hb]
    cases b <;> simp only [bVal] at ho <;> first
      | (cases ho; done)
      | (split at ho
         · rename_i ha hat; simp only [ha, hat]; first | exact vK_of ho hk | exact okK_of ho hk
         · cases ho)
      | (split at ho
         · rename_i ha hat; simp only [ha, hat]; exact vK_of ho hk
         · rename_i ha hat; simp only [ha, hat]; exact vK_of ho hk
         · cases ho)
  · cases ho
theorem opS_of {t : Tmps} {op : Op} {v : Value} {K : Value → Heap → Prop} (ho : opVal P t op h = some (v, h')) (hk : K v h') : opS P t op h K := by
  cases op <;> first
    | (cases ho; done)
    | (cases ho; exact ⟨hk⟩)
    | exact vK_of ho hk
    | exact okK_of ho hk
    | exact bK_of ho hk
    | (rename_i fn first cap; cases fn <;> first | (cases ho; done) | (cases ho; exact ⟨hk⟩))
    | (rename_i ty r; cases r <;> first | (cases ho; done) | exact okK_of ho hk)
theorem stepKD_of {call : Callee} (hc : CallOK P call) {t : Tmps} {op : Op} {v : Value} {K : Value → Heap → Prop} (he : evOp P call t op h = some (v, h')) (hk : K v h') : stepKD P t op h K := by
  unfold evOp at he
  unfold stepKD
  split at he
  · rename_i c
    simp only
    cases hf : isFn c with
    | true =>
      rw [hf] at he
      simp only [cond_true] at he ⊢
      split at he
      · rename_i f args hfa
        exact ⟨by rw [hfa]; exact ⟨v, h', hc _ _ _ _ _ he, hk⟩⟩
      · cases he
    | false => rw [hf] at he; exact bK_of he hk
  · rename_i hno
    split
    · rename_i c; exact absurd rfl (hno c)
    · exact opS_of he hk
theorem stepK_of {call : Callee} (hc : CallOK P call) {t : Tmps} {op : Op} {v : Value} {K : Value → Heap → Prop} (he : evOp P call t op h = some (v, h')) (hk : K v h') : stepK P t op h K := by
  unfold evOp at he
  unfold stepK
  split at he
  · rename_i c
    simp only
    cases hf : isFn c with
    | true =>
      rw [hf] at he
      simp only [cond_true] at he ⊢
      split at he
      · rename_i f args hfa
        exact ⟨by rw [hfa]; exact ⟨v, h', hc _ _ _ _ _ he, hk⟩⟩
      · cases he
    | false => rw [hf] at he; exact bKL_of (bK_of he hk)
  · rename_i hno
    split
    · rename_i c; exact absurd rfl (hno c)
    · exact opS_of he hk

theorem evS_wp {call : Callee} (hc : CallOK P call) {ops : Array Oper} {K : Tmps → Heap → Prop} : ∀ (l : List Oper) (t t' : Tmps) (h h' : Heap), evS P call ops l t h = some (t', h') → K t' h' → wpS P ops K l t h
  | [], t, t', h, h', he, hk => by cases he; exact hk
  | o :: l, t, t', h, h', he, hk => by
    simp only [evS] at he
    simp only [wpS]
    split
    · rename_i hg
      rw [hg] at he
      simp only at he
      split at he
      · rename_i v h1 e1
        exact stepK_of hc e1 (evS_wp hc l _ _ _ _ he hk)
      · cases he
    · rename_i j z hg
      rw [hg] at he
      simp only at he
      split at he
      · rename_i b hb
        refine ⟨?_⟩
        cases hz : (b == z) with
        | true =>
          rw [hz] at he
          simp only [cond_true] at he
          have : b = z := by simpa using hz
          subst this
          rw [if_pos hb]
          split at he
          · rename_i v h1 e1
            exact stepK_of hc e1 (evS_wp hc l _ _ _ _ he hk)
          · cases he
        | false =>
          rw [hz] at he
          simp only [cond_false] at he
          rw [if_neg (by rw [hb]; intro e; cases e; simp at hz)]
          exact evS_wp hc l _ _ _ _ he hk
      · cases he
theorem evDS_wp {call : Callee} (hc : CallOK P call) {ops : Array Oper} {K : Tmps → Heap → Prop} : ∀ (l : List Oper) (i : Nat) (pend : List Pend) (t t' : Tmps) (h h' : Heap), evDS P call ops l i pend t h = some (t', h') → K t' h' → wpDS P ops K l i pend t h
  | [], i, pend, t, t', h, h', he, hk => by cases he; exact hk
  | o :: l, i, pend, t, t', h, h', he, hk => by
    simp only [evDS] at he
    simp only [wpDS]
    split
    · rename_i hg
      rw [hg] at he
      simp only at he
      split at he
      · rename_i v h1 e1
        cases hs : sideB P ops i o.op pend h v h1 with
        | true =>
          rw [hs] at he
          exact stepKD_of hc e1 (sideB_of hs (evDS_wp hc l _ _ _ _ _ _ he hk))
        | false => rw [hs] at he; cases he
      · cases he
    · rename_i j z hg
      rw [hg] at he
      simp only at he
      split at he
      · rename_i b hb
        have key : (b = z → stepKD P t o.op h fun v h' => sideK P ops i o.op pend h v h' (wpDS P ops K l (i + 1) (pendS (later l) i o.op t v pend) (updO t o.dst v) h')) ∧ (b ≠ z → wpDS P ops K l (i + 1) pend (updO t o.dst undef) h) := by
          constructor
          · intro e
            subst e
            simp only [beq_self_eq_true, cond_true] at he
            split at he
            · rename_i v h1 e1
              cases hs : sideB P ops i o.op pend h v h1 with
              | true => rw [hs] at he; exact stepKD_of hc e1 (sideB_of hs (evDS_wp hc l _ _ _ _ _ _ he hk))
              | false => rw [hs] at he; cases he
            · cases he
          · intro e
            have : (b == z) = false := by simpa using e
            rw [this] at he
            exact evDS_wp hc l _ _ _ _ _ _ he hk
        split
        · refine ⟨?_⟩
          by_cases e : b = z
          · rw [if_pos (by rw [hb, e])]; exact key.1 e
          · rw [if_neg (by rw [hb]; intro e'; cases e'; exact e rfl)]; exact key.2 e
        · rename_i hl
          refine ⟨?_⟩
          by_cases e : b = z
          · rw [if_pos (by rw [hb, e])]
            have := key.1 e
            have hp : ∀ v, pendS (later l) i o.op t v pend = pend := fun v => pendS_no hl
            simpa only [hp] using this
          · rw [if_neg (by rw [hb]; intro e'; cases e'; exact e rfl)]; exact key.2 e
      · cases he

/-! ### code -/
def loopEv (body : Tmps → Heap → Option (Exit × Tmps × Heap)) : Nat → Tmps → Heap → Option (Exit × Tmps × Heap)
  | 0, _, _ => none
  | n + 1, t, h => match body t h with | some (.normal, t', h') => loopEv body n t' h' | r => r
def evR (P : Program) (call : Callee) (ops : Array Oper) (t : Tmps) (h : Heap) : Option (Tmps × Heap) :=
  match cutLast ops with
  | some (os, o) =>
    match evDS P call os os.toList 0 [] t h with
    | some (t', h') => (match evOp P call t' o.op h' with | some (v, h'') => some (updO t' o.dst v, h'') | none => none)
    | none => none
  | none => evDS P call ops ops.toList 0 [] t h
def evC (P : Program) (call : Callee) (n : Nat) : Code → Tmps → Heap → Option (Exit × Tmps × Heap)
  | .skip => fun t h => some (.normal, t, h)
  | .label _ => fun t h => some (.normal, t, h)
  | .region _ ops draw => fun t h =>
    match (match draw with | true => evR P call ops t h | false => evS P call ops ops.toList t h) with
    | some (t', h') => some (.normal, t', h')
    | none => none
  | .seq a b => fun t h => match evC P call n a t h with | some (.normal, t', h') => evC P call n b t' h' | r => r
  | .cond c a b => fun t h => match ev t c with | .bool z => (match z with | true => evC P call n a t h | false => evC P call n b t h) | _ => none
  | .block id b => fun t h => match evC P call n b t h with | some (.exit i, t', h') => bif Nat.beq i id then some (.normal, t', h') else some (.exit i, t', h') | r => r
  | .loop b => fun t h => loopEv (evC P call n b) n t h
  | .exit id => fun t h => some (.exit id, t, h)
  | .ret => fun t h => some (.ret, t, h)
  | _ => fun _ _ => none
theorem thenK_of {e : Exit} {t : Tmps} {X : Tmps → Heap → Prop} {K : Exit → Tmps → Heap → Prop} (h1 : e = .normal → X t h) (h2 : e ≠ .normal → K e t h) : thenK X K e t h := by
  cases e <;> first | exact h1 rfl | exact h2 (by intro e; cases e)
theorem evC_wp {call : Callee} (hc : CallOK P call) (n : Nat) : ∀ (c : Code) (K : Exit → Tmps → Heap → Prop) (t : Tmps) (h : Heap) (e : Exit) (t' : Tmps) (h' : Heap), gokC c = true → evC P call n c t h = some (e, t', h') → K e t' h' → wpC P c K t h := by
  intro c
  induction c with
  | skip => intro K t h e t' h' _ he hk; cases he; exact hk
  | label l => intro K t h e t' h' _ he hk; cases he; exact hk
  | exit id => intro K t h e t' h' _ he hk; cases he; exact hk
  | ret => intro K t h e t' h' _ he hk; cases he; exact hk
  | region id ops draw =>
    intro K t h e t' h' hg he hk
    simp only [evC] at he
    split at he
    · rename_i t1 h1 e1
      cases he
      cases draw with
      | true =>
        simp only [gokC] at hg
        simp only [wpC, wpR]
        simp only [evR] at e1
        split at e1
        · rename_i os o hcut
          rw [hcut] at hg
          rw [hcut]
          split at e1
          · rename_i t2 h2 e2
            split at e1
            · rename_i v h3 e3
              cases e1
              exact wpDS_sound (P := P) hg os.size 0 [] [] t h (by omega) (fun _ => rfl) (by simpa using evDS_wp hc (K := fun t h => opK P t o.op h fun v h' => K .normal (updO t o.dst v) h') _ _ _ _ _ _ _ e2 (opKD_K (evOp_kd hc e3 hk)))
            · cases e1
          · cases e1
        · rename_i hcut
          rw [hcut] at hg
          rw [hcut]
          exact wpDS_sound (P := P) hg ops.size 0 [] [] t h (by omega) (fun _ => rfl) (by simpa using evDS_wp hc (K := K .normal) _ _ _ _ _ _ _ e1 hk)
      | false =>
        have := wpS_sound (P := P) (K := K .normal) hg ops.size 0 t h (by omega) (by simpa using evS_wp hc (K := K .normal) _ _ _ _ _ e1 hk)
        simp only [wpC]
        rw [List.range_eq_range']
        exact this
    · cases he
  | seq a b iha ihb =>
    intro K t h e t' h' hg he hk
    simp only [gokC, Bool.and_eq_true] at hg
    simp only [evC] at he
    split at he
    · rename_i t1 h1 e1
      exact iha _ t h _ _ _ hg.1 e1 (ihb _ _ _ _ _ _ hg.2 he hk)
    · rename_i x
      exact iha _ t h _ _ _ hg.1 he (thenK_of (fun e' => by subst e'; exact absurd he (x _ _)) fun _ => hk)
  | cond c a b iha ihb =>
    intro K t h e t' h' hg he hk
    simp only [gokC, Bool.and_eq_true] at hg
    simp only [evC] at he
    simp only [wpC]
    split at he
    · rename_i z hz
      rw [hz]
      cases z with
      | true => exact iha _ _ _ _ _ _ hg.1 he hk
      | false => exact ihb _ _ _ _ _ _ hg.2 he hk
    · cases he
  | block id b ih =>
    intro K t h e t' h' hg he hk
    simp only [evC] at he
    simp only [wpC]
    split at he
    · rename_i i t1 h1 e1
      refine ih _ _ _ _ _ _ hg e1 ?_
      simp only [inBlockK]
      cases hb : Nat.beq i id with
      | true => rw [hb] at he; cases he; rw [if_pos (Nat.eq_of_beq_eq_true hb)]; exact hk
      | false => rw [hb] at he; cases he; rw [if_neg (Nat.ne_of_beq_eq_false hb)]; exact hk
    · rename_i x
      refine ih _ _ _ _ _ _ hg he ?_
      cases e with
      | exit i => exact absurd he (x _ _ _)
      | _ => exact hk
  | loop b ih =>
    intro K t h e t' h' hg he hk
    simp only [evC] at he
    refine ⟨fun t h => ∃ m, loopEv (evC P call n b) m t h = some (e, t', h'), fun t h => leastOf fun m => loopEv (evC P call n b) m t h = some (e, t', h'), ⟨n, he⟩, ?_⟩
    intro t1 h1 hI
    obtain ⟨hm, hmin⟩ := leastOf_spec hI
    generalize hμ : leastOf (fun m => loopEv (evC P call n b) m t1 h1 = some (e, t', h')) = m at hm hmin
    cases m with
    | zero => cases hm
    | succ m =>
      simp only [loopEv] at hm
      split at hm
      · rename_i t2 h2 e2
        refine ih _ _ _ _ _ _ hg e2 ⟨⟨m, hm⟩, ?_⟩
        have := (leastOf_spec (p := fun m => loopEv (evC P call n b) m t2 h2 = some (e, t', h')) ⟨m, hm⟩).2 m hm
        show leastOf (fun m => loopEv (evC P call n b) m t2 h2 = some (e, t', h')) < leastOf (fun m => loopEv (evC P call n b) m t1 h1 = some (e, t', h'))
        rw [hμ]
        exact Nat.lt_succ_of_le this
      · rename_i x
        refine ih _ _ _ _ _ _ hg hm (thenK_of (fun e' => by subst e'; exact absurd hm (x _ _)) fun _ => hk)
  | rangeFunc _ _ _ _ _ _ => intro K t h e t' h' _ he; cases he
  | scope _ _ => intro K t h e t' h' _ he; cases he
  | goto _ => intro K t h e t' h' _ he; cases he
  | refuse _ => intro K t h e t' h' _ he; cases he

/-! ### functions -/
def fOK (P : Program) (f : FuncId) : Bool :=
  match P.funcs[f]? with
  | some fn => match fn.body with
    | some c => codeOK P.globals.size fn.ntmps c && resOK fn.ntmps fn.results.toList && callable P f && P.follows .mixedOrders && gokC c
    | none => false
  | none => false
def memN (fs : List Nat) (f : Nat) : Bool := fs.any (Nat.beq f)
def evF (P : Program) (fs : List Nat) (n : Nat) : Nat → Callee
  | 0, _, _, _ => none
  | k + 1, f, args, h =>
    bif memN fs f then
      match P.funcs[f]? with
      | some fn => match fn.body with
        | some c =>
          bif Nat.ble args.length fn.ntmps then
            match evC P (evF P fs n k) n c (argT args) h with
            | some (.normal, t, h') => (match resVals P t h' fn.results.toList with | some vs => some (resV vs, h') | none => none)
            | some (.ret, t, h') => (match resVals P t h' fn.results.toList with | some vs => some (resV vs, h') | none => none)
            | _ => none
          else none
        | none => none
      | none => none
    else none
theorem evF_ok {fs : List Nat} {n : Nat} (hfs : ∀ f ∈ fs, fOK P f = true) : ∀ k, CallOK P (evF P fs n k) := by
  intro k
  induction k with
  | zero => intro f args h v h' he; cases he
  | succ k ih =>
    intro f args h v h' he
    simp only [evF] at he
    cases hm : memN fs f with
    | false => rw [hm] at he; cases he
    | true =>
      rw [hm] at he
      simp only [cond_true] at he
      have hmem : f ∈ fs := by
        obtain ⟨x, hx, hb⟩ := List.any_eq_true.mp hm
        rw [Nat.eq_of_beq_eq_true hb]; exact hx
      have hok := hfs f hmem
      unfold fOK at hok
      split at he
      · rename_i fn hfn
        rw [hfn] at hok
        simp only at hok
        split at he
        · rename_i c hb
          rw [hb] at hok
          simp only [Bool.and_eq_true] at hok
          obtain ⟨⟨⟨⟨h1, h2⟩, h3⟩, h4⟩, h5⟩ := hok
          cases hl : Nat.ble args.length fn.ntmps with
          | false => rw [hl] at he; cases he
          | true =>
            rw [hl] at he
            simp only [cond_true] at he
            refine RunsP.of_body hfn hb (by simp [h1, h2, h3, h4, Nat.le_of_ble_eq_true hl]) ?_
            split at he
            · rename_i t h1' e1
              refine evC_wp ih n c _ _ _ _ _ _ h5 e1 ?_
              simp only [retK]
              split at he
              · rename_i vs hvs; cases he; rw [hvs]; exact ⟨rfl, rfl⟩
              · cases he
            · rename_i t h1' e1
              refine evC_wp ih n c _ _ _ _ _ _ h5 e1 ?_
              simp only [retK]
              split at he
              · rename_i vs hvs; cases he; rw [hvs]; exact ⟨rfl, rfl⟩
              · cases he
            · cases he
        · cases he
      · cases he

end Go.AM
