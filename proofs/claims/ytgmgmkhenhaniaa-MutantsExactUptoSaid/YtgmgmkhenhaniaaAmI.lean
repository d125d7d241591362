/-
  Calls and regions over the abstract memory; code, piece by piece.
-/
import Derived.Test.YtgmgmkhenhaniaaAmH
set_option linter.unusedSimpArgs false
set_option linter.unusedVariables false
namespace Go.AM
variable {P : Program} {h h' : Heap} {ρ : Place} {w : World}

def callable (P : Program) (f : FuncId) : Bool :=
  match P.funcs[f]? with
  | some fn => fn.name != "runtime.NumGoroutine" && fn.body.isSome
  | none => false

/-- The package variables lie at the numbers that are their own. -/
def GlobP (P : Program) (ρ : Place) : Prop := ∀ g, g < P.globals.size → ∃ L, ρ g = some L ∧ L.blk = g ∧ L.off = 0
theorem GlobP.mono {ρ' : Place} (hle : Le ρ ρ') (G : GlobP P ρ) : GlobP P ρ' := fun g hg => by
  obtain ⟨L, h1, h2, h3⟩ := G g hg
  exact ⟨L, hle _ _ h1, h2, h3⟩
theorem GlobP.no (hn : P.globals.size = 0) (ρ : Place) : GlobP P ρ := fun g hg => by omega
/-- A call of Go code, or of a function without Go text that answers at once. -/
def CallsX (P : Program) (f : FuncId) (args : Array Value) (w : World) (Q : Ending → World → Prop) : Prop :=
  (callable P f = true ∧ Calls P f args w Q) ∨ ∃ c w', (callFunc f args).run P w = .ok (.value c) w' ∧ Q (.returned c) w'
theorem CallsX.mono {f : FuncId} {args : Array Value} {Q Q' : Ending → World → Prop} (hc : CallsX P f args w Q) (hm : ∀ e w', Q e w' → Q' e w') : CallsX P f args w Q' :=
  hc.imp (fun ⟨h1, h2⟩ => ⟨h1, h2.mono hm⟩) fun ⟨c, w', h1, h2⟩ => ⟨c, w', h1, hm _ _ h2⟩
/-- A call over the abstract memory: of what it gives and leaves R holds. -/
def RunsP (P : Program) (f : FuncId) (args : List Value) (h : Heap) (R : Value → Heap → Prop) : Prop :=
  ∀ ρ w cargs, GlobP P ρ → Rel h ρ w → LRel ρ args cargs →
    CallsX P f cargs.toArray w fun e w' => ∃ v h' ρ' c, R v h' ∧ e = .returned c ∧ Rel h' ρ' w' ∧ Step h ρ w h' ρ' w' ∧ VRel ρ' v c
/-- A call over the abstract memory: it gives v and leaves h'. -/
def Runs (P : Program) (f : FuncId) (args : List Value) (h : Heap) (v : Value) (h' : Heap) : Prop := RunsP P f args h fun x y => x = v ∧ y = h'
theorem RunsP.mono {f : FuncId} {args : List Value} {R R' : Value → Heap → Prop} (hr : RunsP P f args h R) (hm : ∀ v h', R v h' → R' v h') : RunsP P f args h R' :=
  fun ρ w cargs h0 h1 h2 => (hr ρ w cargs h0 h1 h2).mono fun _ _ ⟨v, h', ρ', c, h3, h4⟩ => ⟨v, h', ρ', c, hm _ _ h3, h4⟩

/-- Who is called, and with what. -/
def callOf (t : Tmps) (c : Call) : Option (FuncId × List Value) :=
  match c.callee with
  | .value x =>
    match ev t x with
    | .func (.func f) first cap => some (f, first.toList ++ c.args.toList.map (ev t) ++ cap.toList)
    | _ => none
  | _ => none

/-- One operation, and what then. -/
def opK (P : Program) (t : Tmps) (op : Op) (h : Heap) (K : Value → Heap → Prop) : Prop :=
  match op with
  | .call c =>
    match c.callee with
    | .value x => ∃ f args R, callOf t c = some (f, args) ∧ RunsP P f args h R ∧ ∀ v h', R v h' → K v h'
    | .builtin b => ∃ v h', bValL P t b c.args.toList c.argTypes.toList h = some (v, h') ∧ K v h'
    | _ => False
  | op => ∃ v h', opVal P t op h = some (v, h') ∧ K v h'
/-- The same where a call's outcome is told. -/
def opKD (P : Program) (t : Tmps) (op : Op) (h : Heap) (K : Value → Heap → Prop) : Prop :=
  match op with
  | .call c =>
    match c.callee with
    | .value x => ∃ f args v h', callOf t c = some (f, args) ∧ Runs P f args h v h' ∧ K v h'
    | .builtin b => ∃ v h', bVal P t b c.args.toList c.argTypes.toList h = some (v, h') ∧ K v h'
    | _ => False
  | op => ∃ v h', opVal P t op h = some (v, h') ∧ K v h'

/-- What one operation does. -/
def OpStep (P : Program) (t : Tmps) (op : Op) (h : Heap) (v : Value) (h' : Heap) : Prop :=
  opVal P t op h = some (v, h') ∨ ∃ c f args, op = .call c ∧ callOf t c = some (f, args) ∧ Runs P f args h v h'

theorem opKD_step {t : Tmps} {op : Op} {K : Value → Heap → Prop} (hk : opKD P t op h K) : ∃ v h', OpStep P t op h v h' ∧ K v h' := by
  unfold opKD at hk
  split at hk
  · rename_i c
    split at hk
    · obtain ⟨f, args, v, h', h1, h2, h3⟩ := hk
      exact ⟨v, h', .inr ⟨c, f, args, rfl, h1, h2⟩, h3⟩
    · rename_i b hb
      obtain ⟨v, h', h1, h2⟩ := hk
      exact ⟨v, h', .inl (by simp only [opVal, callVal, hb]; exact h1), h2⟩
    · exact hk.elim
  · obtain ⟨v, h', h1, h2⟩ := hk
    exact ⟨v, h', .inl h1, h2⟩

def yieldedA (ops : Array Oper) (t : Tmps) (j : Nat) : Option Bool :=
  match (ops[j]?).bind (·.dst) with
  | some d => match t d with | .bool b => some b | _ => none
  | none => none

/-- What an operation looks at is in bounds and known. -/
def operOK (ops : Array Oper) (N : Nat) (o : Oper) : Bool :=
  o.op.operands.all (opOK N) && (match o.dst with | some d => decide (d < N) | none => true) &&
  (match o.guard with | some (j, _) => (match (ops[j]?).bind (·.dst) with | some d => decide (d < N) | none => true) | none => true)

theorem yielded_eq {ops : Array Oper} {N : Nat} {t : Tmps} {a : Act} {j : Nat} (hv : ∀ d, (ops[j]?).bind (·.dst) = some d → VRel ρ (t d) (a.tmps.getD d undef) ∧ d < a.tmps.size) :
    yielded ops a.tmps j = yieldedA ops t j := by
  unfold yielded yieldedA
  cases hd : (ops[j]?).bind (·.dst) with
  | none => rfl
  | some d =>
    obtain ⟨h1, h2⟩ := hv d hd
    simp only [Option.bind_some]
    have e : a.tmps[d]? = some (a.tmps.getD d undef) := by simp [Array.getD, h2]
    rw [e]
    generalize a.tmps.getD d undef = c at h1
    generalize t d = v at h1
    cases h1 <;> rfl

/-- One operation of a region, run where it stands. -/
def wpL (P : Program) (ops : Array Oper) (K : Tmps → Heap → Prop) : List Nat → Tmps → Heap → Prop
  | [], t, h => K t h
  | i :: rest, t, h =>
    match ops[i]? with
    | none => wpL P ops K rest t h
    | some o =>
      match o.guard with
      | none => opK P t o.op h fun v h' => wpL P ops K rest (updO t o.dst v) h'
      | some (j, z) =>
        if yieldedA ops t j = some z then opK P t o.op h fun v h' => wpL P ops K rest (updO t o.dst v) h'
        else wpL P ops K rest (updO t o.dst undef) h

theorem callP_sound {c : Call} {f : FuncId} {args : List Value} {t : Tmps} {a : Act} {o : Oper} {RR : Value → Heap → Prop} {next : Act → World → Prop} {Q : Exit → Act → World → Prop}
    (ho : o.op = .call c) (hc : callOf t c = some (f, args)) (hr : RunsP P f args h RR) (G : GlobP P ρ) (R : Rel h ρ w) (T : ∀ x ∈ o.op.operands, VRel ρ (ev t x) (a.eval x))
    (hn : ∀ v h' ρ' w' cv, RR v h' → Rel h' ρ' w' → Step h ρ w h' ρ' w' → VRel ρ' v cv → next (a.put o.dst cv) w') : o.wp P a w next Q := by
  unfold callOf at hc
  split at hc
  rotate_left
  · cases hc
  rename_i x hx
  split at hc
  rotate_left
  · cases hc
  rename_i g first cap hg
  simp only [Option.some.injEq, Prod.mk.injEq] at hc
  obtain ⟨rfl, rfl⟩ := hc
  have hT := T
  rw [ho] at hT
  have hxr := hT x (by simp [Op.operands, Call.operands, hx])
  rw [hg] at hxr
  obtain ⟨cfirst, ccap, hce, r1, r2⟩ : ∃ cf cc, a.eval x = .func (.func g) cf cc ∧ ARel ρ first cf ∧ ARel ρ cap cc := by
    generalize a.eval x = cx at hxr
    cases hxr with
    | func _ h1 h2 h3 h4 => exact ⟨_, _, rfl, ⟨h1, h2⟩, ⟨h3, h4⟩⟩
  have ra := arel_of (ρ := ρ) (t := t) (a := a) c.args (fun y hy => hT y (by simp [Op.operands, Call.operands, hx, hy]))
  have rl : LRel ρ (first.toList ++ c.args.toList.map (ev t) ++ cap.toList) (cfirst.toList ++ (c.args.map a.eval).toList ++ ccap.toList) := by
    have := ra.list
    simp only [Array.toList_map] at this ⊢
    exact (r1.list.append this).append r2.list
  have hcall := hr ρ w _ G R rl
  unfold Oper.wp
  have e : (cfirst.toList ++ (c.args.map a.eval).toList ++ ccap.toList).toArray = cfirst ++ c.args.map a.eval ++ ccap := by
    apply Array.ext'; simp
  rw [e] at hcall
  rcases hcall with ⟨hcb, hcall⟩ | ⟨cv, w', hrun, v, h', ρ', c', hR, he, R', S', V'⟩
  rotate_left
  · cases he
    have hrun' : (execOp a.eval o).run P w = .ok (.value cv) w' := by
      rw [← hrun]
      obtain ⟨dst, op, type, pos, after, guard⟩ := o
      simp only at ho
      subst ho
      simp [execOp, resolve, hx, Deferred.ofValue, hce, invoke]
    rw [hrun']
    exact hn v h' ρ' w' cv hR R' S' V'
  have hrun : (execOp a.eval o).run P w = .ok (.enter g (cfirst ++ c.args.map a.eval ++ ccap)) w := by
    obtain ⟨dst, op, type, pos, after, guard⟩ := o
    simp only at ho
    subst ho
    unfold callable at hcb
    split at hcb
    · rename_i fn hfn
      simp only [Bool.and_eq_true] at hcb
      have h1 : (fn.name == "runtime.NumGoroutine") = false := by simpa using hcb.1
      have h1' : ¬ (fn.name = "runtime.NumGoroutine") := by simpa using hcb.1
      have h2 : ¬ (fn.body = none) := by cases hb : fn.body <;> simp_all
      simp [execOp, resolve, hx, Deferred.ofValue, hce, invoke, callFunc, hfn, h1', h2]
    · cases hcb
  rw [hrun, Oper.upon_enter]
  refine hcall.mono ?_
  rintro e w' ⟨v, h', ρ', cv, hR, rfl, R', S', V'⟩
  exact hn v h' ρ' w' cv hR R' S' V'

theorem step_sound {t : Tmps} {a : Act} {o : Oper} {v : Value} {next : Act → World → Prop} {Q : Exit → Act → World → Prop}
    (hs : OpStep P t o.op h v h') (G : GlobP P ρ) (R : Rel h ρ w) (T : ∀ x ∈ o.op.operands, VRel ρ (ev t x) (a.eval x))
    (hn : ∀ ρ' w' cv, Rel h' ρ' w' → Step h ρ w h' ρ' w' → VRel ρ' v cv → next (a.put o.dst cv) w') : o.wp P a w next Q := by
  rcases hs with hl | ⟨c, f, args, ho, hc, hr⟩
  · obtain ⟨ρ', w', cv, nx, h1, h2, h3, h4, h5, _, _⟩ := opVal_sound hl R T
    unfold Oper.wp
    rw [h1]
    rcases h2 with rfl | ⟨rfl, rfl⟩
    · exact hn ρ' w' cv h3 h4 h5
    · exact hn ρ' w' undef h3 h4 h5
  · refine callP_sound ho hc hr G R T ?_
    rintro v' h'' ρ' w' cv ⟨rfl, rfl⟩ R' S' V'
    exact hn ρ' w' cv R' S' V'

/-- A read of a package variable. -/
def isGL (G : Nat) (o : Oper) : Bool := match o.op, o.guard with | .load _ (.global g), none => decide (g < G) | _, _ => false
theorem isGL_is {G : Nat} {o : Oper} (hg : isGL G o = true) : ∃ ty g, o.op = .load ty (.global g) ∧ g < G ∧ o.guard = none := by
  unfold isGL at hg
  split at hg
  · rename_i h1 h2; exact ⟨_, _, h1, by simpa using hg, h2⟩
  · cases hg
def operOKG (G : Nat) (ops : Array Oper) (N : Nat) (o : Oper) : Bool := isGL G o || operOK ops N o
/-- A region in the text's order. -/
theorem wpL_sound {ops : Array Oper} {N : Nat} {h0 : Heap} {ρ0 : Place} {w0 : World} {K : Tmps → Heap → Prop} {Q : Exit → Act → World → Prop}
    (hok : ∀ (i : Nat) (o : Oper), ops[i]? = some o → operOKG P.globals.size ops N o = true) (G0 : GlobP P ρ0) (hQ : ∀ t h ρ a w, K t h → TRel ρ N t a → Rel h ρ w → Step h0 ρ0 w0 h ρ w → Q .normal a w) :
    ∀ (l : List Nat) (t : Tmps) (h : Heap) (ρ : Place) (a : Act) (w : World), wpL P ops K l t h → TRel ρ N t a → Rel h ρ w → Step h0 ρ0 w0 h ρ w → wpOps P ops Q l a w := by
  intro l
  induction l with
  | nil => intro t h ρ a w hk T R S; exact hQ t h ρ a w hk T R S
  | cons i rest ih =>
    intro t h ρ a w hk T R S
    simp only [wpL] at hk
    simp only [wpOps]
    cases ho : ops[i]? with
    | none => rw [ho] at hk; exact ih t h ρ a w hk T R S
    | some o =>
      rw [ho] at hk
      simp only at hk ⊢
      have hoo := hok i o ho
      have hG := G0.mono S.ext
      have hT : ∀ x ∈ o.op.operands, VRel ρ (ev t x) (a.eval x) := by
        intro x hx
        unfold operOKG at hoo
        rw [Bool.or_eq_true] at hoo
        rcases hoo with hgl | hoo
        · obtain ⟨ty, g, hop, hlt, _⟩ := isGL_is hgl
          rw [hop] at hx
          simp [Op.operands] at hx
          subst hx
          obtain ⟨L, h1, h2, h3⟩ := hG g hlt
          have := VRel.ptr (off := 0) h1
          rw [h2, h3] at this
          exact this
        · simp only [operOK, Bool.and_eq_true] at hoo
          have := Array.all_eq_true.mp hoo.1.1
          obtain ⟨k, hk', rfl⟩ := Array.mem_iff_getElem.mp hx
          exact T.eval (this k hk')
      have hgo : opK P t o.op h (fun v h' => wpL P ops K rest (updO t o.dst v) h') → o.wp P a w (wpOps P ops Q rest) Q ∨ (o.asks P a w ∧ LetsOut Q) := by
        intro hk
        left
        have hval : ∀ v h', opVal P t o.op h = some (v, h') → wpL P ops K rest (updO t o.dst v) h' → o.wp P a w (wpOps P ops Q rest) Q := by
          intro v h' hl hk
          refine step_sound (.inl hl) hG R hT ?_
          intro ρ' w' cv R' S' V'
          exact ih _ _ ρ' _ w' hk ((T.mono S'.ext).put V' o.dst) R' (S.trans S')
        unfold opK at hk
        split at hk
        · rename_i c hoc
          split at hk
          · obtain ⟨f, args, RR, h1, h2, h3⟩ := hk
            refine callP_sound hoc h1 h2 hG R hT ?_
            intro v h' ρ' w' cv hR R' S' V'
            exact ih _ _ ρ' _ w' (h3 v h' hR) ((T.mono S'.ext).put V' o.dst) R' (S.trans S')
          · rename_i b hb
            obtain ⟨v, h', h1, h2⟩ := hk
            unfold bValL at h1
            split at h1
            · rename_i r hr
              cases h1
              exact hval v h' (by rw [hoc]; simp only [opVal, callVal, hb]; exact hr) h2
            · obtain ⟨v0, e1, e2⟩ := Option.map_eq_some_iff.mp h1
              cases e2
              obtain ⟨cv, e3, e4⟩ := lenM_sound hoc hb e1 R hT
              unfold Oper.wp
              rw [e3]
              exact ih _ _ ρ _ w h2 (T.put e4 o.dst) R S
          · exact hk.elim
        · obtain ⟨v, h', h1, h2⟩ := hk
          exact hval v h' h1 h2
      cases hg : o.guard with
      | none =>
        rw [hg] at hk
        simp only [Region.wanted, hg, if_true]
        exact hgo hk
      | some jz =>
        obtain ⟨j, z⟩ := jz
        rw [hg] at hk
        simp only at hk
        have hy : yielded ops a.tmps j = yieldedA ops t j := by
          refine yielded_eq (ρ := ρ) (N := N) ?_
          intro d hd
          have hoo : operOK ops N o = true := by
            unfold operOKG at hoo
            rw [Bool.or_eq_true] at hoo
            rcases hoo with hgl | hoo
            · obtain ⟨_, _, _, _, hgn⟩ := isGL_is hgl
              rw [hg] at hgn; cases hgn
            · exact hoo
          simp only [operOK, Bool.and_eq_true] at hoo
          have h2 := hoo.2
          simp only [hg, hd] at h2
          have h2' : d < N := by simpa using h2
          exact ⟨T.vals d h2', by rw [T.size]; exact h2'⟩
        simp only [Region.wanted, hg, hy]
        by_cases hz : yieldedA ops t j = some z
        · rw [if_pos hz] at hk
          simp only [hz, beq_self_eq_true, if_true]
          exact hgo hk
        · rw [if_neg hz] at hk
          have hz' : (yieldedA ops t j == some z) = false := by simpa using hz
          simp only [hz']
          exact ih _ _ ρ _ w hk (T.put (VRel.undef' ρ) o.dst) R S

end Go.AM
