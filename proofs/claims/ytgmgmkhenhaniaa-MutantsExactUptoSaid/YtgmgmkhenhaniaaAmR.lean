/-
  Code over the abstract memory; a call's contract out of its body.
-/
import Derived.Test.YtgmgmkhenhaniaaAmQ
set_option linter.unusedSimpArgs false
set_option linter.unusedVariables false
namespace Go.AM
variable {P : Program} {h h' : Heap} {ρ : Place} {w : World}

def thenK (next : Tmps → Heap → Prop) (K : Exit → Tmps → Heap → Prop) : Exit → Tmps → Heap → Prop
  | .normal, t, h => next t h
  | e, t, h => K e t h
def inBlockK (id : Nat) (K : Exit → Tmps → Heap → Prop) : Exit → Tmps → Heap → Prop
  | .exit i, t, h => if i = id then K .normal t h else K (.exit i) t h
  | e, t, h => K e t h

/-- A region that draws its order. -/
def wpR (P : Program) (ops : Array Oper) (K : Tmps → Heap → Prop) (t : Tmps) (h : Heap) : Prop :=
  match cutLast ops with
  | some (os, o) => wpD P os (fun t h => opK P t o.op h fun v h' => K (updO t o.dst v) h') (List.range' 0 os.size) [] t h
  | none => wpD P ops K (List.range' 0 ops.size) [] t h
def wpC (P : Program) : Code → (Exit → Tmps → Heap → Prop) → Tmps → Heap → Prop
  | .skip, K => K .normal
  | .label _, K => K .normal
  | .region _ ops draw, K => fun t h => match draw with | true => wpR P ops (K .normal) t h | false => wpL P ops (K .normal) (List.range ops.size) t h
  | .seq a b, K => wpC P a (thenK (wpC P b K) K)
  | .cond c a b, K => fun t h => match ev t c with | .bool true => wpC P a K t h | .bool false => wpC P b K t h | _ => False
  | .block id b, K => wpC P b (inBlockK id K)
  | .loop b, K => fun t h => ∃ (I : Tmps → Heap → Prop) (μ : Tmps → Heap → Nat), I t h ∧ ∀ t h, I t h → wpC P b (thenK (fun t' h' => I t' h' ∧ μ t' h' < μ t h) K) t h
  | .exit id, K => K (.exit id)
  | .ret, K => K .ret
  | _, _ => fun _ _ => False

def codeOK (G N : Nat) : Code → Bool
  | .region _ ops draw => match draw with | true => (match cutLast ops with | some (os, o) => drawOK os N && operOK ops N o | none => drawOK ops N) | false => ops.all (operOKG G ops N)
  | .seq a b => codeOK G N a && codeOK G N b
  | .cond c a b => opOK N c && codeOK G N a && codeOK G N b
  | .block _ b => codeOK G N b
  | .loop b => codeOK G N b
  | _ => true

theorem least {p : Nat → Prop} (hp : ∃ n, p n) : ∃ n, p n ∧ ∀ m, p m → n ≤ m := by
  obtain ⟨n, hn⟩ := hp
  induction n using Nat.strongRecOn with
  | _ n ih =>
    by_cases h : ∃ m, m < n ∧ p m
    · obtain ⟨m, hm, hpm⟩ := h
      exact ih m hm hpm
    · exact ⟨n, hn, fun m hm => by
        rcases Nat.lt_or_ge m n with h1 | h1
        · exact absurd ⟨m, h1, hm⟩ h
        · exact h1⟩

open Classical in
noncomputable def leastOf (p : Nat → Prop) : Nat := if h : ∃ n, p n then Classical.choose (least h) else 0
theorem leastOf_spec {p : Nat → Prop} (hp : ∃ n, p n) : p (leastOf p) ∧ ∀ m, p m → leastOf p ≤ m := by
  unfold leastOf
  rw [dif_pos hp]
  exact Classical.choose_spec (least hp)

theorem wpC_sound {N : Nat} {h0 : Heap} {ρ0 : Place} {w0 : World} (hmix : P.follows .mixedOrders = true) (G0 : GlobP P ρ0) : ∀ (c : Code) (K : Exit → Tmps → Heap → Prop) (Q : Exit → Act → World → Prop), codeOK P.globals.size N c = true →
    (∀ e t h ρ a w, K e t h → TRel ρ N t a → Rel h ρ w → Step h0 ρ0 w0 h ρ w → Q e a w) →
    ∀ (t : Tmps) (h : Heap) (ρ : Place) (a : Act) (w : World), wpC P c K t h → TRel ρ N t a → Rel h ρ w → Step h0 ρ0 w0 h ρ w → c.wp P Q a w := by
  intro c
  induction c with
  | skip => intro K Q _ hQ t h ρ a w hw T R S; exact wp_skip (hQ _ _ _ _ _ _ hw T R S)
  | label l => intro K Q _ hQ t h ρ a w hw T R S; exact wp_label (hQ _ _ _ _ _ _ hw T R S)
  | exit id => intro K Q _ hQ t h ρ a w hw T R S; exact wp_exit (hQ _ _ _ _ _ _ hw T R S)
  | ret => intro K Q _ hQ t h ρ a w hw T R S; exact wp_ret (hQ _ _ _ _ _ _ hw T R S)
  | region id ops draw =>
    intro K Q hok hQ t h ρ a w hw T R S
    cases draw with
    | true =>
      simp only [wpC, wpR] at hw
      simp only [codeOK] at hok
      split at hw
      · rename_i os o hcut
        rw [hcut] at hok
        simp only [Bool.and_eq_true] at hok
        exact wpD_last hmix hcut hok.1 hok.2 (fun t h ρ a w hk T R S => hQ _ _ _ _ _ _ hk T R S) hw (G0.mono S.ext) T R S
      · rename_i hcut
        rw [hcut] at hok
        exact wpD_sound hmix hok (fun t h ρ a w hk T R S => hQ _ _ _ _ _ _ hk T R S) hw (G0.mono S.ext) T R S
    | false =>
      refine wp_region ?_
      refine wpL_sound (N := N) (h0 := h0) (ρ0 := ρ0) (w0 := w0) (K := K .normal) ?_ G0 (fun t h ρ a w hk T R S => hQ _ _ _ _ _ _ hk T R S) _ t h ρ a w hw T R S
      intro i o ho
      have := Array.all_eq_true.mp hok
      obtain ⟨hlt, rfl⟩ := Array.getElem?_eq_some_iff.mp ho
      exact this i hlt
  | seq x y ihx ihy =>
    intro K Q hok hQ t h ρ a w hw T R S
    simp only [codeOK, Bool.and_eq_true] at hok
    refine wp_seq (ihx _ _ hok.1 ?_ t h ρ a w hw T R S)
    intro e t h ρ a w hk T R S
    cases e with
    | normal => exact ihy K Q hok.2 hQ t h ρ a w hk T R S
    | exit id => exact hQ _ _ _ _ _ _ hk T R S
    | goto l => exact hQ _ _ _ _ _ _ hk T R S
    | ret => exact hQ _ _ _ _ _ _ hk T R S
    | panic ch => exact hQ _ _ _ _ _ _ hk T R S
    | outgrown => exact hQ _ _ _ _ _ _ hk T R S
  | cond c x y ihx ihy =>
    intro K Q hok hQ t h ρ a w hw T R S
    simp only [codeOK, Bool.and_eq_true] at hok
    have hc := T.eval hok.1.1
    simp only [wpC] at hw
    split at hw
    · rename_i he
      rw [he] at hc
      generalize hce : a.eval c = cv at hc
      cases hc
      exact wp_cond_true hce (ihx K Q hok.1.2 hQ t h ρ a w hw T R S)
    · rename_i he
      rw [he] at hc
      generalize hce : a.eval c = cv at hc
      cases hc
      exact wp_cond_false hce (ihy K Q hok.2 hQ t h ρ a w hw T R S)
    · exact hw.elim
  | block id b ih =>
    intro K Q hok hQ t h ρ a w hw T R S
    refine wp_block (ih _ _ hok ?_ t h ρ a w hw T R S)
    intro e t h ρ a w hk T R S
    cases e with
    | exit i =>
      simp only [inBlockK] at hk
      simp only [Exit.inBlock]
      split
      · rename_i he; rw [if_pos he] at hk; exact hQ _ _ _ _ _ _ hk T R S
      · rename_i he; rw [if_neg he] at hk; exact hQ _ _ _ _ _ _ hk T R S
    | normal => exact hQ _ _ _ _ _ _ hk T R S
    | goto l => exact hQ _ _ _ _ _ _ hk T R S
    | ret => exact hQ _ _ _ _ _ _ hk T R S
    | panic ch => exact hQ _ _ _ _ _ _ hk T R S
    | outgrown => exact hQ _ _ _ _ _ _ hk T R S
  | loop b ih =>
    intro K Q hok hQ t h ρ a w hw T R S
    obtain ⟨I, μ, h1, h2⟩ := hw
    refine wp_loop (fun a w => ∃ t h ρ, I t h ∧ TRel ρ N t a ∧ Rel h ρ w ∧ Step h0 ρ0 w0 h ρ w)
      (fun a w => leastOf fun n => ∃ t h ρ, I t h ∧ TRel ρ N t a ∧ Rel h ρ w ∧ Step h0 ρ0 w0 h ρ w ∧ μ t h = n) ⟨t, h, ρ, h1, T, R, S⟩ ?_
    intro a w hI
    obtain ⟨t0, h0', ρ0', i1, i2, i3, i4⟩ := hI
    obtain ⟨⟨t, h, ρ, j1, j2, j3, j4, j5⟩, hmin⟩ := leastOf_spec (p := fun n => ∃ t h ρ, I t h ∧ TRel ρ N t a ∧ Rel h ρ w ∧ Step h0 ρ0 w0 h ρ w ∧ μ t h = n) ⟨μ t0 h0', t0, h0', ρ0', i1, i2, i3, i4, rfl⟩
    refine ih _ _ hok ?_ t h ρ a w (h2 t h j1) j2 j3 j4
    intro e t' h' ρ' a' w' hk T' R' S'
    cases e with
    | normal =>
      refine ⟨⟨t', h', ρ', hk.1, T', R', S'⟩, ?_⟩
      have := (leastOf_spec (p := fun n => ∃ t h ρ, I t h ∧ TRel ρ N t a' ∧ Rel h ρ w' ∧ Step h0 ρ0 w0 h ρ w' ∧ μ t h = n) ⟨μ t' h', t', h', ρ', hk.1, T', R', S', rfl⟩).2 (μ t' h') ⟨t', h', ρ', hk.1, T', R', S', rfl⟩
      have := hk.2
      omega
    | exit id => exact hQ _ _ _ _ _ _ hk T' R' S'
    | goto l => exact hQ _ _ _ _ _ _ hk T' R' S'
    | ret => exact hQ _ _ _ _ _ _ hk T' R' S'
    | panic ch => exact hQ _ _ _ _ _ _ hk T' R' S'
    | outgrown => exact hQ _ _ _ _ _ _ hk T' R' S'
  | rangeFunc _ _ _ _ _ _ => intro K Q _ hQ t h ρ a w hw; exact hw.elim
  | scope _ _ => intro K Q _ hQ t h ρ a w hw; exact hw.elim
  | goto _ => intro K Q _ hQ t h ρ a w hw; exact hw.elim
  | refuse _ => intro K Q _ hQ t h ρ a w hw; exact hw.elim

/-! ### a function -/
def resVals (P : Program) (t : Tmps) (h : Heap) : List ResultVar → Option (List Value)
  | [] => some []
  | .tmp k :: l => match resVals P t h l with | some vs => some (t k :: vs) | none => none
  | .cell k ty :: l => match aLoad P ty (t k) h, resVals P t h l with | some v, some vs => some (v :: vs) | _, _ => none
def resV : List Value → Value
  | [v] => v
  | vs => .tuple vs.toArray
def resOK (N : Nat) (l : List ResultVar) : Bool := l.all fun | .tmp k => decide (k < N) | .cell k _ => decide (k < N)

def argT (args : List Value) : Tmps := fun i => args.getD i undef

theorem run_res {N : Nat} {t : Tmps} {a : Act} (T : TRel ρ N t a) (R : Rel h ρ w) : ∀ (l : List ResultVar) (vs : List Value), resOK N l = true → resVals P t h l = some vs →
    ∃ cs, LRel ρ vs cs ∧ (l.mapM fun | .tmp t => pure (a.tmps.getD t undef) | .cell x t => do loadVar t (← asAddr (a.tmps.getD x undef)) : Sem (List Value)).run P w = .ok cs w
  | [], vs, _, hv => by simp [resVals] at hv; subst hv; exact ⟨[], .nil, by simp⟩
  | r :: l, vs, hok, hv => by
    simp only [resOK, List.all_cons, Bool.and_eq_true] at hok
    cases r with
    | tmp k =>
      simp only [resVals] at hv
      split at hv
      · rename_i us hus
        cases hv
        obtain ⟨cs, h1, h2⟩ := run_res T R l us hok.2 hus
        have hk : k < N := by simpa using hok.1
        refine ⟨a.tmps.getD k undef :: cs, ?_, ?_⟩
        · refine ⟨by simp [h1.1], fun j => ?_⟩
          cases j with
          | zero => simpa [List.getD] using T.vals k hk
          | succ j => simpa [List.getD] using h1.2 j
        · simp only [List.mapM_cons, Sem.run_bind, Sem.run_pure, Result.andThen_ok, h2]
      · cases hv
    | cell k ty =>
      simp only [resVals] at hv
      split at hv
      · rename_i u us hu hus
        cases hv
        obtain ⟨cs, h1, h2⟩ := run_res T R l us hok.2 hus
        have hk : k < N := by simpa using hok.1
        obtain ⟨c', h3, h4⟩ := aLoad_sound hu R (T.vals k hk)
        have hp : ∃ ad, a.tmps.getD k undef = .pointer (some ad) := by
          have hr := T.vals k hk
          generalize a.tmps.getD k undef = cv at hr
          unfold aLoad at hu
          split at hu
          · rename_i he
            rw [he] at hr
            cases hr with
            | ptr hh => exact ⟨_, rfl⟩
          · cases hu
        obtain ⟨ad, hp⟩ := hp
        rw [hp] at h3
        refine ⟨c' :: cs, ?_, ?_⟩
        · refine ⟨by simp [h1.1], fun j => ?_⟩
          cases j with
          | zero => simpa [List.getD] using h4
          | succ j => simpa [List.getD] using h1.2 j
        · have h5 : (do loadVar ty (← asAddr (a.tmps.getD k undef)) : Sem Value).run P w = .ok c' w := by
            rw [hp]
            simpa [Instr.loadAt, Instr.sureAddr, asAddr] using h3
          rw [List.mapM_cons, Sem.run_bind, h5]
          simp only [Result.andThen_ok, Sem.run_bind, h2, Sem.run_pure]
      · cases hv

theorem resV_rel {vs cs : List Value} (r : LRel ρ vs cs) : VRel ρ (resV vs) (if h : cs.toArray.size = 1 then cs.toArray[0] else .tuple cs.toArray) := by
  match vs, cs, r with
  | [], [], r => exact .tuple rfl fun j hj => absurd hj (by simp)
  | [v], [c], r => simpa [resV, List.getD] using r.2 0
  | v :: v' :: vs, c :: c' :: cs, r =>
    have : ¬ ((c :: c' :: cs).toArray.size = 1) := by simp
    rw [dif_neg this]
    refine .tuple (by simpa using r.1) fun j _ => ?_
    have := r.2 j
    simpa [resV, List.getD, Array.getD_eq_getD_getElem?] using this
  | [], _ :: _, r => have := r.1; simp at this
  | _ :: _, [], r => have := r.1; simp at this
  | [_], _ :: _ :: _, r => have := r.1; simp at this
  | _ :: _ :: _, [_], r => have := r.1; simp at this

/-- What a function's end must show. -/
def retK (P : Program) (fn : Func) (R : Value → Heap → Prop) : Exit → Tmps → Heap → Prop
  | .normal, t, h | .ret, t, h => match resVals P t h fn.results.toList with | some vs => R (resV vs) h | none => False
  | _, _, _ => False

/-- A call's contract, out of its body. -/
theorem RunsP.of_body {f : FuncId} {fn : Func} {c : Code} {args : List Value} {R : Value → Heap → Prop} (hf : P.funcs[f]? = some fn) (hb : fn.body = some c)
    (hok : (codeOK P.globals.size fn.ntmps c && resOK fn.ntmps fn.results.toList && decide (args.length ≤ fn.ntmps) && callable P f && P.follows .mixedOrders) = true)
    (hw : wpC P c (retK P fn R) (argT args) h) : RunsP P f args h R := by
  simp only [Bool.and_eq_true, decide_eq_true_eq] at hok
  obtain ⟨⟨⟨⟨h1, h2⟩, h3⟩, h4⟩, h5⟩ := hok
  intro ρ w cargs G0 RR rl
  refine .inl ⟨h4, ?_⟩
  have hlen := rl.1
  refine calls_of_wp hf hb ?_
  have T : TRel ρ fn.ntmps (argT args) { tmps := cargs.toArray ++ Array.replicate (fn.ntmps - cargs.toArray.size) undef, defers := [] } := by
    refine ⟨by simp; omega, rfl, fun i hi => ?_⟩
    have hr := rl.2 i
    simp only [argT, Array.getD_eq_getD_getElem?]
    by_cases hlt : i < cargs.length
    · rw [Array.getElem?_append_left (by simpa using hlt)]
      simpa [List.getD] using hr
    · rw [Array.getElem?_append_right (by simpa using hlt)]
      have e : args.getD i undef = undef := by simp [List.getD]; rw [List.getElem?_eq_none (by omega)]; rfl
      rw [e]
      have : (Array.replicate (fn.ntmps - cargs.toArray.size) undef)[i - cargs.toArray.size]?.getD undef = undef := by
        rw [Array.getElem?_replicate]; split <;> rfl
      rw [this]; exact VRel.undef' ρ
  refine wpC_sound (N := fn.ntmps) (h0 := h) (ρ0 := ρ) (w0 := w) h5 G0 c (retK P fn R) _ h1 ?_ (argT args) h ρ _ w hw T RR (Step.refl _ _ _)
  intro e t h' ρ' a w' hk T' R' S'
  have fin : (match resVals P t h' fn.results.toList with | some vs => R (resV vs) h' | none => False) →
      a.defers = [] ∧ ∃ v, (results fn a.tmps).run P w' = .ok v w' ∧ ∃ v' h'' ρ'' c, R v' h'' ∧ Ending.returned v = .returned c ∧ Rel h'' ρ'' w' ∧ Step h ρ w h'' ρ'' w' ∧ VRel ρ'' v' c := by
    intro hk
    split at hk
    · rename_i vs hvs
      obtain ⟨cs, r1, r2⟩ := run_res T' R' fn.results.toList vs h2 hvs
      refine ⟨T'.defers, _, ?_, resV vs, h', ρ', _, hk, rfl, R', S', resV_rel r1⟩
      unfold results
      rw [Sem.run_bind, Array.mapM_eq_mapM_toList, Sem.run_map]
      erw [r2]
      simp only [Result.andThen_ok, Sem.run_pure]
    · exact hk.elim
  cases e with
  | normal => exact fin hk
  | ret => exact fin hk
  | exit _ => exact hk.elim
  | goto _ => exact hk.elim
  | panic _ => exact hk.elim
  | outgrown => exact hk.elim

end Go.AM
