/-
  One operation over the abstract memory, held against the machine's: the theorem.
-/
import Derived.Test.YtgmgmkhenhaniaaAmG
set_option linter.unusedSimpArgs false
set_option linter.unusedVariables false
namespace Go.AM
variable {P : Program} {h h' : Heap} {ρ : Place} {w : World}

def opKept (P : Program) (t : Tmps) (op : Op) : Option Nat :=
  match op with
  | .call c => match c.callee with | .builtin b => bKept P t b c.args.toList c.argTypes.toList | _ => none
  | _ => none

/-- What an operation that is no call of Go code does in the machine. -/
def OpGood (P : Program) (o : Oper) (t : Tmps) (a : Act) (h : Heap) (ρ : Place) (w : World) (v : Value) (h' : Heap) : Prop :=
  ∃ ρ' w' c nx, (execOp a.eval o).run P w = .ok nx w' ∧ (nx = .value c ∨ (nx = .skip ∧ c = undef)) ∧ Rel h' ρ' w' ∧ Step h ρ w h' ρ' w' ∧ VRel ρ' v c ∧
    Frm ρ w w' (opWr t o.op) ∧ ∀ n, opKept P t o.op = some n → Kept h ρ w w' (opWr t o.op) n

theorem OpGood.of_good {o : Oper} {t : Tmps} {a : Act} {v : Value} {s : Sem Value} (hg : Good P s h ρ w v h' (opWr t o.op)) (he : execOp a.eval o = (do pure (.value (← s)) : Sem Next))
    (hk : opKept P t o.op = none) : OpGood P o t a h ρ w v h' := by
  obtain ⟨ρ', w', c, h1, h2, h3, h4, h5⟩ := hg
  exact ⟨ρ', w', c, .value c, by rw [he, Sem.run_bind, h1]; rfl, .inl rfl, h2, h3, h4, h5, fun n hn => by rw [hk] at hn; cases hn⟩

theorem OpGood.of_pure {o : Oper} {t : Tmps} {a : Act} {v : Value} {s : Sem Value} (R : Rel h ρ w) (hg : ∃ c, s.run P w = .ok c w ∧ VRel ρ v c) (he : execOp a.eval o = (do pure (.value (← s)) : Sem Next))
    (hk : opKept P t o.op = none) : OpGood P o t a h ρ w v h := .of_good (Good.pure R hg _) he hk

theorem prel_of {t : Tmps} {a : Act} : ∀ (ps : List (Nat × Operand)), (∀ p ∈ ps, VRel ρ (ev t p.2) (a.eval p.2)) → PRel ρ (ps.map fun x => (x.1, ev t x.2)) (ps.map fun x => (x.1, a.eval x.2))
  | [], _ => trivial
  | p :: ps, hp => ⟨rfl, hp p (by simp), prel_of ps fun q hq => hp q (by simp [hq])⟩

theorem orel_of {t : Tmps} {a : Act} (o : Option Operand) (hp : ∀ x, o = some x → VRel ρ (ev t x) (a.eval x)) : ORel ρ (o.map (ev t)) (o.map a.eval) := by
  cases o with
  | none => trivial
  | some x => exact hp x rfl

theorem arel_of {t : Tmps} {a : Act} (xs : Array Operand) (hp : ∀ x ∈ xs, VRel ρ (ev t x) (a.eval x)) : ARel ρ (xs.map (ev t)) (xs.map a.eval) := by
  refine ⟨by simp, fun j => ?_⟩
  by_cases hj : j < xs.size
  · rw [getD_in (by simpa using hj), getD_in (by simpa using hj)]
    simp only [Array.getElem_map]
    exact hp _ (Array.getElem_mem hj)
  · rw [getD_out (by simpa using hj), getD_out (by simpa using hj)]; exact VRel.undef' ρ

theorem opVal_sound {o : Oper} {t : Tmps} {a : Act} {v : Value} (hl : opVal P t o.op h = some (v, h')) (R : Rel h ρ w) (T : ∀ x ∈ o.op.operands, VRel ρ (ev t x) (a.eval x)) :
    OpGood P o t a h ρ w v h' := by
  obtain ⟨dst, op, type, pos, after, guard⟩ := o
  simp only at hl T
  unfold opVal at hl
  split at hl
  · -- move
    rename_i x
    cases hl
    exact .of_pure (s := pure (a.eval x)) R ⟨_, rfl, T x (by simp [Op.operands])⟩ rfl rfl
  · rename_i x
    cases hl
    exact .of_pure (s := pure (a.eval x)) R ⟨_, rfl, T x (by simp [Op.operands])⟩ rfl rfl
  · rename_i c x y
    split at hl
    · rename_i z hz
      cases hl
      have hc := T c (by simp [Op.operands])
      rw [hz] at hc
      refine .of_pure (s := do pure (if ← asBool (a.eval c) then a.eval x else a.eval y)) R ⟨if z then a.eval x else a.eval y, ?_, ?_⟩ (by simp [execOp]) rfl
      · cases hc' : a.eval c <;> rw [hc'] at hc <;> cases hc
        simp [asBool]
      · cases z
        · exact T y (by simp [Op.operands])
        · exact T x (by simp [Op.operands])
    · cases hl
  · exact .of_good (aAlloc_sound hl R) rfl rfl
  · rename_i e x
    cases hl
    exact .of_good (aBox_sound R (T x (by simp [Op.operands]))) rfl rfl
  · rename_i ty ps
    cases hb : aBuild P ty (evParts t ps) with
    | none => simp [hb] at hl
    | some r =>
      simp [hb] at hl
      obtain ⟨rfl, rfl⟩ := hl
      have hp := prel_of (ρ := ρ) (t := t) (a := a) ps.toList (fun p hp => T p.2 (by simp [Op.operands]; exact ⟨p.1, by simpa using hp⟩))
      have := aBuild_sound (P := P) hb hp w
      refine .of_pure R this ?_ rfl
      simp only [execOp]
      congr 2
      apply Array.ext'
      simp
  · rename_i ty n ps
    have hp := prel_of (ρ := ρ) (t := t) (a := a) ps.toList (fun p hp => T p.2 (by simp [Op.operands]; exact ⟨p.1, by simpa using hp⟩))
    refine .of_good (aBuildSlice_sound (P := P) hl R hp) ?_ rfl
    simp only [execOp]
    congr 2
    apply Array.ext'
    simp
  · rename_i ty x
    cases hb : aLoad P ty (ev t x) h with
    | none => simp [hb] at hl
    | some r =>
      simp [hb] at hl
      obtain ⟨rfl, rfl⟩ := hl
      exact .of_pure R (aLoad_sound hb R (T x (by simp [Op.operands]))) rfl rfl
  · rename_i ty x y
    cases hb : aStore P ty (ev t x) (ev t y) h with
    | none => simp [hb] at hl
    | some r =>
      simp [hb] at hl
      obtain ⟨rfl, rfl⟩ := hl
      obtain ⟨w', h1, h2, h3, h4⟩ := aStore_sound hb R (T x (by simp [Op.operands])) (T y (by simp [Op.operands]))
      refine ⟨ρ, w', undef, .skip, ?_, .inr ⟨rfl, rfl⟩, h2, h3, VRel.undef' ρ, h4, fun n hn => by cases hn⟩
      simp only [execOp, Sem.run_bind, h1, Result.andThen_ok, Sem.run_pure]
  · rename_i x
    have hx := T x (by simp [Op.operands])
    split at hl
    · rename_i ad hz
      cases hl
      rw [hz] at hx
      refine ⟨ρ, w, a.eval x, .value (a.eval x), ?_, .inl rfl, R, .refl _ _ _, hx, .refl _ _ _, fun n hn => by cases hn⟩
      generalize hc : a.eval x = c at hx
      cases hx
      simp only [execOp, hc]; rfl
    · rename_i f fa ca hz
      cases hl
      rw [hz] at hx
      refine ⟨ρ, w, a.eval x, .value (a.eval x), ?_, .inl rfl, R, .refl _ _ _, hx, .refl _ _ _, fun n hn => by cases hn⟩
      generalize hc : a.eval x = c at hx
      cases hx
      simp only [execOp, hc]; rfl
    · cases hl
  · rename_i bop xt x y yt
    cases hb : aBin P bop xt (ev t x) (ev t y) with
    | none => simp [hb] at hl
    | some r =>
      simp [hb] at hl
      obtain ⟨rfl, rfl⟩ := hl
      exact .of_pure R (aBin_sound hb (T x (by simp [Op.operands])) (T y (by simp [Op.operands])) w) rfl rfl
  · rename_i uop xt x
    cases hb : aUn uop (ev t x) with
    | none => simp [hb] at hl
    | some r =>
      simp [hb] at hl
      obtain ⟨rfl, rfl⟩ := hl
      exact .of_pure R (aUn_sound hb (T x (by simp [Op.operands])) w) rfl rfl
  · rename_i s d x
    cases hb : aConvert P s d (ev t x) with
    | none => simp [hb] at hl
    | some r =>
      simp [hb] at hl
      obtain ⟨rfl, rfl⟩ := hl
      exact .of_pure R (aConvert_sound hb (T x (by simp [Op.operands])) w) rfl rfl
  · rename_i f first cap
    cases hl
    have h1 := arel_of (ρ := ρ) (t := t) (a := a) first (fun x hx => T x (by simp [Op.operands, hx]))
    have h2 := arel_of (ρ := ρ) (t := t) (a := a) cap (fun x hx => T x (by simp [Op.operands, hx]))
    have e1 : (first.toList.map (ev t)).toArray = first.map (ev t) := by apply Array.ext'; simp
    have e2 : (cap.toList.map (ev t)).toArray = cap.map (ev t) := by apply Array.ext'; simp
    rw [e1, e2]
    exact .of_pure R ⟨.func (.func f) (first.map a.eval) (cap.map a.eval), rfl, .func f h1.1 h1.2 h2.1 h2.2⟩ rfl rfl
  · rename_i ty l c
    exact .of_good (aMakeSlice_sound (P := P) hl R (T l (by simp [Op.operands])) (T c (by simp [Op.operands]))) rfl rfl
  · rename_i ty x lo hi mx
    cases hb : aSlice P ty (ev t x) (lo.map (ev t)) (hi.map (ev t)) (mx.map (ev t)) h with
    | none => simp [hb] at hl
    | some r =>
      simp [hb] at hl
      obtain ⟨rfl, rfl⟩ := hl
      exact .of_pure R (aSlice_sound hb R (T x (by simp [Op.operands])) (orel_of lo fun y e => T y (by simp [Op.operands, e])) (orel_of hi fun y e => T y (by simp [Op.operands, e])) (orel_of mx fun y e => T y (by simp [Op.operands, e]))) rfl rfl
  · rename_i ty x k
    cases hb : aFieldAddr P ty (ev t x) k with
    | none => simp [hb] at hl
    | some r =>
      simp [hb] at hl
      obtain ⟨rfl, rfl⟩ := hl
      exact .of_pure R (aFieldAddr_sound hb (T x (by simp [Op.operands])) w) rfl rfl
  · rename_i ty x k
    cases hb : aField P ty (ev t x) k with
    | none => simp [hb] at hl
    | some r =>
      simp [hb] at hl
      obtain ⟨rfl, rfl⟩ := hl
      exact .of_pure R (aField_sound hb (T x (by simp [Op.operands])) w) rfl rfl
  · rename_i ty x i
    cases hb : aIndexAddr P ty (ev t x) (ev t i) with
    | none => simp [hb] at hl
    | some r =>
      simp [hb] at hl
      obtain ⟨rfl, rfl⟩ := hl
      exact .of_pure R (aIndexAddr_sound hb (T x (by simp [Op.operands])) (T i (by simp [Op.operands])) w) rfl rfl
  · rename_i ty x i
    cases hb : aIndex P ty (ev t x) (ev t i) with
    | none => simp [hb] at hl
    | some r =>
      simp [hb] at hl
      obtain ⟨rfl, rfl⟩ := hl
      exact .of_pure R (aIndex_sound hb (T x (by simp [Op.operands])) (T i (by simp [Op.operands])) w) rfl rfl
  · rename_i x k
    cases hb : aExtract (ev t x) k with
    | none => simp [hb] at hl
    | some r =>
      simp [hb] at hl
      obtain ⟨rfl, rfl⟩ := hl
      exact .of_pure R (aExtract_sound hb (T x (by simp [Op.operands])) w) rfl rfl
  · cases hl
    exact .of_good (aMakeMap_sound R) rfl rfl
  · rename_i ty x k ok
    cases hb : aLookup P ty (ev t x) (ev t k) ok h with
    | none => simp [hb] at hl
    | some r =>
      simp [hb] at hl
      obtain ⟨rfl, rfl⟩ := hl
      exact .of_pure R (aLookup_sound hb R (T x (by simp [Op.operands])) (T k (by simp [Op.operands]))) rfl rfl
  · rename_i ty m k x
    cases hb : aMapUpd P ty (ev t m) (ev t k) (ev t x) h with
    | none => simp [hb] at hl
    | some r =>
      simp [hb] at hl
      obtain ⟨rfl, rfl⟩ := hl
      obtain ⟨w', h1, h2, h3, h4⟩ := aMapUpd_sound hb R (T m (by simp [Op.operands])) (T k (by simp [Op.operands])) (T x (by simp [Op.operands]))
      refine ⟨ρ, w', undef, .skip, ?_, .inr ⟨rfl, rfl⟩, h2, h3, VRel.undef' ρ, h4, fun n hn => by cases hn⟩
      simp only [execOp, Sem.run_bind, h1, Result.andThen_ok, Sem.run_pure]
  · rename_i ty m k x
    cases hb : aMapUpd P ty (ev t m) (ev t k) (ev t x) h with
    | none => simp [hb] at hl
    | some r =>
      simp [hb] at hl
      obtain ⟨rfl, rfl⟩ := hl
      obtain ⟨w', h1, h2, h3, h4⟩ := aMapUpd_sound hb R (T m (by simp [Op.operands])) (T k (by simp [Op.operands])) (T x (by simp [Op.operands]))
      refine ⟨ρ, w', undef, .skip, ?_, .inr ⟨rfl, rfl⟩, h2, h3, VRel.undef' ρ, h4, fun n hn => by cases hn⟩
      simp only [execOp, Sem.run_bind, h1, Result.andThen_ok, Sem.run_pure]
  · rename_i c
    obtain ⟨callee, args, argTypes⟩ := c
    unfold callVal at hl
    simp only at hl
    cases callee with
    | value f => cases hl
    | invoke r m => cases hl
    | builtin b =>
      simp only at hl
      unfold bVal at hl
      cases b <;> simp only at hl
      case len =>
        split at hl
        · rename_i x ty ha hat
          obtain rfl : args = #[x] := by apply Array.ext'; simpa using ha
          obtain rfl : argTypes = #[ty] := by apply Array.ext'; simpa using hat
          cases hb : aLen P ty (ev t x) with
          | none => simp [hb] at hl
          | some r =>
            simp [hb] at hl
            obtain ⟨rfl, rfl⟩ := hl
            exact .of_pure R (aLen_sound (ty := type) hb (T x (by simp [Op.operands, Call.operands])) w) (by simp [execOp, resolve, invoke, builtin]) rfl
        · cases hl
      case append =>
        split at hl
        · rename_i s x sT xT ha hat
          obtain rfl : args = #[s, x] := by apply Array.ext'; simpa using ha
          obtain rfl : argTypes = #[sT, xT] := by apply Array.ext'; simpa using hat
          obtain ⟨ρ', w', c, h1, h2, h3, h4, h5, h6⟩ := aAppend_sound (ty := type) hl R (T s (by simp [Op.operands, Call.operands])) (T x (by simp [Op.operands, Call.operands]))
          refine ⟨ρ', w', c, .value c, ?_, .inl rfl, h2, h3, h4, h5, ?_⟩
          · simp [execOp, resolve, invoke, builtin, h1]
          · intro n hn
            simp only [opKept, bKept] at hn
            split at hn
            · rename_i e hu
              cases hsz : szOf P e with
              | none => simp [hsz] at hn
              | some sz =>
                simp [hsz] at hn
                subst hn
                exact h6 e sz hu hsz
            · cases hn
        · cases hl
      case copy =>
        split at hl
        · rename_i s x sT xT ha hat
          obtain rfl : args = #[s, x] := by apply Array.ext'; simpa using ha
          obtain rfl : argTypes = #[sT, xT] := by apply Array.ext'; simpa using hat
          exact .of_good (aCopy_sound (ty := type) hl R (T s (by simp [Op.operands, Call.operands])) (T x (by simp [Op.operands, Call.operands]))) (by simp [execOp, resolve, invoke, builtin]) rfl
        · cases hl
      case max =>
        split at hl
        · rename_i x y tx ty' ha hat
          obtain rfl : args = #[x, y] := by apply Array.ext'; simpa using ha
          obtain rfl : argTypes = #[tx, ty'] := by apply Array.ext'; simpa using hat
          cases hb : aMax (ev t x) (ev t y) with
          | none => simp [hb] at hl
          | some r =>
            simp [hb] at hl
            obtain ⟨rfl, rfl⟩ := hl
            exact .of_pure R (aMax_sound (ats := #[tx, ty']) (ty := type) hb (T x (by simp [Op.operands, Call.operands])) (T y (by simp [Op.operands, Call.operands])) w) (by simp [execOp, resolve, invoke, builtin]) rfl
        · rename_i x y z tx ty' tz ha hat
          obtain rfl : args = #[x, y, z] := by apply Array.ext'; simpa using ha
          obtain rfl : argTypes = #[tx, ty', tz] := by apply Array.ext'; simpa using hat
          cases hb : aMax3 (ev t x) (ev t y) (ev t z) with
          | none => simp [hb] at hl
          | some r =>
            simp [hb] at hl
            obtain ⟨rfl, rfl⟩ := hl
            exact .of_pure R (aMax3_sound (ats := #[tx, ty', tz]) (ty := type) hb (T x (by simp [Op.operands, Call.operands])) (T y (by simp [Op.operands, Call.operands])) (T z (by simp [Op.operands, Call.operands])) w) (by simp [execOp, resolve, invoke, builtin]) rfl
        · cases hl
      case min =>
        split at hl
        · rename_i x y tx ty' ha hat
          obtain rfl : args = #[x, y] := by apply Array.ext'; simpa using ha
          obtain rfl : argTypes = #[tx, ty'] := by apply Array.ext'; simpa using hat
          cases hb : aMin (ev t x) (ev t y) with
          | none => simp [hb] at hl
          | some r =>
            simp [hb] at hl
            obtain ⟨rfl, rfl⟩ := hl
            exact .of_pure R (aMin_sound (ats := #[tx, ty']) (ty := type) hb (T x (by simp [Op.operands, Call.operands])) (T y (by simp [Op.operands, Call.operands])) w) (by simp [execOp, resolve, invoke, builtin]) rfl
        · cases hl
      all_goals cases hl
  · cases hl

theorem lenM_sound {o : Oper} {c : Call} {b : Builtin} {t : Tmps} {a : Act} {v : Value} (ho : o.op = .call c) (hc : c.callee = .builtin b) (hl : bLenM P t b c.args.toList c.argTypes.toList h = some v) (R : Rel h ρ w) (T : ∀ x ∈ o.op.operands, VRel ρ (ev t x) (a.eval x)) :
    ∃ cv, (execOp a.eval o).run P w = .ok (.value cv) w ∧ VRel ρ v cv := by
  obtain ⟨dst, op, type, pos, after, guard⟩ := o
  obtain ⟨callee, args, argTypes⟩ := c
  simp only at ho hc hl T
  subst ho hc
  unfold bLenM at hl
  split at hl
  · rename_i x ty ha hat
    obtain rfl : args = #[x] := by apply Array.ext'; simpa using ha
    obtain rfl : argTypes = #[ty] := by apply Array.ext'; simpa using hat
    obtain ⟨cv, h1, h2⟩ := aLenM_sound (P := P) (rt := type) hl R (T x (by simp [Op.operands, Call.operands]))
    exact ⟨cv, by simp [execOp, resolve, invoke, builtin, h1, Result.andThen], h2⟩
  · cases hl

end Go.AM
