/-
  A law's contract where one package variable of a library package, a number, is read: whatever it is.
-/
import Derived.Test.YtalnnkpdpjmmkaaAnD
import Derived.Shelf.Vars
import Derived.JoinedCond
import Derived.OpenShut
set_option linter.unusedSimpArgs false
set_option linter.unusedVariables false
set_option linter.unnecessarySimpa false
namespace Go.AM
open Go.ChangeShapes Go.RowKit
variable {P : Program} {h h' h0 : Heap} {ρ ρ' : Place} {W : World}
/-- The world's first block is one number. -/
def Num0 (W : World) : Prop := ∃ cs ty N, W.heap[0]? = some (.cells cs ty) ∧ cs = #[.int .i64 N]
theorem num0_of {t : TypeId} (hs : W.ShapedOpen P) (hg : 0 < P.globals.size) (h0 : ((begin P (fun _ _ => 0) default).world.heap[0]?).bind Obj.row? = some (#[.int .i64 0], t))
    (hb : P.buildable t = true) (hc : P.cellTypes P.depth t = some [t]) (hu : P.underlying t = some (.int .i64)) : Num0 W := by
  obtain ⟨cs, hh, hsz, hr⟩ := hs.1 0 _ t hg h0
  obtain ⟨m, hm⟩ := Go.Proofs.cell_of_shapedOpen_int hs hg h0 rfl hb hc hu
  refine ⟨cs, t, m, hh, ?_⟩
  have h1 : cs.size = 1 := hsz
  unfold World.cell? at hm
  simp [hh] at hm
  apply Array.ext (by simpa using h1)
  intro i hi hi2
  have : i = 0 := by simp at hi2; omega
  subst this
  obtain ⟨_, e⟩ := Array.getElem?_eq_some_iff.mp hm
  simpa using e
theorem law_callsG {H : Type} {enc : TypeId × Value → H} {f : FuncId} {fn : Func} {s : ChangeSpec} {apart fresh handsOn again : Bool} {args : Array Value} {ds gs : List (DataW H)} {before : List MemPlace} {tb : TypeId} {base m : Nat}
    (hl : laidOutB P = true) (hr : ∀ t ∈ fn.params.toList, P.readableRec t = true ∧ t < P.types.size) (hsim : fn.params.toList.all (simT P m) = true) (hv : s.vars = []) (hb : fn.resultTypes = #[tb]) (hbu : P.underlying tb = some .bool)
    (hval : ∀ (j : Nat) (t : TypeId) (v : Value), fn.params[j]? = some t → args[j]? = some v → Value.okWide P W .any base t v)
    (hW : DataW.Whole enc P fn.params.toList s.vars apart W args.toList ds gs before)
    (hs : (s.fn H (ds ++ gs)).results = [.lit (.bool true)] ∧ (s.fn H (ds ++ gs)).args = ds ∧ (s.fn H (ds ++ gs)).vars = []) (hn : Num0 W)
    (hcon : ∀ (h : Heap) (as : List Value), GM h → as.length = fn.params.size → (∀ (k : Nat) (t : TypeId) (d : DataW H), fn.params[k]? = some t → ds[k]? = some d → ∃ cs, as[k]? = some (absV P t cs) ∧ ARd P h t cs d) → DetP P f as h fun v _ => v = .bool true)
    (hng : P.globals.size = 1 := by rfl) (hcal : callable P f = true := by rfl) :
    Calls P f args W fun e W' => ∃ v, e = .returned v ∧ s.post enc P fn apart fresh handsOn again W args v W' := by
  have hW' := hW
  obtain ⟨p, q, hA, _, _, _, _⟩ := hW'
  obtain ⟨cs0, ty0, N, hh0, rfl⟩ := hn
  have R0 : Rel [.arr ⟨[.int .i64 N], 1, true⟩] (fun i => if i = 0 then some ⟨0, 0, 1, 1⟩ else none) W := by
    refine ⟨?_, ?_, ?_, ?_⟩
    · intro i L e
      split at e
      · rename_i q; subst q; simp
      · cases e
    · intro i L a e ha
      split at e
      · rename_i q; subst q; cases e
        simp at ha
        subst ha
        refine ⟨#[.int .i64 N], ty0, (0, 0), hh0, rfl, by simp, rfl, ?_, fun hh => by cases hh⟩
        intro k hk
        have : k = 0 := by simp at hk; omega
        subst this
        exact .int _ _
      · cases e
    · intro i L es e he
      split at e
      · rename_i q; subst q; simp at he
      · cases e
    · intro i j Li Lj e1 e2 hne
      split at e1
      · split at e2
        · omega
        · cases e2
      · cases e1
  have r0 : ROnly [.arr ⟨[.int .i64 N], 1, true⟩] := by
    rintro i (⟨a, e, hr⟩ | ⟨es, e⟩)
    · rw [List.getElem?_cons] at e
      split at e
      · cases e; cases hr
      · simp at e
    · rw [List.getElem?_cons] at e
      split at e
      · cases e
      · simp at e
  obtain ⟨h, ρ, hp, hle, R, r, css, l1, l2, l3, l4⟩ := buildAll (P := P) (W := W) fn.params.toList m args.toList ds p hsim hA _ _ R0 r0
  have gm : GM h := by
    obtain ⟨t, rfl⟩ := hp
    exact ⟨N, rfl⟩
  have hG : GlobP P ρ := by
    intro g hg
    have : g = 0 := by omega
    subst this
    exact ⟨_, hle 0 ⟨0, 0, 1, 1⟩ rfl, rfl, rfl⟩
  have hlens : fn.params.size = args.size := by simpa using l2
  have hdl := (trodAll_length hA).2
  have hargs : LRel ρ (List.zipWith (absV P) fn.params.toList css) args.toList := by
    refine ⟨by simp [l1, hlens], fun k => ?_⟩
    by_cases hk : k < args.size
    · have ht : fn.params[k]? = some fn.params[k] := by simp [hlens, hk]
      have hvk : args[k]? = some args[k] := by simp [hk]
      have hdk : k < ds.length := by rw [hdl]; simp [hlens, hk]
      have hd : ds[k]? = some ds[k] := by simp [hdk]
      have := absV_rel (hval k _ _ ht hvk) (l3 k args[k] (by simp [hk])) (l4 k _ _ (by simpa using ht) hd)
      simpa [List.getD, List.getElem?_zipWith, hk, hlens, l1] using this
    · have h1 : (List.zipWith (absV P) fn.params.toList css)[k]? = none := by rw [List.getElem?_eq_none]; simp [l1, hlens]; omega
      have h2 : args.toList[k]? = none := by rw [List.getElem?_eq_none]; simp; omega
      simp only [List.getD, h1, h2]
      exact VRel.undef' ρ
  have run := (hcon h (List.zipWith (absV P) fn.params.toList css) gm (by simp [l1, hlens]) ?_).toP
  · refine CallsX.go (hcal := hcal) ((run ρ W args.toList hG R hargs).mono ?_)
    rintro e W' ⟨v, h', ρ', c, rfl, rfl, R', S', V'⟩
    cases V'
    refine ⟨.bool true, rfl, post_of_below hl hr hW (S'.below r) hv ?_ hs.2.1 hs.2.2 (ok_one hb rfl (okWide_bool_mk hbu _))⟩
    intro b sp hd
    rw [hs.1, hb]
    exact ⟨[], [], shut_bool hbu _, trodAll_mk0, rfl⟩
  · intro k t d ht hd
    refine ⟨css.getD k [], ?_, l4 k t d (by simpa using ht) hd⟩
    have hk : k < args.size := by rw [← hlens]; exact (Array.getElem?_eq_some_iff.mp ht).1
    simp [List.getElem?_zipWith, ht, List.getD, hk, l1]
/-- The row's wrap that hands on the world's shape. -/
theorem returnsShaped {H : Type} {enc : TypeId × Value → H} {a : Assume} {C : Checked} {os : Os} {f : FuncId} {fn : Func} {s : OpenSpec} {k : (H : Type) → List (DataW H) → Bool} (hk : s.cond = some k) {F : Stop.Interp} {conds : List PathCond} {apart fresh handsOn again : Bool}
    (own : ownKnob C.prog.godebug = none) (started : os.Started) (noInit : C.prog.inits.idxOf? f = none) (hfn : C.prog.funcs[f]? = some fn)
    (witness : ∃ (w : World) (tape : Tape) (i : Input), w.os = os ∧ (w.forCall tape i).Shaped C.prog ∧ i.vars = [] ∧ Input.okWide C.prog (w.forCall tape i) .any w.heap.size f i ∧
      s.pre6 enc C.prog fn conds apart (w.forCall tape i).memory i.args ∧ a.holds C.prog (lone (Frame.enter C.prog f i.args .normal) [] (w.forCall tape i)))
    (contract : ∀ (W : World) (base : Nat) (args : Array Value) (ds gs : List (DataW H)) (before : List MemPlace), W.ShapedOpen C.prog →
      (∀ (j : Nat) t v, fn.params[j]? = some t → args[j]? = some v → Value.okWide C.prog W .any base t v) →
      DataW.Whole enc C.prog fn.params.toList s.vars apart W args.toList ds gs before → k H (ds ++ gs) = true →
      Calls C.prog f args W fun e W' => ∃ v, e = .returned v ∧ (s.at F).post enc C.prog fn apart fresh handsOn again W args v W') :
    ReturnsInHanded a C os f .any (s.pre6 enc C.prog fn conds apart) ((s.at F).post enc C.prog fn apart fresh handsOn again) := by
  refine returnsInHanded_of_calls own started noInit witness ?_
  intro w tape i _ hsh _ hok hpre hholds
  obtain ⟨_, _, _, fn', hfn', _, _, _, _, hval⟩ := hok
  have e : fn' = fn := Option.some.inj (hfn'.symm.trans hfn)
  subst e
  obtain ⟨ds, gs, before, hw, hc, hkk⟩ := (OpenSpec.pre_some hk conds apart _ _).1 hpre.1
  have hw' := DataW.Whole.of_heap (w' := w.forCall tape i) (by rfl) hw
  refine (contract (w.forCall tape i) w.heap.size i.args ds gs before hsh hval hw' hkk).mono fun e W' ⟨v, he, hp⟩ => ?_
  subst he
  exact ChangeSpec.post_blind hp
end Go.AM
