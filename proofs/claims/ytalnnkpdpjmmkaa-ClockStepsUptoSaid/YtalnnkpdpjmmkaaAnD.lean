/-
  Contracts handed to the model's own level, and taken over from it; the cell of a package variable.
-/
import Derived.Test.YtalnnkpdpjmmkaaAnC
import Derived.Test.YtalnnkpdpjmmkaaAmZd
import Derived.Below
set_option linter.unusedSimpArgs false
set_option linter.unusedVariables false
namespace Go.AM
open Go.RowKit
variable {P : Program} {h h' : Heap}
/-- What is its own machine's value: without places, or a function without captured values. -/
def selfV : Value → Bool
  | .func (.func _) fa ca => fa.size == 0 && ca.size == 0
  | v => flat1 v
theorem selfV_eq {ρ : Place} {v c : Value} (hv : selfV v = true) (r : VRel ρ v c) : c = v := by
  cases r <;> first | rfl | (simp [selfV, flat1] at hv; done) | skip
  rename_i f fa fc ca cc h1 h2 h3 h4
  simp only [selfV, Bool.and_eq_true, beq_iff_eq] at hv
  have e1 : fa = #[] := Array.eq_empty_of_size_eq_zero hv.1
  have e2 : ca = #[] := Array.eq_empty_of_size_eq_zero hv.2
  have e3 : fc = #[] := Array.eq_empty_of_size_eq_zero (by omega)
  have e4 : cc = #[] := Array.eq_empty_of_size_eq_zero (by omega)
  rw [e1, e2, e3, e4]
theorem selfV_list {ρ : Place} {xs cs : List Value} (ha : xs.all selfV = true) (rl : LRel ρ xs cs) : cs = xs := by
  apply List.ext_getElem rl.1.symm
  intro j h1 h2
  have := rl.2 j
  rw [show xs.getD j undef = xs[j] by simp [List.getD, h2], show cs.getD j undef = cs[j] by simp [List.getD, h1]] at this
  exact selfV_eq (List.all_eq_true.mp ha _ (List.getElem_mem _)) this
/-- A contract of the model's level: what lay, lies. -/
theorem Runs.of_below {f : FuncId} {args : List Value} {v : Value} (hv : flat1 v = true) (ha : args.all selfV = true) (hcal : callable P f = true)
    (hc : ∀ (ρ : Place) (w : World), GlobP P ρ → Rel h ρ w → Calls P f args.toArray w fun e w' => e = .returned v ∧ Below w.heap.size w w') : Runs P f args h v h := by
  intro ρ w cargs G R rl
  have := selfV_list ha rl
  subst this
  refine .inl ⟨hcal, (hc ρ w G R).mono ?_⟩
  rintro e w' ⟨rfl, B⟩
  have lt : ∀ {b : Nat} {x : _}, w.heap[b]? = some x → b < w.heap.size := fun e => (Array.getElem?_eq_some_iff.mp e).1
  refine ⟨v, h, ρ, v, ⟨rfl, rfl⟩, rfl, ⟨R.dom, ?_, ?_, R.inj⟩, ⟨Le.refl ρ, fun i L e => .inl e, Nat.le_refl _, B.os, B.tape, B.output, B.size, fun b hb _ => B.block b hb, fun i L e ha _ => ⟨i, L, e, rfl, ha, id⟩⟩, flat1_rel hv⟩
  · intro i L a h1 h2
    obtain ⟨cs, ty, fr, e1, e2⟩ := R.arr i L a h1 h2
    exact ⟨cs, ty, fr, by rw [B.block _ (lt e1)]; exact e1, e2⟩
  · intro i L es h1 h2
    obtain ⟨en, cl, e1, e2⟩ := R.map i L es h1 h2
    exact ⟨en, cl, by rw [B.block _ (lt e1)]; exact e1, e2⟩
/-- A contract handed down. -/
theorem Runs.to_below {f : FuncId} {args : List Value} {v : Value} (hv : flat1 v = true) (ha : args.all flat1 = true) (hcal : callable P f = true) (hr : ∀ h, Runs P f args h v h) (w : World) :
    Calls P f args.toArray w fun e w' => e = .returned v ∧ Below w.heap.size w w' := by
  have dead : ∀ i : Nat, ∀ o : Ob, (List.replicate P.globals.size Ob.dead)[i]? = some o → o = .dead := by
    intro i o e
    rw [List.getElem?_replicate] at e
    split at e <;> cases e
    rfl
  refine CallsX.go hcal ((hr (List.replicate P.globals.size .dead) (fun i => if i < P.globals.size then some ⟨i, 0, 0, 0⟩ else none) w args ?_ ⟨?_, ?_, ?_, ?_⟩ ?_).mono ?_)
  · intro g hg; exact ⟨⟨g, 0, 0, 0⟩, by simp [hg], rfl, rfl⟩
  · intro i L e
    split at e
    · rename_i q; simpa using q
    · cases e
  · intro i L a _ e; cases dead _ _ e
  · intro i L a _ e; cases dead _ _ e
  · intro i j Li Lj _ _ _ hw
    rcases hw with ⟨a, e, _⟩ | ⟨es, e⟩ <;> cases dead _ _ e
  · refine ⟨rfl, fun k => ?_⟩
    by_cases hk : k < args.length
    · rw [show args.getD k undef = args[k] by simp [List.getD, hk]]
      exact flat1_rel (List.all_eq_true.mp ha _ (List.getElem_mem _))
    · rw [show args.getD k undef = undef by rw [List.getD, List.getElem?_eq_none (by omega)]; rfl]
      exact VRel.undef' _
  · rintro e w' ⟨v', h', ρ', c, ⟨rfl, rfl⟩, rfl, R', S', hv'⟩
    have := flat1_eq hv hv'
    subst this
    refine ⟨rfl, S'.os, S'.tape, S'.output, S'.size, fun b hb => S'.keep b hb ?_⟩
    intro i L _ hw
    rcases hw with ⟨a, e, _⟩ | ⟨es, e⟩ <;> cases dead _ _ e
/-- The package variable of number 0 is a number. -/
class GM (h : Heap) : Prop where
  ok : ∃ N : Int, h[0]? = some (.arr ⟨[.int .i64 N], 1, true⟩)
instance (priority := 400) gm_step {a b : Heap} [p : Prec a b] [g : GM a] : GM b := ⟨g.ok.imp fun N e => p.st.ro 0 _ e rfl⟩
theorem GM.cell [g : GM h] {ρ : Place} {w : World} (G : GlobP P ρ) (R : Rel h ρ w) (hg : 0 < P.globals.size) : ∃ m, w.cell? ⟨0, 0, none⟩ = some (.int .i64 m) := by
  obtain ⟨N, e⟩ := g.ok
  obtain ⟨L, h1, h2, h3⟩ := G 0 hg
  obtain ⟨cs, ty, fr, g1, g2, g3, g4, g5, g6⟩ := R.arr 0 L _ h1 e
  have := g5 0 (by simp)
  simp only [List.getD, List.getElem?_cons_zero, Option.getD_some, Nat.add_zero, h3] at this
  have hsz : 0 < cs.size := by simp at g3; omega
  rw [getD_in hsz] at this
  generalize hc : cs[0] = c at this
  cases this
  rw [h2] at g1
  refine ⟨N, ?_⟩
  unfold World.cell?
  simp [g1, hsz, hc]
end Go.AM
