/-
  The law MutantsExact of the whole (chapter 41) returns true for all arguments whose bulk is at most the bound of the statement, and they read as they did.
  Conditions: those of the given statement MutantsExactUptoSaid (arguments of bulk at most 1048576), no other.
-/
import Derived.Test.YtgmgmkhenhaniaaPd
set_option linter.unusedSimpArgs false
set_option linter.unusedVariables false
namespace Go.Proofs.Ytgmgmkhenhaniaa
open Go.AM
open Go.ChangeShapes Go.WideShapes Go.ChangeAt Go.RowKit
namespace mutantsExact
set_option maxRecDepth 100000 in
theorem contract (H : Type) (enc : TypeId × Value → H) (W : World) (base : Nat) (args : Array Value) (ds gs : List (DataW H)) (before : List MemPlace)
    (hval : ∀ (j : Nat) t v, Try.f3.params[j]? = some t → args[j]? = some v → Value.okWide Try.prog W .any base t v)
    (hW : DataW.Whole enc Try.prog Try.f3.params.toList Rows.mutantsExactSpec.vars false W args.toList ds gs before) (hk : Rows.uptoSmall H (ds ++ gs) = true) :
    Calls Try.prog 3 args W fun e W' => ∃ v, e = .returned v ∧ Rows.mutantsExactSpec.post enc Try.prog Try.f3 false true false false W args v W' := by
  have hW' := hW
  obtain ⟨p, q, hA, hV, _, _, _⟩ := hW'
  obtain ⟨rfl, rfl⟩ := trodVars_none hV
  have hp : Try.f3.params = #[24, 25] := Try.params3
  have hlen := (trodAll_length hA).2
  rw [hp] at hlen
  obtain ⟨d0, d1, rfl⟩ : ∃ d0 d1, ds = [d0, d1] := by
    match ds, hlen with
    | [d0, d1], _ => exact ⟨d0, d1, rfl⟩
  have hb := bulks.bound hk
  simp only [List.append_nil, Rows.uptoBulkAll, Nat.add_zero] at hb
  refine law_calls (tb := 4) (m := 8) laid ?_ (by kernel_rfl) rfl (by kernel_rfl) Try.underlying4 hval hW ⟨rfl, rfl, rfl⟩ ?_
  · rw [hp]
    intro t ht
    have ht' : t = 24 ∨ t = 25 := by simpa using ht
    rcases ht' with rfl | rfl <;> exact ⟨by kernel_rfl, of_decide_eq_true (by kernel_rfl)⟩
  · intro h vs hl hr
    rw [hp] at hl hr
    obtain ⟨cs0, e0, r0⟩ := hr 0 24 d0 rfl rfl
    obtain ⟨cs1, e1, r1⟩ := hr 1 25 d1 rfl rfl
    obtain ⟨x0, x1, rfl⟩ : ∃ x0 x1, vs = [x0, x1] := by
      match vs, hl with
      | [x0, x1], _ => exact ⟨x0, x1, rfl⟩
    obtain rfl : x0 = absV Try.prog 24 cs0 := by simpa using e0
    obtain rfl : x1 = absV Try.prog 25 cs1 := by simpa using e1
    have h0 := mac_le d0
    have h1 := dl_le dMut d1
    obtain ⟨o, l, c, e1, s1⟩ := ARd.list dMut r1 Try.underlying25 (by kernel_rfl) (fun cs d r => ARd_mut r) (by omega)
    have e2 : absV Try.prog 25 cs1 = .slice o l c := by
      rw [e1]; simp [absV, Try.underlying25]
    rw [e2]
    exact c1003 (ARd_mac r0 (by omega)) s1 (by omega)

set_option maxRecDepth 100000 in
theorem lifted (os : Os) (started : os.Started) (H : Type) (enc : TypeId × Value → H) (F : Stop.Interp) :
    ReturnsInHanded {} Try.checked os 3 .any ((Rows.OpenSpec.upto Rows.mutantsExactSpec).pre6 enc Try.prog Try.f3 Rows.mutantsExactUptoRow.domain false) (((Rows.OpenSpec.upto Rows.mutantsExactSpec).at F).post enc Try.prog Try.f3 false true false false) := by
  refine returnsInHanded_of_cond (C := Try.checked) (s := Rows.OpenSpec.upto Rows.mutantsExactSpec) (k := Rows.uptoSmall) rfl own started (by kernel_rfl) Try.func3
    (OpenSpec.witness (enc := enc) (C := Try.checked) (s := Rows.OpenSpec.upto Rows.mutantsExactSpec) (k := Rows.uptoSmall) rfl false ⟨#[], #[.agg #[.int .i64 0, .int .i64 0, .int .i64 0, .int .i64 0, .slice none 0 0], .slice none 0 0], []⟩ 8 (by kernel_rfl) (by kernel_rfl) (by kernel_rfl)
      (x := ([.agg [.lit (.int .i64 0), .lit (.int .i64 0), .lit (.int .i64 0), .lit (.int .i64 0), .nil], .nil], [], [])) (by kernel_rfl) rfl (by kernel_rfl)) ?_
  intro W base args ds gs before hval hW _ hk _
  exact contract H enc W base args ds gs before hval hW hk

theorem over : Rows.mutantsExactUptoRow.holds Try.pinned (Rows.OpenSpec.upto Rows.mutantsExactSpec) :=
  OpenClaim.holds_of_cond 3 Try.f3 rfl rfl rfl rfl rfl rfl rfl ⟨rfl, rfl, rfl, rfl, rfl⟩ rfl rfl rfl rfl rfl (by kernel_rfl) Try.func3 (by kernel_rfl)
    (of_decide_eq_true (by kernel_rfl)) (by unfold Func.isWrapper; first | (rw [if_pos (by decide +kernel)]; kernel_rfl) | (rw [if_neg (by decide +kernel)]; exact ⟨rfl, rfl⟩))
    (fun os started H enc _ F => lifted os started H enc F)
theorem proved : Rows.MutantsExactUptoSaid := over
end mutantsExact
end Go.Proofs.Ytgmgmkhenhaniaa
