/-
  The law ClockStarts of chapter 27 returns true for all arguments whose bulk is at most the bound of the statement, and they read as they did.
  Conditions: those of the given statement ClockStartsUptoSaid (arguments of bulk at most 1048576), no other.
-/
import Derived.Test.YtalnnkpdpjmmkaaPc
set_option linter.unusedSimpArgs false
set_option linter.unusedVariables false
set_option linter.unnecessarySimpa false
namespace Go.Proofs.Ytalnnkpdpjmmkaa
open Go.AM
open Go.ChangeShapes Go.WideShapes Go.ChangeAt Go.RowKit
namespace clockStarts
set_option maxRecDepth 100000 in
theorem contract (H : Type) (enc : TypeId × Value → H) (W : World) (base : Nat) (args : Array Value) (ds gs : List (DataW H)) (before : List MemPlace) (hsh : W.ShapedOpen Try.prog)
    (hval : ∀ (j : Nat) t v, Try.f7.params[j]? = some t → args[j]? = some v → Value.okWide Try.prog W .any base t v)
    (hW : DataW.Whole enc Try.prog Try.f7.params.toList Rows.clockStartsSpec.vars false W args.toList ds gs before) (hk : Rows.uptoSmall H (ds ++ gs) = true) :
    Calls Try.prog 7 args W fun e W' => ∃ v, e = .returned v ∧ Rows.clockStartsSpec.post enc Try.prog Try.f7 false true false false W args v W' := by
  have hW' := hW
  obtain ⟨p, q, hA, hV, _, _, _⟩ := hW'
  obtain ⟨rfl, rfl⟩ := trodVars_none hV
  have hp : Try.f7.params = #[24, 44, 3] := Try.params7
  have hlen := (trodAll_length hA).2
  rw [hp] at hlen
  obtain ⟨d0, d1, d2, rfl⟩ : ∃ d0 d1 d2, ds = [d0, d1, d2] := by
    match ds, hlen with
    | [d0, d1, d2], _ => exact ⟨d0, d1, d2, rfl⟩
  have hb := bulks.bound hk
  simp only [List.append_nil, Rows.uptoBulkAll, Nat.add_zero] at hb
  refine law_callsG (tb := 4) (m := 8) laid ?_ (by kernel_rfl) rfl (by kernel_rfl) Try.underlying4 hval hW ⟨rfl, rfl, rfl⟩ (shaped hsh) ?_
  · rw [hp]
    intro t ht
    have ht' : t = 24 ∨ t = 44 ∨ t = 3 := by simpa using ht
    rcases ht' with rfl | rfl | rfl <;> exact ⟨by kernel_rfl, of_decide_eq_true (by kernel_rfl)⟩
  · intro h vs gm hl hr
    rw [hp] at hl hr
    obtain ⟨cs0, e0, r0⟩ := hr 0 24 d0 rfl rfl
    obtain ⟨cs1, e1, r1⟩ := hr 1 44 d1 rfl rfl
    obtain ⟨cs2, e2, r2⟩ := hr 2 3 d2 rfl rfl
    obtain ⟨x0, x1, x2, rfl⟩ : ∃ x0 x1 x2, vs = [x0, x1, x2] := by
      match vs, hl with
      | [x0, x1, x2], _ => exact ⟨x0, x1, x2, rfl⟩
    obtain rfl : x0 = absV Try.prog 24 cs0 := by simpa using e0
    obtain rfl : x1 = absV Try.prog 44 cs1 := by simpa using e1
    obtain rfl : x2 = absV Try.prog 3 cs2 := by simpa using e2
    have h0 := clk_le d0
    have e1 : absV Try.prog 44 cs1 = fv (dTim d1) := by
      rw [ARd_tim r1]
      simp only [absV, Try.underlying44]
    rw [(r2.dint Try.underlying3).2.1, e1]
    exact c7 (ARd_clk r0 (by omega)) (by omega) _ _

set_option maxRecDepth 100000 in
theorem lifted (os : Os) (started : os.Started) (H : Type) (enc : TypeId × Value → H) (F : Stop.Interp) :
    ReturnsInHanded {} Try.checked os 7 .any ((Rows.OpenSpec.upto Rows.clockStartsSpec).pre6 enc Try.prog Try.f7 Rows.clockStartsUptoRow.domain false) (((Rows.OpenSpec.upto Rows.clockStartsSpec).at F).post enc Try.prog Try.f7 false true false false) := by
  refine returnsShaped (C := Try.checked) (s := Rows.OpenSpec.upto Rows.clockStartsSpec) (k := Rows.uptoSmall) rfl own started (by kernel_rfl) Try.func7
    (OpenSpec.witness (enc := enc) (C := Try.checked) (s := Rows.OpenSpec.upto Rows.clockStartsSpec) (k := Rows.uptoSmall) rfl false ⟨#[], #[.agg #[.int .i64 0, .slice none 0 0], .agg #[.int .i64 0, .string ⟨#[]⟩, .int .i64 0, .int .i64 0, .bool false, .bool false], .int .i64 0], []⟩ 8 (by kernel_rfl) (by kernel_rfl) (by kernel_rfl)
      (x := ([.agg [.lit (.int .i64 0), .nil], .agg [.lit (.int .i64 0), .lit (.string []), .lit (.int .i64 0), .lit (.int .i64 0), .lit (.bool false), .lit (.bool false)], .lit (.int .i64 0)], [], [])) (by kernel_rfl) rfl (by kernel_rfl)) ?_
  intro W base args ds gs before hsh hval hW hk
  exact contract H enc W base args ds gs before hsh hval hW hk

theorem over : Rows.clockStartsUptoRow.holds Try.pinned (Rows.OpenSpec.upto Rows.clockStartsSpec) :=
  OpenClaim.holds_of_cond 7 Try.f7 rfl rfl rfl rfl rfl rfl rfl ⟨rfl, rfl, rfl, rfl, rfl⟩ rfl rfl rfl rfl rfl (by kernel_rfl) Try.func7 (by kernel_rfl)
    (of_decide_eq_true (by kernel_rfl)) (by unfold Func.isWrapper; first | (rw [if_pos (by decide +kernel)]; kernel_rfl) | (rw [if_neg (by decide +kernel)]; exact ⟨rfl, rfl⟩))
    (fun os started H enc _ F => lifted os started H enc F)
theorem proved : Rows.ClockStartsUptoSaid := over
end clockStarts
end Go.Proofs.Ytalnnkpdpjmmkaa
