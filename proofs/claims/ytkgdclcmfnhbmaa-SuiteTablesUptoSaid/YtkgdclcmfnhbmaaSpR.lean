/-
  The law SuiteTables of chapter 40 returns true for every table whose bulk is at most the bound of the statement, and the table reads as it did.
  Conditions: those of the given statement SuiteTablesUptoSaid (arguments of bulk at most 1048576), no other.
-/
import Derived.Test.YtkgdclcmfnhbmaaSpK
import Derived.Test.YtkgdclcmfnhbmaaAmZ
import Derived.Test.YtkgdclcmfnhbmaaBulk
import Derived.Test.YtkgdclcmfnhbmaaChecked
import Derived.WalkKit
import Derived.ProofKit
import Derived.OpenShut
import Derived.JoinedCond
set_option linter.unusedSimpArgs false
set_option linter.unusedVariables false
namespace Go.Proofs.Ytkgdclcmfnhbmaa
open Go.AM
open Go.ChangeShapes Go.WideShapes Go.ChangeAt Go.RowKit

theorem laid : laidOutB Try.prog = true := by kernel_rfl
theorem own : ownKnob Try.prog.godebug = none := by kernel_rfl
theorem ints_le {H : Type} (d : DataW H) : (dints d).length ≤ Rows.uptoBulk d := by
  cases d with
  | slice elems spare =>
    have := bulks.length_le elems
    have := bulks.slice_elems elems spare
    simp only [dints, List.length_map]; omega
  | lit l => simp [dints]
  | nil => simp [dints]
  | ptr d => simp [dints]
  | agg parts => simp [dints]
  | iface t d => simp [dints]
  | map entries => simp [dints]
  | held h => simp [dints]
theorem few_of {H : Type} {d : DataW H} (hb : Rows.uptoBulk d ≤ 1048576) : Few (drows d) := by
  cases d with
  | slice elems spare =>
    have h1 := bulks.length_le elems
    have h2 := bulks.slice_elems elems spare
    refine ⟨by simp only [drows, List.length_map]; omega, ?_⟩
    intro xs hx
    simp only [drows, List.mem_map] at hx
    obtain ⟨e, he, rfl⟩ := hx
    have h3 := bulks.part_le he
    have h4 := ints_le e
    omega
  | lit l => exact ⟨by simp [drows], fun xs hx => by simp [drows] at hx⟩
  | nil => exact ⟨by simp [drows], fun xs hx => by simp [drows] at hx⟩
  | ptr d => exact ⟨by simp [drows], fun xs hx => by simp [drows] at hx⟩
  | agg parts => exact ⟨by simp [drows], fun xs hx => by simp [drows] at hx⟩
  | iface t d => exact ⟨by simp [drows], fun xs hx => by simp [drows] at hx⟩
  | map entries => exact ⟨by simp [drows], fun xs hx => by simp [drows] at hx⟩
  | held h => exact ⟨by simp [drows], fun xs hx => by simp [drows] at hx⟩

namespace suiteTables
set_option maxRecDepth 100000 in
theorem contract (H : Type) (enc : TypeId × Value → H) (W : World) (base : Nat) (args : Array Value) (ds gs : List (DataW H)) (before : List MemPlace)
    (hval : ∀ (j : Nat) t v, Try.f5.params[j]? = some t → args[j]? = some v → Value.okWide Try.prog W .any base t v)
    (hW : DataW.Whole enc Try.prog Try.f5.params.toList Rows.suiteTablesSpec.vars false W args.toList ds gs before) (hk : Rows.uptoSmall H (ds ++ gs) = true) :
    Calls Try.prog 5 args W fun e W' => ∃ v, e = .returned v ∧ Rows.suiteTablesSpec.post enc Try.prog Try.f5 false true false false W args v W' := by
  have hW' := hW
  obtain ⟨p, q, hA, hV, _, _, _⟩ := hW'
  obtain ⟨rfl, rfl⟩ := trodVars_none hV
  have hp : Try.f5.params = #[22] := Try.params5
  have hlen := (trodAll_length hA).2
  rw [hp] at hlen
  obtain ⟨d, rfl⟩ : ∃ d, ds = [d] := by
    match ds, hlen with
    | [d], _ => exact ⟨d, rfl⟩
  have hb := bulks.bound hk
  simp only [List.append_nil, Rows.uptoBulkAll, Nat.add_zero] at hb
  have hf := few_of hb
  refine law_calls (tb := 4) (m := 6) laid ?_ (by kernel_rfl) rfl (by kernel_rfl) Try.underlying4 hval hW ⟨rfl, rfl, rfl⟩ ?_
  · rw [hp]
    intro t ht
    obtain rfl : t = 22 := by simpa using ht
    exact ⟨by kernel_rfl, of_decide_eq_true (by kernel_rfl)⟩
  · intro h vs hl hr
    rw [hp] at hl hr
    obtain ⟨cs, e, a⟩ := hr 0 22 d rfl rfl
    obtain ⟨x, rfl⟩ : ∃ x, vs = [x] := by
      match vs, hl with
      | [x], _ => exact ⟨x, rfl⟩
    obtain rfl : x = absV Try.prog 22 cs := by simpa using e
    exact c5 (a.rows Try.underlying22 Try.underlying23 Try.underlying3 (by kernel_rfl) (by kernel_rfl) (by have := hf.1; omega) (fun xs hx => by have := hf.2 xs hx; omega)) hf

set_option maxRecDepth 100000 in
theorem lifted (os : Os) (started : os.Started) (H : Type) (enc : TypeId × Value → H) (F : Stop.Interp) :
    ReturnsInHanded {} Try.checked os 5 .any ((Rows.OpenSpec.upto Rows.suiteTablesSpec).pre6 enc Try.prog Try.f5 Rows.suiteTablesUptoRow.domain false) (((Rows.OpenSpec.upto Rows.suiteTablesSpec).at F).post enc Try.prog Try.f5 false true false false) := by
  refine returnsInHanded_of_cond (C := Try.checked) (s := Rows.OpenSpec.upto Rows.suiteTablesSpec) (k := Rows.uptoSmall) rfl own started (by kernel_rfl) Try.func5
    (OpenSpec.witness (enc := enc) (C := Try.checked) (s := Rows.OpenSpec.upto Rows.suiteTablesSpec) (k := Rows.uptoSmall) rfl false ⟨#[], #[.slice none 0 0], []⟩ 8 (by kernel_rfl) (by kernel_rfl) (by kernel_rfl)
      (x := ([.nil], [], [])) (by kernel_rfl) rfl (by kernel_rfl)) ?_
  intro W base args ds gs before hval hW _ hk _
  exact contract H enc W base args ds gs before hval hW hk

theorem over : Rows.suiteTablesUptoRow.holds Try.pinned (Rows.OpenSpec.upto Rows.suiteTablesSpec) :=
  OpenClaim.holds_of_cond 5 Try.f5 rfl rfl rfl rfl rfl rfl rfl ⟨rfl, rfl, rfl, rfl, rfl⟩ rfl rfl rfl rfl rfl (by kernel_rfl) Try.func5 (by kernel_rfl)
    (of_decide_eq_true (by kernel_rfl)) (by unfold Func.isWrapper; first | (rw [if_pos (by decide +kernel)]; kernel_rfl) | (rw [if_neg (by decide +kernel)]; exact ⟨rfl, rfl⟩))
    (fun os started H enc _ F => lifted os started H enc F)
theorem proved : Rows.SuiteTablesUptoSaid := over
end suiteTables
end Go.Proofs.Ytkgdclcmfnhbmaa
