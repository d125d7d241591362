import Derived.Test.YtdjoednhfoligaaCvB
import Derived.Test.YtdjoednhfoligaaAmZc
import Derived.Test.YtdjoednhfoligaaBulk
import Derived.Test.YtdjoednhfoligaaChecked
import Derived.WalkKit
import Derived.ProofKit
import Derived.OpenShut
import Derived.JoinedCond
set_option linter.unusedSimpArgs false
set_option linter.unusedVariables false
namespace Go.Proofs.Ytdjoednhfoligaa
open Go.AM
open Go.ChangeShapes Go.WideShapes Go.ChangeAt Go.RowKit

theorem laid : laidOutB Try.prog = true := by kernel_rfl
theorem own : ownKnob Try.prog.godebug = none := by kernel_rfl
theorem ints_le {H : Type} (d : DataW H) : (dints d).length ≤ Rows.uptoBulk d := by
  cases d with
  | slice elems spare =>
    have := bulks.length_le elems
    have := bulks.slice_elems elems spare
    simp only [dints, List.length_map]; omega
  | lit l => simp [dints]
  | nil => simp [dints]
  | ptr d => simp [dints]
  | agg parts => simp [dints]
  | iface t d => simp [dints]
  | map entries => simp [dints]
  | held h => simp [dints]
theorem few_of {H : Type} {d : DataW H} (hb : Rows.uptoBulk d ≤ 1048576) : Few (drows d) := by
  cases d with
  | slice elems spare =>
    have h1 := bulks.length_le elems
    have h2 := bulks.slice_elems elems spare
    refine ⟨by simp only [drows, List.length_map]; omega, ?_⟩
    intro xs hx
    simp only [drows, List.mem_map] at hx
    obtain ⟨e, he, rfl⟩ := hx
    have h3 := bulks.part_le he
    have h4 := ints_le e
    omega
  | lit l => exact ⟨by simp [drows], fun xs hx => by simp [drows] at hx⟩
  | nil => exact ⟨by simp [drows], fun xs hx => by simp [drows] at hx⟩
  | ptr d => exact ⟨by simp [drows], fun xs hx => by simp [drows] at hx⟩
  | agg parts => exact ⟨by simp [drows], fun xs hx => by simp [drows] at hx⟩
  | iface t d => exact ⟨by simp [drows], fun xs hx => by simp [drows] at hx⟩
  | map entries => exact ⟨by simp [drows], fun xs hx => by simp [drows] at hx⟩
  | held h => exact ⟨by simp [drows], fun xs hx => by simp [drows] at hx⟩
theorem mtM : macT Try.prog 24 3 22 76 = true := by kernel_rfl
theorem sttM : stT Try.prog 76 3 = true := by kernel_rfl
theorem steps_le {H : Type} (d : DataW H) : (dSteps d).length ≤ Rows.uptoBulk d := by
  cases d with
  | slice elems spare =>
    have := bulks.length_le elems
    have := bulks.slice_elems elems spare
    simp only [dSteps, List.length_map]; omega
  | lit l => simp [dSteps]
  | nil => simp [dSteps]
  | ptr d => simp [dSteps]
  | agg parts => simp [dSteps]
  | iface t d => simp [dSteps]
  | map entries => simp [dSteps]
  | held h => simp [dSteps]
theorem mac_le {H : Type} (d : DataW H) : (dMac d).steps.length ≤ Rows.uptoBulk d := by
  unfold dMac
  split
  · rename_i a b c d e
    have h1 := steps_le e
    simp only [Rows.uptoBulk, Rows.uptoBulkAll]
    omega
  · simp
theorem twT : twoT Try.prog 27 25 = true := by kernel_rfl
theorem two_le {H : Type} (d : DataW H) : (dTwo d).1.length ≤ Rows.uptoBulk d ∧ (dTwo d).2.length ≤ Rows.uptoBulk d := by
  unfold dTwo
  split
  · rename_i a b
    have h1 := ints_le a
    have h2 := ints_le b
    simp only [Rows.uptoBulk, Rows.uptoBulkAll]
    omega
  · simp

end Go.Proofs.Ytdjoednhfoligaa
