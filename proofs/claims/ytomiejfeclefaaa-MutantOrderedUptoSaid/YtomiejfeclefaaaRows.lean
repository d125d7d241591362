/-
  No cell of these rows narrows 'for every input' (looked for: loops, veiled, ifaces, maps, wideKeys, modest, calm, conditions, laid).
  DERIVED. THE GIVEN ROWS OF THIS SEAT. 8 by the template 'for every input the law returns true; each argument reads behind the call as it read before'; 0 by the template 'total and deterministic' (their statements: YtomiejfeclefaaaTotals.lean).
  GIVEN WITH THE SEED: the statements are not yours to turn. If you find one false, say at which input.
  Laid BY PROGRAM, IN A SANDBOX (cutbox-rows.mjs): the forced cells as the released guide's own fill.sh prints them over the translation b03bf573c13e6b5a… (all of the seat's roots in one cut). By AI agents, Wed Nov 11 2026. No macro, syntax, notation, axiom, sorry.
-/
import Derived.Test.YtomiejfeclefaaaChecked
import GoSem.Claim
import GoSem.ClaimJoined
import GoSem.ClaimMapViews
import Derived.JoinedTies
import Derived.KernelRfl
namespace Go.Proofs.Ytomiejfeclefaaa
/- THE CELL 'sum', in the pinned program and in every row, IS THE sha256 OF THE DUMP (.gsa) THAT YtomiejfeclefaaaProg.lean LOADS. Nothing in Lean hashes anything: it is a label: what it is worth is what the hold of that sum in a sandbox is worth. -/
noncomputable def Try.pinned : Pinned := { name := "ytomiejfeclefaaa", sum := "b03bf573c13e6b5a5d8717a59b9d29e7c61f6decfbfeabd3632c5fd23959cc53", checked := Try.checked }
namespace Rows
def none {H : Type} : Left H := { results := [], args := [] }

/-- 'examinerlaw41.MutantLists': WHATEVER THE INPUT: true; the input reads as it did. -/
def mutantListsSpec : ChangeSpec := { name := "mutantLists", fn := fun _ => fun
  | [d] => { results := [.lit (.bool true)], args := [d] }
  | _ => none }
def mutantListsRow : OpenClaim := { program := "ytomiejfeclefaaa", sum := "b03bf573c13e6b5a5d8717a59b9d29e7c61f6decfbfeabd3632c5fd23959cc53", func := "examiner/examinerlaw41.MutantLists", spec := "mutantLists", unfollowed := true, recurses := true, plainKeys := false, apart := false }
def MutantListsSaid : Prop := mutantListsRow.holds Try.pinned (OpenSpec.ofChange mutantListsSpec)

/-- ITS FALSE NEIGHBOUR: 'it returns false'. Refute it at one input. -/
def mutantListsWrong : ChangeSpec := { name := "mutantLists", fn := fun _ => fun
  | [d] => { results := [.lit (.bool false)], args := [d] }
  | _ => none }
def MutantListsWrongFalsely : Prop := mutantListsRow.holds Try.pinned (OpenSpec.ofChange mutantListsWrong)

/-- 'examinerlaw41.MutantRelations': WHATEVER THE INPUT: true; the input reads as it did. -/
def mutantRelationsSpec : ChangeSpec := { name := "mutantRelations", fn := fun _ => fun
  | [d1, d2, d3] => { results := [.lit (.bool true)], args := [d1, d2, d3] }
  | _ => none }
def mutantRelationsRow : OpenClaim := { program := "ytomiejfeclefaaa", sum := "b03bf573c13e6b5a5d8717a59b9d29e7c61f6decfbfeabd3632c5fd23959cc53", func := "examiner/examinerlaw41.MutantRelations", spec := "mutantRelations", unfollowed := true, recurses := true, plainKeys := false, apart := false }
def MutantRelationsSaid : Prop := mutantRelationsRow.holds Try.pinned (OpenSpec.ofChange mutantRelationsSpec)

/-- ITS FALSE NEIGHBOUR: 'it returns false'. Refute it at one input. -/
def mutantRelationsWrong : ChangeSpec := { name := "mutantRelations", fn := fun _ => fun
  | [d1, d2, d3] => { results := [.lit (.bool false)], args := [d1, d2, d3] }
  | _ => none }
def MutantRelationsWrongFalsely : Prop := mutantRelationsRow.holds Try.pinned (OpenSpec.ofChange mutantRelationsWrong)

/-- 'examinerlaw41.MutantChecks': WHATEVER THE INPUT: true; the input reads as it did. -/
def mutantChecksSpec : ChangeSpec := { name := "mutantChecks", fn := fun _ => fun
  | [d1, d2] => { results := [.lit (.bool true)], args := [d1, d2] }
  | _ => none }
def mutantChecksRow : OpenClaim := { program := "ytomiejfeclefaaa", sum := "b03bf573c13e6b5a5d8717a59b9d29e7c61f6decfbfeabd3632c5fd23959cc53", func := "examiner/examinerlaw41.MutantChecks", spec := "mutantChecks", unfollowed := true, recurses := true, plainKeys := false, apart := false }
def MutantChecksSaid : Prop := mutantChecksRow.holds Try.pinned (OpenSpec.ofChange mutantChecksSpec)

/-- ITS FALSE NEIGHBOUR: 'it returns false'. Refute it at one input. -/
def mutantChecksWrong : ChangeSpec := { name := "mutantChecks", fn := fun _ => fun
  | [d1, d2] => { results := [.lit (.bool false)], args := [d1, d2] }
  | _ => none }
def MutantChecksWrongFalsely : Prop := mutantChecksRow.holds Try.pinned (OpenSpec.ofChange mutantChecksWrong)

/-- 'examinerlaw41.MutantSorts': WHATEVER THE INPUT: true; the input reads as it did. -/
def mutantSortsSpec : ChangeSpec := { name := "mutantSorts", fn := fun _ => fun
  | [d1, d2] => { results := [.lit (.bool true)], args := [d1, d2] }
  | _ => none }
def mutantSortsRow : OpenClaim := { program := "ytomiejfeclefaaa", sum := "b03bf573c13e6b5a5d8717a59b9d29e7c61f6decfbfeabd3632c5fd23959cc53", func := "examiner/examinerlaw41.MutantSorts", spec := "mutantSorts", unfollowed := true, recurses := true, plainKeys := false, apart := false }
def MutantSortsSaid : Prop := mutantSortsRow.holds Try.pinned (OpenSpec.ofChange mutantSortsSpec)

/-- ITS FALSE NEIGHBOUR: 'it returns false'. Refute it at one input. -/
def mutantSortsWrong : ChangeSpec := { name := "mutantSorts", fn := fun _ => fun
  | [d1, d2] => { results := [.lit (.bool false)], args := [d1, d2] }
  | _ => none }
def MutantSortsWrongFalsely : Prop := mutantSortsRow.holds Try.pinned (OpenSpec.ofChange mutantSortsWrong)

/-- 'examinerlaw41.MutantKilled': WHATEVER THE INPUT: true; the input reads as it did. -/
def mutantKilledSpec : ChangeSpec := { name := "mutantKilled", fn := fun _ => fun
  | [d1, d2] => { results := [.lit (.bool true)], args := [d1, d2] }
  | _ => none }
def mutantKilledRow : OpenClaim := { program := "ytomiejfeclefaaa", sum := "b03bf573c13e6b5a5d8717a59b9d29e7c61f6decfbfeabd3632c5fd23959cc53", func := "examiner/examinerlaw41.MutantKilled", spec := "mutantKilled", unfollowed := true, recurses := true, plainKeys := false, apart := false }
def MutantKilledSaid : Prop := mutantKilledRow.holds Try.pinned (OpenSpec.ofChange mutantKilledSpec)

/-- ITS FALSE NEIGHBOUR: 'it returns false'. Refute it at one input. -/
def mutantKilledWrong : ChangeSpec := { name := "mutantKilled", fn := fun _ => fun
  | [d1, d2] => { results := [.lit (.bool false)], args := [d1, d2] }
  | _ => none }
def MutantKilledWrongFalsely : Prop := mutantKilledRow.holds Try.pinned (OpenSpec.ofChange mutantKilledWrong)

/-- 'examinerlaw41.MutantOne': WHATEVER THE INPUT: true; the input reads as it did. -/
def mutantOneSpec : ChangeSpec := { name := "mutantOne", fn := fun _ => fun
  | [d1, d2, d3] => { results := [.lit (.bool true)], args := [d1, d2, d3] }
  | _ => none }
def mutantOneRow : OpenClaim := { program := "ytomiejfeclefaaa", sum := "b03bf573c13e6b5a5d8717a59b9d29e7c61f6decfbfeabd3632c5fd23959cc53", func := "examiner/examinerlaw41.MutantOne", spec := "mutantOne", unfollowed := true, recurses := true, plainKeys := false, apart := false }
def MutantOneSaid : Prop := mutantOneRow.holds Try.pinned (OpenSpec.ofChange mutantOneSpec)

/-- ITS FALSE NEIGHBOUR: 'it returns false'. Refute it at one input. -/
def mutantOneWrong : ChangeSpec := { name := "mutantOne", fn := fun _ => fun
  | [d1, d2, d3] => { results := [.lit (.bool false)], args := [d1, d2, d3] }
  | _ => none }
def MutantOneWrongFalsely : Prop := mutantOneRow.holds Try.pinned (OpenSpec.ofChange mutantOneWrong)

/-- 'examinerlaw41.MutantStands': WHATEVER THE INPUT: true; the input reads as it did. -/
def mutantStandsSpec : ChangeSpec := { name := "mutantStands", fn := fun _ => fun
  | [d1, d2, d3] => { results := [.lit (.bool true)], args := [d1, d2, d3] }
  | _ => none }
def mutantStandsRow : OpenClaim := { program := "ytomiejfeclefaaa", sum := "b03bf573c13e6b5a5d8717a59b9d29e7c61f6decfbfeabd3632c5fd23959cc53", func := "examiner/examinerlaw41.MutantStands", spec := "mutantStands", unfollowed := true, recurses := true, plainKeys := false, apart := false }
def MutantStandsSaid : Prop := mutantStandsRow.holds Try.pinned (OpenSpec.ofChange mutantStandsSpec)

/-- ITS FALSE NEIGHBOUR: 'it returns false'. Refute it at one input. -/
def mutantStandsWrong : ChangeSpec := { name := "mutantStands", fn := fun _ => fun
  | [d1, d2, d3] => { results := [.lit (.bool false)], args := [d1, d2, d3] }
  | _ => none }
def MutantStandsWrongFalsely : Prop := mutantStandsRow.holds Try.pinned (OpenSpec.ofChange mutantStandsWrong)

/-- 'examinerlaw41.MutantOrdered': WHATEVER THE INPUT: true; the input reads as it did. -/
def mutantOrderedSpec : ChangeSpec := { name := "mutantOrdered", fn := fun _ => fun
  | [d1, d2, d3] => { results := [.lit (.bool true)], args := [d1, d2, d3] }
  | _ => none }
def mutantOrderedRow : OpenClaim := { program := "ytomiejfeclefaaa", sum := "b03bf573c13e6b5a5d8717a59b9d29e7c61f6decfbfeabd3632c5fd23959cc53", func := "examiner/examinerlaw41.MutantOrdered", spec := "mutantOrdered", unfollowed := true, recurses := true, plainKeys := false, apart := false }
def MutantOrderedSaid : Prop := mutantOrderedRow.holds Try.pinned (OpenSpec.ofChange mutantOrderedSpec)

/-- ITS FALSE NEIGHBOUR: 'it returns false'. Refute it at one input. -/
def mutantOrderedWrong : ChangeSpec := { name := "mutantOrdered", fn := fun _ => fun
  | [d1, d2, d3] => { results := [.lit (.bool false)], args := [d1, d2, d3] }
  | _ => none }
def MutantOrderedWrongFalsely : Prop := mutantOrderedRow.holds Try.pinned (OpenSpec.ofChange mutantOrderedWrong)

/- THE SECOND FORM. 'bulk': how many values and letters a reading holds, each counted each time it is reached (what is shared counts as often as it is met; a slice's spare places count too). A statement '..UptoSaid' is the law's where the arguments, and the package variables that the reading takes, are together of bulk at most 1048576: NARROWER than '..Said'. Prove '..Said' where nothing that the law and all that it calls make is longer than what came in: it says more and counts as full. Else prove '..UptoSaid'. A law counts once. -/
mutual
def uptoBulk {H : Type} : DataW H → Nat
  | .lit (.string bytes) => bytes.length + 1
  | .lit _ => 1
  | .nil => 1
  | .ptr d => uptoBulk d + 1
  | .slice elems spare => uptoBulkAll elems + uptoBulkAll spare + 1
  | .agg parts => uptoBulkAll parts + 1
  | .iface _ d => uptoBulk d + 1
  | .map entries => uptoBulkEntries entries + 1
  | .held _ => 1
def uptoBulkAll {H : Type} : List (DataW H) → Nat
  | [] => 0
  | d :: r => uptoBulk d + uptoBulkAll r
def uptoBulkEntries {H : Type} : List (Lit × DataW H) → Nat
  | [] => 0
  | x :: r => uptoBulkEntry x + uptoBulkEntries r
def uptoBulkEntry {H : Type} : Lit × DataW H → Nat
  | (.string bytes, d) => bytes.length + uptoBulk d + 1
  | (_, d) => uptoBulk d + 1
 end
def uptoSmall : (H : Type) → List (DataW H) → Bool := fun _ ds => decide (uptoBulkAll ds ≤ 1048576)
def OpenSpec.upto (s : _root_.Go.ChangeSpec) : _root_.Go.OpenSpec := { _root_.Go.OpenSpec.ofChange s with cond := some uptoSmall }

/-- 'examinerlaw41.MutantLists', WHERE WHAT IT READS IS OF BULK AT MOST 1048576: true; the input reads as it did. -/
def mutantListsUptoRow : OpenClaim := { program := "ytomiejfeclefaaa", sum := "b03bf573c13e6b5a5d8717a59b9d29e7c61f6decfbfeabd3632c5fd23959cc53", func := "examiner/examinerlaw41.MutantLists", spec := "mutantLists", unfollowed := true, recurses := true, plainKeys := false, apart := false, narrowed := true }
def MutantListsUptoSaid : Prop := mutantListsUptoRow.holds Try.pinned (OpenSpec.upto mutantListsSpec)

/-- 'examinerlaw41.MutantRelations', WHERE WHAT IT READS IS OF BULK AT MOST 1048576: true; the input reads as it did. -/
def mutantRelationsUptoRow : OpenClaim := { program := "ytomiejfeclefaaa", sum := "b03bf573c13e6b5a5d8717a59b9d29e7c61f6decfbfeabd3632c5fd23959cc53", func := "examiner/examinerlaw41.MutantRelations", spec := "mutantRelations", unfollowed := true, recurses := true, plainKeys := false, apart := false, narrowed := true }
def MutantRelationsUptoSaid : Prop := mutantRelationsUptoRow.holds Try.pinned (OpenSpec.upto mutantRelationsSpec)

/-- 'examinerlaw41.MutantChecks', WHERE WHAT IT READS IS OF BULK AT MOST 1048576: true; the input reads as it did. -/
def mutantChecksUptoRow : OpenClaim := { program := "ytomiejfeclefaaa", sum := "b03bf573c13e6b5a5d8717a59b9d29e7c61f6decfbfeabd3632c5fd23959cc53", func := "examiner/examinerlaw41.MutantChecks", spec := "mutantChecks", unfollowed := true, recurses := true, plainKeys := false, apart := false, narrowed := true }
def MutantChecksUptoSaid : Prop := mutantChecksUptoRow.holds Try.pinned (OpenSpec.upto mutantChecksSpec)

/-- 'examinerlaw41.MutantSorts', WHERE WHAT IT READS IS OF BULK AT MOST 1048576: true; the input reads as it did. -/
def mutantSortsUptoRow : OpenClaim := { program := "ytomiejfeclefaaa", sum := "b03bf573c13e6b5a5d8717a59b9d29e7c61f6decfbfeabd3632c5fd23959cc53", func := "examiner/examinerlaw41.MutantSorts", spec := "mutantSorts", unfollowed := true, recurses := true, plainKeys := false, apart := false, narrowed := true }
def MutantSortsUptoSaid : Prop := mutantSortsUptoRow.holds Try.pinned (OpenSpec.upto mutantSortsSpec)

/-- 'examinerlaw41.MutantKilled', WHERE WHAT IT READS IS OF BULK AT MOST 1048576: true; the input reads as it did. -/
def mutantKilledUptoRow : OpenClaim := { program := "ytomiejfeclefaaa", sum := "b03bf573c13e6b5a5d8717a59b9d29e7c61f6decfbfeabd3632c5fd23959cc53", func := "examiner/examinerlaw41.MutantKilled", spec := "mutantKilled", unfollowed := true, recurses := true, plainKeys := false, apart := false, narrowed := true }
def MutantKilledUptoSaid : Prop := mutantKilledUptoRow.holds Try.pinned (OpenSpec.upto mutantKilledSpec)

/-- 'examinerlaw41.MutantOne', WHERE WHAT IT READS IS OF BULK AT MOST 1048576: true; the input reads as it did. -/
def mutantOneUptoRow : OpenClaim := { program := "ytomiejfeclefaaa", sum := "b03bf573c13e6b5a5d8717a59b9d29e7c61f6decfbfeabd3632c5fd23959cc53", func := "examiner/examinerlaw41.MutantOne", spec := "mutantOne", unfollowed := true, recurses := true, plainKeys := false, apart := false, narrowed := true }
def MutantOneUptoSaid : Prop := mutantOneUptoRow.holds Try.pinned (OpenSpec.upto mutantOneSpec)

/-- 'examinerlaw41.MutantStands', WHERE WHAT IT READS IS OF BULK AT MOST 1048576: true; the input reads as it did. -/
def mutantStandsUptoRow : OpenClaim := { program := "ytomiejfeclefaaa", sum := "b03bf573c13e6b5a5d8717a59b9d29e7c61f6decfbfeabd3632c5fd23959cc53", func := "examiner/examinerlaw41.MutantStands", spec := "mutantStands", unfollowed := true, recurses := true, plainKeys := false, apart := false, narrowed := true }
def MutantStandsUptoSaid : Prop := mutantStandsUptoRow.holds Try.pinned (OpenSpec.upto mutantStandsSpec)

/-- 'examinerlaw41.MutantOrdered', WHERE WHAT IT READS IS OF BULK AT MOST 1048576: true; the input reads as it did. -/
def mutantOrderedUptoRow : OpenClaim := { program := "ytomiejfeclefaaa", sum := "b03bf573c13e6b5a5d8717a59b9d29e7c61f6decfbfeabd3632c5fd23959cc53", func := "examiner/examinerlaw41.MutantOrdered", spec := "mutantOrdered", unfollowed := true, recurses := true, plainKeys := false, apart := false, narrowed := true }
def MutantOrderedUptoSaid : Prop := mutantOrderedUptoRow.holds Try.pinned (OpenSpec.upto mutantOrderedSpec)

end Rows
end Go.Proofs.Ytomiejfeclefaaa
