/-
  No cell of these rows narrows 'for every input' (looked for: loops, veiled, ifaces, maps, wideKeys, modest, calm, conditions, laid).
  DERIVED. THE GIVEN ROWS OF THIS SEAT. 7 by the template 'for every input the law returns true; each argument reads behind the call as it read before'; 0 by the template 'total and deterministic' (their statements: YtkgdclcmfnhbmaaTotals.lean).
  GIVEN WITH THE SEED: the statements are not yours to turn. If you find one false, say at which input.
  Laid BY PROGRAM, IN A SANDBOX (cutbox-rows.mjs): the forced cells as the released guide's own fill.sh prints them over the translation 422a49002973593e… (all of the seat's roots in one cut). By AI agents, Wed Nov 11 2026. No macro, syntax, notation, axiom, sorry.
-/
import Derived.Test.YtkgdclcmfnhbmaaChecked
import GoSem.Claim
import GoSem.ClaimJoined
import GoSem.ClaimMapViews
import Derived.JoinedTies
import Derived.KernelRfl
namespace Go.Proofs.Ytkgdclcmfnhbmaa
/- THE CELL 'sum', in the pinned program and in every row, IS THE sha256 OF THE DUMP (.gsa) THAT YtkgdclcmfnhbmaaProg.lean LOADS. Nothing in Lean hashes anything: it is a label: what it is worth is what the hold of that sum in a sandbox is worth. -/
noncomputable def Try.pinned : Pinned := { name := "ytkgdclcmfnhbmaa", sum := "422a49002973593e4d41979f9b2f6a82787506baaa2da5a9a99680912fe7f3cb", checked := Try.checked }
namespace Rows
def none {H : Type} : Left H := { results := [], args := [] }

/-- 'examinerlaw40.SuiteProofs': WHATEVER THE INPUT: true; the input reads as it did. -/
def suiteProofsSpec : ChangeSpec := { name := "suiteProofs", fn := fun _ => fun
  | [d1, d2, d3] => { results := [.lit (.bool true)], args := [d1, d2, d3] }
  | _ => none }
def suiteProofsRow : OpenClaim := { program := "ytkgdclcmfnhbmaa", sum := "422a49002973593e4d41979f9b2f6a82787506baaa2da5a9a99680912fe7f3cb", func := "examiner/examinerlaw40.SuiteProofs", spec := "suiteProofs", unfollowed := true, recurses := true, apart := false }
def SuiteProofsSaid : Prop := suiteProofsRow.holds Try.pinned (OpenSpec.ofChange suiteProofsSpec)

/-- ITS FALSE NEIGHBOUR: 'it returns false'. Refute it at one input. -/
def suiteProofsWrong : ChangeSpec := { name := "suiteProofs", fn := fun _ => fun
  | [d1, d2, d3] => { results := [.lit (.bool false)], args := [d1, d2, d3] }
  | _ => none }
def SuiteProofsWrongFalsely : Prop := suiteProofsRow.holds Try.pinned (OpenSpec.ofChange suiteProofsWrong)

/-- 'examinerlaw40.SuitePasses': WHATEVER THE INPUT: true; the input reads as it did. -/
def suitePassesSpec : ChangeSpec := { name := "suitePasses", fn := fun _ => fun
  | [d1, d2, d3] => { results := [.lit (.bool true)], args := [d1, d2, d3] }
  | _ => none }
def suitePassesRow : OpenClaim := { program := "ytkgdclcmfnhbmaa", sum := "422a49002973593e4d41979f9b2f6a82787506baaa2da5a9a99680912fe7f3cb", func := "examiner/examinerlaw40.SuitePasses", spec := "suitePasses", unfollowed := true, recurses := true, apart := false }
def SuitePassesSaid : Prop := suitePassesRow.holds Try.pinned (OpenSpec.ofChange suitePassesSpec)

/-- ITS FALSE NEIGHBOUR: 'it returns false'. Refute it at one input. -/
def suitePassesWrong : ChangeSpec := { name := "suitePasses", fn := fun _ => fun
  | [d1, d2, d3] => { results := [.lit (.bool false)], args := [d1, d2, d3] }
  | _ => none }
def SuitePassesWrongFalsely : Prop := suitePassesRow.holds Try.pinned (OpenSpec.ofChange suitePassesWrong)

/-- 'examinerlaw40.SuiteTables': WHATEVER THE INPUT: true; the input reads as it did. -/
def suiteTablesSpec : ChangeSpec := { name := "suiteTables", fn := fun _ => fun
  | [d] => { results := [.lit (.bool true)], args := [d] }
  | _ => none }
def suiteTablesRow : OpenClaim := { program := "ytkgdclcmfnhbmaa", sum := "422a49002973593e4d41979f9b2f6a82787506baaa2da5a9a99680912fe7f3cb", func := "examiner/examinerlaw40.SuiteTables", spec := "suiteTables", unfollowed := true, recurses := true, apart := false }
def SuiteTablesSaid : Prop := suiteTablesRow.holds Try.pinned (OpenSpec.ofChange suiteTablesSpec)

/-- ITS FALSE NEIGHBOUR: 'it returns false'. Refute it at one input. -/
def suiteTablesWrong : ChangeSpec := { name := "suiteTables", fn := fun _ => fun
  | [d] => { results := [.lit (.bool false)], args := [d] }
  | _ => none }
def SuiteTablesWrongFalsely : Prop := suiteTablesRow.holds Try.pinned (OpenSpec.ofChange suiteTablesWrong)

/-- 'examinerlaw40.SuiteSmallest': WHATEVER THE INPUT: true; the input reads as it did. -/
def suiteSmallestSpec : ChangeSpec := { name := "suiteSmallest", fn := fun _ => fun
  | [d] => { results := [.lit (.bool true)], args := [d] }
  | _ => none }
def suiteSmallestRow : OpenClaim := { program := "ytkgdclcmfnhbmaa", sum := "422a49002973593e4d41979f9b2f6a82787506baaa2da5a9a99680912fe7f3cb", func := "examiner/examinerlaw40.SuiteSmallest", spec := "suiteSmallest", unfollowed := true, recurses := true, apart := false }
def SuiteSmallestSaid : Prop := suiteSmallestRow.holds Try.pinned (OpenSpec.ofChange suiteSmallestSpec)

/-- ITS FALSE NEIGHBOUR: 'it returns false'. Refute it at one input. -/
def suiteSmallestWrong : ChangeSpec := { name := "suiteSmallest", fn := fun _ => fun
  | [d] => { results := [.lit (.bool false)], args := [d] }
  | _ => none }
def SuiteSmallestWrongFalsely : Prop := suiteSmallestRow.holds Try.pinned (OpenSpec.ofChange suiteSmallestWrong)

/-- 'examinerlaw40.SuiteNoneSmaller': WHATEVER THE INPUT: true; the input reads as it did. -/
def suiteNoneSmallerSpec : ChangeSpec := { name := "suiteNoneSmaller", fn := fun _ => fun
  | [d1, d2] => { results := [.lit (.bool true)], args := [d1, d2] }
  | _ => none }
def suiteNoneSmallerRow : OpenClaim := { program := "ytkgdclcmfnhbmaa", sum := "422a49002973593e4d41979f9b2f6a82787506baaa2da5a9a99680912fe7f3cb", func := "examiner/examinerlaw40.SuiteNoneSmaller", spec := "suiteNoneSmaller", unfollowed := true, recurses := true, apart := false }
def SuiteNoneSmallerSaid : Prop := suiteNoneSmallerRow.holds Try.pinned (OpenSpec.ofChange suiteNoneSmallerSpec)

/-- ITS FALSE NEIGHBOUR: 'it returns false'. Refute it at one input. -/
def suiteNoneSmallerWrong : ChangeSpec := { name := "suiteNoneSmaller", fn := fun _ => fun
  | [d1, d2] => { results := [.lit (.bool false)], args := [d1, d2] }
  | _ => none }
def SuiteNoneSmallerWrongFalsely : Prop := suiteNoneSmallerRow.holds Try.pinned (OpenSpec.ofChange suiteNoneSmallerWrong)

/-- 'examinerlaw40.SuiteSame': WHATEVER THE INPUT: true; the input reads as it did. -/
def suiteSameSpec : ChangeSpec := { name := "suiteSame", fn := fun _ => fun
  | [d1, d2, d3] => { results := [.lit (.bool true)], args := [d1, d2, d3] }
  | _ => none }
def suiteSameRow : OpenClaim := { program := "ytkgdclcmfnhbmaa", sum := "422a49002973593e4d41979f9b2f6a82787506baaa2da5a9a99680912fe7f3cb", func := "examiner/examinerlaw40.SuiteSame", spec := "suiteSame", unfollowed := true, recurses := true, apart := false }
def SuiteSameSaid : Prop := suiteSameRow.holds Try.pinned (OpenSpec.ofChange suiteSameSpec)

/-- ITS FALSE NEIGHBOUR: 'it returns false'. Refute it at one input. -/
def suiteSameWrong : ChangeSpec := { name := "suiteSame", fn := fun _ => fun
  | [d1, d2, d3] => { results := [.lit (.bool false)], args := [d1, d2, d3] }
  | _ => none }
def SuiteSameWrongFalsely : Prop := suiteSameRow.holds Try.pinned (OpenSpec.ofChange suiteSameWrong)

/-- 'examinerlaw40.SuiteReduced': WHATEVER THE INPUT: true; the input reads as it did. -/
def suiteReducedSpec : ChangeSpec := { name := "suiteReduced", fn := fun _ => fun
  | [d] => { results := [.lit (.bool true)], args := [d] }
  | _ => none }
def suiteReducedRow : OpenClaim := { program := "ytkgdclcmfnhbmaa", sum := "422a49002973593e4d41979f9b2f6a82787506baaa2da5a9a99680912fe7f3cb", func := "examiner/examinerlaw40.SuiteReduced", spec := "suiteReduced", unfollowed := true, recurses := true, apart := false }
def SuiteReducedSaid : Prop := suiteReducedRow.holds Try.pinned (OpenSpec.ofChange suiteReducedSpec)

/-- ITS FALSE NEIGHBOUR: 'it returns false'. Refute it at one input. -/
def suiteReducedWrong : ChangeSpec := { name := "suiteReduced", fn := fun _ => fun
  | [d] => { results := [.lit (.bool false)], args := [d] }
  | _ => none }
def SuiteReducedWrongFalsely : Prop := suiteReducedRow.holds Try.pinned (OpenSpec.ofChange suiteReducedWrong)

/- THE SECOND FORM. 'bulk': how many values and letters a reading holds, each counted each time it is reached (what is shared counts as often as it is met; a slice's spare places count too). A statement '..UptoSaid' is the law's where the arguments, and the package variables that the reading takes, are together of bulk at most 1048576: NARROWER than '..Said'. Prove '..Said' where nothing that the law and all that it calls make is longer than what came in: it says more and counts as full. Else prove '..UptoSaid'. A law counts once. -/
mutual
def uptoBulk {H : Type} : DataW H → Nat
  | .lit (.string bytes) => bytes.length + 1
  | .lit _ => 1
  | .nil => 1
  | .ptr d => uptoBulk d + 1
  | .slice elems spare => uptoBulkAll elems + uptoBulkAll spare + 1
  | .agg parts => uptoBulkAll parts + 1
  | .iface _ d => uptoBulk d + 1
  | .map entries => uptoBulkEntries entries + 1
  | .held _ => 1
def uptoBulkAll {H : Type} : List (DataW H) → Nat
  | [] => 0
  | d :: r => uptoBulk d + uptoBulkAll r
def uptoBulkEntries {H : Type} : List (Lit × DataW H) → Nat
  | [] => 0
  | x :: r => uptoBulkEntry x + uptoBulkEntries r
def uptoBulkEntry {H : Type} : Lit × DataW H → Nat
  | (.string bytes, d) => bytes.length + uptoBulk d + 1
  | (_, d) => uptoBulk d + 1
 end
def uptoSmall : (H : Type) → List (DataW H) → Bool := fun _ ds => decide (uptoBulkAll ds ≤ 1048576)
def OpenSpec.upto (s : _root_.Go.ChangeSpec) : _root_.Go.OpenSpec := { _root_.Go.OpenSpec.ofChange s with cond := some uptoSmall }

/-- 'examinerlaw40.SuiteProofs', WHERE WHAT IT READS IS OF BULK AT MOST 1048576: true; the input reads as it did. -/
def suiteProofsUptoRow : OpenClaim := { program := "ytkgdclcmfnhbmaa", sum := "422a49002973593e4d41979f9b2f6a82787506baaa2da5a9a99680912fe7f3cb", func := "examiner/examinerlaw40.SuiteProofs", spec := "suiteProofs", unfollowed := true, recurses := true, apart := false, narrowed := true }
def SuiteProofsUptoSaid : Prop := suiteProofsUptoRow.holds Try.pinned (OpenSpec.upto suiteProofsSpec)

/-- 'examinerlaw40.SuitePasses', WHERE WHAT IT READS IS OF BULK AT MOST 1048576: true; the input reads as it did. -/
def suitePassesUptoRow : OpenClaim := { program := "ytkgdclcmfnhbmaa", sum := "422a49002973593e4d41979f9b2f6a82787506baaa2da5a9a99680912fe7f3cb", func := "examiner/examinerlaw40.SuitePasses", spec := "suitePasses", unfollowed := true, recurses := true, apart := false, narrowed := true }
def SuitePassesUptoSaid : Prop := suitePassesUptoRow.holds Try.pinned (OpenSpec.upto suitePassesSpec)

/-- 'examinerlaw40.SuiteTables', WHERE WHAT IT READS IS OF BULK AT MOST 1048576: true; the input reads as it did. -/
def suiteTablesUptoRow : OpenClaim := { program := "ytkgdclcmfnhbmaa", sum := "422a49002973593e4d41979f9b2f6a82787506baaa2da5a9a99680912fe7f3cb", func := "examiner/examinerlaw40.SuiteTables", spec := "suiteTables", unfollowed := true, recurses := true, apart := false, narrowed := true }
def SuiteTablesUptoSaid : Prop := suiteTablesUptoRow.holds Try.pinned (OpenSpec.upto suiteTablesSpec)

/-- 'examinerlaw40.SuiteSmallest', WHERE WHAT IT READS IS OF BULK AT MOST 1048576: true; the input reads as it did. -/
def suiteSmallestUptoRow : OpenClaim := { program := "ytkgdclcmfnhbmaa", sum := "422a49002973593e4d41979f9b2f6a82787506baaa2da5a9a99680912fe7f3cb", func := "examiner/examinerlaw40.SuiteSmallest", spec := "suiteSmallest", unfollowed := true, recurses := true, apart := false, narrowed := true }
def SuiteSmallestUptoSaid : Prop := suiteSmallestUptoRow.holds Try.pinned (OpenSpec.upto suiteSmallestSpec)

/-- 'examinerlaw40.SuiteNoneSmaller', WHERE WHAT IT READS IS OF BULK AT MOST 1048576: true; the input reads as it did. -/
def suiteNoneSmallerUptoRow : OpenClaim := { program := "ytkgdclcmfnhbmaa", sum := "422a49002973593e4d41979f9b2f6a82787506baaa2da5a9a99680912fe7f3cb", func := "examiner/examinerlaw40.SuiteNoneSmaller", spec := "suiteNoneSmaller", unfollowed := true, recurses := true, apart := false, narrowed := true }
def SuiteNoneSmallerUptoSaid : Prop := suiteNoneSmallerUptoRow.holds Try.pinned (OpenSpec.upto suiteNoneSmallerSpec)

/-- 'examinerlaw40.SuiteSame', WHERE WHAT IT READS IS OF BULK AT MOST 1048576: true; the input reads as it did. -/
def suiteSameUptoRow : OpenClaim := { program := "ytkgdclcmfnhbmaa", sum := "422a49002973593e4d41979f9b2f6a82787506baaa2da5a9a99680912fe7f3cb", func := "examiner/examinerlaw40.SuiteSame", spec := "suiteSame", unfollowed := true, recurses := true, apart := false, narrowed := true }
def SuiteSameUptoSaid : Prop := suiteSameUptoRow.holds Try.pinned (OpenSpec.upto suiteSameSpec)

/-- 'examinerlaw40.SuiteReduced', WHERE WHAT IT READS IS OF BULK AT MOST 1048576: true; the input reads as it did. -/
def suiteReducedUptoRow : OpenClaim := { program := "ytkgdclcmfnhbmaa", sum := "422a49002973593e4d41979f9b2f6a82787506baaa2da5a9a99680912fe7f3cb", func := "examiner/examinerlaw40.SuiteReduced", spec := "suiteReduced", unfollowed := true, recurses := true, apart := false, narrowed := true }
def SuiteReducedUptoSaid : Prop := suiteReducedUptoRow.holds Try.pinned (OpenSpec.upto suiteReducedSpec)

end Rows
end Go.Proofs.Ytkgdclcmfnhbmaa
