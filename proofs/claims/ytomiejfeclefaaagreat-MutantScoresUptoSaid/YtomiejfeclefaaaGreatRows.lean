/-
  No cell of these rows narrows 'for every input' (looked for: loops, veiled, ifaces, maps, wideKeys, modest, calm, conditions, laid).
  DERIVED. THE GIVEN ROWS OF THIS SEAT. 2 by the template 'for every input the law returns true; each argument reads behind the call as it read before'; 0 by the template 'total and deterministic' (their statements: YtomiejfeclefaaaGreatTotals.lean).
  GIVEN WITH THE SEED: the statements are not yours to turn. If you find one false, say at which input.
  Laid BY PROGRAM, IN A SANDBOX (cutbox-rows.mjs): the forced cells as the released guide's own fill.sh prints them over the translation 050d5b232716e8ef… (all of the seat's roots in one cut). By AI agents, Wed Nov 11 2026. No macro, syntax, notation, axiom, sorry.
-/
import Derived.Test.YtomiejfeclefaaaGreatChecked
import GoSem.Claim
import GoSem.ClaimJoined
import GoSem.ClaimMapViews
import Derived.JoinedTies
import Derived.KernelRfl
namespace Go.Proofs.YtomiejfeclefaaaGreat
/- THE CELL 'sum', in the pinned program and in every row, IS THE sha256 OF THE DUMP (.gsa) THAT YtomiejfeclefaaaGreatProg.lean LOADS. Nothing in Lean hashes anything: it is a label: what it is worth is what the hold of that sum in a sandbox is worth. -/
noncomputable def Tryz.pinned : Pinned := { name := "ytomiejfeclefaaagreat", sum := "050d5b232716e8efc1ed9f3d26a52f3c6dfc60c5a2106cf5790407a10c66b2fb", checked := Tryz.checked }
namespace Rows
def none {H : Type} : Left H := { results := [], args := [] }

/-- 'examinerlaw41.MutantScores': WHATEVER THE INPUT: true; the input reads as it did. -/
def mutantScoresSpec : ChangeSpec := { name := "mutantScores", fn := fun _ => fun
  | [d1, d2, d3] => { results := [.lit (.bool true)], args := [d1, d2, d3] }
  | _ => none }
def mutantScoresRow : OpenClaim := { program := "ytomiejfeclefaaagreat", sum := "050d5b232716e8efc1ed9f3d26a52f3c6dfc60c5a2106cf5790407a10c66b2fb", func := "examiner/examinerlaw41.MutantScores", spec := "mutantScores", unfollowed := true, recurses := true, apart := false }
def MutantScoresSaid : Prop := mutantScoresRow.holds Tryz.pinned (OpenSpec.ofChange mutantScoresSpec)

/-- ITS FALSE NEIGHBOUR: 'it returns false'. Refute it at one input. -/
def mutantScoresWrong : ChangeSpec := { name := "mutantScores", fn := fun _ => fun
  | [d1, d2, d3] => { results := [.lit (.bool false)], args := [d1, d2, d3] }
  | _ => none }
def MutantScoresWrongFalsely : Prop := mutantScoresRow.holds Tryz.pinned (OpenSpec.ofChange mutantScoresWrong)

/-- 'examinerlaw41.MutantSuites': WHATEVER THE INPUT: true; the input reads as it did. -/
def mutantSuitesSpec : ChangeSpec := { name := "mutantSuites", fn := fun _ => fun
  | [d1, d2] => { results := [.lit (.bool true)], args := [d1, d2] }
  | _ => none }
def mutantSuitesRow : OpenClaim := { program := "ytomiejfeclefaaagreat", sum := "050d5b232716e8efc1ed9f3d26a52f3c6dfc60c5a2106cf5790407a10c66b2fb", func := "examiner/examinerlaw41.MutantSuites", spec := "mutantSuites", unfollowed := true, recurses := true, apart := false }
def MutantSuitesSaid : Prop := mutantSuitesRow.holds Tryz.pinned (OpenSpec.ofChange mutantSuitesSpec)

/-- ITS FALSE NEIGHBOUR: 'it returns false'. Refute it at one input. -/
def mutantSuitesWrong : ChangeSpec := { name := "mutantSuites", fn := fun _ => fun
  | [d1, d2] => { results := [.lit (.bool false)], args := [d1, d2] }
  | _ => none }
def MutantSuitesWrongFalsely : Prop := mutantSuitesRow.holds Tryz.pinned (OpenSpec.ofChange mutantSuitesWrong)

/- THE SECOND FORM. 'bulk': how many values and letters a reading holds, each counted each time it is reached (what is shared counts as often as it is met; a slice's spare places count too). A statement '..UptoSaid' is the law's where the arguments, and the package variables that the reading takes, are together of bulk at most 1048576: NARROWER than '..Said'. Prove '..Said' where nothing that the law and all that it calls make is longer than what came in: it says more and counts as full. Else prove '..UptoSaid'. A law counts once. -/
mutual
def uptoBulk {H : Type} : DataW H → Nat
  | .lit (.string bytes) => bytes.length + 1
  | .lit _ => 1
  | .nil => 1
  | .ptr d => uptoBulk d + 1
  | .slice elems spare => uptoBulkAll elems + uptoBulkAll spare + 1
  | .agg parts => uptoBulkAll parts + 1
  | .iface _ d => uptoBulk d + 1
  | .map entries => uptoBulkEntries entries + 1
  | .held _ => 1
def uptoBulkAll {H : Type} : List (DataW H) → Nat
  | [] => 0
  | d :: r => uptoBulk d + uptoBulkAll r
def uptoBulkEntries {H : Type} : List (Lit × DataW H) → Nat
  | [] => 0
  | x :: r => uptoBulkEntry x + uptoBulkEntries r
def uptoBulkEntry {H : Type} : Lit × DataW H → Nat
  | (.string bytes, d) => bytes.length + uptoBulk d + 1
  | (_, d) => uptoBulk d + 1
 end
def uptoSmall : (H : Type) → List (DataW H) → Bool := fun _ ds => decide (uptoBulkAll ds ≤ 1048576)
def OpenSpec.upto (s : _root_.Go.ChangeSpec) : _root_.Go.OpenSpec := { _root_.Go.OpenSpec.ofChange s with cond := some uptoSmall }

/-- 'examinerlaw41.MutantScores', WHERE WHAT IT READS IS OF BULK AT MOST 1048576: true; the input reads as it did. -/
def mutantScoresUptoRow : OpenClaim := { program := "ytomiejfeclefaaagreat", sum := "050d5b232716e8efc1ed9f3d26a52f3c6dfc60c5a2106cf5790407a10c66b2fb", func := "examiner/examinerlaw41.MutantScores", spec := "mutantScores", unfollowed := true, recurses := true, apart := false, narrowed := true }
def MutantScoresUptoSaid : Prop := mutantScoresUptoRow.holds Tryz.pinned (OpenSpec.upto mutantScoresSpec)

/-- 'examinerlaw41.MutantSuites', WHERE WHAT IT READS IS OF BULK AT MOST 1048576: true; the input reads as it did. -/
def mutantSuitesUptoRow : OpenClaim := { program := "ytomiejfeclefaaagreat", sum := "050d5b232716e8efc1ed9f3d26a52f3c6dfc60c5a2106cf5790407a10c66b2fb", func := "examiner/examinerlaw41.MutantSuites", spec := "mutantSuites", unfollowed := true, recurses := true, apart := false, narrowed := true }
def MutantSuitesUptoSaid : Prop := mutantSuitesUptoRow.holds Tryz.pinned (OpenSpec.upto mutantSuitesSpec)

end Rows
end Go.Proofs.YtomiejfeclefaaaGreat
