/-
  No cell of these rows narrows 'for every input' (looked for: loops, veiled, ifaces, maps, wideKeys, modest, calm, conditions, laid).
  DERIVED. THE GIVEN ROWS OF THIS SEAT. 7 by the template 'for every input the law returns true; each argument reads behind the call as it read before'; 0 by the template 'total and deterministic' (their statements: YtalnnkpdpjmmkaaTotals.lean).
  GIVEN WITH THE SEED: the statements are not yours to turn. If you find one false, say at which input.
  Laid BY PROGRAM, IN A SANDBOX (cutbox-rows.mjs): the forced cells as the released guide's own fill.sh prints them over the translation 6a710bd865d632ff… (all of the seat's roots in one cut). By AI agents, Wed Nov 11 2026. No macro, syntax, notation, axiom, sorry.
-/
import Derived.Test.YtalnnkpdpjmmkaaChecked
import GoSem.Claim
import GoSem.ClaimJoined
import GoSem.ClaimMapViews
import Derived.JoinedTies
import Derived.KernelRfl
namespace Go.Proofs.Ytalnnkpdpjmmkaa
/- THE CELL 'sum', in the pinned program and in every row, IS THE sha256 OF THE DUMP (.gsa) THAT YtalnnkpdpjmmkaaProg.lean LOADS. Nothing in Lean hashes anything: it is a label: what it is worth is what the hold of that sum in a sandbox is worth. -/
noncomputable def Try.pinned : Pinned := { name := "ytalnnkpdpjmmkaa", sum := "6a710bd865d632ffc7bfbe0b5ae4f394f0796bd48d2ecc95181252ad1ea52060", checked := Try.checked }
namespace Rows
def none {H : Type} : Left H := { results := [], args := [] }

/-- 'examinerlaw27.ClockChecks': WHATEVER THE INPUT: true; the input reads as it did. -/
def clockChecksSpec : ChangeSpec := { name := "clockChecks", fn := fun _ => fun
  | [d] => { results := [.lit (.bool true)], args := [d] }
  | _ => none }
def clockChecksRow : OpenClaim := { program := "ytalnnkpdpjmmkaa", sum := "6a710bd865d632ffc7bfbe0b5ae4f394f0796bd48d2ecc95181252ad1ea52060", func := "examiner/examinerlaw27.ClockChecks", spec := "clockChecks", inPlace := ["internal/bytealg.IndexByteString", "internal/bytealg.IndexString", "internal/bytealg.abigen_runtime_cmpstring"], unfollowed := true, recurses := true, named := ["internal/bytealg.MaxLen"], apart := false }
def ClockChecksSaid : Prop := clockChecksRow.holds Try.pinned (OpenSpec.ofChange clockChecksSpec)

/-- ITS FALSE NEIGHBOUR: 'it returns false'. Refute it at one input. -/
def clockChecksWrong : ChangeSpec := { name := "clockChecks", fn := fun _ => fun
  | [d] => { results := [.lit (.bool false)], args := [d] }
  | _ => none }
def ClockChecksWrongFalsely : Prop := clockChecksRow.holds Try.pinned (OpenSpec.ofChange clockChecksWrong)

/-- 'examinerlaw27.ClockAdvances': WHATEVER THE INPUT: true; the input reads as it did. -/
def clockAdvancesSpec : ChangeSpec := { name := "clockAdvances", fn := fun _ => fun
  | [d1, d2] => { results := [.lit (.bool true)], args := [d1, d2] }
  | _ => none }
def clockAdvancesRow : OpenClaim := { program := "ytalnnkpdpjmmkaa", sum := "6a710bd865d632ffc7bfbe0b5ae4f394f0796bd48d2ecc95181252ad1ea52060", func := "examiner/examinerlaw27.ClockAdvances", spec := "clockAdvances", inPlace := ["internal/bytealg.IndexByteString", "internal/bytealg.IndexString", "internal/bytealg.abigen_runtime_cmpstring"], unfollowed := true, recurses := true, named := ["internal/bytealg.MaxLen"], apart := false }
def ClockAdvancesSaid : Prop := clockAdvancesRow.holds Try.pinned (OpenSpec.ofChange clockAdvancesSpec)

/-- ITS FALSE NEIGHBOUR: 'it returns false'. Refute it at one input. -/
def clockAdvancesWrong : ChangeSpec := { name := "clockAdvances", fn := fun _ => fun
  | [d1, d2] => { results := [.lit (.bool false)], args := [d1, d2] }
  | _ => none }
def ClockAdvancesWrongFalsely : Prop := clockAdvancesRow.holds Try.pinned (OpenSpec.ofChange clockAdvancesWrong)

/-- 'examinerlaw27.ClockOnTime': WHATEVER THE INPUT: true; the input reads as it did. -/
def clockOnTimeSpec : ChangeSpec := { name := "clockOnTime", fn := fun _ => fun
  | [d] => { results := [.lit (.bool true)], args := [d] }
  | _ => none }
def clockOnTimeRow : OpenClaim := { program := "ytalnnkpdpjmmkaa", sum := "6a710bd865d632ffc7bfbe0b5ae4f394f0796bd48d2ecc95181252ad1ea52060", func := "examiner/examinerlaw27.ClockOnTime", spec := "clockOnTime", inPlace := ["internal/bytealg.IndexByteString", "internal/bytealg.IndexString", "internal/bytealg.abigen_runtime_cmpstring"], unfollowed := true, recurses := true, named := ["internal/bytealg.MaxLen"], apart := false }
def ClockOnTimeSaid : Prop := clockOnTimeRow.holds Try.pinned (OpenSpec.ofChange clockOnTimeSpec)

/-- ITS FALSE NEIGHBOUR: 'it returns false'. Refute it at one input. -/
def clockOnTimeWrong : ChangeSpec := { name := "clockOnTime", fn := fun _ => fun
  | [d] => { results := [.lit (.bool false)], args := [d] }
  | _ => none }
def ClockOnTimeWrongFalsely : Prop := clockOnTimeRow.holds Try.pinned (OpenSpec.ofChange clockOnTimeWrong)

/-- 'examinerlaw27.ClockTakes': WHATEVER THE INPUT: true; the input reads as it did. -/
def clockTakesSpec : ChangeSpec := { name := "clockTakes", fn := fun _ => fun
  | [d1, d2, d3] => { results := [.lit (.bool true)], args := [d1, d2, d3] }
  | _ => none }
def clockTakesRow : OpenClaim := { program := "ytalnnkpdpjmmkaa", sum := "6a710bd865d632ffc7bfbe0b5ae4f394f0796bd48d2ecc95181252ad1ea52060", func := "examiner/examinerlaw27.ClockTakes", spec := "clockTakes", inPlace := ["internal/bytealg.IndexByteString", "internal/bytealg.IndexString", "internal/bytealg.abigen_runtime_cmpstring"], unfollowed := true, recurses := true, named := ["internal/bytealg.MaxLen"], apart := false }
def ClockTakesSaid : Prop := clockTakesRow.holds Try.pinned (OpenSpec.ofChange clockTakesSpec)

/-- ITS FALSE NEIGHBOUR: 'it returns false'. Refute it at one input. -/
def clockTakesWrong : ChangeSpec := { name := "clockTakes", fn := fun _ => fun
  | [d1, d2, d3] => { results := [.lit (.bool false)], args := [d1, d2, d3] }
  | _ => none }
def ClockTakesWrongFalsely : Prop := clockTakesRow.holds Try.pinned (OpenSpec.ofChange clockTakesWrong)

/-- 'examinerlaw27.ClockStarts': WHATEVER THE INPUT: true; the input reads as it did. -/
def clockStartsSpec : ChangeSpec := { name := "clockStarts", fn := fun _ => fun
  | [d1, d2, d3] => { results := [.lit (.bool true)], args := [d1, d2, d3] }
  | _ => none }
def clockStartsRow : OpenClaim := { program := "ytalnnkpdpjmmkaa", sum := "6a710bd865d632ffc7bfbe0b5ae4f394f0796bd48d2ecc95181252ad1ea52060", func := "examiner/examinerlaw27.ClockStarts", spec := "clockStarts", inPlace := ["internal/bytealg.IndexByteString", "internal/bytealg.IndexString", "internal/bytealg.abigen_runtime_cmpstring"], unfollowed := true, recurses := true, named := ["internal/bytealg.MaxLen"], apart := false }
def ClockStartsSaid : Prop := clockStartsRow.holds Try.pinned (OpenSpec.ofChange clockStartsSpec)

/-- ITS FALSE NEIGHBOUR: 'it returns false'. Refute it at one input. -/
def clockStartsWrong : ChangeSpec := { name := "clockStarts", fn := fun _ => fun
  | [d1, d2, d3] => { results := [.lit (.bool false)], args := [d1, d2, d3] }
  | _ => none }
def ClockStartsWrongFalsely : Prop := clockStartsRow.holds Try.pinned (OpenSpec.ofChange clockStartsWrong)

/-- 'examinerlaw27.ClockSteps': WHATEVER THE INPUT: true; the input reads as it did. -/
def clockStepsSpec : ChangeSpec := { name := "clockSteps", fn := fun _ => fun
  | [d1, d2] => { results := [.lit (.bool true)], args := [d1, d2] }
  | _ => none }
def clockStepsRow : OpenClaim := { program := "ytalnnkpdpjmmkaa", sum := "6a710bd865d632ffc7bfbe0b5ae4f394f0796bd48d2ecc95181252ad1ea52060", func := "examiner/examinerlaw27.ClockSteps", spec := "clockSteps", inPlace := ["internal/bytealg.IndexByteString", "internal/bytealg.IndexString", "internal/bytealg.abigen_runtime_cmpstring"], unfollowed := true, recurses := true, named := ["internal/bytealg.MaxLen"], apart := false }
def ClockStepsSaid : Prop := clockStepsRow.holds Try.pinned (OpenSpec.ofChange clockStepsSpec)

/-- ITS FALSE NEIGHBOUR: 'it returns false'. Refute it at one input. -/
def clockStepsWrong : ChangeSpec := { name := "clockSteps", fn := fun _ => fun
  | [d1, d2] => { results := [.lit (.bool false)], args := [d1, d2] }
  | _ => none }
def ClockStepsWrongFalsely : Prop := clockStepsRow.holds Try.pinned (OpenSpec.ofChange clockStepsWrong)

/-- 'examinerlaw27.ClockDeclares': WHATEVER THE INPUT: true; the input reads as it did. -/
def clockDeclaresSpec : ChangeSpec := { name := "clockDeclares", fn := fun _ => fun
  | [d1, d2, d3] => { results := [.lit (.bool true)], args := [d1, d2, d3] }
  | _ => none }
def clockDeclaresRow : OpenClaim := { program := "ytalnnkpdpjmmkaa", sum := "6a710bd865d632ffc7bfbe0b5ae4f394f0796bd48d2ecc95181252ad1ea52060", func := "examiner/examinerlaw27.ClockDeclares", spec := "clockDeclares", inPlace := ["internal/bytealg.IndexByteString", "internal/bytealg.IndexString", "internal/bytealg.abigen_runtime_cmpstring", "slices.overlaps[examiner/api.ClockTimer]"], unfollowed := true, recurses := true, named := ["internal/bytealg.MaxLen"], apart := false }
def ClockDeclaresSaid : Prop := clockDeclaresRow.holds Try.pinned (OpenSpec.ofChange clockDeclaresSpec)

/-- ITS FALSE NEIGHBOUR: 'it returns false'. Refute it at one input. -/
def clockDeclaresWrong : ChangeSpec := { name := "clockDeclares", fn := fun _ => fun
  | [d1, d2, d3] => { results := [.lit (.bool false)], args := [d1, d2, d3] }
  | _ => none }
def ClockDeclaresWrongFalsely : Prop := clockDeclaresRow.holds Try.pinned (OpenSpec.ofChange clockDeclaresWrong)

/- THE SECOND FORM. 'bulk': how many values and letters a reading holds, each counted each time it is reached (what is shared counts as often as it is met; a slice's spare places count too). A statement '..UptoSaid' is the law's where the arguments, and the package variables that the reading takes, are together of bulk at most 1048576: NARROWER than '..Said'. Prove '..Said' where nothing that the law and all that it calls make is longer than what came in: it says more and counts as full. Else prove '..UptoSaid'. A law counts once. -/
mutual
def uptoBulk {H : Type} : DataW H → Nat
  | .lit (.string bytes) => bytes.length + 1
  | .lit _ => 1
  | .nil => 1
  | .ptr d => uptoBulk d + 1
  | .slice elems spare => uptoBulkAll elems + uptoBulkAll spare + 1
  | .agg parts => uptoBulkAll parts + 1
  | .iface _ d => uptoBulk d + 1
  | .map entries => uptoBulkEntries entries + 1
  | .held _ => 1
def uptoBulkAll {H : Type} : List (DataW H) → Nat
  | [] => 0
  | d :: r => uptoBulk d + uptoBulkAll r
def uptoBulkEntries {H : Type} : List (Lit × DataW H) → Nat
  | [] => 0
  | x :: r => uptoBulkEntry x + uptoBulkEntries r
def uptoBulkEntry {H : Type} : Lit × DataW H → Nat
  | (.string bytes, d) => bytes.length + uptoBulk d + 1
  | (_, d) => uptoBulk d + 1
 end
def uptoSmall : (H : Type) → List (DataW H) → Bool := fun _ ds => decide (uptoBulkAll ds ≤ 1048576)
def OpenSpec.upto (s : _root_.Go.ChangeSpec) : _root_.Go.OpenSpec := { _root_.Go.OpenSpec.ofChange s with cond := some uptoSmall }

/-- 'examinerlaw27.ClockChecks', WHERE WHAT IT READS IS OF BULK AT MOST 1048576: true; the input reads as it did. -/
def clockChecksUptoRow : OpenClaim := { program := "ytalnnkpdpjmmkaa", sum := "6a710bd865d632ffc7bfbe0b5ae4f394f0796bd48d2ecc95181252ad1ea52060", func := "examiner/examinerlaw27.ClockChecks", spec := "clockChecks", inPlace := ["internal/bytealg.IndexByteString", "internal/bytealg.IndexString", "internal/bytealg.abigen_runtime_cmpstring"], unfollowed := true, recurses := true, named := ["internal/bytealg.MaxLen"], apart := false, narrowed := true }
def ClockChecksUptoSaid : Prop := clockChecksUptoRow.holds Try.pinned (OpenSpec.upto clockChecksSpec)

/-- 'examinerlaw27.ClockAdvances', WHERE WHAT IT READS IS OF BULK AT MOST 1048576: true; the input reads as it did. -/
def clockAdvancesUptoRow : OpenClaim := { program := "ytalnnkpdpjmmkaa", sum := "6a710bd865d632ffc7bfbe0b5ae4f394f0796bd48d2ecc95181252ad1ea52060", func := "examiner/examinerlaw27.ClockAdvances", spec := "clockAdvances", inPlace := ["internal/bytealg.IndexByteString", "internal/bytealg.IndexString", "internal/bytealg.abigen_runtime_cmpstring"], unfollowed := true, recurses := true, named := ["internal/bytealg.MaxLen"], apart := false, narrowed := true }
def ClockAdvancesUptoSaid : Prop := clockAdvancesUptoRow.holds Try.pinned (OpenSpec.upto clockAdvancesSpec)

/-- 'examinerlaw27.ClockOnTime', WHERE WHAT IT READS IS OF BULK AT MOST 1048576: true; the input reads as it did. -/
def clockOnTimeUptoRow : OpenClaim := { program := "ytalnnkpdpjmmkaa", sum := "6a710bd865d632ffc7bfbe0b5ae4f394f0796bd48d2ecc95181252ad1ea52060", func := "examiner/examinerlaw27.ClockOnTime", spec := "clockOnTime", inPlace := ["internal/bytealg.IndexByteString", "internal/bytealg.IndexString", "internal/bytealg.abigen_runtime_cmpstring"], unfollowed := true, recurses := true, named := ["internal/bytealg.MaxLen"], apart := false, narrowed := true }
def ClockOnTimeUptoSaid : Prop := clockOnTimeUptoRow.holds Try.pinned (OpenSpec.upto clockOnTimeSpec)

/-- 'examinerlaw27.ClockTakes', WHERE WHAT IT READS IS OF BULK AT MOST 1048576: true; the input reads as it did. -/
def clockTakesUptoRow : OpenClaim := { program := "ytalnnkpdpjmmkaa", sum := "6a710bd865d632ffc7bfbe0b5ae4f394f0796bd48d2ecc95181252ad1ea52060", func := "examiner/examinerlaw27.ClockTakes", spec := "clockTakes", inPlace := ["internal/bytealg.IndexByteString", "internal/bytealg.IndexString", "internal/bytealg.abigen_runtime_cmpstring"], unfollowed := true, recurses := true, named := ["internal/bytealg.MaxLen"], apart := false, narrowed := true }
def ClockTakesUptoSaid : Prop := clockTakesUptoRow.holds Try.pinned (OpenSpec.upto clockTakesSpec)

/-- 'examinerlaw27.ClockStarts', WHERE WHAT IT READS IS OF BULK AT MOST 1048576: true; the input reads as it did. -/
def clockStartsUptoRow : OpenClaim := { program := "ytalnnkpdpjmmkaa", sum := "6a710bd865d632ffc7bfbe0b5ae4f394f0796bd48d2ecc95181252ad1ea52060", func := "examiner/examinerlaw27.ClockStarts", spec := "clockStarts", inPlace := ["internal/bytealg.IndexByteString", "internal/bytealg.IndexString", "internal/bytealg.abigen_runtime_cmpstring"], unfollowed := true, recurses := true, named := ["internal/bytealg.MaxLen"], apart := false, narrowed := true }
def ClockStartsUptoSaid : Prop := clockStartsUptoRow.holds Try.pinned (OpenSpec.upto clockStartsSpec)

/-- 'examinerlaw27.ClockSteps', WHERE WHAT IT READS IS OF BULK AT MOST 1048576: true; the input reads as it did. -/
def clockStepsUptoRow : OpenClaim := { program := "ytalnnkpdpjmmkaa", sum := "6a710bd865d632ffc7bfbe0b5ae4f394f0796bd48d2ecc95181252ad1ea52060", func := "examiner/examinerlaw27.ClockSteps", spec := "clockSteps", inPlace := ["internal/bytealg.IndexByteString", "internal/bytealg.IndexString", "internal/bytealg.abigen_runtime_cmpstring"], unfollowed := true, recurses := true, named := ["internal/bytealg.MaxLen"], apart := false, narrowed := true }
def ClockStepsUptoSaid : Prop := clockStepsUptoRow.holds Try.pinned (OpenSpec.upto clockStepsSpec)

/-- 'examinerlaw27.ClockDeclares', WHERE WHAT IT READS IS OF BULK AT MOST 1048576: true; the input reads as it did. -/
def clockDeclaresUptoRow : OpenClaim := { program := "ytalnnkpdpjmmkaa", sum := "6a710bd865d632ffc7bfbe0b5ae4f394f0796bd48d2ecc95181252ad1ea52060", func := "examiner/examinerlaw27.ClockDeclares", spec := "clockDeclares", inPlace := ["internal/bytealg.IndexByteString", "internal/bytealg.IndexString", "internal/bytealg.abigen_runtime_cmpstring", "slices.overlaps[examiner/api.ClockTimer]"], unfollowed := true, recurses := true, named := ["internal/bytealg.MaxLen"], apart := false, narrowed := true }
def ClockDeclaresUptoSaid : Prop := clockDeclaresUptoRow.holds Try.pinned (OpenSpec.upto clockDeclaresSpec)

end Rows
end Go.Proofs.Ytalnnkpdpjmmkaa
