/-
  No cell of these rows narrows 'for every input' (looked for: loops, veiled, ifaces, maps, wideKeys, modest, calm, conditions, laid).
  DERIVED. THE GIVEN ROWS OF THIS SEAT. 11 by the template 'for every input the law returns true; each argument reads behind the call as it read before'; 0 by the template 'total and deterministic' (their statements: YtdjoednhfoligaaTotals.lean).
  GIVEN WITH THE SEED: the statements are not yours to turn. If you find one false, say at which input.
  Laid BY PROGRAM, IN A SANDBOX (cutbox-rows.mjs): the forced cells as the released guide's own fill.sh prints them over the translation bcb2004bcc8132e8… (all of the seat's roots in one cut). By AI agents, Wed Nov 11 2026. No macro, syntax, notation, axiom, sorry.
-/
import Derived.Test.YtdjoednhfoligaaChecked
import GoSem.Claim
import GoSem.ClaimJoined
import GoSem.ClaimMapViews
import Derived.JoinedTies
import Derived.KernelRfl
namespace Go.Proofs.Ytdjoednhfoligaa
/- THE CELL 'sum', in the pinned program and in every row, IS THE sha256 OF THE DUMP (.gsa) THAT YtdjoednhfoligaaProg.lean LOADS. Nothing in Lean hashes anything: it is a label: what it is worth is what the hold of that sum in a sandbox is worth. -/
noncomputable def Try.pinned : Pinned := { name := "ytdjoednhfoligaa", sum := "bcb2004bcc8132e8bbb083baba9bf35478da2ec826987e647747c8c9cb4ffe0b", checked := Try.checked }
namespace Rows
def none {H : Type} : Left H := { results := [], args := [] }

/-- 'examinerlaw38.CoverChecks': WHATEVER THE INPUT: true; the input reads as it did. -/
def coverChecksSpec : ChangeSpec := { name := "coverChecks", fn := fun _ => fun
  | [d1, d2, d3] => { results := [.lit (.bool true)], args := [d1, d2, d3] }
  | _ => none }
def coverChecksRow : OpenClaim := { program := "ytdjoednhfoligaa", sum := "bcb2004bcc8132e8bbb083baba9bf35478da2ec826987e647747c8c9cb4ffe0b", func := "examiner/examinerlaw38.CoverChecks", spec := "coverChecks", unfollowed := true, recurses := true, plainKeys := false, apart := false }
def CoverChecksSaid : Prop := coverChecksRow.holds Try.pinned (OpenSpec.ofChange coverChecksSpec)

/-- ITS FALSE NEIGHBOUR: 'it returns false'. Refute it at one input. -/
def coverChecksWrong : ChangeSpec := { name := "coverChecks", fn := fun _ => fun
  | [d1, d2, d3] => { results := [.lit (.bool false)], args := [d1, d2, d3] }
  | _ => none }
def CoverChecksWrongFalsely : Prop := coverChecksRow.holds Try.pinned (OpenSpec.ofChange coverChecksWrong)

/-- 'examinerlaw38.CoverAfter': WHATEVER THE INPUT: true; the input reads as it did. -/
def coverAfterSpec : ChangeSpec := { name := "coverAfter", fn := fun _ => fun
  | [d1, d2] => { results := [.lit (.bool true)], args := [d1, d2] }
  | _ => none }
def coverAfterRow : OpenClaim := { program := "ytdjoednhfoligaa", sum := "bcb2004bcc8132e8bbb083baba9bf35478da2ec826987e647747c8c9cb4ffe0b", func := "examiner/examinerlaw38.CoverAfter", spec := "coverAfter", unfollowed := true, recurses := true, plainKeys := false, apart := false }
def CoverAfterSaid : Prop := coverAfterRow.holds Try.pinned (OpenSpec.ofChange coverAfterSpec)

/-- ITS FALSE NEIGHBOUR: 'it returns false'. Refute it at one input. -/
def coverAfterWrong : ChangeSpec := { name := "coverAfter", fn := fun _ => fun
  | [d1, d2] => { results := [.lit (.bool false)], args := [d1, d2] }
  | _ => none }
def CoverAfterWrongFalsely : Prop := coverAfterRow.holds Try.pinned (OpenSpec.ofChange coverAfterWrong)

/-- 'examinerlaw38.CoverTaken': WHATEVER THE INPUT: true; the input reads as it did. -/
def coverTakenSpec : ChangeSpec := { name := "coverTaken", fn := fun _ => fun
  | [d1, d2] => { results := [.lit (.bool true)], args := [d1, d2] }
  | _ => none }
def coverTakenRow : OpenClaim := { program := "ytdjoednhfoligaa", sum := "bcb2004bcc8132e8bbb083baba9bf35478da2ec826987e647747c8c9cb4ffe0b", func := "examiner/examinerlaw38.CoverTaken", spec := "coverTaken", unfollowed := true, recurses := true, plainKeys := false, apart := false }
def CoverTakenSaid : Prop := coverTakenRow.holds Try.pinned (OpenSpec.ofChange coverTakenSpec)

/-- ITS FALSE NEIGHBOUR: 'it returns false'. Refute it at one input. -/
def coverTakenWrong : ChangeSpec := { name := "coverTaken", fn := fun _ => fun
  | [d1, d2] => { results := [.lit (.bool false)], args := [d1, d2] }
  | _ => none }
def CoverTakenWrongFalsely : Prop := coverTakenRow.holds Try.pinned (OpenSpec.ofChange coverTakenWrong)

/-- 'examinerlaw38.CoverAccepts': WHATEVER THE INPUT: true; the input reads as it did. -/
def coverAcceptsSpec : ChangeSpec := { name := "coverAccepts", fn := fun _ => fun
  | [d1, d2, d3] => { results := [.lit (.bool true)], args := [d1, d2, d3] }
  | _ => none }
def coverAcceptsRow : OpenClaim := { program := "ytdjoednhfoligaa", sum := "bcb2004bcc8132e8bbb083baba9bf35478da2ec826987e647747c8c9cb4ffe0b", func := "examiner/examinerlaw38.CoverAccepts", spec := "coverAccepts", unfollowed := true, recurses := true, plainKeys := false, apart := false }
def CoverAcceptsSaid : Prop := coverAcceptsRow.holds Try.pinned (OpenSpec.ofChange coverAcceptsSpec)

/-- ITS FALSE NEIGHBOUR: 'it returns false'. Refute it at one input. -/
def coverAcceptsWrong : ChangeSpec := { name := "coverAccepts", fn := fun _ => fun
  | [d1, d2, d3] => { results := [.lit (.bool false)], args := [d1, d2, d3] }
  | _ => none }
def CoverAcceptsWrongFalsely : Prop := coverAcceptsRow.holds Try.pinned (OpenSpec.ofChange coverAcceptsWrong)

/-- 'examinerlaw38.CoverCheapest': WHATEVER THE INPUT: true; the input reads as it did. -/
def coverCheapestSpec : ChangeSpec := { name := "coverCheapest", fn := fun _ => fun
  | [d1, d2] => { results := [.lit (.bool true)], args := [d1, d2] }
  | _ => none }
def coverCheapestRow : OpenClaim := { program := "ytdjoednhfoligaa", sum := "bcb2004bcc8132e8bbb083baba9bf35478da2ec826987e647747c8c9cb4ffe0b", func := "examiner/examinerlaw38.CoverCheapest", spec := "coverCheapest", unfollowed := true, recurses := true, plainKeys := false, apart := false }
def CoverCheapestSaid : Prop := coverCheapestRow.holds Try.pinned (OpenSpec.ofChange coverCheapestSpec)

/-- ITS FALSE NEIGHBOUR: 'it returns false'. Refute it at one input. -/
def coverCheapestWrong : ChangeSpec := { name := "coverCheapest", fn := fun _ => fun
  | [d1, d2] => { results := [.lit (.bool false)], args := [d1, d2] }
  | _ => none }
def CoverCheapestWrongFalsely : Prop := coverCheapestRow.holds Try.pinned (OpenSpec.ofChange coverCheapestWrong)

/-- 'examinerlaw38.CoverWalks': WHATEVER THE INPUT: true; the input reads as it did. -/
def coverWalksSpec : ChangeSpec := { name := "coverWalks", fn := fun _ => fun
  | [d1, d2, d3] => { results := [.lit (.bool true)], args := [d1, d2, d3] }
  | _ => none }
def coverWalksRow : OpenClaim := { program := "ytdjoednhfoligaa", sum := "bcb2004bcc8132e8bbb083baba9bf35478da2ec826987e647747c8c9cb4ffe0b", func := "examiner/examinerlaw38.CoverWalks", spec := "coverWalks", unfollowed := true, recurses := true, plainKeys := false, apart := false }
def CoverWalksSaid : Prop := coverWalksRow.holds Try.pinned (OpenSpec.ofChange coverWalksSpec)

/-- ITS FALSE NEIGHBOUR: 'it returns false'. Refute it at one input. -/
def coverWalksWrong : ChangeSpec := { name := "coverWalks", fn := fun _ => fun
  | [d1, d2, d3] => { results := [.lit (.bool false)], args := [d1, d2, d3] }
  | _ => none }
def CoverWalksWrongFalsely : Prop := coverWalksRow.holds Try.pinned (OpenSpec.ofChange coverWalksWrong)

/-- 'examinerlaw38.CoverGrows': WHATEVER THE INPUT: true; the input reads as it did. -/
def coverGrowsSpec : ChangeSpec := { name := "coverGrows", fn := fun _ => fun
  | [d1, d2, d3] => { results := [.lit (.bool true)], args := [d1, d2, d3] }
  | _ => none }
def coverGrowsRow : OpenClaim := { program := "ytdjoednhfoligaa", sum := "bcb2004bcc8132e8bbb083baba9bf35478da2ec826987e647747c8c9cb4ffe0b", func := "examiner/examinerlaw38.CoverGrows", spec := "coverGrows", unfollowed := true, recurses := true, plainKeys := false, apart := false }
def CoverGrowsSaid : Prop := coverGrowsRow.holds Try.pinned (OpenSpec.ofChange coverGrowsSpec)

/-- ITS FALSE NEIGHBOUR: 'it returns false'. Refute it at one input. -/
def coverGrowsWrong : ChangeSpec := { name := "coverGrows", fn := fun _ => fun
  | [d1, d2, d3] => { results := [.lit (.bool false)], args := [d1, d2, d3] }
  | _ => none }
def CoverGrowsWrongFalsely : Prop := coverGrowsRow.holds Try.pinned (OpenSpec.ofChange coverGrowsWrong)

/-- 'examinerlaw38.CoverRounds': WHATEVER THE INPUT: true; the input reads as it did. -/
def coverRoundsSpec : ChangeSpec := { name := "coverRounds", fn := fun _ => fun
  | [d1, d2] => { results := [.lit (.bool true)], args := [d1, d2] }
  | _ => none }
def coverRoundsRow : OpenClaim := { program := "ytdjoednhfoligaa", sum := "bcb2004bcc8132e8bbb083baba9bf35478da2ec826987e647747c8c9cb4ffe0b", func := "examiner/examinerlaw38.CoverRounds", spec := "coverRounds", unfollowed := true, recurses := true, plainKeys := false, apart := false }
def CoverRoundsSaid : Prop := coverRoundsRow.holds Try.pinned (OpenSpec.ofChange coverRoundsSpec)

/-- ITS FALSE NEIGHBOUR: 'it returns false'. Refute it at one input. -/
def coverRoundsWrong : ChangeSpec := { name := "coverRounds", fn := fun _ => fun
  | [d1, d2] => { results := [.lit (.bool false)], args := [d1, d2] }
  | _ => none }
def CoverRoundsWrongFalsely : Prop := coverRoundsRow.holds Try.pinned (OpenSpec.ofChange coverRoundsWrong)

/-- 'examinerlaw38.CoverNothingCheaper': WHATEVER THE INPUT: true; the input reads as it did. -/
def coverNothingCheaperSpec : ChangeSpec := { name := "coverNothingCheaper", fn := fun _ => fun
  | [d1, d2, d3] => { results := [.lit (.bool true)], args := [d1, d2, d3] }
  | _ => none }
def coverNothingCheaperRow : OpenClaim := { program := "ytdjoednhfoligaa", sum := "bcb2004bcc8132e8bbb083baba9bf35478da2ec826987e647747c8c9cb4ffe0b", func := "examiner/examinerlaw38.CoverNothingCheaper", spec := "coverNothingCheaper", unfollowed := true, recurses := true, plainKeys := false, apart := false }
def CoverNothingCheaperSaid : Prop := coverNothingCheaperRow.holds Try.pinned (OpenSpec.ofChange coverNothingCheaperSpec)

/-- ITS FALSE NEIGHBOUR: 'it returns false'. Refute it at one input. -/
def coverNothingCheaperWrong : ChangeSpec := { name := "coverNothingCheaper", fn := fun _ => fun
  | [d1, d2, d3] => { results := [.lit (.bool false)], args := [d1, d2, d3] }
  | _ => none }
def CoverNothingCheaperWrongFalsely : Prop := coverNothingCheaperRow.holds Try.pinned (OpenSpec.ofChange coverNothingCheaperWrong)

/-- 'examinerlaw38.CoverCovers': WHATEVER THE INPUT: true; the input reads as it did. -/
def coverCoversSpec : ChangeSpec := { name := "coverCovers", fn := fun _ => fun
  | [d] => { results := [.lit (.bool true)], args := [d] }
  | _ => none }
def coverCoversRow : OpenClaim := { program := "ytdjoednhfoligaa", sum := "bcb2004bcc8132e8bbb083baba9bf35478da2ec826987e647747c8c9cb4ffe0b", func := "examiner/examinerlaw38.CoverCovers", spec := "coverCovers", unfollowed := true, recurses := true, plainKeys := false, apart := false }
def CoverCoversSaid : Prop := coverCoversRow.holds Try.pinned (OpenSpec.ofChange coverCoversSpec)

/-- ITS FALSE NEIGHBOUR: 'it returns false'. Refute it at one input. -/
def coverCoversWrong : ChangeSpec := { name := "coverCovers", fn := fun _ => fun
  | [d] => { results := [.lit (.bool false)], args := [d] }
  | _ => none }
def CoverCoversWrongFalsely : Prop := coverCoversRow.holds Try.pinned (OpenSpec.ofChange coverCoversWrong)

/-- 'examinerlaw38.CoverNothingSmaller': WHATEVER THE INPUT: true; the input reads as it did. -/
def coverNothingSmallerSpec : ChangeSpec := { name := "coverNothingSmaller", fn := fun _ => fun
  | [d1, d2] => { results := [.lit (.bool true)], args := [d1, d2] }
  | _ => none }
def coverNothingSmallerRow : OpenClaim := { program := "ytdjoednhfoligaa", sum := "bcb2004bcc8132e8bbb083baba9bf35478da2ec826987e647747c8c9cb4ffe0b", func := "examiner/examinerlaw38.CoverNothingSmaller", spec := "coverNothingSmaller", unfollowed := true, recurses := true, plainKeys := false, apart := false }
def CoverNothingSmallerSaid : Prop := coverNothingSmallerRow.holds Try.pinned (OpenSpec.ofChange coverNothingSmallerSpec)

/-- ITS FALSE NEIGHBOUR: 'it returns false'. Refute it at one input. -/
def coverNothingSmallerWrong : ChangeSpec := { name := "coverNothingSmaller", fn := fun _ => fun
  | [d1, d2] => { results := [.lit (.bool false)], args := [d1, d2] }
  | _ => none }
def CoverNothingSmallerWrongFalsely : Prop := coverNothingSmallerRow.holds Try.pinned (OpenSpec.ofChange coverNothingSmallerWrong)

/- THE SECOND FORM. 'bulk': how many values and letters a reading holds, each counted each time it is reached (what is shared counts as often as it is met; a slice's spare places count too). A statement '..UptoSaid' is the law's where the arguments, and the package variables that the reading takes, are together of bulk at most 1048576: NARROWER than '..Said'. Prove '..Said' where nothing that the law and all that it calls make is longer than what came in: it says more and counts as full. Else prove '..UptoSaid'. A law counts once. -/
mutual
def uptoBulk {H : Type} : DataW H → Nat
  | .lit (.string bytes) => bytes.length + 1
  | .lit _ => 1
  | .nil => 1
  | .ptr d => uptoBulk d + 1
  | .slice elems spare => uptoBulkAll elems + uptoBulkAll spare + 1
  | .agg parts => uptoBulkAll parts + 1
  | .iface _ d => uptoBulk d + 1
  | .map entries => uptoBulkEntries entries + 1
  | .held _ => 1
def uptoBulkAll {H : Type} : List (DataW H) → Nat
  | [] => 0
  | d :: r => uptoBulk d + uptoBulkAll r
def uptoBulkEntries {H : Type} : List (Lit × DataW H) → Nat
  | [] => 0
  | x :: r => uptoBulkEntry x + uptoBulkEntries r
def uptoBulkEntry {H : Type} : Lit × DataW H → Nat
  | (.string bytes, d) => bytes.length + uptoBulk d + 1
  | (_, d) => uptoBulk d + 1
 end
def uptoSmall : (H : Type) → List (DataW H) → Bool := fun _ ds => decide (uptoBulkAll ds ≤ 1048576)
def OpenSpec.upto (s : _root_.Go.ChangeSpec) : _root_.Go.OpenSpec := { _root_.Go.OpenSpec.ofChange s with cond := some uptoSmall }

/-- 'examinerlaw38.CoverChecks', WHERE WHAT IT READS IS OF BULK AT MOST 1048576: true; the input reads as it did. -/
def coverChecksUptoRow : OpenClaim := { program := "ytdjoednhfoligaa", sum := "bcb2004bcc8132e8bbb083baba9bf35478da2ec826987e647747c8c9cb4ffe0b", func := "examiner/examinerlaw38.CoverChecks", spec := "coverChecks", unfollowed := true, recurses := true, plainKeys := false, apart := false, narrowed := true }
def CoverChecksUptoSaid : Prop := coverChecksUptoRow.holds Try.pinned (OpenSpec.upto coverChecksSpec)

/-- 'examinerlaw38.CoverAfter', WHERE WHAT IT READS IS OF BULK AT MOST 1048576: true; the input reads as it did. -/
def coverAfterUptoRow : OpenClaim := { program := "ytdjoednhfoligaa", sum := "bcb2004bcc8132e8bbb083baba9bf35478da2ec826987e647747c8c9cb4ffe0b", func := "examiner/examinerlaw38.CoverAfter", spec := "coverAfter", unfollowed := true, recurses := true, plainKeys := false, apart := false, narrowed := true }
def CoverAfterUptoSaid : Prop := coverAfterUptoRow.holds Try.pinned (OpenSpec.upto coverAfterSpec)

/-- 'examinerlaw38.CoverTaken', WHERE WHAT IT READS IS OF BULK AT MOST 1048576: true; the input reads as it did. -/
def coverTakenUptoRow : OpenClaim := { program := "ytdjoednhfoligaa", sum := "bcb2004bcc8132e8bbb083baba9bf35478da2ec826987e647747c8c9cb4ffe0b", func := "examiner/examinerlaw38.CoverTaken", spec := "coverTaken", unfollowed := true, recurses := true, plainKeys := false, apart := false, narrowed := true }
def CoverTakenUptoSaid : Prop := coverTakenUptoRow.holds Try.pinned (OpenSpec.upto coverTakenSpec)

/-- 'examinerlaw38.CoverAccepts', WHERE WHAT IT READS IS OF BULK AT MOST 1048576: true; the input reads as it did. -/
def coverAcceptsUptoRow : OpenClaim := { program := "ytdjoednhfoligaa", sum := "bcb2004bcc8132e8bbb083baba9bf35478da2ec826987e647747c8c9cb4ffe0b", func := "examiner/examinerlaw38.CoverAccepts", spec := "coverAccepts", unfollowed := true, recurses := true, plainKeys := false, apart := false, narrowed := true }
def CoverAcceptsUptoSaid : Prop := coverAcceptsUptoRow.holds Try.pinned (OpenSpec.upto coverAcceptsSpec)

/-- 'examinerlaw38.CoverCheapest', WHERE WHAT IT READS IS OF BULK AT MOST 1048576: true; the input reads as it did. -/
def coverCheapestUptoRow : OpenClaim := { program := "ytdjoednhfoligaa", sum := "bcb2004bcc8132e8bbb083baba9bf35478da2ec826987e647747c8c9cb4ffe0b", func := "examiner/examinerlaw38.CoverCheapest", spec := "coverCheapest", unfollowed := true, recurses := true, plainKeys := false, apart := false, narrowed := true }
def CoverCheapestUptoSaid : Prop := coverCheapestUptoRow.holds Try.pinned (OpenSpec.upto coverCheapestSpec)

/-- 'examinerlaw38.CoverWalks', WHERE WHAT IT READS IS OF BULK AT MOST 1048576: true; the input reads as it did. -/
def coverWalksUptoRow : OpenClaim := { program := "ytdjoednhfoligaa", sum := "bcb2004bcc8132e8bbb083baba9bf35478da2ec826987e647747c8c9cb4ffe0b", func := "examiner/examinerlaw38.CoverWalks", spec := "coverWalks", unfollowed := true, recurses := true, plainKeys := false, apart := false, narrowed := true }
def CoverWalksUptoSaid : Prop := coverWalksUptoRow.holds Try.pinned (OpenSpec.upto coverWalksSpec)

/-- 'examinerlaw38.CoverGrows', WHERE WHAT IT READS IS OF BULK AT MOST 1048576: true; the input reads as it did. -/
def coverGrowsUptoRow : OpenClaim := { program := "ytdjoednhfoligaa", sum := "bcb2004bcc8132e8bbb083baba9bf35478da2ec826987e647747c8c9cb4ffe0b", func := "examiner/examinerlaw38.CoverGrows", spec := "coverGrows", unfollowed := true, recurses := true, plainKeys := false, apart := false, narrowed := true }
def CoverGrowsUptoSaid : Prop := coverGrowsUptoRow.holds Try.pinned (OpenSpec.upto coverGrowsSpec)

/-- 'examinerlaw38.CoverRounds', WHERE WHAT IT READS IS OF BULK AT MOST 1048576: true; the input reads as it did. -/
def coverRoundsUptoRow : OpenClaim := { program := "ytdjoednhfoligaa", sum := "bcb2004bcc8132e8bbb083baba9bf35478da2ec826987e647747c8c9cb4ffe0b", func := "examiner/examinerlaw38.CoverRounds", spec := "coverRounds", unfollowed := true, recurses := true, plainKeys := false, apart := false, narrowed := true }
def CoverRoundsUptoSaid : Prop := coverRoundsUptoRow.holds Try.pinned (OpenSpec.upto coverRoundsSpec)

/-- 'examinerlaw38.CoverNothingCheaper', WHERE WHAT IT READS IS OF BULK AT MOST 1048576: true; the input reads as it did. -/
def coverNothingCheaperUptoRow : OpenClaim := { program := "ytdjoednhfoligaa", sum := "bcb2004bcc8132e8bbb083baba9bf35478da2ec826987e647747c8c9cb4ffe0b", func := "examiner/examinerlaw38.CoverNothingCheaper", spec := "coverNothingCheaper", unfollowed := true, recurses := true, plainKeys := false, apart := false, narrowed := true }
def CoverNothingCheaperUptoSaid : Prop := coverNothingCheaperUptoRow.holds Try.pinned (OpenSpec.upto coverNothingCheaperSpec)

/-- 'examinerlaw38.CoverCovers', WHERE WHAT IT READS IS OF BULK AT MOST 1048576: true; the input reads as it did. -/
def coverCoversUptoRow : OpenClaim := { program := "ytdjoednhfoligaa", sum := "bcb2004bcc8132e8bbb083baba9bf35478da2ec826987e647747c8c9cb4ffe0b", func := "examiner/examinerlaw38.CoverCovers", spec := "coverCovers", unfollowed := true, recurses := true, plainKeys := false, apart := false, narrowed := true }
def CoverCoversUptoSaid : Prop := coverCoversUptoRow.holds Try.pinned (OpenSpec.upto coverCoversSpec)

/-- 'examinerlaw38.CoverNothingSmaller', WHERE WHAT IT READS IS OF BULK AT MOST 1048576: true; the input reads as it did. -/
def coverNothingSmallerUptoRow : OpenClaim := { program := "ytdjoednhfoligaa", sum := "bcb2004bcc8132e8bbb083baba9bf35478da2ec826987e647747c8c9cb4ffe0b", func := "examiner/examinerlaw38.CoverNothingSmaller", spec := "coverNothingSmaller", unfollowed := true, recurses := true, plainKeys := false, apart := false, narrowed := true }
def CoverNothingSmallerUptoSaid : Prop := coverNothingSmallerUptoRow.holds Try.pinned (OpenSpec.upto coverNothingSmallerSpec)

end Rows
end Go.Proofs.Ytdjoednhfoligaa
