/-
  Contracts: finite machines, their steps.
-/
import Derived.Test.YtgmgmkhenhaniaaAmZ
set_option linter.unusedSimpArgs false
set_option linter.unusedVariables false
namespace Go.AM
variable {P : Program} {h h' h0 h1 h2 : Heap} {K : Value → Heap → Prop} {v x : Value}

/-- A step: from, input, output, to. -/
structure St where
  fr : Int
  inp : Int
  out : Int
  to : Int
  deriving DecidableEq
def St.get (s : St) : Nat → Int | 0 => s.fr | 1 => s.inp | 2 => s.out | _ => s.to
def St.cells (s : St) : List Value := [.int .i64 s.fr, .int .i64 s.inp, .int .i64 s.out, .int .i64 s.to]
structure Mac where
  states : Int
  inputs : Int
  outputs : Int
  start : Int
  steps : List St
def StepsS (h : Heap) (v : Value) (l : List St) : Prop := Seg 4 h v l.length (l.flatMap St.cells)
theorem StepsS.mono {l : List St} (s : StepsS h v l) (hs : Sub h h') : StepsS h' v l := Seg.mono s hs
theorem StepsS.lt {l : List St} (s : StepsS h v l) : l.length ≤ 2 ^ 50 := s.1.2
theorem StepsS.keep {i : Nat} {l : List St} {a : Arr} (s : StepsS h v l) (k : KeptB i h h') (hi : h[i]? = some (.arr a)) (he : a.esz ≠ 4) : StepsS h' v l := Seg.keep s k hi he
def MacV (h : Heap) (v : Value) (m : Mac) : Prop := ∃ o l c, v = .agg #[.int .i64 m.states, .int .i64 m.inputs, .int .i64 m.outputs, .int .i64 m.start, .slice o l c] ∧ StepsS h (.slice o l c) m.steps
theorem MacV.mono {m : Mac} (s : MacV h v m) (hs : Sub h h') : MacV h' v m := by
  obtain ⟨o, l, c, e, s⟩ := s; exact ⟨o, l, c, e, s.mono hs⟩

/-! fields of structs of four and of five cells -/
end Go.AM
