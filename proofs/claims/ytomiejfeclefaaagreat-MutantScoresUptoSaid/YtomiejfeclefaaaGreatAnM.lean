/-
  Maps of one's own: sets of keys, and keys with values, in memory that is held beside the arrays.
-/
import Derived.Test.YtomiejfeclefaaaGreatAnL
set_option linter.unusedSimpArgs false
set_option linter.unusedVariables false
set_option linter.unusedSectionVars false
namespace Go.AM
open Go
variable {P : Program} {h h' h1 h2 g : Heap} {K : Value → Heap → Prop} {v x : Value} {l : List E} {i k sz : Nat}

/-- A type of maps, and how its keys are told. -/
class MapT (P : Program) (ty : TypeId) (κ : Type) (enc : outParam (κ → Value)) (z : outParam Value) (vd : outParam (κ → Prop)) : Prop where
  ok : ∃ kt et, P.underlying ty = some (.map kt et) ∧ zeroOf P et = some z ∧ flatC z = true ∧ keyT P kt = true ∧ ∀ a : κ, vd a → keyF P kt (enc a) = true
  flat : ∀ a : κ, flatK (enc a) = true
  inj : ∀ a b : κ, enc a = enc b → a = b
variable {κ : Type} [DecidableEq κ] {enc : κ → Value} {z : Value} {ty : TypeId} {vd : κ → Prop}
/-! ### keys that are structs -/
/-! ### sets -/
/-! ### parts of lists -/
end Go.AM
