/-
  Steps whose usual side facts are found by themselves (shorter texts).
-/
import Derived.Test.YtgmgmkhenhaniaaAnL
set_option linter.unusedVariables false
namespace Go.AM
variable {P : Program} {h h' h1 h2 : Heap} {h0 : Base} {K : Value → Heap → Prop} {v x : Value} {l l' : List E} {i k sz o : Nat} {cs : List Value}
theorem ldoA {t : Nat} {y : Value} [T : PlT P t] (hK : K y h) (m : Mem h0 h l := by assumption) (q : Ent l i k cs sz := by infer_instance) (hy : cs[o]? = some y := by with_unfolding_all rfl) : vK (aLoad P t (.pointer (some ⟨i, o, none⟩)) h) h K := ldo m hy hK
theorem ldwA {t n : Nat} {cs : List Value} [T : RwT P t n] (hK : K (.agg cs.toArray) h) (m : Mem h0 h l := by assumption) (q : Ent l i k cs sz := by infer_instance) (hz : cs.length = n := by with_unfolding_all rfl) : vK (aLoad P t (.pointer (some ⟨i, 0, none⟩)) h) h K := ldo_w m q hz hK
theorem vbA {Q : Prop} {n : Nat} {v : Value} (hq : Q) (hv : vcB v = true := by with_unfolding_all rfl) : VB n v ∧ Q := vb_n hv hq
theorem ldgA {t o : Nat} {cs : List Value} {y : Value} [T : PlT P t] [S : Stb h1 h] (hK : K y h) (p : Pt h1 x cs o := by assumption) (hy : cs[o]? = some y := by with_unfolding_all rfl) : vK (aLoad P t x h) h K := ld_g p hy hK
theorem idxA {α : Type} [F : Flat α] [Df α] {t e sz by_ : Nat} {k : Nat} {l : List α} [T : SlT P t e sz by_] 
    (hK : ∀ p, Pt h1 p (F.cells (gt l k)) 0 → K p h) (s : L h1 x l := by assumption) (hz : sz = F.sz := by with_unfolding_all rfl) (hk : k < l.length := by omega) : vK (aIndexAddr P t x (.int .i64 (k : Int))) h K := idx_d s hz hk hK
end Go.AM
