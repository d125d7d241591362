/-
  A call's outcome, laid anew: what it leaves besides is forgotten.
-/
import Derived.Test.YtgmgmkhenhaniaaAmS
set_option linter.unusedSimpArgs false
set_option linter.unusedVariables false
namespace Go.AM
variable {P : Program} {h h' h0 : Heap} {ρ : Place} {w : World}

/-- The places, read through a table of numbers: where the new number i stands in the old memory, and from which of its cells on. -/
def pull (σ : Nat → Option (Nat × Nat)) (ρ : Place) : Place := fun i =>
  match σ i with
  | some (k, s) => (ρ k).map fun L => { L with off := L.off + s }
  | none => none
/-- A value that tells what an old one told. -/
def Img (σ : Nat → Option (Nat × Nat)) (v0 v : Value) : Prop := ∀ (ρ : Place) (c : Value), VRel ρ v c → VRel (pull σ ρ) v0 c

structure Relay (h h0 : Heap) (σ : Nat → Option (Nat × Nat)) (v0 : Value) (h' : Heap) (v' : Value) : Prop where
  len : h.length ≤ h0.length
  low : ∀ i, i < h.length → σ i = some (i, 0) ∧ h0[i]? = h'[i]?
  low' : ∀ i, i < h.length → h'[i]? = h[i]?
  high : ∀ i k s, h.length ≤ i → σ i = some (k, s) → i < h0.length ∧ h.length ≤ k
  one : ∀ i j k s t, σ i = some (k, s) → σ j = some (k, t) → i = j
  arr : ∀ i k s a0, h.length ≤ i → σ i = some (k, s) → h0[i]? = some (.arr a0) →
    ∃ a, h'[k]? = some (.arr a) ∧ a.esz = a0.esz ∧ s + a0.cells.length ≤ a.cells.length ∧ (a0.ro = false → a.ro = false) ∧
      ∀ j, j < a0.cells.length → Img σ (a0.cells.getD j undef) (a.cells.getD (s + j) undef)
  map : ∀ i es, h.length ≤ i → h0[i]? ≠ some (.map es)
  val : Img σ v0 v'

theorem pull_low {σ : Nat → Option (Nat × Nat)} {i : Nat} (hs : σ i = some (i, 0)) (ρ : Place) : pull σ ρ i = ρ i := by
  unfold pull
  rw [hs]
  show (ρ i).map (fun L : Loc => { L with off := L.off + 0 }) = ρ i
  cases ρ i <;> rfl

theorem RunsP.relay {f : FuncId} {args : List Value} {R : Value → Heap → Prop} {v0 : Value} (hr : RunsP P f args h R)
    (H : ∀ v' h', R v' h' → ∃ σ, Relay h h0 σ v0 h' v') : Runs P f args h v0 h0 := by
  intro ρ w cargs G0 RR rl
  refine (hr ρ w cargs G0 RR rl).mono ?_
  rintro e w' ⟨v', h', ρ', c, hR, rfl, R', S', hv⟩
  obtain ⟨σ, y⟩ := H v' h' hR
  have hlow : ∀ i, i < h.length → pull σ ρ' i = ρ' i := fun i hi => pull_low (y.low i hi).1 ρ'
  have hle : Le ρ (pull σ ρ') := by
    intro i L hi
    rw [hlow i (RR.dom i L hi)]
    exact S'.ext i L hi
  -- below, the places are those of the beginning
  have hback : ∀ i L, i < h.length → ρ' i = some L → ρ i = some L := by
    intro i L hi hL
    rcases S'.new i L hL with h1 | ⟨h1, _⟩
    · exact h1
    · omega
  have split : ∀ i L, pull σ ρ' i = some L → (i < h.length ∧ ρ i = some L ∧ ρ' i = some L) ∨
      (h.length ≤ i ∧ ∃ k s L', σ i = some (k, s) ∧ ρ' k = some L' ∧ L = { L' with off := L'.off + s } ∧ i < h0.length ∧ h.length ≤ k) := by
    intro i L hL
    by_cases hi : i < h.length
    · rw [hlow i hi] at hL
      exact .inl ⟨hi, hback i L hi hL, hL⟩
    · refine .inr ⟨by omega, ?_⟩
      unfold pull at hL
      split at hL
      · rename_i k s hs
        cases hk : ρ' k with
        | none => rw [hk] at hL; cases hL
        | some L' =>
          rw [hk] at hL
          cases hL
          have := y.high i k s (by omega) hs
          exact ⟨k, s, L', hs, hk, rfl, this.1, this.2⟩
      · cases hL
  have alive : ∀ i k s, h.length ≤ i → σ i = some (k, s) → Alive h0 i → Alive h' k := by
    rintro i k s hi hs (⟨a, ha⟩ | ⟨es, he⟩)
    · obtain ⟨a', h1, _⟩ := y.arr i k s a hi hs ha; exact .inl ⟨a', h1⟩
    · exact absurd he (y.map i es hi)
  have writ : ∀ i k s, h.length ≤ i → σ i = some (k, s) → Writable h0 i → Writable h' k := by
    rintro i k s hi hs (⟨a, ha, hro⟩ | ⟨es, he⟩)
    · obtain ⟨a', h1, _, _, h4, _⟩ := y.arr i k s a hi hs ha; exact .inl ⟨a', h1, h4 hro⟩
    · exact absurd he (y.map i es hi)
  have alow : ∀ i, i < h.length → (Alive h0 i ↔ Alive h' i) := fun i hi => by unfold Alive; rw [(y.low i hi).2]
  have wlow : ∀ i, i < h.length → (Writable h0 i ↔ Writable h' i) := fun i hi => by unfold Writable; rw [(y.low i hi).2]
  refine ⟨v0, h0, pull σ ρ', c, ⟨rfl, rfl⟩, rfl, ⟨?_, ?_, ?_, ?_⟩, ⟨hle, ?_, y.len, S'.os, S'.tape, S'.output, S'.size, S'.drawn, S'.keep, ?_⟩, y.val ρ' c hv⟩
  · intro i L hL
    rcases split i L hL with ⟨h1, _⟩ | ⟨_, k, s, L', _, _, _, h5, _⟩
    · have := y.len; omega
    · exact h5
  · intro i L a hL ha
    rcases split i L hL with ⟨h1, h2, h3⟩ | ⟨h1, k, s, L', h2, h3, rfl, h4, h5⟩
    · rw [(y.low i h1).2] at ha
      obtain ⟨cs, ty, fr, e1, e2, e3, e4, e5, e6⟩ := R'.arr i L a h3 ha
      refine ⟨cs, ty, fr, e1, e2, e3, e4, fun k hk => ?_, e6⟩
      rw [y.low' i h1] at ha
      obtain ⟨cs0, _, _, _, _, _, _, e5', _⟩ := RR.arr i L a h2 ha
      exact (VRel.back S'.ext (e5' k hk) (e5 k hk)).mono hle
    · obtain ⟨a', g1, g2, g3, g4, g5⟩ := y.arr i k s a h1 h2 ha
      obtain ⟨cs, ty, fr, e1, e2, e3, e4, e5, e6⟩ := R'.arr k L' a' h3 g1
      refine ⟨cs, ty, fr, e1, e2, by simp only; omega, by simp only; rw [e4, g2], fun j hj => ?_, fun hro => e6 (g4 hro)⟩
      have := g5 j hj ρ' _ (e5 (s + j) (by omega))
      simpa [Nat.add_assoc] using this
  · intro i L es hL he
    rcases split i L hL with ⟨h1, h2, h3⟩ | ⟨h1, k, s, L', h2, h3, rfl, h4, h5⟩
    · rw [(y.low i h1).2] at he
      obtain ⟨en, cl, e1, e2, e3⟩ := R'.map i L es h3 he
      refine ⟨en, cl, e1, e2, fun k e x hk hx => ?_⟩
      rw [y.low' i h1] at he
      obtain ⟨en0, _, _, e2', e3'⟩ := RR.map i L es h2 he
      have hk0 : k < en0.size := by have := (Array.getElem?_eq_some_iff.mp hk).1; omega
      have := e3' k en0[k] x (by simp [hk0]) hx
      exact ⟨(VRel.back S'.ext this.1 (e3 k e x hk hx).1).mono hle, (VRel.back S'.ext this.2 (e3 k e x hk hx).2).mono hle⟩
    · exact absurd he (y.map i es h1)
  · intro i j Li Lj hi hj hne hwi haj
    rcases split i Li hi with ⟨h1, h2, h3⟩ | ⟨h1, k, s, L', h2, h3, rfl, h4, h5⟩
    · rcases split j Lj hj with ⟨j1, j2, j3⟩ | ⟨j1, k', s', L'', j2, j3, rfl, j4, j5⟩
      · exact R'.inj i j Li Lj h3 j3 hne ((wlow i h1).mp hwi) ((alow j j1).mp haj)
      · exact R'.inj i k' Li L'' h3 j3 (by omega) ((wlow i h1).mp hwi) (alive j k' s' j1 j2 haj)
    · rcases split j Lj hj with ⟨j1, j2, j3⟩ | ⟨j1, k', s', L'', j2, j3, rfl, j4, j5⟩
      · exact R'.inj k j L' Lj h3 j3 (by omega) (writ i k s h1 h2 hwi) ((alow j j1).mp haj)
      · refine R'.inj k k' L' L'' h3 j3 ?_ (writ i k s h1 h2 hwi) (alive j k' s' j1 j2 haj)
        rintro rfl
        exact hne (y.one i j k s s' h2 j2)
  · intro i L hL
    rcases split i L hL with ⟨h1, h2, h3⟩ | ⟨h1, k, s, L', h2, h3, rfl, h4, h5⟩
    · exact .inl h2
    · refine .inr ⟨h1, ?_⟩
      cases e : ρ i with
      | none => rfl
      | some L => have := RR.dom i L e; omega
  · intro i L hL ha hlt
    rcases split i L hL with ⟨h1, h2, h3⟩ | ⟨h1, k, s, L', h2, h3, rfl, h4, h5⟩
    · obtain ⟨i0, L0, e1, e2, e3, e4⟩ := S'.old i L h3 ((alow i h1).mp ha) hlt
      exact ⟨i0, L0, e1, e2, e3, fun hw => e4 ((wlow i h1).mp hw)⟩
    · obtain ⟨i0, L0, e1, e2, e3, e4⟩ := S'.old k L' h3 (alive i k s h1 h2 ha) hlt
      exact ⟨i0, L0, e1, e2, e3, fun hw => e4 (writ i k s h1 h2 hw)⟩

end Go.AM
