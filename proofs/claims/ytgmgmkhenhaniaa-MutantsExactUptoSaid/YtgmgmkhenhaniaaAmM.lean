/-
  A region that draws its order, over the abstract memory: places put together.
-/
import Derived.Test.YtgmgmkhenhaniaaAmL
set_option linter.unusedSimpArgs false
set_option linter.unusedVariables false
namespace Go.AM
variable {P : Program} {h h' : Heap} {ρ : Place} {w : World}

def Scoped (σ : Place) (o : Option Ob) : Prop :=
  match o with
  | some (.arr a) => ∀ k, k < a.cells.length → ∃ c, VRel σ (a.cells.getD k undef) c
  | some (.map es) => ∀ x ∈ es, (∃ c, VRel σ x.1 c) ∧ ∃ c, VRel σ x.2 c
  | _ => True
theorem Scoped.mono {σ σ' : Place} (hle : Le σ σ') {o : Option Ob} (s : Scoped σ o) : Scoped σ' o := by
  unfold Scoped at *
  split
  · intro k hk; obtain ⟨c, hc⟩ := s k hk; exact ⟨c, hc.mono hle⟩
  · intro x hx; obtain ⟨⟨c, hc⟩, d, hd⟩ := s x hx; exact ⟨⟨c, hc.mono hle⟩, d, hd.mono hle⟩
  · trivial

theorem Rel.inScope (R : Rel h ρ w) {i : Nat} {L : Loc} (hi : ρ i = some L) : Scoped ρ h[i]? := by
  unfold Scoped
  split
  · rename_i a ha
    obtain ⟨cs, ty, fr, _, _, _, _, h5, _⟩ := R.arr i L a hi ha
    exact fun k hk => ⟨_, h5 k hk⟩
  · rename_i es he
    obtain ⟨en, cl, _, h2, h3⟩ := R.map i L es hi he
    intro x hx
    obtain ⟨k, hk, rfl⟩ := List.mem_iff_getElem.mp hx
    have := h3 k en[k] es[k] (by simp [h2, hk]) (by simp [hk])
    exact ⟨⟨_, this.1⟩, _, this.2⟩
  · trivial

theorem alive_eq {g h : Heap} {i : Nat} (e : g[i]? = h[i]?) : Alive g i ↔ Alive h i := by unfold Alive; rw [e]
theorem writable_eq {g h : Heap} {i : Nat} (e : g[i]? = h[i]?) : Writable g i ↔ Writable h i := by unfold Writable; rw [e]

/-- A part of the places. -/
theorem Rel.restrict {g : Heap} (R : Rel g ρ w) (he : ∀ i L, ρ i = some L → i < h.length → g[i]? = h[i]? ∧ Scoped (ρ.below h.length) g[i]?) : Rel h (ρ.below h.length) w := by
  have hle := below_le ρ h.length
  refine ⟨fun i L hi => (below_some hi).1, ?_, ?_, ?_⟩
  · intro i L a hi ha
    obtain ⟨hb, hi'⟩ := below_some hi
    obtain ⟨e, sc⟩ := he i L hi' hb
    rw [← e] at ha
    obtain ⟨cs, ty, fr, h1, h2, h3, h4, h5, h6⟩ := R.arr i L a hi' ha
    rw [ha] at sc
    exact ⟨cs, ty, fr, h1, h2, h3, h4, fun k hk => by obtain ⟨c, hc⟩ := sc k hk; exact hc.back hle (h5 k hk), h6⟩
  · intro i L es hi ha
    obtain ⟨hb, hi'⟩ := below_some hi
    obtain ⟨e, sc⟩ := he i L hi' hb
    rw [← e] at ha
    obtain ⟨en, cl, h1, h2, h3⟩ := R.map i L es hi' ha
    rw [ha] at sc
    refine ⟨en, cl, h1, h2, fun k e x hk hx => ?_⟩
    obtain ⟨⟨c, hc⟩, d, hd⟩ := sc x (List.mem_of_getElem? hx)
    have := h3 k e x hk hx
    exact ⟨hc.back hle this.1, hd.back hle this.2⟩
  · intro i j Li Lj hi hj hne hw ha
    obtain ⟨hbi, hi'⟩ := below_some hi
    obtain ⟨hbj, hj'⟩ := below_some hj
    exact R.inj i j Li Lj hi' hj' hne ((writable_eq (he i Li hi' hbi).1).mpr hw) ((alive_eq (he j Lj hj' hbj).1).mpr ha)

/-- A new array at a number that was kept free. -/
theorem Rel.newAt {g : Heap} {h0 : Heap} {ρ0 : Place} {w0 : World} (R : Rel g ρ w) (S0 : Step h0 ρ0 w0 g ρ w) {n : Nat} (hn : n < g.length) (hfree : ρ n = none) (h0n : h0.length ≤ n)
    {cells : List Value} {esz : Nat} {cs : Array Value} (ty : TypeId) (hl : cells.length ≤ cs.size) (hc : CRel ρ cells cs 0) :
    Rel (g.set n (.arr ⟨cells, esz, false⟩)) (ρ.put n ⟨w.heap.size, 0, cs.size, esz⟩) (w.alloc (.cells cs ty)) ∧
    Step h0 ρ0 w0 (g.set n (.arr ⟨cells, esz, false⟩)) (ρ.put n ⟨w.heap.size, 0, cs.size, esz⟩) (w.alloc (.cells cs ty)) ∧ Le ρ (ρ.put n ⟨w.heap.size, 0, cs.size, esz⟩) := by
  have hle : Le ρ (ρ.put n ⟨w.heap.size, 0, cs.size, esz⟩) := by
    intro i L hi
    have : i ≠ n := fun e => by rw [e, hfree] at hi; cases hi
    rw [Place.put_ne _ _ this]; exact hi
  have hcases : ∀ i L, ρ.put n ⟨w.heap.size, 0, cs.size, esz⟩ i = some L → (i = n ∧ L = ⟨w.heap.size, 0, cs.size, esz⟩) ∨ (i ≠ n ∧ ρ i = some L) := by
    intro i L hi
    by_cases e : i = n
    · subst e; rw [Place.put_same] at hi; exact .inl ⟨rfl, (Option.some.inj hi).symm⟩
    · rw [Place.put_ne _ _ e] at hi; exact .inr ⟨e, hi⟩
  have hold : ∀ k, k < w.heap.size → (w.alloc (.cells cs ty)).heap[k]? = w.heap[k]? := by
    intro k hk
    show (w.heap.push _)[k]? = _
    rw [Array.getElem?_push, if_neg (by omega)]
  have hne : ∀ i, i ≠ n → (g.set n (.arr ⟨cells, esz, false⟩))[i]? = g[i]? := fun i e => List.getElem?_set_ne (Ne.symm e)
  have hnew : (g.set n (.arr ⟨cells, esz, false⟩))[n]? = some (.arr ⟨cells, esz, false⟩) := by simp [hn]
  refine ⟨⟨?_, ?_, ?_, ?_⟩, ⟨S0.ext.trans hle, ?_, ?_, S0.os, S0.tape, S0.output, ?_, S0.drawn, ?_, ?_⟩, hle⟩
  · intro i L hi
    rcases hcases i L hi with ⟨e, _⟩ | ⟨_, e⟩
    · simp; omega
    · simpa using R.dom _ _ e
  · intro i L b hi hb
    rcases hcases i L hi with ⟨rfl, rfl⟩ | ⟨e, hi'⟩
    · rw [hnew] at hb; cases hb
      refine ⟨cs, ty, (0, 0), ?_, rfl, by simpa using hl, rfl, ?_, fun _ => rfl⟩
      · show (w.heap.push _)[w.heap.size]? = _
        simp
      · intro k hk; simpa using (hc k hk).mono hle
    · rw [hne i e] at hb
      obtain ⟨cs', ty', fr', h1, h2, h3, h4, h5, h6⟩ := R.arr i L b hi' hb
      refine ⟨cs', ty', fr', ?_, h2, h3, h4, fun k hk => (h5 k hk).mono hle, h6⟩
      rw [hold _ (R.blk_lt hi' (.inl ⟨b, hb⟩))]; exact h1
  · intro i L es hi hb
    rcases hcases i L hi with ⟨rfl, rfl⟩ | ⟨e, hi'⟩
    · rw [hnew] at hb; cases hb
    · rw [hne i e] at hb
      obtain ⟨en, cl, h1, h2, h3⟩ := R.map i L es hi' hb
      refine ⟨en, cl, ?_, h2, fun k e' x he hx => ⟨((h3 k e' x he hx).1).mono hle, ((h3 k e' x he hx).2).mono hle⟩⟩
      rw [hold _ (R.blk_lt hi' (.inr ⟨es, hb⟩))]; exact h1
  · intro i j Li Lj hi hj hij hwi haj
    rcases hcases i Li hi with ⟨rfl, rfl⟩ | ⟨ei, hi'⟩
    · rcases hcases j Lj hj with ⟨rfl, rfl⟩ | ⟨ej, hj'⟩
      · exact absurd rfl hij
      · rw [alive_eq (hne j ej)] at haj
        have := R.blk_lt hj' haj
        simp only; omega
    · rw [writable_eq (hne i ei)] at hwi
      rcases hcases j Lj hj with ⟨rfl, rfl⟩ | ⟨ej, hj'⟩
      · have := R.blk_lt hi' hwi.alive
        simp only; omega
      · rw [alive_eq (hne j ej)] at haj
        exact R.inj i j Li Lj hi' hj' hij hwi haj
  · intro i L hi
    rcases hcases i L hi with ⟨rfl, _⟩ | ⟨_, hi'⟩
    · refine .inr ⟨h0n, ?_⟩
      cases e : ρ0 i with
      | none => rfl
      | some L' => have := S0.ext _ _ e; rw [hfree] at this; cases this
    · exact S0.new i L hi'
  · simpa using S0.len
  · have := S0.size; simp; omega
  · intro b hb hn'
    rw [hold b (Nat.lt_of_lt_of_le hb S0.size)]
    exact S0.keep b hb hn'
  · intro i L hi ha hlt
    rcases hcases i L hi with ⟨rfl, rfl⟩ | ⟨e, hi'⟩
    · have := S0.size; simp only at hlt; omega
    · rw [alive_eq (hne i e)] at ha
      obtain ⟨i0, L0, r0, e0, a0, w0'⟩ := S0.old i L hi' ha hlt
      exact ⟨i0, L0, r0, e0, a0, fun x => w0' ((writable_eq (hne i e)).mp x)⟩

/-- An action was run over a part of the places: the whole. -/
theorem Rel.merge {g : Heap} {h0 : Heap} {ρ0 : Place} {w0 w' : World} {ρ' : Place} (R : Rel g ρ w) (S0 : Step h0 ρ0 w0 g ρ w) (he : ∀ i L, ρ i = some L → i < h.length → g[i]? = h[i]?)
    (R' : Rel h' ρ' w') (S' : Step h (ρ.below h.length) w h' ρ' w') (hlen : h'.length ≤ g.length) (h0h : h0.length ≤ h.length) (hgap : ∀ i, h.length ≤ i → i < h'.length → ρ i = none) :
    ∃ ρ2, Rel (h' ++ g.drop h'.length) ρ2 w' ∧ Step h0 ρ0 w0 (h' ++ g.drop h'.length) ρ2 w' ∧ Le ρ ρ2 ∧ Le ρ' ρ2 ∧
      (∀ i L, ρ2 i = some L → (i < h'.length ∧ ρ' i = some L) ∨ (h'.length ≤ i ∧ ρ i = some L)) := by
  refine ⟨fun i => if i < h'.length then ρ' i else ρ i, ?_⟩
  have hc : ∀ i L, (if i < h'.length then ρ' i else ρ i) = some L → (i < h'.length ∧ ρ' i = some L) ∨ (h'.length ≤ i ∧ ρ i = some L) := by
    intro i L hi
    split at hi
    · exact .inl ⟨by assumption, hi⟩
    · exact .inr ⟨by omega, hi⟩
  have l1 : Le ρ (fun i => if i < h'.length then ρ' i else ρ i) := by
    intro i L hi
    show (if i < h'.length then ρ' i else ρ i) = some L
    split
    · rename_i hlt
      by_cases hb : i < h.length
      · exact S'.ext _ _ (below_of hb hi)
      · rw [hgap i (by omega) hlt] at hi; cases hi
    · exact hi
  have l2 : Le ρ' (fun i => if i < h'.length then ρ' i else ρ i) := by
    intro i L hi
    show (if i < h'.length then ρ' i else ρ i) = some L
    rw [if_pos (R'.dom _ _ hi)]; exact hi
  have g1 : ∀ i, i < h'.length → (h' ++ g.drop h'.length)[i]? = h'[i]? := fun i hi => List.getElem?_append_left hi
  have g2 : ∀ i, h'.length ≤ i → (h' ++ g.drop h'.length)[i]? = g[i]? := by
    intro i hi
    rw [List.getElem?_append_right hi, List.getElem?_drop]; congr 1; omega
  have hkeep : ∀ i L, h'.length ≤ i → ρ i = some L → Alive g i → w'.heap[L.blk]? = w.heap[L.blk]? := by
    intro i L hi hr ha
    refine S'.keep _ (R.blk_lt hr ha) ?_
    intro i0 L0 hr0 hw0
    obtain ⟨hb0, hr0'⟩ := below_some hr0
    have hlt := S'.len
    exact R.inj i0 i L0 L hr0' hr (by omega) ((writable_eq (he i0 L0 hr0' hb0)).mpr hw0) ha
  refine ⟨⟨?_, ?_, ?_, ?_⟩, ⟨S0.ext.trans l1, ?_, ?_, S'.os.trans S0.os, S'.tape.trans S0.tape, S'.output.trans S0.output, Nat.le_trans S0.size S'.size, Nat.le_trans S0.drawn S'.drawn, ?_, ?_⟩, l1, l2, hc⟩
  · intro i L hi
    rcases hc i L hi with ⟨e, _⟩ | ⟨_, e⟩
    · simp; omega
    · have := R.dom _ _ e; simp; omega
  · intro i L b hi hb
    rcases hc i L hi with ⟨e, hi'⟩ | ⟨e, hi'⟩
    · rw [g1 i e] at hb
      obtain ⟨cs, ty, fr, h1, h2, h3, h4, h5, h6⟩ := R'.arr i L b hi' hb
      exact ⟨cs, ty, fr, h1, h2, h3, h4, fun k hk => (h5 k hk).mono l2, h6⟩
    · rw [g2 i e] at hb
      obtain ⟨cs, ty, fr, h1, h2, h3, h4, h5, h6⟩ := R.arr i L b hi' hb
      exact ⟨cs, ty, fr, by rw [hkeep i L e hi' (.inl ⟨b, hb⟩)]; exact h1, h2, h3, h4, fun k hk => (h5 k hk).mono l1, h6⟩
  · intro i L es hi hb
    rcases hc i L hi with ⟨e, hi'⟩ | ⟨e, hi'⟩
    · rw [g1 i e] at hb
      obtain ⟨en, cl, h1, h2, h3⟩ := R'.map i L es hi' hb
      exact ⟨en, cl, h1, h2, fun k e' x he hx => ⟨((h3 k e' x he hx).1).mono l2, ((h3 k e' x he hx).2).mono l2⟩⟩
    · rw [g2 i e] at hb
      obtain ⟨en, cl, h1, h2, h3⟩ := R.map i L es hi' hb
      exact ⟨en, cl, by rw [hkeep i L e hi' (.inr ⟨es, hb⟩)]; exact h1, h2, fun k e' x he hx => ⟨((h3 k e' x he hx).1).mono l1, ((h3 k e' x he hx).2).mono l1⟩⟩
  · intro i j Li Lj hi hj hij hwi haj hblk
    rcases hc i Li hi with ⟨ei, hi'⟩ | ⟨ei, hi'⟩
    · rw [writable_eq (g1 i ei)] at hwi
      rcases hc j Lj hj with ⟨ej, hj'⟩ | ⟨ej, hj'⟩
      · rw [alive_eq (g1 j ej)] at haj
        exact R'.inj i j Li Lj hi' hj' hij hwi haj hblk
      · rw [alive_eq (g2 j ej)] at haj
        have hlt := R.blk_lt hj' haj
        obtain ⟨i0, L0, r0, e0, a0, w0'⟩ := S'.old i Li hi' hwi.alive (by omega)
        obtain ⟨b0, r0'⟩ := below_some r0
        have := S'.len
        exact R.inj i0 j L0 Lj r0' hj' (by omega) ((writable_eq (he i0 L0 r0' b0)).mpr (w0' hwi)) haj (by omega)
    · rw [writable_eq (g2 i ei)] at hwi
      rcases hc j Lj hj with ⟨ej, hj'⟩ | ⟨ej, hj'⟩
      · rw [alive_eq (g1 j ej)] at haj
        have hlt := R.blk_lt hi' hwi.alive
        obtain ⟨j0, L0, r0, e0, a0, _⟩ := S'.old j Lj hj' haj (by omega)
        obtain ⟨b0, r0'⟩ := below_some r0
        have := S'.len
        exact R.inj i j0 Li L0 hi' r0' (by omega) hwi ((alive_eq (he j0 L0 r0' b0)).mpr a0) (by omega)
      · rw [alive_eq (g2 j ej)] at haj
        exact R.inj i j Li Lj hi' hj' hij hwi haj hblk
  · intro i L hi
    rcases hc i L hi with ⟨e, hi'⟩ | ⟨_, hi'⟩
    · rcases S'.new i L hi' with h1 | ⟨h1, _⟩
      · exact S0.new i L (below_some h1).2
      · refine .inr ⟨Nat.le_trans h0h h1, ?_⟩
        cases e0 : ρ0 i with
        | none => rfl
        | some L' => have := S0.ext _ _ e0; rw [hgap i h1 e] at this; cases this
    · exact S0.new i L hi'
  · have := S0.len; simp; omega
  · intro b hb hn
    rw [S'.keep b (Nat.lt_of_lt_of_le hb S0.size) ?_]
    · exact S0.keep b hb hn
    · intro i0 L0 r0 hw0 e
      obtain ⟨b0, r0'⟩ := below_some r0
      have hwg := (writable_eq (he i0 L0 r0' b0)).mpr hw0
      obtain ⟨i1, L1, r1, e1, _, w1⟩ := S0.old i0 L0 r0' hwg.alive (by omega)
      exact hn i1 L1 r1 (w1 hwg) (by omega)
  · intro i L hi ha hlt
    rcases hc i L hi with ⟨e, hi'⟩ | ⟨e, hi'⟩
    · rw [alive_eq (g1 i e)] at ha
      obtain ⟨i0, L0, r0, e0, a0, w0'⟩ := S'.old i L hi' ha (Nat.lt_of_lt_of_le hlt S0.size)
      obtain ⟨b0, r0'⟩ := below_some r0
      have eg := he i0 L0 r0' b0
      obtain ⟨i1, L1, r1, e1, a1, w1⟩ := S0.old i0 L0 r0' ((alive_eq eg).mpr a0) (by omega)
      exact ⟨i1, L1, r1, by omega, a1, fun x => w1 ((writable_eq eg).mpr (w0' ((writable_eq (g1 i e)).mp x)))⟩
    · rw [alive_eq (g2 i e)] at ha
      obtain ⟨i1, L1, r1, e1, a1, w1⟩ := S0.old i L hi' ha hlt
      exact ⟨i1, L1, r1, e1, a1, fun x => w1 ((writable_eq (g2 i e)).mp x)⟩

end Go.AM
