/-
  A region that draws its order, over the abstract memory: one more operation, of each kind.
-/
import Derived.Test.YtgmgmkhenhaniaaAmN
set_option linter.unusedSimpArgs false
set_option linter.unusedVariables false
namespace Go.AM
variable {P : Program} {h h' : Heap} {ρ : Place} {w : World}

theorem Rel.of_frm {w' : World} {h0 : Heap} {ρ0 : Place} {w0 : World} {d d' : Heap} {σ σ' : Place} (R : Rel h ρ w) (S0 : Step h0 ρ0 w0 h ρ w) (S' : Step d σ w d' σ' w')
    (hf : ∀ b, b < w.heap.size → w'.heap[b]? = w.heap[b]?) : Rel h ρ w' ∧ Step h0 ρ0 w0 h ρ w' := by
  refine ⟨⟨R.dom, ?_, ?_, R.inj⟩, ⟨S0.ext, S0.new, S0.len, S'.os.trans S0.os, S'.tape.trans S0.tape, S'.output.trans S0.output, Nat.le_trans S0.size S'.size, Nat.le_trans S0.drawn S'.drawn, ?_, S0.old⟩⟩
  · intro i L a hi ha
    obtain ⟨cs, ty, fr, h1, h2⟩ := R.arr i L a hi ha
    exact ⟨cs, ty, fr, by rw [hf _ (R.blk_lt hi (.inl ⟨a, ha⟩))]; exact h1, h2⟩
  · intro i L es hi ha
    obtain ⟨en, cl, h1, h2⟩ := R.map i L es hi ha
    exact ⟨en, cl, by rw [hf _ (R.blk_lt hi (.inr ⟨es, ha⟩))]; exact h1, h2⟩
  · intro b hb hn
    rw [hf b (Nat.lt_of_lt_of_le hb S0.size)]
    exact S0.keep b hb hn

theorem kind_wr {t : Tmps} {op : Op} (hk : kindOf op ≠ .act) : opWr t op = none := by
  cases op <;> simp only [kindOf, opWr] at hk ⊢
  case store => exact absurd rfl hk
  case mapUpdate => exact absurd rfl hk
  case insert => exact absurd rfl hk
  case call c =>
    split at hk
    · rename_i hb; simp only [callWr, hb, bWr]
    · rename_i hb; simp only [callWr, hb, bWr]
    · rename_i hb; simp only [callWr, hb, bWr]
    · exact absurd rfl hk

theorem step_val {t : Tmps} {op : Op} {v : Value} (hk : kindOf op ≠ .act) (hs : OpStep P t op h v h') : opVal P t op h = some (v, h') := by
  rcases hs with hl | ⟨c, f, args, e, hcall, _⟩
  · exact hl
  · exfalso
    apply hk
    rw [e]
    unfold callOf at hcall
    split at hcall
    · rename_i x hx; simp only [kindOf, hx]
    · cases hcall

section
variable {ops : Array Oper} {T : Nat → Tmps} {H : Nat → Heap} {V : Nat → Value} {A : Nat → Bool}
variable {N : Nat} {ρ0 : Place} {w0 : World} {S : Nat → Prop} {g : Heap} {a : Act} {j : Nat} {o : Oper}

theorem con_exists (hok : DrawOK ops N) (hd : Down ops S) (hb : ∀ i, S i → i < ops.size) : ∃ m, m ≤ ops.size ∧ Con ops A S m := by
  have key : ∀ k, k ≤ ops.size → (∀ (i : Nat) (p : Oper), i < k → ops[i]? = some p → A i = true → kindOf p.op = .act → S i) ∨ ∃ m, m ≤ ops.size ∧ Con ops A S m := by
    intro k
    induction k with
    | zero => intro _; exact .inl fun i p hi => by omega
    | succ k ih =>
      intro hk
      rcases ih (by omega) with h1 | h1
      · have hq : ops[k]? = some ops[k] := by simp
        by_cases hq' : A k = true ∧ kindOf ops[k].op = .act ∧ ¬ S k
        · right
          refine ⟨k, by omega, fun i p hp ha hact => ?_⟩
          rcases Nat.lt_trichotomy i k with hlt | rfl | hgt
          · exact ⟨fun _ => hlt, fun _ => h1 i p hlt hp ha hact⟩
          · exact ⟨fun hS => absurd hS hq'.2.2, fun h => absurd h (by omega)⟩
          · refine ⟨fun hS => ?_, fun h => by omega⟩
            have hna : k ∉ ancOf ops i := fun h => hq'.2.2 (hd.anc hS h)
            exact absurd ⟨hq'.2.1, hact⟩ (hok.pair k i _ p hgt hq hp hna).2.2.1
        · left
          intro i p hi hp ha hact
          by_cases e : i = k
          · subst e
            rw [hq] at hp; cases hp
            apply Classical.byContradiction
            intro hn; exact hq' ⟨ha, hact, hn⟩
          · exact h1 i p (by omega) hp ha hact
      · exact .inr h1
  rcases key ops.size (Nat.le_refl _) with h1 | h1
  · exact ⟨ops.size, Nat.le_refl _, fun i p hp ha hact => ⟨fun _ => lt_of_ops hp, fun hlt => h1 i p hlt hp ha hact⟩⟩
  · exact h1

/-- A number behind what the text has so far was made ahead of its time. -/
theorem Inv.early (I : Inv ops N T H V A ρ0 w0 S g ρ a w) (tr : Trace P ops T H V A 0) {m : Nat} (hm : m ≤ ops.size) (hc : Con ops A S m) {i : Nat} {L : Loc} (hi : ρ i = some L) (hge : (H m).length ≤ i) :
    ∃ (q : Nat) (p : Oper), ops[q]? = some p ∧ S q ∧ A q = true ∧ kindOf p.op = .make ∧ m ≤ q ∧ i = (H q).length ∧ i < (H (q + 1)).length := by
  rcases I.dom i L hi with h1 | ⟨q, hq, hS, h2, h3⟩
  · have := tr.len_mono (Nat.zero_le m) hm; omega
  · have hp : ops[q]? = some ops[q] := by simp
    have hmq : m ≤ q := by
      rcases Nat.lt_or_ge q m with hlt | hge'
      · have := tr.len_mono (show q + 1 ≤ m by omega) hm; omega
      · exact hge'
    have hgr := tr.grow hp
    have hkind : A q = true ∧ (kindOf ops[q].op = .act ∨ kindOf ops[q].op = .make) := by
      apply Classical.byContradiction
      intro hn
      have := hgr.2.2.1 hn
      rw [this] at h3; omega
    obtain ⟨ha, hk⟩ := hkind
    rcases hk with hk | hk
    · have := (hc q _ hp ha hk).mp hS; omega
    · have hl := step_val (by rw [hk]; simp) (tr.step q _ (Nat.zero_le _) hp ha)
      obtain ⟨ar, e⟩ := make_len hk hl
      refine ⟨q, _, hp, hS, ha, hk, hmq, ?_, h3⟩
      rw [e] at h3; simp at h3; omega

theorem Inv.read_at (I : Inv ops N T H V A ρ0 w0 S g ρ a w) (tr : Trace P ops T H V A 0) (hok : DrawOK ops N) (hr : Ready ops S j o) (ha : A j = true) (hk : kindOf o.op = .read) :
    opVal P (T j) o.op g = some (V j, g) := by
  have hj := lt_of_ops hr.here
  have hl := step_val (by rw [hk]; simp) (tr.step j o (Nat.zero_le _) hr.here ha)
  have hTr := (I.operands hok hr).1
  obtain ⟨m, hm, hc⟩ := con_exists (A := A) hok I.down I.bound
  rcases Nat.lt_or_ge m j with hmj | hmj
  · refine (read_val hk hl).2 g ?_
    intro i hs
    obtain ⟨hlt, halive⟩ := read_lt hk hl hs
    obtain ⟨L, hρ⟩ := seen_dom hk hTr hs
    have hρ' := (below_some hρ).2
    have hnoW : ∀ (p : Nat) (q : Oper), m ≤ p → p < j → ops[p]? = some q → A p = true → kindOf q.op = .act → isW q.op = false := by
      intro p q hp hpj hq hap hact
      have hnS : ¬ S p := fun hS => by have := (hc p q hq hap hact).mp hS; omega
      have hna : p ∉ ancOf ops j := fun h => hnS (hr.anc hok I.down h)
      have := (hok.pair p j q o hpj hq hr.here hna).2.2.2
      cases hw : isW q.op with
      | false => rfl
      | true => exact absurd ⟨hw, hk⟩ this
    by_cases him : i < (H m).length
    · rw [I.agr m hm hc i L hρ' him]
      exact (tr.alive_back (by omega) (by omega) hnoW him halive).symm
    · obtain ⟨q, p, hp, hS, haq, hkq, hmq, e, hlt'⟩ := I.early tr hm hc hρ' (by omega)
      have hqj : q < j := by
        rcases Nat.lt_or_ge q j with h1 | h1
        · exact h1
        · have := tr.len_mono h1 (by have := lt_of_ops hp; omega); omega
      have h1 := I.ear q p hp hS haq hkq m hmq hc
      rw [← e] at h1
      rw [h1]
      exact (tr.alive_back (show q + 1 ≤ j by omega) (by omega) (fun x y h2 h3 => hnoW x y (by omega) h3) hlt' halive).symm
  · have claim : ∀ p, j ≤ p → p ≤ m → opVal P (T j) o.op (H p) = some (V j, H p) := by
      intro p
      induction p with
      | zero =>
        intro h1 _
        obtain rfl : j = 0 := by omega
        have e := (read_val hk hl).1
        rw [e] at hl; exact hl
      | succ p ih =>
        intro h1 h2
        by_cases e : j = p + 1
        · subst e
          have e := (read_val hk hl).1
          rw [e] at hl; exact hl
        · have hprev := ih (by omega) (by omega)
          have hq : ops[p]? = some ops[p] := by simp
          by_cases hact : A p = true ∧ kindOf ops[p].op = .act
          · have hS : S p := (hc p _ hq hact.1 hact.2).mpr (by omega)
            have hna := hr.not_anc I.down hS
            have hpj : p ≠ j := by
              rintro rfl
              rw [hr.here] at hq; cases hq
              rw [hk] at hact; cases hact.2
            cases hcall : isCall ops[p].op with
            | true =>
              obtain ⟨new, e⟩ := tr.call p _ (Nat.zero_le _) hq hact.1 hcall
              refine (read_val hk hprev).2 _ ?_
              intro i hs
              rw [e, List.getElem?_append_left (read_lt hk hprev hs).1]
            | false => exact tr.stab j p o _ (Nat.zero_le _) (by omega) hr.here hq ha hact.1 hk hact.2 hcall hna
          · refine (read_val hk hprev).2 _ ?_
            intro i hs
            exact (tr.grow hq).2.1 hact i (read_lt hk hprev hs).1
    have hfin := claim m hmj (Nat.le_refl _)
    refine (read_val hk hfin).2 g ?_
    intro i hs
    obtain ⟨L, hρ⟩ := seen_dom hk hTr hs
    exact I.agr m hm hc i L (below_some hρ).2 (read_lt hk hfin hs).1

end

end Go.AM
