/-
  A region over the abstract memory, whatever its order; code over the abstract memory; a call.
-/
import Derived.Test.YtgmgmkhenhaniaaAmP
set_option linter.unusedSimpArgs false
set_option linter.unusedVariables false
namespace Go.AM
variable {P : Program} {h h' : Heap} {ρ : Place} {w : World}

theorem rel_dead (ρ : Place) (w : World) (b : Nat) : Rel (List.replicate b Ob.dead) (ρ.below b) w := by
  have hd : ∀ (i : Nat) (x : Ob), (List.replicate b Ob.dead)[i]? = some x → x = .dead := by
    intro i x hx
    rw [List.getElem?_replicate] at hx
    split at hx
    · exact (Option.some.inj hx).symm
    · cases hx
  refine ⟨fun i L hi => by simpa using (below_some hi).1, fun i L a _ ha => (by have := hd i _ ha; cases this), fun i L es _ ha => (by have := hd i _ ha; cases this), ?_⟩
  intro i j Li Lj _ _ _ hw _
  rcases hw with ⟨a, ha, _⟩ | ⟨es, he⟩
  · have := hd i _ ha; cases this
  · have := hd i _ he; cases this

section
variable {ops : Array Oper} {T : Nat → Tmps} {H : Nat → Heap} {V : Nat → Value} {A : Nat → Bool}
variable {N : Nat} {ρ0 : Place} {w0 : World} {S : Nat → Prop} {g : Heap} {a : Act} {j : Nat} {o : Oper}

theorem GlobP.scoped {h : Heap} (G : GlobP P ρ) (R : Rel h ρ w) : P.globals.size ≤ h.length := by
  rcases Nat.eq_zero_or_pos P.globals.size with h0 | h0
  · omega
  · obtain ⟨L, h1, _⟩ := G (P.globals.size - 1) (by omega)
    have := R.dom _ _ h1
    omega
theorem GlobP.low {b : Nat} (G : GlobP P ρ) (hb : P.globals.size ≤ b) : GlobP P (ρ.below b) := fun g hg => by
  obtain ⟨L, h1, h2, h3⟩ := G g hg
  exact ⟨L, below_of (by omega) h1, h2, h3⟩
/-- One more operation, whatever its kind. -/
theorem Inv.exec {Q : Exit → Act → World → Prop} {K : Act → World → Prop} (I : Inv ops N T H V A ρ0 w0 S g ρ a w) (tr : Trace P ops T H V A 0) (gb : GlobP P ρ0 ∧ P.globals.size ≤ (H 0).length) (hok : DrawOK ops N) (hr : Ready ops S j o)
    (hK : ∀ g' ρ' c w', Inv ops N T H V A ρ0 w0 (fun i => S i ∨ i = j) g' ρ' (a.put o.dst c) w' → K (a.put o.dst c) w') : wpOp P ops Q j K a w := by
  have hj := lt_of_ops hr.here
  obtain ⟨hTr, hyi⟩ := I.operands hok hr
  have hTr' : ∀ x ∈ o.op.operands, VRel ρ (ev (T j) x) (a.eval x) := fun x hx => (hTr x hx).mono (below_le _ _)
  unfold wpOp
  rw [hr.here]
  simp only
  have hwant : Region.wanted o (yielded ops a.tmps) = A j := by
    unfold Region.wanted
    cases hg : o.guard with
    | none => simp only; exact (tr.free j o (Nat.zero_le _) hr.here hg).symm
    | some gz =>
      obtain ⟨gd, z⟩ := gz
      simp only
      rw [hyi gd z hg]
      have h1 := tr.want j o (Nat.zero_le _) hr.here gd z hg
      cases ha : A j with
      | true => rw [h1.mp ha]; simp
      | false =>
        have : ¬ (yieldedA ops (T j) gd = some z) := fun h => by rw [h1.mpr h] at ha; cases ha
        simpa using this
  rw [hwant]
  cases ha : A j with
  | false =>
    simp only [Bool.false_eq_true, if_false]
    obtain ⟨_, hv⟩ := tr.idle j o (Nat.zero_le _) hr.here ha
    refine hK g ρ undef w (I.still tr hok hr (fun h => by rw [ha] at h; cases h.1) I.rel I.stp ?_)
    rw [hv]; exact VRel.undef' _
  | true =>
    simp only [if_true]
    left
    have hst := tr.step j o (Nat.zero_le _) hr.here ha
    cases hk : kindOf o.op with
    | plain =>
      have hl := step_val (by rw [hk]; simp) hst
      have hl' := (plain_val hk hl).2 (List.replicate (H j).length Ob.dead)
      obtain ⟨ρ', w', c, nx, h1, h2, h3, h4, h5, h6, _⟩ := opVal_sound (a := a) hl' (rel_dead ρ w _) hTr
      have hle : Le ρ' (ρ.below (H j).length) := by
        intro i L hi
        rcases h4.new i L hi with h7 | ⟨h7, _⟩
        · exact h7
        · have := h3.dom _ _ hi
          simp at h7 this; omega
      obtain ⟨R', S'⟩ := I.rel.of_frm I.stp h4 (fun b hb => h6 b hb (fun i L hi => by rw [kind_wr (by rw [hk]; simp)] at hi; cases hi))
      have hfin := hK g ρ c w' (I.still tr hok hr (fun h => by rw [hk] at h; rcases h.2 with h | h <;> cases h) R' S' ((h5.mono hle).mono (below_mono (Le.refl _) (tr.grow hr.here).1)))
      unfold Oper.wp
      rw [h1]
      rcases h2 with rfl | ⟨rfl, rfl⟩
      · exact hfin
      · exact hfin
    | read =>
      have hl' := I.read_at tr hok hr ha hk
      obtain ⟨ρ', w', c, nx, h1, h2, h3, h4, h5, h6, _⟩ := opVal_sound (a := a) hl' I.rel hTr'
      have hle : Le ρ' ρ := by
        intro i L hi
        rcases h4.new i L hi with h7 | ⟨h7, _⟩
        · exact h7
        · have := h3.dom _ _ hi; omega
      obtain ⟨R', S'⟩ := I.rel.of_frm I.stp h4 (fun b hb => h6 b hb (fun i L hi => by rw [kind_wr (by rw [hk]; simp)] at hi; cases hi))
      have hvb := vb_rel (tr.read j o (Nat.zero_le _) hr.here ha hk) (h5.mono hle)
      have hfin := hK g ρ c w' (I.still tr hok hr (fun h => by rw [hk] at h; rcases h.2 with h | h <;> cases h) R' S' (hvb.mono (below_mono (Le.refl _) (tr.grow hr.here).1)))
      unfold Oper.wp
      rw [h1]
      rcases h2 with rfl | ⟨rfl, rfl⟩
      · exact hfin
      · exact hfin
    | make =>
      have hl := step_val (by rw [hk]; simp) hst
      obtain ⟨s, he, hraw⟩ := make_val hk hl w hTr
      obtain ⟨c, w', g', ρ', hrun, I'⟩ := I.made tr hok hr ha hk hraw
      unfold Oper.wp
      rw [he, Sem.run_bind, hrun]
      exact hK g' ρ' c w' I'
    | act =>
      have hlen := tr.len_mono (Nat.zero_le j) (Nat.le_of_lt hj)
      refine step_sound hst ((gb.1.mono I.stp.ext).low (by omega)) (I.at_act tr hok hr hk) hTr ?_
      intro ρ' w' c R' S' V'
      obtain ⟨g', ρ2, I'⟩ := I.acted tr hok hr ha hk R' S' V'
      exact hK g' ρ2 c w' I'

theorem ready_spec {listed : Array Bool} (hs : listed.size = ops.size) {i : Nat} (hi : i ∈ Region.ready .any ops listed) : ∃ o, Ready ops (fun k => listed[k]? = some true) i o := by
  unfold Region.ready at hi
  simp only [List.mem_filter, List.mem_range, Bool.and_eq_true, Bool.not_eq_true'] at hi
  obtain ⟨hlt, h1, h2⟩ := hi
  have ho : ops[i]? = some ops[i] := by simp [hlt]
  rw [ho] at h2
  simp only [Option.map_some, Option.getD_some] at h2
  refine ⟨ops[i], ho, ?_, ?_⟩
  · intro h
    simp only [Array.getD_eq_getD_getElem?, h, Option.getD_some] at h1
    cases h1
  · intro e he hb
    have := Array.all_eq_true.mp h2
    obtain ⟨k, hk, rfl⟩ := List.mem_iff_getElem.mp he
    have h3 := this k (by simpa using hk)
    simp only [Array.getElem_toList] at hb
    rw [hb] at h3
    simp only [Bool.not_true, Bool.false_or, Array.getD_eq_getD_getElem?] at h3
    show listed[ops[i].after.toList[k].on]? = some true
    simp only [Array.getElem_toList]
    cases hx : listed[ops[i].after[k].on]? with
    | none => rw [hx] at h3; cases h3
    | some b => rw [hx] at h3; simp at h3; rw [h3]

theorem ready_nil (hedge : ∀ (i : Nat) (o : Oper), ops[i]? = some o → ∀ e ∈ o.after.toList, Region.binds .any e = true → e.on < i) {listed : Array Bool} (hs : listed.size = ops.size) (hn : Region.ready .any ops listed = []) : ∀ i, i < ops.size → listed[i]? = some true := by
  intro i
  induction i using Nat.strongRecOn with
  | _ i ih =>
    intro hi
    have ho : ops[i]? = some ops[i] := by simp
    have hl : listed[i]? = some listed[i] := by simp [hs, hi]
    cases hb : listed[i] with
    | true => rw [hl, hb]
    | false =>
      exfalso
      have : i ∈ Region.ready .any ops listed := by
        unfold Region.ready
        simp only [List.mem_filter, List.mem_range, Bool.and_eq_true, Bool.not_eq_true']
        refine ⟨hi, by simp [Array.getD_eq_getD_getElem?, hl, hb], ?_⟩
        rw [ho]
        simp only [Option.map_some, Option.getD_some]
        refine Array.all_eq_true.mpr fun k hk => ?_
        cases hbd : Region.binds .any ops[i].after[k] with
        | false => simp
        | true =>
          have hlt := hedge i _ ho ops[i].after[k] (by simp) hbd
          have := ih _ hlt (by omega)
          simp [Array.getD_eq_getD_getElem?, this]
      rw [hn] at this; cases this

theorem count_set : ∀ (l : List Bool) (i : Nat), l[i]? = some false → (l.set i true).count false + 1 = l.count false
  | [], i, h => by simp at h
  | b :: l, 0, h => by simp at h; subst h; simp
  | b :: l, i + 1, h => by
    have := count_set l i (by simpa using h)
    simp only [List.set_cons_succ, List.count_cons]
    omega

theorem any_sound {Q : Exit → Act → World → Prop} (tr : Trace P ops T H V A 0) (gb : GlobP P ρ0 ∧ P.globals.size ≤ (H 0).length) (hok : DrawOK ops N)
    (hQ : ∀ ρ a w, TRel ρ N (T ops.size) a → Rel (H ops.size) ρ w → Step (H 0) ρ0 w0 (H ops.size) ρ w → Q .normal a w) :
    ∀ (fuel : Nat) (listed : Array Bool) (g : Heap) (ρ : Place) (a : Act) (w : World), listed.size = ops.size → listed.toList.count false ≤ fuel →
      Inv ops N T H V A ρ0 w0 (fun i => listed[i]? = some true) g ρ a w → wpAny P .any ops Q fuel listed a w := by
  intro fuel
  induction fuel with
  | zero =>
    intro listed g ρ a w hs hc I
    have hall : ∀ i, i < ops.size → listed[i]? = some true := by
      intro i hi
      have hl : listed[i]? = some listed[i] := by simp [hs, hi]
      cases hb : listed[i] with
      | true => rw [hl, hb]
      | false =>
        exfalso
        have := count_set listed.toList i (by simp [hs, hi]; exact hb)
        omega
    have hr : Region.ready .any ops listed = [] := by
      rw [List.eq_nil_iff_forall_not_mem]
      intro i hi
      obtain ⟨o, hr⟩ := ready_spec hs hi
      exact hr.no (hall i (lt_of_ops hr.here))
    obtain ⟨h1, h2, h3⟩ := I.ended hall
    exact ⟨hr, hQ _ _ _ h1 h2 h3⟩
  | succ fuel ih =>
    intro listed g ρ a w hs hc I
    refine ⟨fun hr => ?_, fun i hi => ?_⟩
    · obtain ⟨h1, h2, h3⟩ := I.ended (ready_nil hok.edge hs hr)
      exact hQ _ _ _ h1 h2 h3
    · obtain ⟨o, hr⟩ := ready_spec hs hi
      refine I.exec tr gb hok hr ?_
      intro g' ρ' c w' I'
      have hlt := lt_of_ops hr.here
      have hfalse : listed.toList[i]? = some false := by
        have hl : listed[i]? = some listed[i] := by simp [hs, hlt]
        cases hb : listed[i] with
        | true => exact absurd (by rw [hl, hb]) hr.no
        | false => simp [hs, hlt]; exact hb
      refine ih _ g' ρ' _ w' (by simp [hs]) ?_ ?_
      · have := count_set listed.toList i hfalse
        simp only [Array.toList_setIfInBounds]
        omega
      · have he : (fun k => (listed.setIfInBounds i true)[k]? = some true) = (fun k => listed[k]? = some true ∨ k = i) := by
          funext k
          apply propext
          rw [Array.getElem?_setIfInBounds]
          by_cases e : i = k
          · subst e; simp [hs, hlt]
          · rw [if_neg e]
            exact ⟨.inl, fun h => h.resolve_right (Ne.symm e)⟩
        rw [he]; exact I'

/-- Where all have been, nothing is ready. -/
theorem any_done {Q : Exit → Act → World → Prop} {listed : Array Bool} (hs : listed.size = ops.size) (hall : ∀ i, i < ops.size → listed[i]? = some true) {a : Act} {w : World} (hq : Q .normal a w) :
    ∀ fuel, wpAny P .any ops Q fuel listed a w := by
  have hr : Region.ready .any ops listed = [] := by
    rw [List.eq_nil_iff_forall_not_mem]
    intro i hi
    obtain ⟨o, hr⟩ := ready_spec hs hi
    exact hr.no (hall i (lt_of_ops hr.here))
  intro fuel
  cases fuel with
  | zero => exact ⟨hr, hq⟩
  | succ fuel => exact ⟨fun _ => hq, fun i hi => by rw [hr] at hi; cases hi⟩

theorem pop_get {n i : Nat} (hsz : ops.size = n + 1) (hi : i < n) : ops.pop[i]? = ops[i]? := by
  rw [Array.getElem?_pop, if_pos (by omega)]
theorem wpOp_pop {Q : Exit → Act → World → Prop} {K : Act → World → Prop} {n i : Nat} (hsz : ops.size = n + 1) (hi : i < n) (hg : ∀ (o : Oper) (gd : Nat) (z : Bool), ops[i]? = some o → o.guard = some (gd, z) → gd < n)
    (hw : wpOp P ops.pop Q i K a w) : wpOp P ops Q i K a w := by
  unfold wpOp at hw ⊢
  rw [pop_get hsz hi] at hw
  cases ho : ops[i]? with
  | none => rw [ho] at hw; exact hw
  | some o =>
    rw [ho] at hw
    simp only at hw ⊢
    have e : Region.wanted o (yielded ops.pop a.tmps) = Region.wanted o (yielded ops a.tmps) := by
      unfold Region.wanted
      cases hgo : o.guard with
      | none => rfl
      | some gz =>
        obtain ⟨gd, z⟩ := gz
        simp only
        unfold yielded
        rw [pop_get hsz (hg o gd z ho hgo)]
    rw [e] at hw
    exact hw

/-- A region whose last operation waits for all others. -/
theorem any_last {Q : Exit → Act → World → Prop} {n : Nat} (hsz : ops.size = n + 1) {T : Nat → Tmps} {H : Nat → Heap} {V : Nat → Value} {A : Nat → Bool}
    (tr : Trace P ops.pop T H V A 0) (gb : GlobP P ρ0 ∧ P.globals.size ≤ (H 0).length) (hok : DrawOK ops.pop N) (hanc : ∀ j, j < n → j ∈ ancOf ops n) (hg : ∀ (i : Nat) (o : Oper) (gd : Nat) (z : Bool), i < n → ops[i]? = some o → o.guard = some (gd, z) → gd < n)
    (hedge : ∀ (i : Nat) (o : Oper), ops[i]? = some o → ∀ e ∈ o.after.toList, Region.binds .any e = true → e.on < i)
    (hlast : ∀ (ρ : Place) (a : Act) (w : World) (K : Act → World → Prop), TRel ρ N (T n) a → Rel (H n) ρ w → Step (H 0) ρ0 w0 (H n) ρ w → (∀ a' w', Q .normal a' w' → K a' w') → wpOp P ops Q n K a w) :
    ∀ (fuel : Nat) (listed : Array Bool) (g : Heap) (ρ : Place) (a : Act) (w : World), listed.size = n + 1 → listed[n]? = some false → listed.toList.count false ≤ fuel →
      Inv ops.pop N T H V A ρ0 w0 (fun i => i < n ∧ listed[i]? = some true) g ρ a w → wpAny P .any ops Q fuel listed a w := by
  have hps : ops.pop.size = n := by simp [hsz]
  intro fuel
  induction fuel with
  | zero =>
    intro listed g ρ a w hs hn hc I
    exfalso
    have := count_set listed.toList n (by simpa using hn)
    omega
  | succ fuel ih =>
    intro listed g ρ a w hs hn hc I
    have hs' : listed.size = ops.size := by rw [hs, hsz]
    refine ⟨fun hr => ?_, fun i hi => ?_⟩
    · exfalso
      have := ready_nil hedge hs' hr n (by omega)
      rw [hn] at this; cases this
    · obtain ⟨o, hr⟩ := ready_spec hs' hi
      have hlt : i < n + 1 := by have := lt_of_ops hr.here; omega
      by_cases hin : i < n
      · have hr' : Ready ops.pop (fun k => k < n ∧ listed[k]? = some true) i o := by
          refine ⟨by rw [pop_get hsz hin]; exact hr.here, fun h => hr.no h.2, fun e he hb => ⟨?_, hr.edges e he hb⟩⟩
          have := hedge i o hr.here e he hb
          omega
        refine wpOp_pop hsz hin (fun o gd z h1 h2 => hg i o gd z hin h1 h2) (I.exec tr gb hok hr' ?_)
        intro g' ρ' c w' I'
        have hfalse : listed.toList[i]? = some false := by
          have hl : listed[i]? = some listed[i] := by simp [hs, hlt]
          cases hb : listed[i] with
          | true => exact absurd (by rw [hl, hb]) hr.no
          | false => simp [hs, hlt]; exact hb
        refine ih _ g' ρ' _ w' (by simp [hs]) ?_ ?_ ?_
        · rw [Array.getElem?_setIfInBounds, if_neg (by omega)]; exact hn
        · have := count_set listed.toList i hfalse
          simp only [Array.toList_setIfInBounds]
          omega
        · have he : (fun k => k < n ∧ (listed.setIfInBounds i true)[k]? = some true) = (fun k => (k < n ∧ listed[k]? = some true) ∨ k = i) := by
            funext k
            apply propext
            rw [Array.getElem?_setIfInBounds]
            by_cases e : i = k
            · subst e; simp [hs, hlt, hin]
            · rw [if_neg e]
              exact ⟨.inl, fun h => h.resolve_right (Ne.symm e)⟩
          rw [he]; exact I'
      · obtain rfl : i = n := by omega
        have hd : Down ops (fun k => listed[k]? = some true ∨ k = i) := by
          intro k p hp hS e he hb
          rcases hS with hS | rfl
          · have hk : k < i := by
              have := lt_of_ops hp
              rcases Nat.lt_or_ge k i with h1 | h1
              · exact h1
              · obtain rfl : k = i := by omega
                rw [hn] at hS; cases hS
            exact .inl (I.down k p (by rw [pop_get hsz hk]; exact hp) ⟨hk, hS⟩ e he hb).2
          · rw [hr.here] at hp; cases hp
            exact .inl (hr.edges e he hb)
        have hall : ∀ j, j < i → listed[j]? = some true := by
          intro j hj
          rcases hd.anc (Or.inr rfl) (hanc j hj) with h1 | h1
          · exact h1
          · omega
        obtain ⟨h1, h2, h3⟩ := I.ended (fun j hj => ⟨by omega, hall j (by omega)⟩)
        rw [hps] at h1 h2 h3
        refine hlast _ a w _ h1 h2 h3 ?_
        intro a' w' hq
        refine any_done (by simp [hs']) ?_ hq fuel
        intro j hj
        rw [Array.getElem?_setIfInBounds]
        by_cases e : i = j
        · subst e; simp [hs]
        · rw [if_neg e]; exact hall j (by omega)

/-- At the begin. -/
theorem Inv.init (tr : Trace P ops T H V A 0) (hok : DrawOK ops N) (TR : TRel ρ N (T 0) a) (R : Rel (H 0) ρ w) :
    Inv ops N T H V A ρ w (fun i => (Array.replicate ops.size false)[i]? = some true) (H 0 ++ List.replicate ((H ops.size).length - (H 0).length) Ob.dead) ρ a w := by
  have hno : ∀ i : Nat, ¬ ((Array.replicate ops.size false)[i]? = some true) := by
    intro i h
    rw [Array.getElem?_replicate] at h
    split at h <;> simp at h
  have hlen := tr.len_mono (Nat.zero_le ops.size) (Nat.le_refl _)
  have hg : ∀ i, i < (H 0).length → (H 0 ++ List.replicate ((H ops.size).length - (H 0).length) Ob.dead)[i]? = (H 0)[i]? := fun i hi => List.getElem?_append_left hi
  have hstart : ∀ m, m ≤ ops.size → Con ops A (fun i => (Array.replicate ops.size false)[i]? = some true) m → ∀ i, i < (H 0).length → (H m)[i]? = (H 0)[i]? := by
    intro m hm hc
    refine tr.quiet (Nat.zero_le m) hm ?_
    rintro p x _ hpm hx ⟨hap, hkp⟩
    exact hno p ((hc p x hx hap hkp).mpr hpm)
  have R' : Rel (H 0 ++ List.replicate ((H ops.size).length - (H 0).length) Ob.dead) ρ w := by
    refine ⟨fun i L hi => by have := R.dom i L hi; simp; omega, ?_, ?_, ?_⟩
    · intro i L b hi hb
      rw [hg i (R.dom i L hi)] at hb
      exact R.arr i L b hi hb
    · intro i L b hi hb
      rw [hg i (R.dom i L hi)] at hb
      exact R.map i L b hi hb
    · intro i j Li Lj hi hj hne hw ha
      exact R.inj i j Li Lj hi hj hne ((writable_eq (hg i (R.dom _ _ hi))).mp hw) ((alive_eq (hg j (R.dom _ _ hj))).mp ha)
  have hbl : ∀ m, m ≤ ops.size → Le ρ (ρ.below (H m).length) := fun m hm i L hi => below_of (Nat.lt_of_lt_of_le (R.dom i L hi) (tr.len_mono (Nat.zero_le m) hm)) hi
  refine ⟨fun i p hp hS => absurd hS (hno i), fun i hS => absurd hS (hno i), R', by simp; omega, ?_, fun i p hp hS => absurd hS (hno i), ?_, fun i p hp hS => absurd hS (hno i), ?_, fun i L hi => .inl (R.dom i L hi),
    fun i p hp hS => absurd hS (hno i), ?_, TR.size, TR.defers⟩
  · intro m hm hc i L hi _
    rw [hg i (R.dom _ _ hi)]
    exact (hstart m hm hc i (R.dom _ _ hi)).symm
  · intro m hm hc i L hi _
    rw [hg i (R.dom _ _ hi)]
    exact (R.inScope hi).mono (hbl m hm)
  · intro k hk m hm hw
    have : ∀ q, q ≤ m → T q k = T 0 k := by
      intro q
      induction q with
      | zero => intro _; rfl
      | succ q ih =>
        intro h1
        have hq : ops[q]? = some ops[q] := by simp
        rw [tr.next q _ (Nat.zero_le _) hq]
        have hne : ops[q].dst ≠ some k := fun hd => hno q ((hw q _ hq hd).mpr (by omega))
        rw [← ih (by omega)]
        generalize hdq : ops[q].dst = dq at hne
        cases dq with
        | none => rfl
        | some d =>
          simp only [updO, upd]
          rw [if_neg (fun e => hne (by rw [e]))]
    rw [this m (Nat.le_refl _)]
    exact (TR.vals k hk).mono (hbl m hm)
  · have s := Step.refl (H 0) ρ w
    exact ⟨s.ext, s.new, by simp, s.os, s.tape, s.output, s.size, s.drawn, s.keep, fun i L hi ha hlt => ⟨i, L, hi, rfl, (alive_eq (hg i (R.dom _ _ hi))).mp ha, fun x => (writable_eq (hg i (R.dom _ _ hi))).mp x⟩⟩

end

/-- A region that draws its order. -/
theorem wpD_sound {ops : Array Oper} {N : Nat} {h0 : Heap} {ρ0 : Place} {w0 : World} {K : Tmps → Heap → Prop} {Q : Exit → Act → World → Prop} {id : Nat} {t : Tmps} {a : Act}
    (hmix : P.follows .mixedOrders = true) (hok : drawOK ops N = true) (hQ : ∀ t h ρ a w, K t h → TRel ρ N t a → Rel h ρ w → Step h0 ρ0 w0 h ρ w → Q .normal a w)
    (hw : wpD P ops K (List.range' 0 ops.size) [] t h) (G : GlobP P ρ) (TR : TRel ρ N t a) (R : Rel h ρ w) (S0 : Step h0 ρ0 w0 h ρ w) : (Code.region id ops true).wp P Q a w := by
  refine wp_region_any hmix ?_
  obtain ⟨T, H, V, A, e1, e2, hK, tr, _⟩ := wpD_trace ops.size 0 [] t h (by omega) hw
  subst e1 e2
  have hd := drawOK_spec hok
  refine any_sound tr ⟨G, G.scoped R⟩ hd ?_ _ _ _ ρ a _ (by simp) ?_ (Inv.init (w := w.drew) tr hd TR R.drew)
  · intro ρ' a' w' h1 h2 h3
    exact hQ _ _ _ _ _ hK h1 h2 ((S0.trans (Step.drew _ _ _)).trans h3)
  · simp

def lastB (ops : Array Oper) (o : Oper) : Bool :=
  isCall o.op && o.guard.isNone && (List.range (ops.size - 1)).all (fun j => (ancB ops (ops.size - 1)).testBit j) &&
    (List.range (ops.size - 1)).all (fun i => match ops[i]? with | some p => (match p.guard with | some (gd, _) => Nat.blt gd (ops.size - 1) | none => true) | none => true) &&
    (List.range ops.size).all (fun i => match ops[i]? with | some p => p.after.toList.all (fun e => !Region.binds .any e || Nat.blt e.on i) | none => true)
/-- A region's last operation, if it is a call that waits for all others. -/
def cutLast (ops : Array Oper) : Option (Array Oper × Oper) :=
  match ops[ops.size - 1]? with
  | some o => (match lastB ops o with | true => some (ops.pop, o) | false => none)
  | none => none
theorem cutLast_spec {ops os : Array Oper} {o : Oper} (h : cutLast ops = some (os, o)) : os = ops.pop ∧ ∃ n, ops.size = n + 1 ∧ ops[n]? = some o ∧ isCall o.op = true ∧ o.guard = none ∧ (∀ j, j < n → j ∈ ancOf ops n) ∧
    (∀ (i : Nat) (p : Oper) (gd : Nat) (z : Bool), i < n → ops[i]? = some p → p.guard = some (gd, z) → gd < n) ∧ (∀ (i : Nat) (p : Oper), ops[i]? = some p → ∀ e ∈ p.after.toList, Region.binds .any e = true → e.on < i) := by
  unfold cutLast at h
  split at h
  · rename_i o' hb
    cases hc : lastB ops o' with
    | false => rw [hc] at h; cases h
    | true =>
      rw [hc] at h
      cases h
      have hsz := (Array.getElem?_eq_some_iff.mp hb).1
      unfold lastB at hc
      simp only [Bool.and_eq_true, List.all_eq_true, List.mem_range] at hc
      obtain ⟨⟨⟨⟨h1, h2⟩, h3⟩, h4⟩, h5⟩ := hc
      refine ⟨rfl, ops.size - 1, by omega, hb, h1, by simpa using h2, fun j hj => ancB_mem (h3 j hj), ?_, ?_⟩
      · intro i p gd z hi hp hg
        have := h4 i hi
        rw [hp] at this
        simp only [hg] at this
        simpa [Nat.blt_eq] using this
      · intro i p hp e he hbd
        have := h5 i (Array.getElem?_eq_some_iff.mp hp).1
        rw [hp] at this
        simp only [List.all_eq_true] at this
        have := this e he
        rw [hbd] at this
        simpa [Nat.blt_eq] using this
  · cases h

/-- A region that draws its order, its last call behind all others. -/
theorem wpD_last {ops os : Array Oper} {o : Oper} {N : Nat} {h0 : Heap} {ρ0 : Place} {w0 : World} {K : Tmps → Heap → Prop} {Q : Exit → Act → World → Prop} {id : Nat} {t : Tmps} {a : Act}
    (hmix : P.follows .mixedOrders = true) (hcut : cutLast ops = some (os, o)) (hok : drawOK os N = true) (hoo : operOK ops N o = true) (hQ : ∀ t h ρ a w, K t h → TRel ρ N t a → Rel h ρ w → Step h0 ρ0 w0 h ρ w → Q .normal a w)
    (hw : wpD P os (fun t h => opK P t o.op h fun v h' => K (updO t o.dst v) h') (List.range' 0 os.size) [] t h) (G : GlobP P ρ) (TR : TRel ρ N t a) (R : Rel h ρ w) (S0 : Step h0 ρ0 w0 h ρ w) : (Code.region id ops true).wp P Q a w := by
  obtain ⟨rfl, n, hsz, hn, hcall, hgn, hanc, hg, hedge⟩ := cutLast_spec hcut
  have hps : ops.pop.size = n := by simp [hsz]
  refine wp_region_any hmix ?_
  rw [hps] at hw
  obtain ⟨T, H, V, A, e1, e2, hK, tr, _⟩ := wpD_trace (ops := ops.pop) n 0 [] t h (by omega) hw
  subst e1 e2
  have hd := drawOK_spec hok
  rw [hps] at hK
  have I0 := Inv.init (w := w.drew) tr hd TR R.drew
  have e : (fun i => (Array.replicate ops.pop.size false)[i]? = some true) = (fun i => i < n ∧ (Array.replicate ops.size false)[i]? = some true) := by
    funext i
    apply propext
    constructor
    · intro h
      rw [Array.getElem?_replicate] at h
      split at h <;> simp at h
    · rintro ⟨_, h⟩
      rw [Array.getElem?_replicate] at h
      split at h <;> simp at h
  rw [e] at I0
  refine any_last hsz tr ⟨G, G.scoped R⟩ hd hanc hg hedge ?_ _ _ _ ρ a _ (by simp [hsz]) (by simp [hsz]) (by simp) I0
  · intro ρ' a' w' K' T' R' S' hK'
    unfold wpOp
    rw [hn]
    have hwant : Region.wanted o (yielded ops a'.tmps) = true := by unfold Region.wanted; rw [hgn]
    simp only [hwant, if_true]
    left
    simp only [operOK, Bool.and_eq_true] at hoo
    have hT : ∀ x ∈ o.op.operands, VRel ρ' (ev (T n) x) (a'.eval x) := by
      intro x hx
      have := Array.all_eq_true.mp hoo.1.1
      obtain ⟨k, hk', rfl⟩ := Array.mem_iff_getElem.mp hx
      exact T'.eval (this k hk')
    unfold opK at hK
    split at hK
    · rename_i c hoc
      unfold isCall at hcall
      rw [hoc] at hcall
      simp only at hcall
      split at hK
      · obtain ⟨f, args, RR, h1, h2, h3⟩ := hK
        refine callP_sound hoc h1 h2 (G.mono S'.ext) R' hT ?_
        intro v h' ρ2 w2 cv hR R2 S2 V2
        refine hK' _ _ (hQ _ _ ρ2 _ w2 (h3 v h' hR) ((T'.mono S2.ext).put V2 o.dst) R2 (((S0.trans (Step.drew _ _ _)).trans S').trans S2))
      · rename_i b hb; rw [hb] at hcall; cases hcall
      · exact hK.elim
    · rename_i hno
      unfold isCall at hcall
      split at hcall
      · rename_i c hoc; exact absurd hoc (hno c)
      · cases hcall
end Go.AM
