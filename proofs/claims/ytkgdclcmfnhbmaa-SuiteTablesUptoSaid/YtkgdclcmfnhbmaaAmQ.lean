/-
  A region over the abstract memory, whatever its order; code over the abstract memory; a call.
-/
import Derived.Test.YtkgdclcmfnhbmaaAmP
set_option linter.unusedSimpArgs false
set_option linter.unusedVariables false
namespace Go.AM
variable {P : Program} {h h' : Heap} {ρ : Place} {w : World}

theorem rel_dead (ρ : Place) (w : World) (b : Nat) : Rel (List.replicate b Ob.dead) (ρ.below b) w := by
  have hd : ∀ (i : Nat) (x : Ob), (List.replicate b Ob.dead)[i]? = some x → x = .dead := by
    intro i x hx
    rw [List.getElem?_replicate] at hx
    split at hx
    · exact (Option.some.inj hx).symm
    · cases hx
  refine ⟨fun i L hi => by simpa using (below_some hi).1, fun i L a _ ha => (by have := hd i _ ha; cases this), fun i L es _ ha => (by have := hd i _ ha; cases this), ?_⟩
  intro i j Li Lj _ _ _ hw _
  rcases hw with ⟨a, ha, _⟩ | ⟨es, he⟩
  · have := hd i _ ha; cases this
  · have := hd i _ he; cases this

section
variable {ops : Array Oper} {T : Nat → Tmps} {H : Nat → Heap} {V : Nat → Value} {A : Nat → Bool}
variable {N : Nat} {ρ0 : Place} {w0 : World} {S : Nat → Prop} {g : Heap} {a : Act} {j : Nat} {o : Oper}

/-- One more operation, whatever its kind. -/
theorem Inv.exec {Q : Exit → Act → World → Prop} {K : Act → World → Prop} (I : Inv ops N T H V A ρ0 w0 S g ρ a w) (tr : Trace P ops T H V A 0) (hok : DrawOK ops N) (hr : Ready ops S j o)
    (hK : ∀ g' ρ' c w', Inv ops N T H V A ρ0 w0 (fun i => S i ∨ i = j) g' ρ' (a.put o.dst c) w' → K (a.put o.dst c) w') : wpOp P ops Q j K a w := by
  have hj := lt_of_ops hr.here
  obtain ⟨hTr, hyi⟩ := I.operands hok hr
  have hTr' : ∀ x ∈ o.op.operands, VRel ρ (ev (T j) x) (a.eval x) := fun x hx => (hTr x hx).mono (below_le _ _)
  unfold wpOp
  rw [hr.here]
  simp only
  have hwant : Region.wanted o (yielded ops a.tmps) = A j := by
    unfold Region.wanted
    cases hg : o.guard with
    | none => simp only; exact (tr.free j o (Nat.zero_le _) hr.here hg).symm
    | some gz =>
      obtain ⟨gd, z⟩ := gz
      simp only
      rw [hyi gd z hg]
      have h1 := tr.want j o (Nat.zero_le _) hr.here gd z hg
      cases ha : A j with
      | true => rw [h1.mp ha]; simp
      | false =>
        have : ¬ (yieldedA ops (T j) gd = some z) := fun h => by rw [h1.mpr h] at ha; cases ha
        simpa using this
  rw [hwant]
  cases ha : A j with
  | false =>
    simp only [Bool.false_eq_true, if_false]
    obtain ⟨_, hv⟩ := tr.idle j o (Nat.zero_le _) hr.here ha
    refine hK g ρ undef w (I.still tr hok hr (fun h => by rw [ha] at h; cases h.1) I.rel I.stp ?_)
    rw [hv]; exact VRel.undef' _
  | true =>
    simp only [if_true]
    left
    have hst := tr.step j o (Nat.zero_le _) hr.here ha
    cases hk : kindOf o.op with
    | plain =>
      have hl := step_val (by rw [hk]; simp) hst
      have hl' := (plain_val hk hl).2 (List.replicate (H j).length Ob.dead)
      obtain ⟨ρ', w', c, nx, h1, h2, h3, h4, h5, h6, _⟩ := opVal_sound (a := a) hl' (rel_dead ρ w _) hTr
      have hle : Le ρ' (ρ.below (H j).length) := by
        intro i L hi
        rcases h4.new i L hi with h7 | ⟨h7, _⟩
        · exact h7
        · have := h3.dom _ _ hi
          simp at h7 this; omega
      obtain ⟨R', S'⟩ := I.rel.of_frm I.stp h4 (fun b hb => h6 b hb (fun i L hi => by rw [kind_wr (by rw [hk]; simp)] at hi; cases hi))
      have hfin := hK g ρ c w' (I.still tr hok hr (fun h => by rw [hk] at h; rcases h.2 with h | h <;> cases h) R' S' ((h5.mono hle).mono (below_mono (Le.refl _) (tr.grow hr.here).1)))
      unfold Oper.wp
      rw [h1]
      rcases h2 with rfl | ⟨rfl, rfl⟩
      · exact hfin
      · exact hfin
    | read =>
      have hl' := I.read_at tr hok hr ha hk
      obtain ⟨ρ', w', c, nx, h1, h2, h3, h4, h5, h6, _⟩ := opVal_sound (a := a) hl' I.rel hTr'
      have hle : Le ρ' ρ := by
        intro i L hi
        rcases h4.new i L hi with h7 | ⟨h7, _⟩
        · exact h7
        · have := h3.dom _ _ hi; omega
      obtain ⟨R', S'⟩ := I.rel.of_frm I.stp h4 (fun b hb => h6 b hb (fun i L hi => by rw [kind_wr (by rw [hk]; simp)] at hi; cases hi))
      have hvb := vb_rel (tr.read j o (Nat.zero_le _) hr.here ha hk) (h5.mono hle)
      have hfin := hK g ρ c w' (I.still tr hok hr (fun h => by rw [hk] at h; rcases h.2 with h | h <;> cases h) R' S' (hvb.mono (below_mono (Le.refl _) (tr.grow hr.here).1)))
      unfold Oper.wp
      rw [h1]
      rcases h2 with rfl | ⟨rfl, rfl⟩
      · exact hfin
      · exact hfin
    | make =>
      have hl := step_val (by rw [hk]; simp) hst
      obtain ⟨s, he, hraw⟩ := make_val hk hl w hTr
      obtain ⟨c, w', g', ρ', hrun, I'⟩ := I.made tr hok hr ha hk hraw
      unfold Oper.wp
      rw [he, Sem.run_bind, hrun]
      exact hK g' ρ' c w' I'
    | act =>
      refine step_sound hst (I.at_act tr hok hr hk) hTr ?_
      intro ρ' w' c R' S' V'
      obtain ⟨g', ρ2, I'⟩ := I.acted tr hok hr ha hk R' S' V'
      exact hK g' ρ2 c w' I'

theorem ready_spec {listed : Array Bool} (hs : listed.size = ops.size) {i : Nat} (hi : i ∈ Region.ready .any ops listed) : ∃ o, Ready ops (fun k => listed[k]? = some true) i o := by
  unfold Region.ready at hi
  simp only [List.mem_filter, List.mem_range, Bool.and_eq_true, Bool.not_eq_true'] at hi
  obtain ⟨hlt, h1, h2⟩ := hi
  have ho : ops[i]? = some ops[i] := by simp [hlt]
  rw [ho] at h2
  simp only [Option.map_some, Option.getD_some] at h2
  refine ⟨ops[i], ho, ?_, ?_⟩
  · intro h
    simp only [Array.getD_eq_getD_getElem?, h, Option.getD_some] at h1
    cases h1
  · intro e he hb
    have := Array.all_eq_true.mp h2
    obtain ⟨k, hk, rfl⟩ := List.mem_iff_getElem.mp he
    have h3 := this k (by simpa using hk)
    simp only [Array.getElem_toList] at hb
    rw [hb] at h3
    simp only [Bool.not_true, Bool.false_or, Array.getD_eq_getD_getElem?] at h3
    show listed[ops[i].after.toList[k].on]? = some true
    simp only [Array.getElem_toList]
    cases hx : listed[ops[i].after[k].on]? with
    | none => rw [hx] at h3; cases h3
    | some b => rw [hx] at h3; simp at h3; rw [h3]

theorem ready_nil (hok : DrawOK ops N) {listed : Array Bool} (hs : listed.size = ops.size) (hn : Region.ready .any ops listed = []) : ∀ i, i < ops.size → listed[i]? = some true := by
  intro i
  induction i using Nat.strongRecOn with
  | _ i ih =>
    intro hi
    have ho : ops[i]? = some ops[i] := by simp
    have hl : listed[i]? = some listed[i] := by simp [hs, hi]
    cases hb : listed[i] with
    | true => rw [hl, hb]
    | false =>
      exfalso
      have : i ∈ Region.ready .any ops listed := by
        unfold Region.ready
        simp only [List.mem_filter, List.mem_range, Bool.and_eq_true, Bool.not_eq_true']
        refine ⟨hi, by simp [Array.getD_eq_getD_getElem?, hl, hb], ?_⟩
        rw [ho]
        simp only [Option.map_some, Option.getD_some]
        refine Array.all_eq_true.mpr fun k hk => ?_
        cases hbd : Region.binds .any ops[i].after[k] with
        | false => simp
        | true =>
          have hlt := hok.edge i _ ho ops[i].after[k] (by simp) hbd
          have := ih _ hlt (by omega)
          simp [Array.getD_eq_getD_getElem?, this]
      rw [hn] at this; cases this

theorem count_set : ∀ (l : List Bool) (i : Nat), l[i]? = some false → (l.set i true).count false + 1 = l.count false
  | [], i, h => by simp at h
  | b :: l, 0, h => by simp at h; subst h; simp
  | b :: l, i + 1, h => by
    have := count_set l i (by simpa using h)
    simp only [List.set_cons_succ, List.count_cons]
    omega

theorem any_sound {Q : Exit → Act → World → Prop} (tr : Trace P ops T H V A 0) (hok : DrawOK ops N)
    (hQ : ∀ ρ a w, TRel ρ N (T ops.size) a → Rel (H ops.size) ρ w → Step (H 0) ρ0 w0 (H ops.size) ρ w → Q .normal a w) :
    ∀ (fuel : Nat) (listed : Array Bool) (g : Heap) (ρ : Place) (a : Act) (w : World), listed.size = ops.size → listed.toList.count false ≤ fuel →
      Inv ops N T H V A ρ0 w0 (fun i => listed[i]? = some true) g ρ a w → wpAny P .any ops Q fuel listed a w := by
  intro fuel
  induction fuel with
  | zero =>
    intro listed g ρ a w hs hc I
    have hall : ∀ i, i < ops.size → listed[i]? = some true := by
      intro i hi
      have hl : listed[i]? = some listed[i] := by simp [hs, hi]
      cases hb : listed[i] with
      | true => rw [hl, hb]
      | false =>
        exfalso
        have := count_set listed.toList i (by simp [hs, hi]; exact hb)
        omega
    have hr : Region.ready .any ops listed = [] := by
      rw [List.eq_nil_iff_forall_not_mem]
      intro i hi
      obtain ⟨o, hr⟩ := ready_spec hs hi
      exact hr.no (hall i (lt_of_ops hr.here))
    obtain ⟨h1, h2, h3⟩ := I.ended hall
    exact ⟨hr, hQ _ _ _ h1 h2 h3⟩
  | succ fuel ih =>
    intro listed g ρ a w hs hc I
    refine ⟨fun hr => ?_, fun i hi => ?_⟩
    · obtain ⟨h1, h2, h3⟩ := I.ended (ready_nil hok hs hr)
      exact hQ _ _ _ h1 h2 h3
    · obtain ⟨o, hr⟩ := ready_spec hs hi
      refine I.exec tr hok hr ?_
      intro g' ρ' c w' I'
      have hlt := lt_of_ops hr.here
      have hfalse : listed.toList[i]? = some false := by
        have hl : listed[i]? = some listed[i] := by simp [hs, hlt]
        cases hb : listed[i] with
        | true => exact absurd (by rw [hl, hb]) hr.no
        | false => simp [hs, hlt]; exact hb
      refine ih _ g' ρ' _ w' (by simp [hs]) ?_ ?_
      · have := count_set listed.toList i hfalse
        simp only [Array.toList_setIfInBounds]
        omega
      · have he : (fun k => (listed.setIfInBounds i true)[k]? = some true) = (fun k => listed[k]? = some true ∨ k = i) := by
          funext k
          apply propext
          rw [Array.getElem?_setIfInBounds]
          by_cases e : i = k
          · subst e; simp [hs, hlt]
          · rw [if_neg e]
            exact ⟨.inl, fun h => h.resolve_right (Ne.symm e)⟩
        rw [he]; exact I'

/-- At the begin. -/
theorem Inv.init (tr : Trace P ops T H V A 0) (hok : DrawOK ops N) (TR : TRel ρ N (T 0) a) (R : Rel (H 0) ρ w) :
    Inv ops N T H V A ρ w (fun i => (Array.replicate ops.size false)[i]? = some true) (H 0 ++ List.replicate ((H ops.size).length - (H 0).length) Ob.dead) ρ a w := by
  have hno : ∀ i : Nat, ¬ ((Array.replicate ops.size false)[i]? = some true) := by
    intro i h
    rw [Array.getElem?_replicate] at h
    split at h <;> simp at h
  have hlen := tr.len_mono (Nat.zero_le ops.size) (Nat.le_refl _)
  have hg : ∀ i, i < (H 0).length → (H 0 ++ List.replicate ((H ops.size).length - (H 0).length) Ob.dead)[i]? = (H 0)[i]? := fun i hi => List.getElem?_append_left hi
  have hstart : ∀ m, m ≤ ops.size → Con ops A (fun i => (Array.replicate ops.size false)[i]? = some true) m → ∀ i, i < (H 0).length → (H m)[i]? = (H 0)[i]? := by
    intro m hm hc
    refine tr.quiet (Nat.zero_le m) hm ?_
    rintro p x _ hpm hx ⟨hap, hkp⟩
    exact hno p ((hc p x hx hap hkp).mpr hpm)
  have R' : Rel (H 0 ++ List.replicate ((H ops.size).length - (H 0).length) Ob.dead) ρ w := by
    refine ⟨fun i L hi => by have := R.dom i L hi; simp; omega, ?_, ?_, ?_⟩
    · intro i L b hi hb
      rw [hg i (R.dom i L hi)] at hb
      exact R.arr i L b hi hb
    · intro i L b hi hb
      rw [hg i (R.dom i L hi)] at hb
      exact R.map i L b hi hb
    · intro i j Li Lj hi hj hne hw ha
      exact R.inj i j Li Lj hi hj hne ((writable_eq (hg i (R.dom _ _ hi))).mp hw) ((alive_eq (hg j (R.dom _ _ hj))).mp ha)
  have hbl : ∀ m, m ≤ ops.size → Le ρ (ρ.below (H m).length) := fun m hm i L hi => below_of (Nat.lt_of_lt_of_le (R.dom i L hi) (tr.len_mono (Nat.zero_le m) hm)) hi
  refine ⟨fun i p hp hS => absurd hS (hno i), fun i hS => absurd hS (hno i), R', by simp; omega, ?_, fun i p hp hS => absurd hS (hno i), ?_, fun i p hp hS => absurd hS (hno i), ?_, fun i L hi => .inl (R.dom i L hi),
    fun i p hp hS => absurd hS (hno i), ?_, TR.size, TR.defers⟩
  · intro m hm hc i L hi _
    rw [hg i (R.dom _ _ hi)]
    exact (hstart m hm hc i (R.dom _ _ hi)).symm
  · intro m hm hc i L hi _
    rw [hg i (R.dom _ _ hi)]
    exact (R.inScope hi).mono (hbl m hm)
  · intro k hk m hm hw
    have : ∀ q, q ≤ m → T q k = T 0 k := by
      intro q
      induction q with
      | zero => intro _; rfl
      | succ q ih =>
        intro h1
        have hq : ops[q]? = some ops[q] := by simp
        rw [tr.next q _ (Nat.zero_le _) hq]
        have hne : ops[q].dst ≠ some k := fun hd => hno q ((hw q _ hq hd).mpr (by omega))
        rw [← ih (by omega)]
        generalize hdq : ops[q].dst = dq at hne
        cases dq with
        | none => rfl
        | some d =>
          simp only [updO, upd]
          rw [if_neg (fun e => hne (by rw [e]))]
    rw [this m (Nat.le_refl _)]
    exact (TR.vals k hk).mono (hbl m hm)
  · have s := Step.refl (H 0) ρ w
    exact ⟨s.ext, s.new, by simp, s.os, s.tape, s.output, s.size, s.keep, fun i L hi ha hlt => ⟨i, L, hi, rfl, (alive_eq (hg i (R.dom _ _ hi))).mp ha, fun x => (writable_eq (hg i (R.dom _ _ hi))).mp x⟩⟩

end

/-- A region that draws its order. -/
theorem wpD_sound {ops : Array Oper} {N : Nat} {h0 : Heap} {ρ0 : Place} {w0 : World} {K : Tmps → Heap → Prop} {Q : Exit → Act → World → Prop} {id : Nat} {t : Tmps} {a : Act}
    (hmix : P.follows .mixedOrders = true) (hok : drawOK ops N = true) (hQ : ∀ t h ρ a w, K t h → TRel ρ N t a → Rel h ρ w → Step h0 ρ0 w0 h ρ w → Q .normal a w)
    (hw : wpD P ops K (List.range' 0 ops.size) [] t h) (TR : TRel ρ N t a) (R : Rel h ρ w) (S0 : Step h0 ρ0 w0 h ρ w) : (Code.region id ops true).wp P Q a w := by
  refine wp_region_any hmix ?_
  obtain ⟨T, H, V, A, e1, e2, hK, tr, _⟩ := wpD_trace ops.size 0 [] t h (by omega) hw
  subst e1 e2
  have hd := drawOK_spec hok
  refine any_sound tr hd ?_ _ _ _ ρ a _ (by simp) ?_ (Inv.init (w := w.drew) tr hd TR R.drew)
  · intro ρ' a' w' h1 h2 h3
    exact hQ _ _ _ _ _ hK h1 h2 ((S0.trans (Step.drew _ _ _)).trans h3)
  · simp

end Go.AM
