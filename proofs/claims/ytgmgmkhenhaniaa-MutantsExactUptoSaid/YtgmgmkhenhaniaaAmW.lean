/-
  What is walked has one outcome.
-/
import Derived.Test.YtgmgmkhenhaniaaAmV
set_option linter.unusedSimpArgs false
set_option linter.unusedVariables false
namespace Go.AM
variable {P : Program} {h h' : Heap} {ρ : Place} {w : World}

theorem wpC_mono : ∀ (c : Code) (K K' : Exit → Tmps → Heap → Prop), (∀ e t h, K e t h → K' e t h) → ∀ (t : Tmps) (h : Heap), wpC P c K t h → wpC P c K' t h := by
  intro c
  induction c with
  | skip => intro K K' hm t h hw; exact hm _ _ _ hw
  | label l => intro K K' hm t h hw; exact hm _ _ _ hw
  | exit id => intro K K' hm t h hw; exact hm _ _ _ hw
  | ret => intro K K' hm t h hw; exact hm _ _ _ hw
  | region id ops draw =>
    intro K K' hm t h hw
    cases draw with
    | true =>
      simp only [wpC, wpR] at hw ⊢
      split at hw
      · exact wpD_mono (fun t h hk => opK_mono (fun v h' hk => hm _ _ _ hk) hk) _ _ _ _ hw
      · exact wpD_mono (fun t h hk => hm _ _ _ hk) _ _ _ _ hw
    | false => exact wpL_mono (fun t h hk => hm _ _ _ hk) _ _ _ hw
  | seq a b iha ihb =>
    intro K K' hm t h hw
    refine iha _ _ ?_ t h hw
    intro e t h hk
    cases e with
    | normal => exact ihb K K' hm t h hk
    | _ => exact hm _ _ _ hk
  | cond c a b iha ihb =>
    intro K K' hm t h hw
    simp only [wpC] at hw ⊢
    split at hw
    · exact iha K K' hm t h hw
    · exact ihb K K' hm t h hw
    · exact hw
  | block id b ih =>
    intro K K' hm t h hw
    refine ih _ _ ?_ t h hw
    intro e t h hk
    cases e with
    | exit i =>
      simp only [inBlockK] at hk ⊢
      split
      · rename_i hz; rw [if_pos hz] at hk; exact hm _ _ _ hk
      · rename_i hz; rw [if_neg hz] at hk; exact hm _ _ _ hk
    | _ => exact hm _ _ _ hk
  | loop b ih =>
    intro K K' hm t h hw
    obtain ⟨I, μ, h1, h2⟩ := hw
    refine ⟨I, μ, h1, fun t h hI => ih _ _ ?_ t h (h2 t h hI)⟩
    intro e t' h' hk
    cases e with
    | normal => exact hk
    | _ => exact hm _ _ _ hk
  | rangeFunc _ _ _ _ _ _ => intro K K' hm t h hw; exact hw
  | scope _ _ => intro K K' hm t h hw; exact hw
  | goto _ => intro K K' hm t h hw; exact hw
  | refuse _ => intro K K' hm t h hw; exact hw

/-- An outcome. -/
def single (e : Exit) (t : Tmps) (h : Heap) : Exit → Tmps → Heap → Prop := fun e1 t1 h1 => e1 = e ∧ t1 = t ∧ h1 = h
/-- A loop, its first round walked by itself. -/
theorem wpC_loop {b : Code} {K : Exit → Tmps → Heap → Prop} {t t1 : Tmps} {h h1 : Heap} (hb : wpC P b (single .normal t1 h1) t h) (hl1 : wpC P (.loop b) K t1 h1) : wpC P (.loop b) K t h := by
  classical
  have key : ∀ t1 h1, wpC P (.loop b) K t1 h1 → ∃ n : Nat, ∃ (I : Tmps → Heap → Prop) (μ : Tmps → Heap → Nat), I t1 h1 ∧ μ t1 h1 = n ∧ ∀ t h, I t h → wpC P b (thenK (fun t' h' => I t' h' ∧ μ t' h' < μ t h) K) t h := by
    rintro t1 h1 ⟨I, μ, h1, h2⟩
    exact ⟨_, I, μ, h1, rfl, h2⟩
  let M : Tmps → Heap → Nat → Prop := fun t1 h1 n => ∃ (I : Tmps → Heap → Prop) (μ : Tmps → Heap → Nat), I t1 h1 ∧ μ t1 h1 = n ∧ ∀ t h, I t h → wpC P b (thenK (fun t' h' => I t' h' ∧ μ t' h' < μ t h) K) t h
  let μ' : Tmps → Heap → Nat := fun t1 h1 => leastOf (M t1 h1)
  have round : ∀ t1 h1, wpC P (.loop b) K t1 h1 → wpC P b (thenK (fun t' h' => wpC P (.loop b) K t' h' ∧ μ' t' h' < μ' t1 h1) K) t1 h1 := by
    intro t1 h1 hl
    obtain ⟨⟨I, μ, i1, i2, i3⟩, hmin⟩ := leastOf_spec (p := M t1 h1) (key t1 h1 hl)
    refine wpC_mono b _ _ ?_ t1 h1 (i3 t1 h1 i1)
    intro e t' h' hk
    cases e with
    | normal =>
      refine ⟨⟨I, μ, hk.1, i3⟩, ?_⟩
      have h3 := (leastOf_spec (p := M t' h') ⟨μ t' h', I, μ, hk.1, rfl, i3⟩).2 (μ t' h') ⟨I, μ, hk.1, rfl, i3⟩
      have h4 := hk.2
      show leastOf (M t' h') < leastOf (M t1 h1)
      omega
    | _ => exact hk
  by_cases hl : wpC P (.loop b) K t h
  · exact hl
  · refine ⟨fun t2 h2 => (t2 = t ∧ h2 = h) ∨ wpC P (.loop b) K t2 h2, fun t2 h2 => if t2 = t ∧ h2 = h then μ' t1 h1 + 1 else μ' t2 h2, .inl ⟨rfl, rfl⟩, ?_⟩
    have hne : ∀ t2 h2, wpC P (.loop b) K t2 h2 → ¬ (t2 = t ∧ h2 = h) := by
      rintro t2 h2 hl2 ⟨rfl, rfl⟩
      exact hl hl2
    intro t2 h2 hI
    by_cases e2 : t2 = t ∧ h2 = h
    · obtain ⟨rfl, rfl⟩ := e2
      refine wpC_mono b _ _ ?_ _ _ hb
      rintro e t' h' ⟨rfl, rfl, rfl⟩
      refine ⟨.inr hl1, ?_⟩
      show (if _ then _ else _) < (if _ then _ else _)
      rw [if_neg (hne _ _ hl1), if_pos ⟨rfl, rfl⟩]
      omega
    · have hl2 : wpC P (.loop b) K t2 h2 := hI.resolve_left e2
      refine wpC_mono b _ _ ?_ _ _ (round t2 h2 hl2)
      intro e t' h' hk
      cases e with
      | normal =>
        refine ⟨.inr hk.1, ?_⟩
        show (if _ then _ else _) < (if _ then _ else _)
        rw [if_neg (hne _ _ hk.1), if_neg e2]
        exact hk.2
      | _ => exact hk

/-! ### operations, regions -/
def one (v : Value) (h : Heap) : Value → Heap → Prop := fun v1 h1 => v1 = v ∧ h1 = h
theorem bK_det {t : Tmps} {c : Call} {K : Value → Heap → Prop} (hk : bK P t c h K) : ∃ v h', bK P t c h (one v h') ∧ K v h' := by
  obtain ⟨v, h', e, k⟩ := bK_ex hk
  exact ⟨v, h', bK_of e ⟨rfl, rfl⟩, k⟩
theorem bKL_det {t : Tmps} {c : Call} {K : Value → Heap → Prop} (hk : bKL P t c h K) : ∃ v h', bKL P t c h (one v h') ∧ K v h' := by
  obtain ⟨b, v, h', hb, e, k⟩ := bKL_ex hk
  refine ⟨v, h', ?_, k⟩
  unfold bValL at e
  split at e
  · rename_i r hr
    cases e
    exact bKL_of (bK_of (by unfold callVal; rw [hb]; exact hr) ⟨rfl, rfl⟩)
  · obtain ⟨v0, e1, e2⟩ := Option.map_eq_some_iff.mp e
    cases e2
    exact bKL_mk hb e1 ⟨rfl, rfl⟩
theorem bKL_mono {t : Tmps} {c : Call} {K K' : Value → Heap → Prop} (hm : ∀ v h, K v h → K' v h) (hk : bKL P t c h K) : bKL P t c h K' := by
  obtain ⟨b, v, h', hb, e, k⟩ := bKL_ex hk
  unfold bValL at e
  split at e
  · rename_i r hr
    cases e
    exact bKL_of (bK_of (by unfold callVal; rw [hb]; exact hr) (hm _ _ k))
  · obtain ⟨v0, e1, e2⟩ := Option.map_eq_some_iff.mp e
    cases e2
    exact bKL_mk hb e1 (hm _ _ k)
theorem opS_det {t : Tmps} {op : Op} {K : Value → Heap → Prop} (hk : opS P t op h K) : ∃ v h', opS P t op h (one v h') ∧ K v h' := by
  obtain ⟨v, h', e, k⟩ := opS_ex hk
  exact ⟨v, h', opS_of e ⟨rfl, rfl⟩, k⟩
theorem stepK_det {t : Tmps} {op : Op} {K : Value → Heap → Prop} (hk : stepK P t op h K) : ∃ v h', stepK P t op h (one v h') ∧ K v h' := by
  unfold stepK at hk ⊢
  split at hk
  · rename_i c
    cases hf : isFn c with
    | true =>
      rw [hf] at hk
      simp only [cond_true] at hk ⊢
      have := hk.out
      split at this
      · rename_i f args hfa
        obtain ⟨v, h', h1, h2⟩ := this
        exact ⟨v, h', ⟨by rw [hfa]; exact ⟨v, h', h1, rfl, rfl⟩⟩, h2⟩
      · exact this.elim
    | false => rw [hf] at hk; exact bKL_det hk
  · exact opS_det hk
theorem stepKD_det {t : Tmps} {op : Op} {K : Value → Heap → Prop} (hk : stepKD P t op h K) : ∃ v h', stepKD P t op h (one v h') ∧ K v h' := by
  unfold stepKD at hk ⊢
  split at hk
  · rename_i c
    cases hf : isFn c with
    | true =>
      rw [hf] at hk
      simp only [cond_true] at hk ⊢
      have := hk.out
      split at this
      · rename_i f args hfa
        obtain ⟨v, h', h1, h2⟩ := this
        exact ⟨v, h', ⟨by rw [hfa]; exact ⟨v, h', h1, rfl, rfl⟩⟩, h2⟩
      · exact this.elim
    | false => rw [hf] at hk; exact bK_det hk
  · exact opS_det hk
theorem stepK_mono {t : Tmps} {op : Op} {K K' : Value → Heap → Prop} (hm : ∀ v h, K v h → K' v h) (hk : stepK P t op h K) : stepK P t op h K' := by
  unfold stepK at hk ⊢
  split at hk
  · rename_i c
    cases hf : isFn c with
    | true =>
      rw [hf] at hk
      simp only [cond_true] at hk ⊢
      have := hk.out
      split at this
      · rename_i f args hfa
        obtain ⟨v, h', h1, h2⟩ := this
        exact ⟨by rw [hfa]; exact ⟨v, h', h1, hm _ _ h2⟩⟩
      · exact this.elim
    | false => rw [hf] at hk; exact bKL_mono hm hk
  · obtain ⟨v, h', e, k⟩ := opS_ex hk; exact opS_of e (hm _ _ k)
theorem stepKD_mono {t : Tmps} {op : Op} {K K' : Value → Heap → Prop} (hm : ∀ v h, K v h → K' v h) (hk : stepKD P t op h K) : stepKD P t op h K' := by
  unfold stepKD at hk ⊢
  split at hk
  · rename_i c
    cases hf : isFn c with
    | true =>
      rw [hf] at hk
      simp only [cond_true] at hk ⊢
      have := hk.out
      split at this
      · rename_i f args hfa
        obtain ⟨v, h', h1, h2⟩ := this
        exact ⟨by rw [hfa]; exact ⟨v, h', h1, hm _ _ h2⟩⟩
      · exact this.elim
    | false => rw [hf] at hk; obtain ⟨v, h', e, k⟩ := bK_ex hk; exact bK_of e (hm _ _ k)
  · obtain ⟨v, h', e, k⟩ := opS_ex hk; exact opS_of e (hm _ _ k)
def oneT (t : Tmps) (h : Heap) : Tmps → Heap → Prop := fun t1 h1 => t1 = t ∧ h1 = h
theorem wpS_det {ops : Array Oper} {M : List Nat} {K : Tmps → Heap → Prop} : ∀ (l : List Oper) (t : Tmps) (h : Heap), (∀ o ∈ l, ∀ k, o.dst = some k → k ∈ M) → wpS P ops K l t h → ∃ t' h', Same M t t' ∧ wpS P ops (oneT t' h') l t h ∧ K t' h'
  | [], t, h, _, hw => ⟨t, h, Same.refl _ _, ⟨rfl, rfl⟩, hw⟩
  | o :: l, t, h, hd, hw => by
    have hd' : ∀ o' ∈ l, ∀ k, o'.dst = some k → k ∈ M := fun o' ho' => hd o' (by simp [ho'])
    have hput : ∀ v, Same M t (updO t o.dst v) := fun v => same_upd (Same.refl _ _) (fun k hk => hd o (by simp) k hk) v
    simp only [wpS] at hw ⊢
    split at hw
    · obtain ⟨v, h1, e1, k1⟩ := stepK_det hw
      obtain ⟨t', h', s, e2, k2⟩ := wpS_det l _ _ hd' k1
      exact ⟨t', h', (hput v).trans s, stepK_mono (fun v2 h2 ⟨q1, q2⟩ => by subst q1 q2; exact e2) e1, k2⟩
    · rename_i j z hg
      have hw := hw.out
      split at hw
      · rename_i hz
        obtain ⟨v, h1, e1, k1⟩ := stepK_det hw
        obtain ⟨t', h', s, e2, k2⟩ := wpS_det l _ _ hd' k1
        exact ⟨t', h', (hput v).trans s, ⟨by rw [if_pos hz]; exact stepK_mono (fun v2 h2 ⟨q1, q2⟩ => by subst q1 q2; exact e2) e1⟩, k2⟩
      · rename_i hz
        obtain ⟨t', h', s, e2, k2⟩ := wpS_det l _ _ hd' hw
        exact ⟨t', h', (hput _).trans s, ⟨by rw [if_neg hz]; exact e2⟩, k2⟩
theorem sideK_map {ops : Array Oper} {i : Nat} {op : Op} {pend : List Pend} {v : Value} {r r' : Prop} (hm : r → r') (hs : sideK P ops i op pend h v h' r) : sideK P ops i op pend h v h' r' := by
  unfold sideK at *
  split at hs
  · split at hs
    · rename_i hc; rw [if_pos hc]; exact ⟨hs.1, hm hs.2⟩
    · rename_i hc; rw [if_neg hc]; exact ⟨hs.1, hm hs.2⟩
  · exact ⟨hs.1, hm hs.2⟩
  · exact hm hs
theorem wpDS_det {ops : Array Oper} {M : List Nat} {K : Tmps → Heap → Prop} : ∀ (l : List Oper) (i : Nat) (pend : List Pend) (t : Tmps) (h : Heap), (∀ o ∈ l, ∀ k, o.dst = some k → k ∈ M) → wpDS P ops K l i pend t h → ∃ t' h', Same M t t' ∧ wpDS P ops (oneT t' h') l i pend t h ∧ K t' h'
  | [], i, pend, t, h, _, hw => ⟨t, h, Same.refl _ _, ⟨rfl, rfl⟩, hw⟩
  | o :: l, i, pend, t, h, hd, hw => by
    have hd' : ∀ o' ∈ l, ∀ k, o'.dst = some k → k ∈ M := fun o' ho' => hd o' (by simp [ho'])
    have hput : ∀ v, Same M t (updO t o.dst v) := fun v => same_upd (Same.refl _ _) (fun k hk => hd o (by simp) k hk) v
    have go : ∀ (pd : Value → List Pend), stepKD P t o.op h (fun v h' => sideK P ops i o.op pend h v h' (wpDS P ops K l (i + 1) (pd v) (updO t o.dst v) h')) →
        ∃ t' h', Same M t t' ∧ stepKD P t o.op h (fun v h1 => sideK P ops i o.op pend h v h1 (wpDS P ops (oneT t' h') l (i + 1) (pd v) (updO t o.dst v) h1)) ∧ K t' h' := by
      intro pd hw
      obtain ⟨v, h1, e1, k1⟩ := stepKD_det hw
      obtain ⟨t', h', s, e2, k2⟩ := wpDS_det l (i + 1) (pd v) _ _ hd' (sideK_of k1).2
      exact ⟨t', h', (hput v).trans s, stepKD_mono (fun v2 h2 ⟨q1, q2⟩ => by subst q1 q2; exact sideK_map (fun _ => e2) k1) e1, k2⟩
    simp only [wpDS] at hw ⊢
    split at hw
    · exact go (fun v => pendS (later l) i o.op t v pend) hw
    · rename_i j z hg
      split at hw
      · rename_i hl
        have hw := hw.out
        split at hw
        · rename_i hz
          obtain ⟨t', h', s, e, k⟩ := go (fun v => pendS (later l) i o.op t v pend) hw
          refine ⟨t', h', s, ⟨?_⟩, k⟩
          rw [if_pos hz]; exact e
        · rename_i hz
          obtain ⟨t', h', s, e2, k2⟩ := wpDS_det l (i + 1) pend _ _ hd' hw
          refine ⟨t', h', (hput _).trans s, ⟨?_⟩, k2⟩
          rw [if_neg hz]; exact e2
      · rename_i hl
        have hw := hw.out
        split at hw
        · rename_i hz
          obtain ⟨t', h', s, e, k⟩ := go (fun _ => pend) hw
          refine ⟨t', h', s, ⟨?_⟩, k⟩
          rw [if_pos hz]; exact e
        · rename_i hz
          obtain ⟨t', h', s, e2, k2⟩ := wpDS_det l (i + 1) pend _ _ hd' hw
          refine ⟨t', h', (hput _).trans s, ⟨?_⟩, k2⟩
          rw [if_neg hz]; exact e2


/-! ### code -/
theorem mods_pop {ops : Array Oper} : ∀ k, k ∈ modsOps ops.pop → k ∈ modsOps ops := by
  intro k hk
  unfold modsOps at hk ⊢
  rw [List.mem_filterMap] at hk ⊢
  obtain ⟨x, hx, hd⟩ := hk
  refine ⟨x, ?_, hd⟩
  rw [Array.toList_pop] at hx
  exact (List.dropLast_sublist _).subset hx
theorem mods_dst {ops : Array Oper} : ∀ o ∈ ops.toList, ∀ k, o.dst = some k → k ∈ modsOps ops := by
  intro o ho k hk
  unfold modsOps
  exact List.mem_filterMap.mpr ⟨o, ho, hk⟩
theorem wpK_det (lv : Nat → List Nat) : ∀ (c : Code) (K : Exit → Tmps → Heap → Prop) (t : Tmps) (h : Heap), gokC c = true → maskOK lv c = true → wpK P lv c K t h →
    ∃ e t' h', Same (mods c) t t' ∧ wpC P c (single e t' h') t h ∧ K e t' h' := by
  intro c
  induction c with
  | skip => intro K t h _ _ hw; exact ⟨.normal, t, h, Same.refl _ _, ⟨rfl, rfl, rfl⟩, hw⟩
  | label l => intro K t h _ _ hw; exact ⟨.normal, t, h, Same.refl _ _, ⟨rfl, rfl, rfl⟩, hw⟩
  | exit id => intro K t h _ _ hw; exact ⟨.exit id, t, h, Same.refl _ _, ⟨rfl, rfl, rfl⟩, hw⟩
  | ret => intro K t h _ _ hw; exact ⟨.ret, t, h, Same.refl _ _, ⟨rfl, rfl, rfl⟩, hw⟩
  | region id ops draw =>
    intro K t h hg hm hw
    cases draw with
    | true =>
      simp only [gokC] at hg
      simp only [wpK] at hw
      split at hw
      · rename_i os o hcut
        rw [hcut] at hg
        obtain ⟨rfl, n, hsz, hn, _⟩ := cutLast_spec hcut
        obtain ⟨t1, h1, s1, e1, k1⟩ := wpDS_det (M := modsOps ops) ops.pop.toList 0 [] t h (fun o ho k hk => mods_pop k (mods_dst o ho k hk)) hw
        obtain ⟨v, h2, e2, k2⟩ := stepK_det k1
        refine ⟨.normal, updO t1 o.dst v, h2, s1.trans (same_upd (Same.refl _ _) (fun k hk => mem_mods hn hk) v), ?_, k2⟩
        simp only [wpC, wpR]
        rw [hcut]
        have := wpDS_sound (P := P) hg ops.pop.size 0 [] [] t h (by omega) (fun _ => rfl) (by simpa using e1)
        refine wpD_mono ?_ _ _ _ _ this
        rintro t3 h3 ⟨rfl, rfl⟩
        refine opK_mono ?_ (opK_of e2)
        rintro v4 h4 ⟨rfl, rfl⟩
        exact ⟨rfl, rfl, rfl⟩
      · rename_i hcut
        rw [hcut] at hg
        obtain ⟨t1, h1, s1, e1, k1⟩ := wpDS_det (M := modsOps ops) ops.toList 0 [] t h mods_dst hw
        refine ⟨.normal, t1, h1, s1, ?_, k1⟩
        simp only [wpC, wpR]
        rw [hcut]
        have := wpDS_sound (P := P) hg ops.size 0 [] [] t h (by omega) (fun _ => rfl) (by simpa using e1)
        exact wpD_mono (fun t3 h3 ⟨q1, q2⟩ => ⟨rfl, q1, q2⟩) _ _ _ _ this
    | false =>
      simp only [wpK] at hw
      obtain ⟨t1, h1, s1, e1, k1⟩ := wpS_det (M := modsOps ops) ops.toList t h mods_dst hw
      refine ⟨.normal, t1, h1, s1, ?_, k1⟩
      have := wpS_sound (P := P) hg ops.size 0 t h (by omega) (by simpa using e1)
      simp only [wpC]
      rw [List.range_eq_range']
      exact wpL_mono (fun t3 h3 ⟨q1, q2⟩ => ⟨rfl, q1, q2⟩) _ _ _ this
  | seq a b iha ihb =>
    intro K t h hg hm hw
    simp only [gokC, Bool.and_eq_true] at hg
    simp only [maskOK, Bool.and_eq_true] at hm
    have step : ∃ e t1 h1, Same (mods a) t t1 ∧ wpC P a (single e t1 h1) t h ∧ thenK (wpK P lv b K) K e t1 h1 := by
      have hm2 := hm.2
      simp only [wpK] at hw
      split at hw
      · exact iha _ t h hg.1 hm.1.1 hw
      · rename_i M L hl
        rw [hl] at hm2
        obtain ⟨e, t1, h1, s1, e1, k1⟩ := iha _ t h hg.1 hm.1.1 hw.out
        refine ⟨e, t1, h1, s1, e1, ?_⟩
        cases e with
        | normal =>
          have := k1 t1
          rwa [mixN_self s1 hm2] at this
        | _ => exact k1
    obtain ⟨e, t1, h1, s1, e1, k1⟩ := step
    cases e with
    | normal =>
      obtain ⟨e2, t2, h2, s2, e3, k2⟩ := ihb K t1 h1 hg.2 hm.1.2 k1
      refine ⟨e2, t2, h2, (same_left s1).trans (same_right s2), ?_, k2⟩
      refine wpC_mono a _ _ ?_ t h e1
      rintro e t' h' ⟨rfl, rfl, rfl⟩
      exact e3
    | _ =>
      refine ⟨_, t1, h1, same_left s1, ?_, k1⟩
      refine wpC_mono a _ _ ?_ t h e1
      rintro e t' h' ⟨rfl, rfl, rfl⟩
      exact ⟨rfl, rfl, rfl⟩
  | cond c a b iha ihb =>
    intro K t h hg hm hw
    simp only [gokC, Bool.and_eq_true] at hg
    simp only [maskOK, Bool.and_eq_true] at hm
    simp only [wpK] at hw
    have hw := hw.out
    simp only [wpC]
    split at hw
    · rename_i he
      obtain ⟨e, t1, h1, s1, e1, k1⟩ := iha K t h hg.1 hm.1 hw
      refine ⟨e, t1, h1, same_left s1, ?_, k1⟩
      rw [he]; exact e1
    · rename_i he
      obtain ⟨e, t1, h1, s1, e1, k1⟩ := ihb K t h hg.2 hm.2 hw
      refine ⟨e, t1, h1, same_right s1, ?_, k1⟩
      rw [he]; exact e1
    · exact hw.elim
  | block id b ih =>
    intro K t h hg hm hw
    obtain ⟨e, t1, h1, s1, e1, k1⟩ := ih _ t h hg hm hw
    by_cases he : e = .exit id
    · subst he
      simp only [inBlockK, if_true] at k1
      refine ⟨.normal, t1, h1, s1, ?_, k1⟩
      refine wpC_mono b _ _ ?_ t h e1
      rintro e t' h' ⟨rfl, rfl, rfl⟩
      simp only [inBlockK, if_true]
      exact ⟨rfl, rfl, rfl⟩
    · refine ⟨e, t1, h1, s1, ?_, ?_⟩
      · refine wpC_mono b _ _ ?_ t h e1
        rintro e' t' h' ⟨rfl, rfl, rfl⟩
        cases e' with
        | exit i =>
          simp only [inBlockK]
          rw [if_neg (fun q => he (by rw [q]))]
          exact ⟨rfl, rfl, rfl⟩
        | _ => exact ⟨rfl, rfl, rfl⟩
      · cases e with
        | exit i =>
          simp only [inBlockK] at k1
          rwa [if_neg (fun q => he (by rw [q]))] at k1
        | _ => exact k1
  | loop b ih =>
    intro K t h hg hm hw
    simp only [maskOK, Bool.and_eq_true] at hm
    have hm2 := hm.2
    simp only [wpK] at hw
    split at hw
    · exact hw.elim
    rename_i M L hl
    rw [hl] at hm2
    obtain ⟨I, μ, h1, h2⟩ := hw
    have all : ∀ (n : Nat) (t' : Tmps) (h' : Heap), Same (mods b) t t' → I (L.map t') h' → μ (L.map t') h' = n → ∃ e t2 h2', Same (mods b) t t2 ∧ wpC P (.loop b) (single e t2 h2') t' h' ∧ K e t2 h2' := by
      intro n
      induction n using Nat.strongRecOn with
      | _ n ihn =>
        intro t' h' hs hI hμ
        have h3 := forallL_all _ _ (h2 h' t') (L.map t') (by simp) hI
        rw [mixJ_self (L := L) hs hm2] at h3
        obtain ⟨e, t1, g1, s1, e1, k1⟩ := ih _ t' h' hg hm.1 h3
        cases e with
        | normal =>
          obtain ⟨e2, t2, g2, s2, e3, k2⟩ := ihn _ (by rw [← hμ]; exact k1.2) t1 g1 (hs.trans s1) k1.1 rfl
          exact ⟨e2, t2, g2, s2, wpC_loop e1 e3, k2⟩
        | _ =>
          refine ⟨_, t1, g1, hs.trans s1, ⟨fun t4 h4 => t4 = t' ∧ h4 = h', fun _ _ => 0, ⟨rfl, rfl⟩, ?_⟩, k1⟩
          rintro t4 h4 ⟨rfl, rfl⟩
          refine wpC_mono b _ _ ?_ _ _ e1
          rintro e t5 h5 ⟨rfl, rfl, rfl⟩
          exact ⟨rfl, rfl, rfl⟩
    exact all _ t h (Same.refl _ _) h1 rfl
  | rangeFunc _ _ _ _ _ _ => intro K t h _ _ hw; exact hw.elim
  | scope _ _ => intro K t h _ _ hw; exact hw.elim
  | goto _ => intro K t h _ _ hw; exact hw.elim
  | refuse _ => intro K t h _ _ hw; exact hw.elim

/-! ### a call with one outcome -/
def DetP (P : Program) (f : FuncId) (args : List Value) (h : Heap) (R : Value → Heap → Prop) : Prop := ∃ v h', Runs P f args h v h' ∧ R v h'
theorem DetP.toP {f : FuncId} {args : List Value} {R : Value → Heap → Prop} (d : DetP P f args h R) : RunsP P f args h R := by
  obtain ⟨v, h', h1, h2⟩ := d
  exact h1.mono fun x y ⟨e1, e2⟩ => by subst e1 e2; exact h2
theorem DetP.runs {f : FuncId} {args : List Value} {v : Value} (d : DetP P f args h fun x y => x = v ∧ y = h') : Runs P f args h v h' := by
  obtain ⟨v1, h1, r, rfl, rfl⟩ := d
  exact r
theorem DetP.mono {f : FuncId} {args : List Value} {R R' : Value → Heap → Prop} (d : DetP P f args h R) (hm : ∀ v h', R v h' → R' v h') : DetP P f args h R' := by
  obtain ⟨v, h', h1, h2⟩ := d
  exact ⟨v, h', h1, hm _ _ h2⟩
theorem DetP.of_code {f : FuncId} {fn : Func} {c : Code} {rs : List ResultVar} {n : Nat} {args : List Value} {R : Value → Heap → Prop} (hf : P.funcs[f]? = some fn) (hb : fn.body = some c) (hrs : fn.results.toList = rs)
    (lv : Nat → List Nat) (hok : lkOK P lv fn n c f = true) (hn : args.length = n) (hw : wpK P lv c (endK P rs R) (argT args) h) : DetP P f args h R := by
  subst hrs hn
  unfold lkOK at hok
  rw [Bool.and_eq_true] at hok
  have hok2 := (Bool.and_eq_true _ _).mp hok.2
  obtain ⟨e, t', h', _, e1, k1⟩ := wpK_det lv c _ _ _ hok2.1 hok2.2 hw
  have fin : ∀ (he : e = .normal ∨ e = .ret), endK P fn.results.toList R e t' h' → ∃ vs, resVals P t' h' fn.results.toList = some vs ∧ R (resV vs) h' := by
    intro he hk
    have hk2 : retV (fn.results.toList.map (resOf P t' h')) R h' := by rcases he with rfl | rfl <;> exact hk
    unfold retV at hk2
    rw [← resVals_eq] at hk2
    split at hk2
    · rename_i vs hvs; exact ⟨vs, hvs, hk2⟩
    · exact hk2.elim
  have he : e = .normal ∨ e = .ret := by cases e <;> first | exact .inl rfl | exact .inr rfl | exact k1.elim
  obtain ⟨vs, hvs, hR⟩ := fin he k1
  refine ⟨resV vs, h', RunsP.of_body hf hb hok.1 (wpC_mono c _ _ ?_ _ _ e1), hR⟩
  rintro e2 t2 h2 ⟨rfl, rfl, rfl⟩
  rcases he with rfl | rfl
  · simp only [retK]; rw [hvs]; first | exact ⟨rfl, rfl⟩ | exact ⟨rfl, trivial⟩ | trivial
  · simp only [retK]; rw [hvs]; first | exact ⟨rfl, rfl⟩ | exact ⟨rfl, trivial⟩ | trivial

end Go.AM
