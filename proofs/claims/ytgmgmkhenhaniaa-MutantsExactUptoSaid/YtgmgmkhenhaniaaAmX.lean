/-
  Contracts: slices told by their cells, and steps that use them.
-/
import Derived.Test.YtgmgmkhenhaniaaAmW
set_option linter.unusedSimpArgs false
set_option linter.unusedVariables false
namespace Go.AM
variable {P : Program} {h h' h0 h1 h2 : Heap} {ρ : Place} {w : World} {K : Value → Heap → Prop} {v x : Value}

/-! ### what stays -/
/-- All that is there stays. -/
def Sub (h h' : Heap) : Prop := h.length ≤ h'.length ∧ ∀ (i : Nat) (a : Arr), h[i]? = some (.arr a) → h'[i]? = some (.arr a)
theorem Sub.refl (h : Heap) : Sub h h := ⟨Nat.le_refl _, fun _ _ e => e⟩
theorem Sub.trans (a : Sub h h1) (b : Sub h1 h2) : Sub h h2 := ⟨Nat.le_trans a.1 b.1, fun i x e => b.2 i x (a.2 i x e)⟩
theorem Sub.of_pre (p : h <+: h') : Sub h h' := by
  obtain ⟨t, rfl⟩ := p
  refine ⟨by simp, fun i a e => ?_⟩
  rw [List.getElem?_append_left (List.getElem?_eq_some_iff.mp e).1]; exact e
theorem pre_new (h : Heap) (cs : List Value) (n : Nat) : h <+: newArr h cs n := ⟨_, rfl⟩
theorem newArr_get (h : Heap) (cs : List Value) (n : Nat) : (newArr h cs n)[h.length]? = some (.arr ⟨cs, n, false⟩) := by simp [newArr]
/-! ### slices -/
/-- A slice of n elements, each of sz cells; all these cells. -/
def Seg (sz : Nat) (h : Heap) (v : Value) (n : Nat) (cs : List Value) : Prop :=
  (cs.length = n * sz ∧ n ≤ 2 ^ 50) ∧ ((∃ (o : Option (Nat × Nat)) (c : Nat), v = .slice (o.map fun p => ⟨p.1, p.2, none⟩) 0 c ∧ (∀ p, o = some p → p.1 < h.length) ∧ n = 0) ∨ ∃ i o c a, v = .slice (some ⟨i, o, none⟩) n c ∧ h[i]? = some (.arr a) ∧ a.esz = sz ∧ o + n * sz ≤ a.cells.length ∧ (a.cells.drop o).take (n * sz) = cs)
theorem Seg.mono {sz n : Nat} {cs : List Value} (s : Seg sz h v n cs) (hs : Sub h h') : Seg sz h' v n cs := by
  obtain ⟨l, s⟩ := s
  refine ⟨l, s.imp ?_ ?_⟩
  · rintro ⟨o, c, e1, e2, e3⟩
    exact ⟨o, c, e1, fun p hp => Nat.lt_of_lt_of_le (e2 p hp) hs.1, e3⟩
  · rintro ⟨i, o, c, a, e1, e2, e3⟩
    exact ⟨i, o, c, a, e1, hs.2 i a e2, e3⟩
theorem Seg.nil (sz : Nat) (h : Heap) : Seg sz h (.slice none 0 0) 0 [] := ⟨⟨by simp, by omega⟩, .inl ⟨none, 0, rfl, fun p hp => (by cases hp), rfl⟩⟩
theorem Seg.new {sz n : Nat} {cs : List Value} (c : Nat) (hl : cs.length = n * sz) (hb : n ≤ 2 ^ 50) : Seg sz (newArr h cs sz) (.slice (some ⟨h.length, 0, none⟩) n c) n cs :=
  ⟨⟨hl, hb⟩, .inr ⟨h.length, 0, c, ⟨cs, sz, false⟩, rfl, newArr_get _ _ _, rfl, by simp [hl], by simp [← hl]⟩⟩

/-- Types of slices: of what, of how many cells, of how many bytes. -/
def sliceT (P : Program) (t e sz by_ : Nat) : Bool :=
  match P.underlying t with
  | some (.slice e') => Nat.beq e e' && (match szOf P e, zeroOf P e, bytesOf' P e with | some s, some z, some b => Nat.beq s sz && Nat.beq b by_ && z.cells.all flatV && Nat.beq z.cells.size sz && Nat.ble 1 sz | _, _, _ => false)
  | _ => false
theorem sliceT_of {t e sz by_ : Nat} (hh : sliceT P t e sz by_ = true) : P.underlying t = some (.slice e) ∧ szOf P e = some sz ∧ ∃ z, zeroOf P e = some z ∧ bytesOf' P e = some by_ ∧ z.cells.all flatV = true ∧ z.cells.size = sz ∧ 0 < sz := by
  unfold sliceT at hh
  split at hh
  · rename_i e' hu
    simp only [Bool.and_eq_true] at hh
    obtain ⟨h1, h2⟩ := hh
    have := Nat.eq_of_beq_eq_true h1
    subst this
    split at h2
    · rename_i s z b hs hz hb
      simp only [Bool.and_eq_true] at h2
      obtain ⟨⟨⟨⟨g1, g2⟩, g3⟩, g4⟩, g5⟩ := h2
      have e1 := Nat.eq_of_beq_eq_true g1
      have e2 := Nat.eq_of_beq_eq_true g2
      subst e1 e2
      exact ⟨hu, hs, z, hz, hb, g3, Nat.eq_of_beq_eq_true g4, Nat.le_of_ble_eq_true g5⟩
    · cases h2
  · cases hh

/-! ### steps -/
theorem mv_i (hk : K v h) : mvK v h K := ⟨hk⟩
theorem vk_i {o : Option Value} (e : o = some v) (hk : K v h) : vK o h K := ⟨by rw [e]; exact hk⟩
theorem ok_i {o : Option (Value × Heap)} (e : o = some (v, h')) (hk : K v h') : okK o K := ⟨by rw [e]; exact hk⟩
theorem call_i {f : FuncId} {args : List Value} {R : Value → Heap → Prop} (hr : DetP P f args h R) (hk : ∀ v h', R v h' → K v h') : callK P (some (f, args)) h K := by
  obtain ⟨v, h', h1, h2⟩ := hr
  exact ⟨⟨v, h', h1, hk _ _ h2⟩⟩
theorem call_r {f : FuncId} {args : List Value} (hr : Runs P f args h v h') (hk : K v h') : callK P (some (f, args)) h K := ⟨⟨v, h', hr, hk⟩⟩
theorem calld_r {f : FuncId} {args : List Value} (hr : Runs P f args h v h') (hk : K v h') : callKD P (some (f, args)) h K := ⟨⟨v, h', hr, hk⟩⟩
theorem cnd_t {A B : Prop} (hk : A) : cnd (.bool true) A B := ⟨hk⟩
theorem cnd_f {A B : Prop} (hk : B) : cnd (.bool false) A B := ⟨hk⟩
theorem cnd_b {A B : Prop} {b : Bool} (h1 : b = true → A) (h2 : b = false → B) : cnd (.bool b) A B := by
  cases b
  · exact ⟨h2 rfl⟩
  · exact ⟨h1 rfl⟩
theorem gd_tt {A : (Value → Heap → Prop) → Prop} (hk : A K) : gdK (.bool true) true A K h := ⟨hk⟩
theorem gd_ff {A : (Value → Heap → Prop) → Prop} (hk : A K) : gdK (.bool false) false A K h := ⟨hk⟩
theorem gd_tf {A : (Value → Heap → Prop) → Prop} (hk : K undef h) : gdK (.bool true) false A K h := ⟨hk⟩
theorem gd_ft {A : (Value → Heap → Prop) → Prop} (hk : K undef h) : gdK (.bool false) true A K h := ⟨hk⟩
theorem gd_u {z : Bool} {A : (Value → Heap → Prop) → Prop} (hk : K undef h) : gdK undef z A K h := ⟨by rw [if_neg (by simp [yldV, undef])]; exact hk⟩
theorem seq_i {A : (List Value → Heap → Prop) → Prop} {k : List Value → Heap → Prop} (hk : A k) : seqK A k := ⟨hk⟩
theorem seq_J {A : (List Value → Heap → Prop) → Prop} {k : List Value → Heap → Prop} (J : List Value → Heap → Prop) (h2 : ∀ xs h, J xs h → k xs h) (h1 : ∀ k', (∀ xs h, J xs h → k' xs h) → A k') : seqK A k := ⟨h1 k h2⟩
theorem pick_t {a b : Value} (hk : K a h) : vK (pickV (.bool true) a b) h K := ⟨hk⟩
theorem pick_f {a b : Value} (hk : K b h) : vK (pickV (.bool false) a b) h K := ⟨hk⟩
theorem not_i {b : Bool} (hk : K (.bool !b) h) : vK (aUn .not (.bool b)) h K := ⟨hk⟩
theorem not_t (hk : K (.bool false) h) : vK (aUn .not (.bool true)) h K := ⟨hk⟩
theorem not_f (hk : K (.bool true) h) : vK (aUn .not (.bool false)) h K := ⟨hk⟩
theorem ex2_0 {a b : Value} (hk : K a h) : vK (aExtract (.tuple #[a, b]) 0) h K := ⟨hk⟩
theorem ex2_1 {a b : Value} (hk : K b h) : vK (aExtract (.tuple #[a, b]) 1) h K := ⟨hk⟩
theorem ex3_0 {a b c : Value} (hk : K a h) : vK (aExtract (.tuple #[a, b, c]) 0) h K := ⟨hk⟩
theorem ex3_1 {a b c : Value} (hk : K b h) : vK (aExtract (.tuple #[a, b, c]) 1) h K := ⟨hk⟩
theorem ex3_2 {a b c : Value} (hk : K c h) : vK (aExtract (.tuple #[a, b, c]) 2) h K := ⟨hk⟩
theorem nil_i {a : Addr} (hk : K (.pointer (some a)) h) : vK (nilV (.pointer (some a))) h K := ⟨hk⟩
theorem ret0 {R : Value → Heap → Prop} (hk : R (.tuple #[]) h) : retV [] R h := hk
theorem ret1 {R : Value → Heap → Prop} {a : Value} (hk : R a h) : retV [some a] R h := hk
theorem ret2 {R : Value → Heap → Prop} {a b : Value} (hk : R (.tuple #[a, b]) h) : retV [some a, some b] R h := hk
theorem ret3 {R : Value → Heap → Prop} {a b c : Value} (hk : R (.tuple #[a, b, c]) h) : retV [some a, some b, some c] R h := hk
/-! comparisons: they split -/
theorem lss_i {k : IntKind} {t : TypeId} {a b : Int} (h1 : a < b → K (.bool true) h) (h2 : ¬ a < b → K (.bool false) h) : vK (aBin P .lss t (.int k a) (.int k b)) h K := by
  refine vk_i (v := .bool (decide (a < b))) (by simp [aBin, aInt]) ?_
  by_cases e : a < b
  · rw [decide_eq_true e]; exact h1 e
  · rw [decide_eq_false e]; exact h2 e
theorem leq_i {k : IntKind} {t : TypeId} {a b : Int} (h1 : a ≤ b → K (.bool true) h) (h2 : ¬ a ≤ b → K (.bool false) h) : vK (aBin P .leq t (.int k a) (.int k b)) h K := by
  refine vk_i (v := .bool (decide (a ≤ b))) (by simp [aBin, aInt]) ?_
  by_cases e : a ≤ b
  · rw [decide_eq_true e]; exact h1 e
  · rw [decide_eq_false e]; exact h2 e
theorem gtr_i {k : IntKind} {t : TypeId} {a b : Int} (h1 : b < a → K (.bool true) h) (h2 : ¬ b < a → K (.bool false) h) : vK (aBin P .gtr t (.int k a) (.int k b)) h K := by
  refine vk_i (v := .bool (decide (b < a))) (by simp [aBin, aInt]) ?_
  by_cases e : b < a
  · rw [decide_eq_true e]; exact h1 e
  · rw [decide_eq_false e]; exact h2 e
theorem geq_i {k : IntKind} {t : TypeId} {a b : Int} (h1 : b ≤ a → K (.bool true) h) (h2 : ¬ b ≤ a → K (.bool false) h) : vK (aBin P .geq t (.int k a) (.int k b)) h K := by
  refine vk_i (v := .bool (decide (b ≤ a))) (by simp [aBin, aInt]) ?_
  by_cases e : b ≤ a
  · rw [decide_eq_true e]; exact h1 e
  · rw [decide_eq_false e]; exact h2 e
theorem eql_i {k : IntKind} {t : TypeId} {a b : Int} (h1 : a = b → K (.bool true) h) (h2 : ¬ a = b → K (.bool false) h) : vK (aBin P .eql t (.int k a) (.int k b)) h K := by
  refine vk_i (v := .bool (a == b)) (by simp [aBin, aInt]) ?_
  by_cases e : a = b
  · rw [beq_iff_eq.mpr e]; exact h1 e
  · rw [beq_eq_false_iff_ne.mpr e]; exact h2 e
theorem neq_i {k : IntKind} {t : TypeId} {a b : Int} (h1 : a = b → K (.bool false) h) (h2 : ¬ a = b → K (.bool true) h) : vK (aBin P .neq t (.int k a) (.int k b)) h K := by
  refine vk_i (v := .bool (a != b)) (by simp [aBin, aInt]) ?_
  by_cases e : a = b
  · subst e; rw [bne_self_eq_false]; exact h1 rfl
  · rw [bne_iff_ne.mpr e]; exact h2 e
/-! comparisons that do not split -/
/-- A number of 64 bits. -/
def R64 (x : Int) : Prop := -2 ^ 63 ≤ x ∧ x < 2 ^ 63
theorem wrap_i64 {x : Int} (hx : R64 x) : IntKind.i64.wrap x = x := by
  obtain ⟨h1, h2⟩ := hx
  simp [IntKind.wrap, IntKind.signed, IntKind.bits]
  omega
theorem add_i {t : TypeId} {a b : Int} (hx : R64 (a + b)) (hk : K (.int .i64 (a + b)) h) : vK (aBin P .add t (.int .i64 a) (.int .i64 b)) h K :=
  vk_i (v := .int .i64 (a + b)) (by simp [aBin, aInt, wrap_i64 hx]) hk
theorem sub_i {t : TypeId} {a b : Int} (hx : R64 (a - b)) (hk : K (.int .i64 (a - b)) h) : vK (aBin P .sub t (.int .i64 a) (.int .i64 b)) h K :=
  vk_i (v := .int .i64 (a - b)) (by simp [aBin, aInt, wrap_i64 hx]) hk
theorem inc_i {t : TypeId} {k : Nat} (hx : k + 1 < 2 ^ 63) (hk : K (.int .i64 ((k + 1 : Nat) : Int)) h) : vK (aBin P .add t (.int .i64 k) (.int .i64 1)) h K :=
  add_i ⟨by omega, by omega⟩ (by simpa using hk)

/-! ### looking at slices -/
theorem len_i {t e sz by_ n : Nat} {cs : List Value} (ht : sliceT P t e sz by_ = true) (s : Seg sz h1 x n cs) (hk : K (.int .i64 (n : Int)) h) : vK (aLen P t x) h K := by
  obtain ⟨hu, _⟩ := sliceT_of ht
  refine vk_i (v := .int .i64 (n : Int)) ?_ hk
  unfold aLen
  rw [hu]
  rcases s.2 with ⟨_, _, rfl, _, rfl⟩ | ⟨i, o, c, a, rfl, _⟩ <;> rfl
/-- Where an element of a slice lies. -/
def elt (sz : Nat) (v : Value) (k : Nat) : Value := match v with | .slice (some a) _ _ => .pointer (some ⟨a.block, a.off + k * sz, none⟩) | _ => undef
theorem idx_i {t e sz by_ n k : Nat} {cs : List Value} (ht : sliceT P t e sz by_ = true) (s : Seg sz h1 x n cs) (hk : k < n) (hK : K (elt sz x k) h) : vK (aIndexAddr P t x (.int .i64 (k : Int))) h K := by
  obtain ⟨hu, hsz, _⟩ := sliceT_of ht
  refine vk_i (v := elt sz x k) ?_ hK
  unfold aIndexAddr
  rcases s.2 with ⟨_, _, rfl, _, rfl⟩ | ⟨i, o, c, a, rfl, _⟩
  · omega
  · simp only [hu, hsz, elt]
    rw [if_pos ⟨by omega, by omega⟩]
    simp
/-! ### calls that leave nothing -/
/-- Values that name no place. -/
def cloB (v : Value) : Bool := match v with | .tuple cs => cs.toList.all flatV | .agg cs => cs.toList.all flatV | v => flatV v
theorem flat_any {ρ' : Place} {c : Value} (hv : flatV v = true) (r : VRel ρ v c) : VRel ρ' v c := by
  cases r <;> first
    | exact .bool _
    | exact .int _ _
    | exact .string _
    | exact .nilFunc
    | exact .nilIface
    | exact .nilPtr
    | exact .nilSlice
    | exact .nilMap
    | (simp [flatV] at hv; done)
    | skip
theorem clo_any {ρ' : Place} {c : Value} (hv : cloB v = true) (r : VRel ρ v c) : VRel ρ' v c := by
  have key : ∀ (a c : Array Value), a.toList.all flatV = true → a.size = c.size → (∀ j, j < a.size → VRel ρ (a.getD j undef) (c.getD j undef)) → ∀ j, j < a.size → VRel ρ' (a.getD j undef) (c.getD j undef) := by
    intro a c hf hs hr j hj
    refine flat_any ?_ (hr j hj)
    have := List.all_eq_true.mp hf (a.getD j undef) (by simp [Array.getD, hj])
    exact this
  cases r <;> first
    | exact flat_any hv (by assumption)
    | (rename_i a c h1 h2
       refine .agg h1 fun j => ?_
       by_cases hj : j < a.size
       · exact key a c hv h1 (fun j _ => h2 j) j hj
       · rw [getD_out (by omega), getD_out (by omega)]; exact VRel.undef' _)
    | (rename_i a c h1 h2; exact .tuple h1 (key a c hv h1 h2))
    | skip
  all_goals first
    | exact .bool _
    | exact .int _ _
    | exact .string _
    | exact .nilFunc
    | exact .nilIface
    | exact .nilPtr
    | exact .nilSlice
    | exact .nilMap
    | (simp [cloB, flatV] at hv; done)

/-- A call that gives a value without places, and leaves all there was: as if it left nothing else. -/
theorem RunsP.forget {f : FuncId} {args : List Value} (hv : cloB v = true) (hr : RunsP P f args h fun x h' => x = v ∧ h <+: h') : Runs P f args h v h := by
  refine hr.relay (v0 := v) (h0 := h) ?_
  rintro v' h' ⟨rfl, new, rfl⟩
  refine ⟨fun i => if i < h.length then some (i, 0) else none, ⟨Nat.le_refl _, ?_, ?_, ?_, ?_, ?_, ?_, ?_⟩⟩
  · intro i hi; rw [if_pos hi, List.getElem?_append_left hi]; exact ⟨rfl, rfl⟩
  · intro i hi; rw [List.getElem?_append_left hi]
  · intro i k s hi e; rw [if_neg (by omega)] at e; cases e
  · intro i j k s t e1 e2
    split at e1
    · split at e2
      · cases e1; cases e2; rfl
      · cases e2
    · cases e1
  · intro i k s a0 hi e; rw [if_neg (by omega)] at e; cases e
  · intro i es hi e; rw [List.getElem?_eq_none (by omega)] at e; cases e
  · intro ρ c r; exact clo_any hv r

theorem DetP.forget {f : FuncId} {args : List Value} (hv : cloB v = true) (hr : DetP P f args h fun x h' => x = v ∧ h <+: h') : Runs P f args h v h := RunsP.forget hv hr.toP
/-- A closed call, held from the empty memory on. -/
theorem Runs.closed {f : FuncId} {h' : Heap} (hv : cloB v = true) (hr : Runs P f [] [] v h') (hno : P.globals.size = 0 := by rfl) : Runs P f [] h v h := by
  intro ρ w cargs _ R rl
  refine (hr (fun _ => none) w cargs (GlobP.no hno _) ⟨fun i L e => (by cases e), fun i L a e => (by cases e), fun i L es e => (by cases e), fun i j Li Lj e => (by cases e)⟩ ?_).mono ?_
  · have : cargs = [] := List.length_eq_zero_iff.mp rl.1.symm
    subst this; exact LRel.nil
  · rintro e w' ⟨v', h'', ρ', c, ⟨rfl, rfl⟩, rfl, R', S', hv'⟩
    have keep : ∀ b, b < w.heap.size → w'.heap[b]? = w.heap[b]? := fun b hb => S'.keep b hb fun i L e => (by cases e)
    have lt : ∀ {b : Nat} {x : _}, w.heap[b]? = some x → b < w.heap.size := fun e => (Array.getElem?_eq_some_iff.mp e).1
    refine ⟨v', h, ρ, c, ⟨rfl, rfl⟩, rfl, ⟨R.dom, ?_, ?_, R.inj⟩, ⟨Le.refl ρ, fun i L e => .inl e, Nat.le_refl _, S'.os, S'.tape, S'.output, S'.size, S'.drawn, fun b hb _ => keep b hb, ?_⟩, clo_any hv hv'⟩
    · intro i L a h1 h2
      obtain ⟨cs, ty, fr, e1, e2⟩ := R.arr i L a h1 h2
      exact ⟨cs, ty, fr, by rw [keep _ (lt e1)]; exact e1, e2⟩
    · intro i L es h1 h2
      obtain ⟨en, cl, e1, e2⟩ := R.map i L es h1 h2
      exact ⟨en, cl, by rw [keep _ (lt e1)]; exact e1, e2⟩
    · intro i L e ha _; exact ⟨i, L, e, rfl, ha, id⟩

/-! ### appends -/
/-- The memory without a slice's own array. -/
def kill (v : Value) (h : Heap) : Heap := match v with | .slice (some a) _ _ => h.set a.block .dead | _ => h
theorem kill_length (v : Value) (h : Heap) : (kill v h).length = h.length := by unfold kill; split <;> simp
theorem set_get {i j : Nat} {x : Ob} {a : Arr} (e : (h.set i .dead)[j]? = some (.arr a)) : h[j]? = some (.arr a) ∧ i ≠ j := by
  rw [List.getElem?_set] at e
  split at e
  · split at e <;> cases e
  · exact ⟨e, by assumption⟩
theorem kill_sub (v : Value) (h : Heap) : Sub (kill v h) h := by
  refine ⟨by rw [kill_length]; exact Nat.le_refl _, fun i a e => ?_⟩
  unfold kill at e
  split at e
  · exact (set_get (x := .dead) e).1
  · exact e
/-- A slice that a function has made for itself: from its own array's beginning on. -/
def Own (sz : Nat) (h0 h : Heap) (v : Value) (n : Nat) (cs : List Value) : Prop :=
  (cs.length = n * sz ∧ n ≤ 2 ^ 50) ∧ h0 <+: h ∧ ((v = .slice none 0 0 ∧ n = 0) ∨ ∃ i, v = .slice (some ⟨i, 0, none⟩) n 0 ∧ h0.length ≤ i ∧ h[i]? = some (.arr ⟨cs, sz, false⟩))
theorem Own.nil (sz : Nat) (hp : h0 <+: h) : Own sz h0 h (.slice none 0 0) 0 [] := ⟨⟨by simp, by omega⟩, hp, .inl ⟨rfl, rfl⟩⟩
theorem Own.seg {sz n : Nat} {cs : List Value} (o : Own sz h0 h v n cs) : Seg sz h v n cs := by
  obtain ⟨l, _, o⟩ := o
  refine ⟨l, o.imp (fun ⟨e1, e2⟩ => ⟨none, 0, e1, fun p hp => (by cases hp), e2⟩) ?_⟩
  rintro ⟨i, e1, _, e2⟩
  exact ⟨i, 0, 0, _, e1, e2, rfl, by simp [l.1], by simp [← l.1]⟩
theorem Own.pre {sz n : Nat} {cs : List Value} (o : Own sz h0 h v n cs) : h0 <+: h := o.2.1
theorem Own.killpre {sz n : Nat} {cs : List Value} (o : Own sz h0 h v n cs) : h0 <+: kill v h := by
  obtain ⟨l, ⟨t, rfl⟩, o⟩ := o
  rcases o with ⟨rfl, _⟩ | ⟨i, rfl, hi, _⟩
  · exact ⟨t, rfl⟩
  · exact ⟨t.set (i - h0.length) .dead, by simp only [kill]; rw [List.set_append_right _ _ hi]⟩
/-- What is made after it leaves it, and its rest. -/
theorem Own.ext {sz n : Nat} {cs : List Value} (o : Own sz h0 h v n cs) (hp : h <+: h') : Own sz h0 h' v n cs ∧ Sub (kill v h) (kill v h') := by
  obtain ⟨l, p, o⟩ := o
  refine ⟨⟨l, p.trans hp, o.imp id ?_⟩, ?_⟩
  · rintro ⟨i, e1, e2, e3⟩
    exact ⟨i, e1, e2, (Sub.of_pre hp).2 i _ e3⟩
  · rcases o with ⟨rfl, _⟩ | ⟨i, rfl, hi, e3⟩
    · exact Sub.of_pre hp
    · refine ⟨by rw [kill_length, kill_length]; exact hp.length_le, fun j a e => ?_⟩
      simp only [kill] at e ⊢
      obtain ⟨h1, h2⟩ := set_get (x := .dead) e
      rw [List.getElem?_set, if_neg h2]
      exact (Sub.of_pre hp).2 j a h1
end Go.AM
