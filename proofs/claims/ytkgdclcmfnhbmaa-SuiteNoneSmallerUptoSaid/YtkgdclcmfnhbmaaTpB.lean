import Derived.Test.YtkgdclcmfnhbmaaTpA
set_option linter.unusedSimpArgs false
set_option linter.unusedVariables false
set_option maxRecDepth 100000
namespace Go.Proofs.Ytkgdclcmfnhbmaa
open Go.AM

/-! ### a smallest row that is not caught -/
def rowAtN (xss : List (List Int)) (i : Int) : List Int := xss.getD i.toNat []
def pickB (xss : List (List Int)) (ch : List Int) (p : Int) (k : Nat) : Bool := !hits (xss.getD k []) ch && (decide (p = -1) || decide (ones (bitsOf (xss.getD k [])) < ones (bitsOf (rowAtN xss p))))
def pickTo (xss : List (List Int)) (ch : List Int) : Nat → Int
  | 0 => -1
  | k + 1 => if pickB xss ch (pickTo xss ch k) k = true then (k : Int) else pickTo xss ch k
structure Picked (xss : List (List Int)) (ch : List Int) (k : Nat) (p : Int) : Prop where
  ge : 0 ≤ p
  lt : p < k
  open_ : hits (rowAtN xss p) ch = false
  least : ∀ i, i < k → hits (xss.getD i []) ch = false → ones (bitsOf (rowAtN xss p)) ≤ ones (bitsOf (xss.getD i []))
theorem pickTo_spec (xss : List (List Int)) (ch : List Int) : ∀ k, (pickTo xss ch k = -1 ∧ ∀ i, i < k → hits (xss.getD i []) ch = true) ∨ Picked xss ch k (pickTo xss ch k)
  | 0 => .inl ⟨rfl, fun i hi => by omega⟩
  | k + 1 => by
    have ih := pickTo_spec xss ch k
    simp only [pickTo]
    have hk : rowAtN xss (k : Int) = xss.getD k [] := by unfold rowAtN; rw [Int.toNat_natCast]
    by_cases hb : pickB xss ch (pickTo xss ch k) k = true
    · rw [if_pos hb]
      unfold pickB at hb
      rw [Bool.and_eq_true] at hb
      obtain ⟨h1, h2⟩ := hb
      have h1' : hits (xss.getD k []) ch = false := by simpa using h1
      refine .inr ⟨by omega, by omega, by rw [hk]; exact h1', fun i hi hn => ?_⟩
      rw [hk]
      by_cases q : i = k
      · subst q; exact Nat.le_refl _
      · rcases ih with ⟨e, ih⟩ | ih
        · rw [ih i (by omega)] at hn; cases hn
        · have := ih.least i (by omega) hn
          rw [Bool.or_eq_true] at h2
          rcases h2 with h2 | h2
          · have := of_decide_eq_true h2; have := ih.ge; omega
          · have := of_decide_eq_true h2; omega
    · rw [if_neg hb]
      rcases ih with ⟨e, ih⟩ | ih
      · refine .inl ⟨e, fun i hi => ?_⟩
        by_cases q : i = k
        · subst q
          unfold pickB at hb
          rw [e] at hb
          simpa using hb
        · exact ih i (by omega)
      · refine .inr ⟨ih.ge, by have := ih.lt; omega, ih.open_, fun i hi hn => ?_⟩
        by_cases q : i = k
        · subst q
          unfold pickB at hb
          rw [hn] at hb
          have : ¬ (pickTo xss ch i = -1) := by have := ih.ge; omega
          simp [this] at hb
          exact hb
        · exact ih.least i (by omega) hn
def pickN (xss : List (List Int)) (ch : List Int) : Int := pickTo xss ch xss.length
def prvL (xss : List (List Int)) : Nat → List Int → List Int
  | 0, ch => [pickN xss ch]
  | b + 1, ch => pickN xss ch :: (rowAtN xss (pickN xss ch)).flatMap fun x => prvL xss b (ch ++ [x])
/-- No choice has at most so many tests more. -/
def OpenT (xss : List (List Int)) (ch : List Int) (b : Nat) : Prop := ∀ E : List Int, Tests E → E.length ≤ b → isChoice xss (ch ++ E) = false
theorem OpenT.picked {xss : List (List Int)} {ch : List Int} {b : Nat} (o : OpenT xss ch b) : Picked xss ch xss.length (pickN xss ch) := by
  rcases pickTo_spec xss ch xss.length with ⟨_, h⟩ | h
  · exfalso
    have := o [] (fun x hx => by simp at hx) (by simp)
    rw [List.append_nil] at this
    unfold isChoice at this
    rw [List.all_eq_false] at this
    obtain ⟨r, hr, hn⟩ := this
    obtain ⟨j, hj, rfl⟩ := mem_gd [] hr
    exact hn (h j hj)
  · exact h
theorem OpenT.step {xss : List (List Int)} {ch : List Int} {b : Nat} (o : OpenT xss ch (b + 1)) {x : Int} (hx : 0 ≤ x ∧ x ≤ 11) : OpenT xss (ch ++ [x]) b := by
  intro E hE hl
  have := o (x :: E) (fun y hy => by
    rcases List.mem_cons.mp hy with rfl | hy
    · exact hx
    · exact hE y hy) (by simp; omega)
  rw [List.append_assoc]
  exact this
theorem Picked.mem {xss : List (List Int)} {ch : List Int} {p : Int} (q : Picked xss ch xss.length p) : rowAtN xss p ∈ xss := by
  have h1 := q.ge
  have h2 := q.lt
  exact gd_mem [] (by omega)
theorem Picked.good {xss : List (List Int)} {ch : List Int} {p : Int} (q : Picked xss ch xss.length p) : badAt xss ch p = false := by
  have h1 := q.ge
  have h2 := q.lt
  have h3 := q.open_
  unfold badAt
  have : hits (xss.getD p.toNat []) ch = false := h3
  rw [this]
  have : inR p 0 ((xss.length : Int) - 1) = true := by simp [inR]; omega
  rw [this]; rfl
theorem foldlM_app {f : Int → List Int} {g : List Int → Int → Option (List Int)} (rest : List Int) : ∀ (l : List Int), (∀ x ∈ l, ∀ r, g (f x ++ r) x = some r) → l.foldlM g (l.flatMap f ++ rest) = some rest
  | [], _ => rfl
  | x :: l, hg => by
    rw [List.flatMap_cons, List.append_assoc, List.foldlM_cons, hg x (by simp)]
    exact foldlM_app rest l (fun y hy => hg y (by simp [hy]))
theorem prvL_read {xss : List (List Int)} (ht : ∀ xs ∈ xss, Tests xs) : ∀ (b : Nat) (ch rest : List Int), OpenT xss ch b → rdL xss b ch (prvL xss b ch ++ rest) = some rest
  | 0, ch, rest, o => by
    simp only [prvL, List.singleton_append, rdL]
    rw [if_neg (by rw [o.picked.good]; simp)]
  | b + 1, ch, rest, o => by
    have hp := o.picked
    simp only [prvL, List.cons_append, rdL]
    rw [if_neg (by rw [hp.good]; simp)]
    refine foldlM_app (f := fun x => prvL xss b (ch ++ [x])) rest _ fun x hx r => ?_
    exact prvL_read ht b _ r (o.step (ht _ hp.mem x hx))

/-! ### how long proofs are -/
def gB : Nat → Nat → Nat → Nat → Nat
  | 0, _, _, _ => 0
  | f + 1, m, r, n => if m = 0 then 0 else 1 + gB f (m * (n - r) / n) r (n - 1)
def tB : Nat → Nat → Nat → Nat
  | 0, _, _ => 1
  | b + 1, m, n => 1 + ((List.range 13).map fun r => if b + 1 < gB 13 m r n then r * tB b (m - 1) (n - 1) else 0).foldl max 0
theorem sum_count {β : Type} (S : List Int) (L : List β) (f : β → Int → Bool) : (S.map fun x => L.countP fun l => f l x).sum = (L.map fun l => S.countP (f l)).sum := by
  induction L with
  | nil =>
    induction S with
    | nil => rfl
    | cons x S ih => simpa using ih
  | cons l L ih =>
    simp only [List.map_cons, List.sum_cons, List.countP_cons]
    rw [← ih]
    clear ih
    induction S with
    | nil => simp
    | cons x S ihS =>
      simp only [List.map_cons, List.sum_cons, List.countP_cons] at ihS ⊢
      omega
theorem sum_ge {L : List Nat} {r : Nat} (h : ∀ x ∈ L, r ≤ x) : L.length * r ≤ L.sum := by
  induction L with
  | nil => simp
  | cons x L ih =>
    have h1 := h x (by simp)
    have h2 := ih fun y hy => h y (by simp [hy])
    simp only [List.length_cons, List.sum_cons, Nat.add_mul]
    omega
theorem sum_some {L : List Nat} {t : Nat} (hn : L ≠ []) (h : t ≤ L.sum) : ∃ x ∈ L, t ≤ L.length * x := by
  apply Classical.byContradiction
  intro hc
  have hall : ∀ x ∈ L, L.length * x < t := fun x hx => by
    apply Classical.byContradiction
    intro h2
    exact hc ⟨x, hx, by omega⟩
  have key : ∀ (M : List Nat), (∀ x ∈ M, L.length * x + 1 ≤ t) → L.length * M.sum + M.length ≤ M.length * t := by
    intro M
    induction M with
    | nil => intro _; simp
    | cons x M ih =>
      intro hM
      have h1 := hM x (by simp)
      have h2 := ih fun y hy => hM y (by simp [hy])
      simp only [List.sum_cons, List.length_cons, Nat.mul_add, Nat.add_mul, Nat.one_mul]
      omega
  have := key L hall
  have hpos : 0 < L.length := List.length_pos_iff.mpr hn
  have h2 : L.length * L.sum + L.length ≤ L.length * t := this
  have h3 : L.length * t ≤ L.length * L.sum := Nat.mul_le_mul_left _ h
  omega
def hasR (row : List Int) (x : Int) : Bool := decide (x ∈ row)
theorem count_has {S row : List Int} (hn : row.Nodup) (hs : ∀ x ∈ row, x ∈ S) (hS : S.Nodup) : row.length ≤ S.countP (hasR row) := by
  rw [List.countP_eq_length_filter]
  refine nodup_sub row _ hn fun x hx => ?_
  rw [List.mem_filter]
  exact ⟨hs x hx, decide_eq_true hx⟩
theorem hits_cons {row E : List Int} {x : Int} : hits row (x :: E) = (hasR row x || hits row E) := by
  have : ∀ (row : List Int), (hits row (x :: E) = true ↔ (hasR row x = true ∨ hits row E = true)) := by
    intro row
    unfold hits hasR
    simp only [List.any_eq_true, decide_eq_true_eq, List.mem_cons]
    constructor
    · rintro ⟨y, hy, rfl | h2⟩
      · exact .inl hy
      · exact .inr ⟨y, hy, h2⟩
    · rintro (h | ⟨y, hy, h2⟩)
      · exact ⟨x, h, .inl rfl⟩
      · exact ⟨y, hy, .inr h2⟩
  have h := this row
  cases h1 : hits row (x :: E) <;> cases h2 : hasR row x <;> cases h3 : hits row E <;> simp_all
/-- A choice that is not too large. -/
theorem hit_few : ∀ (f m r : Nat) (S : List Int) (L : List (List Int)), 1 ≤ r → S.Nodup → S.length ≤ f → L.length ≤ m → (∀ row ∈ L, row.Nodup ∧ r ≤ row.length ∧ ∀ x ∈ row, x ∈ S) →
    ∃ E : List Int, (∀ x ∈ E, x ∈ S) ∧ E.length ≤ gB (f + 1) m r S.length ∧ ∀ row ∈ L, hits row E = true := by
  intro f
  induction f with
  | zero =>
    intro m r S L hr hS hf hm hL
    have : L = [] := by
      cases L with
      | nil => rfl
      | cons row L =>
        have := hL row (by simp)
        have h1 := nodup_sub row S this.1 this.2.2
        omega
    subst this
    exact ⟨[], fun x hx => by simp at hx, by simp, fun row hrow => by simp at hrow⟩
  | succ f ih =>
    intro m r S L hr hS hf hm hL
    cases hLc : L with
    | nil => exact ⟨[], fun x hx => by simp at hx, by simp, fun row hrow => by simp at hrow⟩
    | cons row0 L0 =>
      have h0 := hL row0 (by rw [hLc]; simp)
      have hSne : S ≠ [] := by
        rintro rfl
        have h1 := nodup_sub row0 [] h0.1 h0.2.2
        simp at h1
        have := h0.2.1
        rw [h1] at this; simp at this; omega
      have hcnt : L.length * r ≤ (S.map fun x => L.countP fun l => hasR l x).sum := by
        rw [sum_count S L hasR]
        have := sum_ge (L := L.map fun l => S.countP (hasR l)) (r := r) (by
          intro y hy
          obtain ⟨row, hrow, rfl⟩ := List.mem_map.mp hy
          have := hL row hrow
          exact Nat.le_trans this.2.1 (count_has this.1 this.2.2 hS))
        simpa using this
      obtain ⟨c, hc, hge⟩ := sum_some (by simpa using hSne) hcnt
      obtain ⟨x, hx, rfl⟩ := List.mem_map.mp hc
      rw [List.length_map] at hge
      have hrest : (L.filter fun l => !hasR l x).length + L.countP (fun l => hasR l x) = L.length := by
        rw [List.countP_eq_length_filter]
        have := List.length_eq_countP_add_countP (fun l => hasR l x) (l := L)
        rw [List.countP_eq_length_filter, List.countP_eq_length_filter] at this
        have e : (L.filter fun a => decide ¬hasR a x = true) = L.filter fun l => !hasR l x := by
          congr 1; funext l; cases hasR l x <;> rfl
        rw [e] at this
        omega
      have hSlen : 0 < S.length := List.length_pos_iff.mpr hSne
      have hrS : r ≤ S.length := Nat.le_trans h0.2.1 (nodup_sub row0 S h0.1 h0.2.2)
      have hm' : (L.filter fun l => !hasR l x).length ≤ m * (S.length - r) / S.length := by
        rw [Nat.le_div_iff_mul_le hSlen, Nat.mul_sub]
        have e1 : (L.filter fun l => !hasR l x).length * S.length + S.length * L.countP (fun l => hasR l x) = L.length * S.length := by
          rw [← hrest, Nat.add_mul, Nat.mul_comm S.length]
        have e2 : L.length * (S.length - r) ≤ m * (S.length - r) := Nat.mul_le_mul_right _ hm
        rw [Nat.mul_sub, Nat.mul_sub] at e2
        omega
      have hmem : ∀ y, y ∈ S.erase x ↔ y ≠ x ∧ y ∈ S := fun y => by rw [hS.mem_erase_iff]
      obtain ⟨E, hE1, hE2, hE3⟩ := ih (m * (S.length - r) / S.length) r (S.erase x) (L.filter fun l => !hasR l x) hr (hS.erase x) (by rw [List.length_erase_of_mem hx]; omega) hm' (by
        intro row hrow
        rw [List.mem_filter] at hrow
        have := hL row hrow.1
        refine ⟨this.1, this.2.1, fun y hy => (hmem y).mpr ⟨?_, this.2.2 y hy⟩⟩
        rintro rfl
        have h2 := hrow.2
        unfold hasR at h2
        rw [decide_eq_true hy] at h2; cases h2)
      refine ⟨x :: E, ?_, ?_, ?_⟩
      · intro y hy
        rcases List.mem_cons.mp hy with rfl | hy
        · exact hx
        · exact ((hmem y).mp (hE1 y hy)).2
      · have hm0 : m ≠ 0 := by rw [hLc] at hm; simp at hm; omega
        rw [gB, if_neg hm0, List.length_cons]
        rw [List.length_erase_of_mem hx] at hE2
        omega
      · intro row hrow
        rw [hits_cons]
        by_cases e : hasR row x = true
        · rw [e]; rfl
        · have e' : hasR row x = false := by simpa using e
          rw [hE3 row (by rw [List.mem_filter]; exact ⟨by rw [hLc]; exact hrow, by rw [e']; rfl⟩)]
          simp
theorem max_ge (l : List Nat) : ∀ (a : Nat), (∀ x ∈ l, x ≤ l.foldl max a) ∧ a ≤ l.foldl max a := by
  induction l with
  | nil => intro a; simp
  | cons y l ih =>
    intro a
    obtain ⟨h1, h2⟩ := ih (max a y)
    simp only [List.foldl_cons]
    refine ⟨fun x hx => ?_, by omega⟩
    rcases List.mem_cons.mp hx with rfl | hx
    · omega
    · exact h1 x hx
theorem sum_le {L : List Nat} {t : Nat} (h : ∀ x ∈ L, x ≤ t) : L.sum ≤ L.length * t := by
  induction L with
  | nil => simp
  | cons x L ih =>
    have h1 := h x (by simp)
    have h2 := ih fun y hy => h y (by simp [hy])
    simp only [List.length_cons, List.sum_cons, Nat.add_mul]
    omega
/-- The tests that are not chosen. -/
def restS (ch : List Int) : List Int := ((List.range 12).map fun i : Nat => (i : Int)).filter fun x => !decide (x ∈ ch)
theorem restS_mem {ch : List Int} {x : Int} : x ∈ restS ch ↔ 0 ≤ x ∧ x ≤ 11 ∧ ¬ x ∈ ch := by
  unfold restS
  rw [List.mem_filter, List.mem_map]
  constructor
  · rintro ⟨⟨i, hi, rfl⟩, h⟩
    rw [List.mem_range] at hi
    exact ⟨by omega, by omega, by simpa using h⟩
  · rintro ⟨h1, h2, h3⟩
    exact ⟨⟨x.toNat, List.mem_range.mpr (by omega), Int.toNat_of_nonneg h1⟩, by simpa using h3⟩
theorem nodup12 : ((List.range 12).map fun i : Nat => (i : Int)).Nodup := by decide
theorem restS_nodup (ch : List Int) : (restS ch).Nodup := List.Pairwise.filter _ nodup12
theorem restS_len {ch : List Int} (hn : ch.Nodup) (ht : Tests ch) : (restS ch).length = 12 - ch.length := by
  have h1 := List.length_eq_countP_add_countP (fun x => decide (x ∈ ch)) (l := (List.range 12).map fun i : Nat => (i : Int))
  rw [List.countP_eq_length_filter, List.countP_eq_length_filter] at h1
  have e : (((List.range 12).map fun i : Nat => (i : Int)).filter fun a => decide ¬(decide (a ∈ ch)) = true) = restS ch := by
    unfold restS
    congr 1; funext x; by_cases q : x ∈ ch <;> simp [q]
  rw [e] at h1
  have h2 : (((List.range 12).map fun i : Nat => (i : Int)).filter fun a => decide (a ∈ ch)).length = ch.length := by
    have a1 := nodup_sub (((List.range 12).map fun i : Nat => (i : Int)).filter fun a => decide (a ∈ ch)) ch (List.Pairwise.filter _ nodup12) (fun x hx => by
      rw [List.mem_filter] at hx
      simpa using hx.2)
    have a2 := nodup_sub ch (((List.range 12).map fun i : Nat => (i : Int)).filter fun a => decide (a ∈ ch)) hn (fun x hx => by
      have := ht x hx
      rw [List.mem_filter, List.mem_map]
      exact ⟨⟨x.toNat, List.mem_range.mpr (by omega), Int.toNat_of_nonneg this.1⟩, by simpa using hx⟩)
    omega
  rw [h2] at h1
  simp at h1
  omega
structure TabOK (xss : List (List Int)) : Prop where
  tests : ∀ xs ∈ xss, Tests xs
  asc : ∀ xs ∈ xss, Asc xs
  pos : ∀ xs ∈ xss, 0 < xs.length
  few : xss.length ≤ 12
theorem prvL_len {xss : List (List Int)} (ok : TabOK xss) : ∀ (b m : Nat) (ch : List Int), Tests ch → ch.Nodup → OpenT xss ch b → (xss.filter fun r => !hits r ch).length ≤ m → (prvL xss b ch).length ≤ tB b m (12 - ch.length)
  | 0, m, ch, _, _, _, _ => by simp [prvL, tB]
  | b + 1, m, ch, ht, hn, o, hm => by
    have hp := o.picked
    have hmem := hp.mem
    generalize hrow : rowAtN xss (pickN xss ch) = row at hmem
    have hropen : hits row ch = false := by rw [← hrow]; exact hp.open_
    have hrt := ok.tests _ hmem
    have hrn := asc_nodup (ok.asc _ hmem)
    have hrpos := ok.pos _ hmem
    have hrS : ∀ x ∈ row, x ∈ restS ch := fun x hx => by
      have := hrt x hx
      refine restS_mem.mpr ⟨this.1, this.2, fun hc => ?_⟩
      unfold hits at hropen
      rw [List.any_eq_false] at hropen
      exact hropen x hx (decide_eq_true hc)
    obtain ⟨E, hE1, hE2, hE3⟩ := hit_few 12 m row.length (restS ch) (xss.filter fun r => !hits r ch) hrpos (restS_nodup ch) (by rw [restS_len hn ht]; omega) hm (by
      intro r hr
      rw [List.mem_filter] at hr
      have hro : hits r ch = false := by simpa using hr.2
      refine ⟨asc_nodup (ok.asc _ hr.1), ?_, fun x hx => ?_⟩
      · obtain ⟨i, hi, rfl⟩ := mem_gd [] hr.1
        have := hp.least i hi hro
        rw [hrow, ones_bits hrt (ok.asc _ hmem), ones_bits (ok.tests _ hr.1) (ok.asc _ hr.1)] at this
        exact this
      · have := ok.tests _ hr.1 x hx
        refine restS_mem.mpr ⟨this.1, this.2, fun hc => ?_⟩
        unfold hits at hro
        rw [List.any_eq_false] at hro
        exact hro x hx (decide_eq_true hc))
    rw [restS_len hn ht] at hE2
    have hE2 : E.length ≤ gB 13 m row.length (12 - ch.length) := hE2
    have hEt : Tests E := fun x hx => by have := restS_mem.mp (hE1 x hx); exact ⟨this.1, this.2.1⟩
    have hbg : b + 1 < gB 13 m row.length (12 - ch.length) := by
      apply Classical.byContradiction
      intro hc
      have := o E hEt (by omega)
      unfold isChoice at this
      rw [List.all_eq_false] at this
      obtain ⟨r, hr, hnh⟩ := this
      by_cases e : hits r ch = true
      · apply hnh
        unfold hits at e ⊢
        rw [List.any_eq_true] at e ⊢
        obtain ⟨x, hx, hd⟩ := e
        exact ⟨x, hx, decide_eq_true (List.mem_append_left _ (of_decide_eq_true hd))⟩
      · have := hE3 r (by rw [List.mem_filter]; exact ⟨hr, by simpa using e⟩)
        apply hnh
        unfold hits at this ⊢
        rw [List.any_eq_true] at this ⊢
        obtain ⟨x, hx, hd⟩ := this
        exact ⟨x, hx, decide_eq_true (List.mem_append_right _ (of_decide_eq_true hd))⟩
    have child : ∀ x ∈ row, (prvL xss b (ch ++ [x])).length ≤ tB b (m - 1) (12 - ch.length - 1) := by
      intro x hx
      have hxt := hrt x hx
      have hxn : ¬ x ∈ ch := (restS_mem.mp (hrS x hx)).2.2
      have ht' : Tests (ch ++ [x]) := fun y hy => by
        rcases List.mem_append.mp hy with hy | hy
        · exact ht y hy
        · rw [List.mem_singleton.mp hy]; exact hxt
      have hn' : (ch ++ [x]).Nodup := by
        rw [List.nodup_append]
        refine ⟨hn, by simp, ?_⟩
        intro a ha b' hb' e
        rw [List.mem_singleton.mp hb'] at e
        exact hxn (e ▸ ha)
      have hm' : (xss.filter fun r => !hits r (ch ++ [x])).length ≤ m - 1 := by
        have hsub : (xss.filter fun r => !hits r (ch ++ [x])) = (xss.filter fun r => !hits r ch).filter fun r => !hits r (ch ++ [x]) := by
          rw [List.filter_filter]
          congr 1; funext r
          by_cases e : hits r ch = true
          · have : hits r (ch ++ [x]) = true := by
              unfold hits at e ⊢
              rw [List.any_eq_true] at e ⊢
              obtain ⟨z, hz, hd⟩ := e
              exact ⟨z, hz, decide_eq_true (List.mem_append_left _ (of_decide_eq_true hd))⟩
            rw [this]; rfl
          · have e' : hits r ch = false := by simpa using e
            rw [e']; cases hits r (ch ++ [x]) <;> rfl
        rw [hsub]
        have hlt : ((xss.filter fun r => !hits r ch).filter fun r => !hits r (ch ++ [x])).length < (xss.filter fun r => !hits r ch).length := by
          have hin : row ∈ xss.filter fun r => !hits r ch := by rw [List.mem_filter]; exact ⟨hmem, by rw [hropen]; rfl⟩
          have hout : (!hits row (ch ++ [x])) = false := by
            have : hits row (ch ++ [x]) = true := by
              unfold hits
              rw [List.any_eq_true]
              exact ⟨x, hx, decide_eq_true (by simp)⟩
            rw [this]; rfl
          have h1 := List.length_eq_countP_add_countP (fun r => !hits r (ch ++ [x])) (l := xss.filter fun r => !hits r ch)
          rw [List.countP_eq_length_filter] at h1
          have h2 : 0 < List.countP (fun a => decide ¬(!hits a (ch ++ [x])) = true) (xss.filter fun r => !hits r ch) := by
            rw [List.countP_pos_iff]
            exact ⟨row, hin, by rw [hout]; rfl⟩
          omega
        omega
      have := prvL_len ok b (m - 1) (ch ++ [x]) ht' hn' (o.step hxt) hm'
      rw [List.length_append, List.length_singleton] at this
      rwa [show 12 - (ch.length + 1) = 12 - ch.length - 1 by omega] at this
    have hsum : ((row.flatMap fun x => prvL xss b (ch ++ [x]))).length ≤ row.length * tB b (m - 1) (12 - ch.length - 1) := by
      rw [List.length_flatMap]
      have := sum_le (L := row.map fun x => (prvL xss b (ch ++ [x])).length) (t := tB b (m - 1) (12 - ch.length - 1)) (by
        intro y hy
        obtain ⟨x, hx, rfl⟩ := List.mem_map.mp hy
        exact child x hx)
      simpa using this
    have hr13 : row.length < 13 := by
      have := nodup_sub row (restS ch) hrn hrS
      rw [restS_len hn ht] at this
      omega
    have hmax := (max_ge ((List.range 13).map fun r => if b + 1 < gB 13 m r (12 - ch.length) then r * tB b (m - 1) (12 - ch.length - 1) else 0) 0).1 (row.length * tB b (m - 1) (12 - ch.length - 1)) (by
      rw [List.mem_map]
      exact ⟨row.length, List.mem_range.mpr hr13, if_pos hbg⟩)
    simp only [prvL, List.length_cons, tB, hrow]
    omega
theorem tB_all : (List.range 12).all (fun b => Nat.ble (tB b 12 12) 20000) = true := by decide +kernel
theorem prvL_few {xss : List (List Int)} (ok : TabOK xss) {b : Nat} (hb : b < 12) (o : OpenT xss [] b) : (prvL xss b []).length ≤ 20000 := by
  have h1 := prvL_len ok b 12 [] (fun x hx => by simp at hx) List.nodup_nil o (Nat.le_trans (List.length_filter_le _ _) ok.few)
  have h2 := Nat.le_of_ble_eq_true (List.all_eq_true.mp tB_all b (List.mem_range.mpr hb))
  simp at h1
  omega
end Go.Proofs.Ytkgdclcmfnhbmaa
