/-
  Calls that only read: memory of one's own lent to them.
-/
import Derived.Test.YtgmgmkhenhaniaaAnE
set_option linter.unusedSimpArgs false
set_option linter.unusedVariables false
namespace Go.AM
variable {P : Program} {h h' : Heap} {h0 : Base} {K : Value → Heap → Prop} {v x : Value} {l : List E} {k sz n : Nat} {o : Option Nat}
theorem frz0_not {i : Nat} : ¬ Writable (frz 0 h) i := by
  rintro (⟨a, e, hr⟩ | ⟨es, e⟩)
  · obtain ⟨_, _, _, _, q⟩ := frz_back e
    have := (q hr).2; omega
  · have := (frz_map e).2; omega
theorem Rel.frz0 {ρ : Place} {w : World} (R : Rel h ρ w) : Rel (frz 0 h) ρ w := by
  refine ⟨?_, ?_, ?_, ?_⟩
  · intro i L hL; rw [frz_length]; exact R.dom i L hL
  · intro i L b hL hb
    obtain ⟨a, e1, e2, e3, e4⟩ := frz_back hb
    obtain ⟨cs, ty, fr, g1, g2, g3, g4, g5, g6⟩ := R.arr i L a hL e1
    exact ⟨cs, ty, fr, g1, g2, by rw [e2]; exact g3, by rw [e3]; exact g4, by rw [e2]; exact g5, fun hh => g6 (e4 hh).1⟩
  · intro i L es hL he; exact R.map i L es hL (frz_map he).1
  · intro i j Li Lj hi hj hne hw ha; exact absurd hw frz0_not
/-- What a call gives that writes nothing that was there, and whose new memory may be written. -/
theorem Runs.lend {f : FuncId} {args : List Value} {new : Heap} (hr : Runs P f args (frz 0 h) v (frz 0 h ++ new)) (hn : ∀ i, Alive new i → Writable new i) : Runs P f args h v (h ++ new) := by
  intro ρ w cargs G R rl
  refine (hr ρ w cargs G R.frz0 rl).mono ?_
  rintro e w' ⟨v', h'', ρ', c, ⟨rfl, rfl⟩, rfl, R', S', hv⟩
  have hlen : (frz 0 h).length = h.length := frz_length 0 h
  have keep : ∀ b, b < w.heap.size → w'.heap[b]? = w.heap[b]? := fun b hb => S'.keep b hb fun i L _ hw => absurd hw frz0_not
  have lo : ∀ {i L}, ρ' i = some L → i < h.length → ρ i = some L := fun {i L} hL hi => by
    rcases S'.new i L hL with e | ⟨e, _⟩
    · exact e
    · omega
  have get_lo : ∀ {i : Nat} {t : Heap}, i < h.length → (h ++ t)[i]? = h[i]? := fun hi => List.getElem?_append_left hi
  have get_hi : ∀ {i : Nat}, h.length ≤ i → (h ++ new)[i]? = (frz 0 h ++ new)[i]? := fun hi => by
    rw [List.getElem?_append_right hi, List.getElem?_append_right (by omega), hlen]
  have hiW : ∀ {i : Nat}, h.length ≤ i → Alive (h ++ new) i → Writable (frz 0 h ++ new) i := fun {i} hi ha => by
    have : Alive new (i - h.length) := by
      unfold Alive at ha ⊢
      rwa [List.getElem?_append_right hi] at ha
    have := hn _ this
    unfold Writable at this ⊢
    rw [List.getElem?_append_right (by omega), hlen]; exact this
  have hiA : ∀ {i : Nat}, h.length ≤ i → Alive (h ++ new) i → Alive (frz 0 h ++ new) i := fun {i} hi ha => by
    unfold Alive at ha ⊢
    rwa [← get_hi hi]
  have blk : ∀ {i L}, ρ i = some L → Alive h i → L.blk < w.heap.size := fun {i L} hL ha => by
    rcases ha with ⟨a, e⟩ | ⟨es, e⟩
    · obtain ⟨cs, ty, fr, g1, _⟩ := R.arr i L a hL e
      exact (Array.getElem?_eq_some_iff.mp g1).1
    · obtain ⟨en, cl, g1, _⟩ := R.map i L es hL e
      exact (Array.getElem?_eq_some_iff.mp g1).1
  have aliveLo : ∀ {i : Nat}, i < h.length → Alive (h ++ new) i → Alive h i := fun hi ha => by
    unfold Alive at ha ⊢; rwa [get_lo hi] at ha
  have cross : ∀ {i j Li Lj}, ρ' i = some Li → ρ' j = some Lj → i < h.length → h.length ≤ j → Alive (h ++ new) i → Alive (h ++ new) j → Li.blk ≠ Lj.blk := by
    intro i j Li Lj hi hj hil hjl hai haj e
    have h1 := blk (lo hi hil) (aliveLo hil hai)
    obtain ⟨i0, L0, e1, e2, e3, e4⟩ := S'.old j Lj hj (hiA hjl haj) (by omega)
    exact frz0_not (e4 (hiW hjl haj))
  have wA : ∀ {t : Heap} {i : Nat}, Writable t i → Alive t i := by
    rintro t i (⟨a, e, _⟩ | ⟨es, e⟩)
    · exact .inl ⟨a, e⟩
    · exact .inr ⟨es, e⟩
  refine ⟨v', h ++ new, ρ', c, ⟨rfl, rfl⟩, rfl, ⟨?_, ?_, ?_, ?_⟩, ⟨S'.ext, ?_, by simp, S'.os, S'.tape, S'.output, S'.size, S'.drawn, fun b hb _ => keep b hb, ?_⟩, hv⟩
  · intro i L hL
    have := R'.dom i L hL
    simp only [List.length_append, hlen] at this ⊢
    exact this
  · intro i L a hL ha
    by_cases hi : i < h.length
    · rw [get_lo hi] at ha
      obtain ⟨cs, ty, fr, g1, g2, g3, g4, g5, g6⟩ := R.arr i L a (lo hL hi) ha
      exact ⟨cs, ty, fr, by rw [keep _ (Array.getElem?_eq_some_iff.mp g1).1]; exact g1, g2, g3, g4, fun k hk => (g5 k hk).mono S'.ext, g6⟩
    · rw [get_hi (by omega)] at ha
      exact R'.arr i L a hL ha
  · intro i L es hL he
    by_cases hi : i < h.length
    · rw [get_lo hi] at he
      obtain ⟨en, cl, g1, g2, g3⟩ := R.map i L es (lo hL hi) he
      exact ⟨en, cl, by rw [keep _ (Array.getElem?_eq_some_iff.mp g1).1]; exact g1, g2, fun k e x h1 h2 => ⟨((g3 k e x h1 h2).1).mono S'.ext, ((g3 k e x h1 h2).2).mono S'.ext⟩⟩
    · rw [get_hi (by omega)] at he
      exact R'.map i L es hL he
  · intro i j Li Lj hi hj hne hw ha
    by_cases hil : i < h.length
    · by_cases hjl : j < h.length
      · have hw' : Writable h i := by unfold Writable at hw ⊢; rwa [get_lo hil] at hw
        exact R.inj i j Li Lj (lo hi hil) (lo hj hjl) hne hw' (aliveLo hjl ha)
      · exact cross hi hj hil (by omega) (wA hw) ha
    · by_cases hjl : j < h.length
      · exact fun e => cross hj hi hjl (by omega) ha (wA hw) e.symm
      · exact R'.inj i j Li Lj hi hj hne (hiW (by omega) (wA hw)) (hiA (by omega) ha)
  · intro i L hL
    rcases S'.new i L hL with e | ⟨e1, e2⟩
    · exact .inl e
    · exact .inr ⟨by omega, e2⟩
  · intro i L hL ha hb
    by_cases hi : i < h.length
    · refine ⟨i, L, lo hL hi, rfl, aliveLo hi ha, fun hw => ?_⟩
      unfold Writable at hw ⊢; rwa [get_lo hi] at hw
    · obtain ⟨i0, L0, e1, e2, e3, e4⟩ := S'.old i L hL (hiA (by omega) ha) hb
      exact absurd (e4 (hiW (by omega) ha)) frz0_not
theorem Mem.sub {l' : List E} (m : Mem h0 h l) (s : List.Sublist l' l) : Mem h0 h l' :=
  ⟨m.keep, fun e he => m.has e (s.subset he), m.nd.sublist (s.filterMap _)⟩
instance : Df Int := ⟨0⟩
instance : Df ByteArray := ⟨⟨#[]⟩⟩
instance : Df Bool := ⟨false⟩
/-! ### which step it is -/
theorem is_new {g1 g2 : Heap} {Q : Prop} (q : (∃ new, g1 = g2 ++ new) ∧ Q) : (∃ new, g1 = g2 ++ new) ∧ Q := q
theorem is_tru {Q : Prop} (q : True ∧ Q) : True ∧ Q := q
theorem is_pd {o : Option Value} {g1 g2 : Heap} {R Q : Prop} (q : ((o.map (·, g1)) = some (v, g2) ∧ R) ∧ Q) : ((o.map (·, g1)) = some (v, g2) ∧ R) ∧ Q := q
theorem is_rl1 {R : Value → Heap → Prop} {l2 : List (Option Value)} {t : TypeId} {g1 : Heap} (q : retV (aLoad P t x g1 :: l2) R h) : retV (aLoad P t x g1 :: l2) R h := q
theorem is_rl2 {R : Value → Heap → Prop} {l2 : List (Option Value)} {a : Option Value} {t : TypeId} {g1 : Heap} (q : retV (a :: aLoad P t x g1 :: l2) R h) : retV (a :: aLoad P t x g1 :: l2) R h := q
/-! ### truths told by propositions -/
section
variable {A : (Value → Heap → Prop) → Prop} {p : Prop} [Decidable p] {X Y : Prop}
theorem cnd_dh (e : p) (hk : X) : cnd (.bool (decide p)) X Y := cnd_h (decide_eq_true e) hk
theorem cnd_dn (e : ¬ p) (hk : Y) : cnd (.bool (decide p)) X Y := cnd_n (decide_eq_false e) hk
theorem cnd_d (h1 : p → X) (h2 : ¬ p → Y) : cnd (.bool (decide p)) X Y := by
  by_cases e : p
  · exact cnd_dh e (h1 e)
  · exact cnd_dn e (h2 e)
theorem not_dh (e : p) (hk : K (.bool false) h) : vK (aUn .not (.bool (decide p))) h K := not_h (decide_eq_true e) hk
theorem not_dn (e : ¬ p) (hk : K (.bool true) h) : vK (aUn .not (.bool (decide p))) h K := not_n (decide_eq_false e) hk
theorem not_d (h1 : p → K (.bool false) h) (h2 : ¬ p → K (.bool true) h) : vK (aUn .not (.bool (decide p))) h K := by
  by_cases e : p
  · exact not_dh e (h1 e)
  · exact not_dn e (h2 e)
theorem gd_dht (e : p) (hk : A K) : gdK (.bool (decide p)) true A K h := gd_ht (decide_eq_true e) hk
theorem gd_dnt (e : ¬ p) (hk : K undef h) : gdK (.bool (decide p)) true A K h := gd_nt (decide_eq_false e) hk
theorem gd_dhf (e : ¬ p) (hk : A K) : gdK (.bool (decide p)) false A K h := gd_hf (decide_eq_false e) hk
theorem gd_dnf (e : p) (hk : K undef h) : gdK (.bool (decide p)) false A K h := gd_nf (decide_eq_true e) hk
theorem gd_dt (h1 : p → A K) (h2 : ¬ p → K undef h) : gdK (.bool (decide p)) true A K h := by
  by_cases e : p
  · exact gd_dht e (h1 e)
  · exact gd_dnt e (h2 e)
theorem gd_df (h1 : p → K undef h) (h2 : ¬ p → A K) : gdK (.bool (decide p)) false A K h := by
  by_cases e : p
  · exact gd_dnf e (h1 e)
  · exact gd_dhf e (h2 e)
theorem pick_dh {a c : Value} (e : p) (hk : K a h) : vK (pickV (.bool (decide p)) a c) h K := pick_h (decide_eq_true e) hk
theorem pick_dn {a c : Value} (e : ¬ p) (hk : K c h) : vK (pickV (.bool (decide p)) a c) h K := pick_n (decide_eq_false e) hk
theorem pick_d {a c : Value} (h1 : p → K a h) (h2 : ¬ p → K c h) : vK (pickV (.bool (decide p)) a c) h K := by
  by_cases e : p
  · exact pick_dh e (h1 e)
  · exact pick_dn e (h2 e)
end
theorem sub_a {t : TypeId} {a b lo hi : Int} (hh : lo ≤ a ∧ a ≤ hi) (h1 : -9223372036854775808 ≤ lo - b) (h2 : hi - b < 9223372036854775808) (hk : K (.int .i64 (a - b)) h) : vK (aBin P .sub t (.int .i64 a) (.int .i64 b)) h K := sub_j (by omega) (by omega) hk
/-! ### arrays of cells -/
class ArT (P : Program) (t : Nat) (n : outParam Nat) : Prop where
  ok : ∃ e, P.underlying t = some (.array n e) ∧ szOf P e = some 1
theorem ia_o {t n i off : Nat} {z : Int} [T : ArT P t n] (h0 : 0 ≤ z) (hz : z.toNat < n) (hK : K (.pointer (some ⟨i, off + z.toNat, none⟩)) h) : vK (aIndexAddr P t (.pointer (some ⟨i, off, none⟩)) (.int .i64 z)) h K := by
  obtain ⟨e, hu, hs⟩ := T.ok
  refine vk_i (v := .pointer (some ⟨i, off + z.toNat, none⟩)) ?_ hK
  unfold aIndexAddr
  simp only [hu, hs]
  rw [if_pos ⟨h0, by omega⟩, Nat.mul_one]
theorem ia_g {t n o' : Nat} {h1 : Heap} {z : Int} {cs : List Value} [T : ArT P t n] (p : Pt h1 x cs o') (h0 : 0 ≤ z) (hz : z.toNat < n) (hK : ∀ p', Pt h1 p' cs (o' + z.toNat) → K p' h) : vK (aIndexAddr P t x (.int .i64 z)) h K := by
  obtain ⟨i, b, a, rfl, q⟩ := p
  refine ia_o h0 hz ?_
  rw [Nat.add_assoc]
  exact hK _ ⟨i, b, a, rfl, q⟩
theorem mul_w {t : TypeId} {a b : Int} (hk : K (.int .i64 (IntKind.i64.wrap (a * b))) h) : vK (aBin P .mul t (.int .i64 a) (.int .i64 b)) h K := vk_i (by simp [aBin, aInt]) hk
theorem pd_p {h1 : Heap} {t n : Nat} {cs : List Value} {R Q : Prop} [T : RwT P t n] [S : Stb h1 h] (p : Pt h1 x cs 0) (hz : cs.length = n) (hr : R ∧ Q) : (((aLoad P t x h).map (·, h)) = some (.agg cs.toArray, h) ∧ R) ∧ Q := by
  refine ⟨⟨?_, hr.1⟩, hr.2⟩
  have := ldr_w (T := T) (h := h) (K := fun v g => v = .agg cs.toArray ∧ g = h) p hz ⟨rfl, rfl⟩
  obtain ⟨this⟩ := this
  split at this
  · rename_i v e; rw [e, this.1]; rfl
  · exact this.elim
/-- A call that only reads. -/
theorem Runs.lent {f : FuncId} {args : List Value} (hr : Runs P f args (frz 0 h) v (frz 0 h)) : Runs P f args h v h := by
  have := Runs.lend (h := h) (new := []) (by rw [List.append_nil]; exact hr) (by rintro i (⟨a, e⟩ | ⟨es, e⟩) <;> simp at e)
  rwa [List.append_nil] at this
instance [g : GM h] : GM (frz 0 h) := ⟨g.ok.imp fun N e => (frz_stab 0 h).ro 0 _ e rfl⟩
theorem L.lent {α : Type} [R : Rep α] {l : List α} {h1 : Heap} [S : Stb h1 h] (s : L h1 v l) : L (AM.frz 0 h) v l := (s.mono S.st).frz
theorem Mem.lent0 (m : Mem h0 h l) {i c : Nat} {cs : List Value} (hk : l[k]? = some ⟨some i, cs, sz⟩) (hn : n * sz = cs.length) (hb : n ≤ 2 ^ 50) (hc : n ≤ capOf n c) : Ro sz (frz 0 h) (.slice (some ⟨i, 0, none⟩) n c) n cs := by
  obtain ⟨b, e1, e2, e3, e4, _⟩ := frz_arr (n := 0) (m.get hk) (.inr trivial)
  exact ⟨⟨hn.symm, hb⟩, .inr ⟨i, 0, c, b, rfl, e1, e4 (by omega), e3, by rw [e2]; simp only; omega, by rw [e2, List.drop_zero, hn, List.take_length], hc⟩⟩
/-- A list of one's own, lent. -/
theorem IsSl.lent {α : Type} [F : Flat α] {xs : List α} (s : IsSl v o xs.length) (m : Mem h0 h l) (q : EntO l o k (flat xs) F.sz) (hb : xs.length ≤ 2 ^ 50) : L (frz 0 h) v xs := by
  cases o with
  | none =>
    obtain ⟨rfl, e⟩ := s
    have : xs = [] := List.length_eq_zero_iff.mp e
    subst this
    exact L.nil _
  | some i =>
    obtain ⟨c, rfl, hc⟩ := s
    exact L.of_flat (m.lent0 q.ok (flat_length xs).symm hb (by unfold capOf; split <;> omega))
/-! ### parts of lists -/
theorem flat_take {α : Type} [F : Flat α] : ∀ (l : List α) (k : Nat), flat (l.take k) = (flat l).take (k * F.sz)
  | [], k => by simp [flat]
  | a :: l, 0 => by simp [flat]
  | a :: l, k + 1 => by
    have := flat_take l k
    unfold flat at *
    rw [List.take_succ_cons, List.flatMap_cons, List.flatMap_cons, this, Nat.add_mul, Nat.one_mul, Nat.add_comm, ← F.len a, List.take_length_add_append]
/-- The first k elements. -/
theorem pre_g {α : Type} [F : Flat α] {t e sz by_ k : Nat} {h1 : Heap} {l : List α} [T : SlT P t e sz by_] [S : Stb h1 h] (s : L h1 x l) (hz : sz = F.sz) (h0 : 0 < l.length) (hk : k ≤ l.length) (hK : ∀ y, L h y (l.take k) → K y h) :
    vK (aSlice P t x none (some (.int .i64 (k : Int))) none h) h K := by
  obtain ⟨hu, hsz, _⟩ := sliceT_of T.ok
  subst hz
  obtain ⟨hb, hs⟩ := (s.mono S.st).flat
  rcases hs with ⟨_, _, _, _, e⟩ | ⟨i, off, c, a, rfl, e1, e2, e3, e4, e5, e6⟩
  · omega
  · have hl : (l.take k).length = k := by simp; omega
    refine vk_i (v := .slice (some ⟨i, off, none⟩) (l.take k).length c) ?_ (hK _ (L.of_flat ⟨⟨flat_length _, by omega⟩, .inr ⟨i, off, c, a, rfl, e1, e2, e3, ?_, ?_, ?_⟩⟩))
    · simp only [aSlice, hu, hsz, e1, e3, if_true, aBoundO, aBound]
      rw [if_pos ⟨by omega, by omega⟩]
      simp only [Int.toNat_natCast, Nat.zero_mul, Nat.add_zero, Nat.sub_zero, hl]
      split <;> simp_all
    · rw [hl]
      have := Nat.mul_le_mul_right F.sz hk
      omega
    · rw [hl, flat_take, ← e5, List.take_take, Nat.min_eq_left (Nat.mul_le_mul_right _ hk)]
    · rw [hl]; unfold capOf at *; split <;> simp_all <;> omega
end Go.AM
