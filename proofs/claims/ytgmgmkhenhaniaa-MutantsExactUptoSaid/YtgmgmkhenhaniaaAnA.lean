/-
  Data in memory that is only read: told by lists, kept by every step; what a call leaves is written no more.
-/
import Derived.Test.YtgmgmkhenhaniaaAmYe
set_option linter.unusedSimpArgs false
set_option linter.unusedVariables false
namespace Go.AM
variable {P : Program} {h h' h0 h1 h2 : Heap} {ρ : Place} {w : World} {K : Value → Heap → Prop} {v x : Value}

/-! ### what stays -/
structure Stab (h h' : Heap) : Prop where
  len : h.length ≤ h'.length
  ro : ∀ (i : Nat) (a : Arr), h[i]? = some (.arr a) → a.ro = true → h'[i]? = some (.arr a)
theorem Stab.refl (h : Heap) : Stab h h := ⟨Nat.le_refl _, fun _ _ e _ => e⟩
theorem Stab.trans (a : Stab h h1) (b : Stab h1 h2) : Stab h h2 := ⟨Nat.le_trans a.len b.len, fun i x e r => b.ro i x (a.ro i x e r) r⟩
theorem Stab.of_sub (s : Sub h h') : Stab h h' := ⟨s.1, fun i a e _ => s.2 i a e⟩
theorem Stab.of_pre (p : h <+: h') : Stab h h' := Stab.of_sub (Sub.of_pre p)
theorem Stab.set {i : Nat} {a : Arr} (e : h[i]? = some (.arr a)) (hr : a.ro = false) (x : Ob) : Stab h (h.set i x) := by
  refine ⟨by simp, fun j b hb hro => ?_⟩
  rw [List.getElem?_set]
  split
  · rename_i q; subst q; rw [e] at hb; cases hb; rw [hr] at hro; cases hro
  · exact hb
class Prec (h : outParam Heap) (h' : Heap) : Prop where
  st : Stab h h'
class Stb (h h' : Heap) : Prop where
  st : Stab h h'
instance (priority := 500) stb_step {a b c : Heap} [p : Prec b c] [q : Stb a b] : Stb a c := ⟨q.st.trans p.st⟩
instance stb_refl {a : Heap} : Stb a a := ⟨Stab.refl a⟩

/-! ### what a call leaves, written no more -/
def frzO : Ob → Ob
  | .arr a => .arr { a with ro := true }
  | _ => .dead
def frz (n : Nat) (h : Heap) : Heap := h.take n ++ (h.drop n).map frzO
theorem frz_length (n : Nat) (h : Heap) : (frz n h).length = h.length := by
  simp only [frz, List.length_append, List.length_take, List.length_map, List.length_drop]; omega
theorem frz_lo {n i : Nat} (hi : i < n) : (frz n h)[i]? = h[i]? := by
  unfold frz
  by_cases q : i < h.length
  · rw [List.getElem?_append_left (by simp; omega), List.getElem?_take, if_pos hi]
  · rw [List.getElem?_append_right (by simp; omega), List.getElem?_eq_none (by simp; omega), List.getElem?_eq_none (by omega)]
theorem frz_hi {n i : Nat} (hi : n ≤ i) : (frz n h)[i]? = h[i]?.map frzO := by
  unfold frz
  by_cases q : i < h.length
  · rw [List.getElem?_append_right (by simp; omega), List.getElem?_map, List.getElem?_drop, List.length_take]
    congr 2; omega
  · rw [List.getElem?_append_right (by simp; omega), List.getElem?_eq_none (by simp; omega), List.getElem?_eq_none (by omega)]; rfl
theorem frz_arr {n i : Nat} {a : Arr} (e : h[i]? = some (.arr a)) (hr : i < n ∨ True) : ∃ b, (frz n h)[i]? = some (.arr b) ∧ b.cells = a.cells ∧ b.esz = a.esz ∧ (n ≤ i → b.ro = true) ∧ (a.ro = true → b = a) := by
  by_cases q : i < n
  · exact ⟨a, by rw [frz_lo q]; exact e, rfl, rfl, fun hh => by omega, fun _ => rfl⟩
  · exact ⟨{ a with ro := true }, by rw [frz_hi (by omega), e]; rfl, rfl, rfl, fun _ => rfl, fun hr => by cases a; simp at hr; simp [hr]⟩
theorem frz_back {n i : Nat} {b : Arr} (e : (frz n h)[i]? = some (.arr b)) : ∃ a, h[i]? = some (.arr a) ∧ b.cells = a.cells ∧ b.esz = a.esz ∧ (b.ro = false → a.ro = false ∧ i < n) := by
  by_cases q : i < n
  · rw [frz_lo q] at e; exact ⟨b, e, rfl, rfl, fun hh => ⟨hh, q⟩⟩
  · rw [frz_hi (by omega)] at e
    cases hh : h[i]? with
    | none => rw [hh] at e; cases e
    | some o =>
      rw [hh] at e
      cases o with
      | arr a => cases e; exact ⟨a, rfl, rfl, rfl, fun hh => by cases hh⟩
      | dead => cases e
      | map es => cases e
theorem frz_map {n i : Nat} {es : List (Value × Value)} (e : (frz n h)[i]? = some (.map es)) : h[i]? = some (.map es) ∧ i < n := by
  by_cases q : i < n
  · rw [frz_lo q] at e; exact ⟨e, q⟩
  · rw [frz_hi (by omega)] at e
    cases hh : h[i]? with
    | none => rw [hh] at e; cases e
    | some o => rw [hh] at e; cases o <;> cases e
theorem frz_stab (n : Nat) (h : Heap) : Stab h (frz n h) := by
  refine ⟨by rw [frz_length]; exact Nat.le_refl _, fun i a e hr => ?_⟩
  obtain ⟨b, e1, _, _, _, e2⟩ := frz_arr (n := n) e (.inr trivial)
  rw [e1, e2 hr]
theorem frz_pre (p : h <+: h') : h <+: frz h.length h' := by
  obtain ⟨t, rfl⟩ := p
  refine ⟨t.map frzO, ?_⟩
  simp [frz]
theorem frz_alive {n i : Nat} (a : Alive (frz n h) i) : Alive h i := by
  rcases a with ⟨b, e⟩ | ⟨es, e⟩
  · obtain ⟨a, e1, _⟩ := frz_back e; exact .inl ⟨a, e1⟩
  · exact .inr ⟨es, (frz_map e).1⟩
theorem frz_writable {n i : Nat} (a : Writable (frz n h) i) : Writable h i := by
  rcases a with ⟨b, e, hr⟩ | ⟨es, e⟩
  · obtain ⟨a, e1, _, _, e2⟩ := frz_back e; exact .inl ⟨a, e1, (e2 hr).1⟩
  · exact .inr ⟨es, (frz_map e).1⟩
theorem Runs.freeze {f : FuncId} {args : List Value} (hr : Runs P f args h v h') : Runs P f args h v (frz h.length h') := by
  intro ρ w cargs G0 RR rl
  refine (hr ρ w cargs G0 RR rl).mono ?_
  rintro e w' ⟨v', h'', ρ', c, ⟨rfl, rfl⟩, rfl, R', S', hv⟩
  refine ⟨v', _, ρ', c, ⟨rfl, rfl⟩, rfl, ⟨?_, ?_, ?_, ?_⟩, ⟨S'.ext, S'.new, by rw [frz_length]; exact S'.len, S'.os, S'.tape, S'.output, S'.size, S'.drawn, S'.keep, ?_⟩, hv⟩
  · intro i L hL; rw [frz_length]; exact R'.dom i L hL
  · intro i L b hL hb
    obtain ⟨a, e1, e2, e3, e4⟩ := frz_back hb
    obtain ⟨cs, ty, fr, g1, g2, g3, g4, g5, g6⟩ := R'.arr i L a hL e1
    exact ⟨cs, ty, fr, g1, g2, by rw [e2]; exact g3, by rw [e3]; exact g4, by rw [e2]; exact g5, fun hh => g6 (e4 hh).1⟩
  · intro i L es hL he; exact R'.map i L es hL (frz_map he).1
  · intro i j Li Lj hi hj hne hw ha; exact R'.inj i j Li Lj hi hj hne (frz_writable hw) (frz_alive ha)
  · intro i L hL ha hlt
    obtain ⟨i0, L0, e1, e2, e3, e4⟩ := S'.old i L hL (frz_alive ha) hlt
    exact ⟨i0, L0, e1, e2, e3, fun hw => e4 (frz_writable hw)⟩
/-- What a call gives, its new arrays to be read only. -/
theorem DetP.freeze {f : FuncId} {args : List Value} {Q : Value → Heap → Prop} (d : DetP P f args h fun v h' => h <+: h' ∧ Q v (frz h.length h')) : DetP P f args h fun v g => h <+: g ∧ Q v g := by
  obtain ⟨v, h', hr, hp, hq⟩ := d
  exact ⟨v, _, hr.freeze, frz_pre hp, hq⟩

/-! ### lists in memory that is only read -/
/-- n elements of sz cells. -/
def Ro (sz : Nat) (h : Heap) (v : Value) (n : Nat) (cs : List Value) : Prop :=
  (cs.length = n * sz ∧ n ≤ 2 ^ 50) ∧ ((∃ (o : Option (Nat × Nat)) (c : Nat), v = .slice (o.map fun p => ⟨p.1, p.2, none⟩) 0 c ∧ (∀ p, o = some p → p.1 < h.length) ∧ n = 0) ∨
    ∃ i o c a, v = .slice (some ⟨i, o, none⟩) n c ∧ h[i]? = some (.arr a) ∧ a.ro = true ∧ a.esz = sz ∧ o + n * sz ≤ a.cells.length ∧ (a.cells.drop o).take (n * sz) = cs ∧ n ≤ capOf n c)
theorem Ro.seg {sz n : Nat} {cs : List Value} (s : Ro sz h v n cs) : Seg sz h v n cs := by
  obtain ⟨l, s⟩ := s
  refine ⟨l, s.imp id ?_⟩
  rintro ⟨i, o, c, a, e1, e2, _, e3, e4, e5, _⟩
  exact ⟨i, o, c, a, e1, e2, e3, e4, e5⟩
theorem Ro.mono {sz n : Nat} {cs : List Value} (s : Ro sz h v n cs) (hs : Stab h h') : Ro sz h' v n cs := by
  obtain ⟨l, s⟩ := s
  refine ⟨l, s.imp ?_ ?_⟩
  · rintro ⟨o, c, e1, e2, e3⟩
    exact ⟨o, c, e1, fun p hp => Nat.lt_of_lt_of_le (e2 p hp) hs.len, e3⟩
  · rintro ⟨i, o, c, a, e1, e2, e3, e4⟩
    exact ⟨i, o, c, a, e1, hs.ro i a e2 e3, e3, e4⟩
theorem Ro.nil (sz : Nat) (h : Heap) : Ro sz h (.slice none 0 0) 0 [] := ⟨⟨by simp, by omega⟩, .inl ⟨none, 0, rfl, fun p hp => (by cases hp), rfl⟩⟩
theorem Ro.one {sz n : Nat} {cs : List Value} (s : Ro sz h v n cs) : v.oneCell' = true := s.seg.one_slice
theorem Ro.vb {sz n : Nat} {cs : List Value} (s : Ro sz h v n cs) : VB h.length v := seg_vb s.seg

/-- What stands in cells, told by data. -/
class Rep (α : Type) where
  sz : Nat
  rd : Heap → List Value → α → Prop
  len : ∀ {h : Heap} {cs : List Value} {a : α}, rd h cs a → cs.length = sz
  mono : ∀ {h h' : Heap} {cs : List Value} {a : α}, Stab h h' → rd h cs a → rd h' cs a
  one : ∀ {h : Heap} {cs : List Value} {a : α}, rd h cs a → cs.all (·.oneCell') = true
/-- Data without slices within. -/
class Flat (α : Type) where
  sz : Nat
  cells : α → List Value
  len : ∀ a : α, (cells a).length = sz
  flat : ∀ a : α, (cells a).all flatV = true
theorem flat_one {v : Value} (hv : flatV v = true) : v.oneCell' = true := by
  unfold flatV at hv
  split at hv <;> first | rfl | cases hv
theorem flat_ones {cs : List Value} (hv : cs.all flatV = true) : cs.all (·.oneCell') = true :=
  List.all_eq_true.mpr fun v h => flat_one (List.all_eq_true.mp hv v h)
instance (priority := 2000) {α : Type} [F : Flat α] : Rep α := ⟨F.sz, fun _ cs a => cs = F.cells a, fun {_ _ a} e => by subst e; exact F.len a, fun _ e => e, fun {_ _ a} e => by subst e; exact flat_ones (F.flat a)⟩
instance : Flat Int := ⟨1, fun n => [.int .i64 n], fun _ => rfl, fun _ => rfl⟩
instance : Flat Bool := ⟨1, fun b => [.bool b], fun _ => rfl, fun _ => rfl⟩
instance : Flat ByteArray := ⟨1, fun s => [.string s], fun _ => rfl, fun _ => rfl⟩
instance : Flat Nat := ⟨1, fun n => [.int .u64 n], fun _ => rfl, fun _ => rfl⟩

/-- A list. -/
def L {α : Type} [R : Rep α] (h : Heap) (v : Value) (l : List α) : Prop :=
  ∃ css : List (List Value), css.length = l.length ∧ Ro R.sz h v l.length css.flatten ∧ ∀ (k : Nat) (h1 : k < css.length) (h2 : k < l.length), R.rd h css[k] l[k]
theorem L.ro {α : Type} [R : Rep α] {l : List α} (s : L h v l) : ∃ cs, Ro R.sz h v l.length cs := by obtain ⟨css, _, s, _⟩ := s; exact ⟨_, s⟩
theorem L.mono {α : Type} [R : Rep α] {l : List α} (s : L h v l) (hs : Stab h h') : L h' v l := by
  obtain ⟨css, e, s, r⟩ := s
  exact ⟨css, e, s.mono hs, fun k h1 h2 => R.mono hs (r k h1 h2)⟩
theorem L.up {α : Type} [R : Rep α] {l : List α} [S : Stb h h'] (s : L h v l) : L h' v l := s.mono S.st
theorem L.lt {α : Type} [R : Rep α] {l : List α} (s : L h v l) : l.length ≤ 2 ^ 50 := by obtain ⟨cs, s⟩ := s.ro; exact s.1.2
theorem L.nil {α : Type} [R : Rep α] (h : Heap) : L h (.slice none 0 0) ([] : List α) := ⟨[], rfl, Ro.nil _ h, fun k h1 => by simp at h1⟩
theorem L.vb {α : Type} [R : Rep α] {l : List α} (s : L h v l) : VB h.length v := by obtain ⟨cs, s⟩ := s.ro; exact s.vb
theorem L.one {α : Type} [R : Rep α] {l : List α} (s : L h v l) : v.oneCell' = true := by obtain ⟨cs, s⟩ := s.ro; exact s.one
theorem L.isSlice {α : Type} [R : Rep α] {l : List α} (s : L h v l) : ∃ o c, v = .slice o l.length c := by
  obtain ⟨cs, _, s⟩ := s.ro
  rcases s with ⟨o, c, rfl, _, e⟩ | ⟨i, o, c, a, rfl, _⟩
  · exact ⟨_, c, by rw [e]⟩
  · exact ⟨_, c, rfl⟩
instance {α : Type} [R : Rep α] : Rep (List α) := ⟨1, fun h cs l => ∃ v, cs = [v] ∧ L h v l, by rintro h cs a ⟨v, rfl, _⟩; rfl, by rintro h h' cs a hs ⟨v, e, s⟩; exact ⟨v, e, s.mono hs⟩,
  by rintro h cs a ⟨v, rfl, s⟩; simpa using s.one⟩
def flat {α : Type} [F : Flat α] (l : List α) : List Value := l.flatMap F.cells
theorem flat_length {α : Type} [F : Flat α] (l : List α) : (flat l).length = l.length * F.sz := by
  unfold flat
  induction l with
  | nil => simp
  | cons a l ih => simp [List.flatMap_cons, ih, F.len, Nat.add_mul]; omega
theorem flatMap_css {α : Type} [F : Flat α] : ∀ (css : List (List Value)) (l : List α), css.length = l.length → (∀ (k : Nat) (h1 : k < css.length) (h2 : k < l.length), css[k] = F.cells l[k]) → css.flatten = flat l
  | [], [], _, _ => rfl
  | cs :: css, a :: l, e, r => by
    have h0 := r 0 (by simp) (by simp)
    simp at h0
    have := flatMap_css css l (by simpa using e) (fun k h1 h2 => r (k + 1) (by simpa using h1) (by simpa using h2))
    simp [flat, h0, this]
  | [], _ :: _, e, _ => by simp at e
  | _ :: _, [], e, _ => by simp at e
theorem L.flat {α : Type} [F : Flat α] {l : List α} (s : L h v l) : Ro F.sz h v l.length (flat l) := by
  obtain ⟨css, e, s, r⟩ := s
  have := flatMap_css css l e r
  rw [← this]; exact s
theorem L.of_flat {α : Type} [F : Flat α] {l : List α} (s : Ro F.sz h v l.length (AM.flat l)) : L h v l := by
  refine ⟨l.map F.cells, by simp, ?_, fun k h1 h2 => by simp; rfl⟩
  have : (l.map F.cells).flatten = AM.flat l := by simp [AM.flat, List.flatMap_def]
  rw [this]; exact s

/-- A pointer into cells that are only read: o cells behind their beginning. -/
def Pt (h : Heap) (p : Value) (cs : List Value) (o : Nat) : Prop :=
  ∃ i b a, p = .pointer (some ⟨i, b + o, none⟩) ∧ h[i]? = some (.arr a) ∧ a.ro = true ∧ b + cs.length ≤ a.cells.length ∧ (a.cells.drop b).take cs.length = cs
theorem Pt.mono {cs : List Value} {o : Nat} (p : Pt h v cs o) (hs : Stab h h') : Pt h' v cs o := by
  obtain ⟨i, b, a, e1, e2, e3, e4⟩ := p
  exact ⟨i, b, a, e1, hs.ro i a e2 e3, e3, e4⟩
theorem Pt.get {cs : List Value} {o : Nat} (p : Pt h v cs o) {y : Value} (hy : cs[o]? = some y) : ∃ i b a, v = .pointer (some ⟨i, b, none⟩) ∧ h[i]? = some (.arr a) ∧ a.cells[b]? = some y := by
  obtain ⟨i, b, a, rfl, e2, e3, e4, e5⟩ := p
  refine ⟨i, b + o, a, rfl, e2, ?_⟩
  rw [← e5, List.getElem?_take] at hy
  split at hy
  · rw [List.getElem?_drop] at hy; exact hy
  · cases hy

/-! ### types -/
class SlT (P : Program) (t : Nat) (e sz by_ : outParam Nat) : Prop where
  ok : sliceT P t e sz by_ = true
class PlT (P : Program) (t : Nat) : Prop where
  ok : isPlain P t = true
def rowB (P : Program) (t n : Nat) : Bool := (match P.underlying t with | some d => d.isRow | none => false) && (match szOf P t with | some k => Nat.beq k n && Nat.ble 1 n | none => false)
class RwT (P : Program) (t : Nat) (n : outParam Nat) : Prop where
  ok : rowB P t n = true
def fldB (P : Program) (t j off ft : Nat) : Bool :=
  match P.underlying t with
  | some (.struct fs) => (match fs[j]? with | some f => Nat.beq f.offset off && Nat.beq f.type ft && (match szOf P f.type with | some (_ + 1) => true | _ => false) | none => false)
  | _ => false
class FdT (P : Program) (t j : Nat) (off ft : outParam Nat) : Prop where
  ok : fldB P t j off ft = true
class OneT (P : Program) (t : Nat) : Prop where
  ok : (match szOf P t with | some k => Nat.beq k 1 | none => false) = true
theorem OneT.sz {t : Nat} [o : OneT P t] : szOf P t = some 1 := by
  have := o.ok
  split at this
  · rename_i k e; rw [e, Nat.eq_of_beq_eq_true this]
  · cases this
theorem row_of {t n : Nat} (hh : rowB P t n = true) : ∃ d, P.underlying t = some d ∧ d.isRow = true ∧ szOf P t = some n ∧ 0 < n := by
  unfold rowB at hh
  simp only [Bool.and_eq_true] at hh
  obtain ⟨h1, h2⟩ := hh
  split at h1
  · rename_i d e
    split at h2
    · rename_i k e2
      simp only [Bool.and_eq_true] at h2
      exact ⟨d, e, h1, by rw [e2, Nat.eq_of_beq_eq_true h2.1], Nat.le_of_ble_eq_true h2.2⟩
    · cases h2
  · cases h1
theorem fld_of {t j off ft : Nat} (hh : fldB P t j off ft = true) : ∃ fs f n, P.underlying t = some (.struct fs) ∧ fs[j]? = some f ∧ f.offset = off ∧ f.type = ft ∧ szOf P f.type = some (n + 1) := by
  unfold fldB at hh
  split at hh
  · rename_i fs hu
    split at hh
    · rename_i f hf
      simp only [Bool.and_eq_true] at hh
      obtain ⟨⟨h1, h2⟩, h3⟩ := hh
      split at h3
      · rename_i n hn; exact ⟨fs, f, n, hu, hf, Nat.eq_of_beq_eq_true h1, Nat.eq_of_beq_eq_true h2, hn⟩
      · cases h3
    · cases hh
  · cases hh

/-! ### steps that read -/
theorem len_g {α : Type} [R : Rep α] {t e sz by_ : Nat} {l : List α} [T : SlT P t e sz by_] (s : L h1 x l) (hk : K (.int .i64 (l.length : Int)) h) : vK (aLen P t x) h K := by
  obtain ⟨hu, _⟩ := sliceT_of T.ok
  obtain ⟨o, c, rfl⟩ := s.isSlice
  refine vk_i (v := .int .i64 (l.length : Int)) ?_ hk
  unfold aLen
  rw [hu]
theorem css_at : ∀ {css : List (List Value)} {sz k : Nat} (hz : ∀ (k : Nat) (h1 : k < css.length), css[k].length = sz) (hk : k < css.length), (css.flatten.drop (k * sz)).take sz = css[k]
  | cs :: css, sz, 0, hz, hk => by
    have := hz 0 (by simp)
    simp at this
    simp [← this]
  | cs :: css, sz, k + 1, hz, hk => by
    have h0 := hz 0 (by simp)
    simp at h0
    have := css_at (css := css) (sz := sz) (k := k) (fun k h1 => hz (k + 1) (by simpa using h1)) (by simpa using hk)
    simp only [List.flatten_cons, List.getElem_cons_succ]
    rw [← this, show (k + 1) * sz = cs.length + k * sz by rw [h0, Nat.add_mul]; omega, ← List.drop_drop, List.drop_left]
/-- An element's place, by a number. -/
theorem idx_g {α : Type} [R : Rep α] {t e sz by_ : Nat} {z : Int} {l : List α} [T : SlT P t e sz by_] (hz : sz = R.sz) (s : L h1 x l) (h0 : 0 ≤ z) (hk : z.toNat < l.length)
    (hK : ∀ p cs, Pt h1 p cs 0 → R.rd h1 cs (l[z.toNat]'hk) → K p h) : vK (aIndexAddr P t x (.int .i64 z)) h K := by
  obtain ⟨hu, hsz, _⟩ := sliceT_of T.ok
  obtain ⟨css, hl, s, r⟩ := s
  subst hz
  have hz2 : ∀ (k : Nat) (h1 : k < css.length), css[k].length = R.sz := fun k h1 => R.len (r k h1 (by omega))
  rcases s with ⟨s1, ⟨_, _, rfl, _, e0⟩ | ⟨i, o, c, a, rfl, e1, e2, e3, e4, e5, _⟩⟩
  · omega
  · refine vk_i (v := .pointer (some ⟨i, o + z.toNat * R.sz, none⟩)) ?_ (hK _ _ ⟨i, o + z.toNat * R.sz, a, rfl, e1, e2, ?_, ?_⟩ (r z.toNat (by omega) hk))
    · unfold aIndexAddr
      simp only [hu, hsz]
      rw [if_pos ⟨h0, by omega⟩]
    · rw [hz2 _ (by omega)]
      have : (z.toNat + 1) * R.sz ≤ l.length * R.sz := Nat.mul_le_mul_right _ (by omega)
      rw [Nat.add_mul] at this
      omega
    · rw [hz2 _ (by omega)]
      have := css_at hz2 (k := z.toNat) (by omega)
      rw [← this, ← e5, List.drop_take, List.drop_drop, List.take_take]
      congr 1
      have : (z.toNat + 1) * R.sz ≤ l.length * R.sz := Nat.mul_le_mul_right _ (by omega)
      rw [Nat.add_mul] at this
      omega
theorem idx_n {α : Type} [R : Rep α] {t e sz by_ : Nat} {k : Nat} {l : List α} [T : SlT P t e sz by_] (hz : sz = R.sz) (s : L h1 x l) (hk : k < l.length)
    (hK : ∀ p cs, Pt h1 p cs 0 → R.rd h1 cs l[k] → K p h) : vK (aIndexAddr P t x (.int .i64 (k : Int))) h K :=
  idx_g hz s (by omega) (by simpa using hk) (by simpa using hK)
/-- Of data without slices within. -/
theorem idx_f {α : Type} [F : Flat α] {t e sz by_ : Nat} {k : Nat} {l : List α} [T : SlT P t e sz by_] (s : L h1 x l) (hz : sz = F.sz) (hk : k < l.length)
    (hK : ∀ p, Pt h1 p (F.cells l[k]) 0 → K p h) : vK (aIndexAddr P t x (.int .i64 (k : Int))) h K :=
  idx_n hz s hk fun p cs hp hc => by cases hc; exact hK p hp
theorem idx_fz {α : Type} [F : Flat α] {t e sz by_ : Nat} {z : Int} {l : List α} [T : SlT P t e sz by_] (s : L h1 x l) (hz : sz = F.sz) (h0 : 0 ≤ z) (hk : z.toNat < l.length)
    (hK : ∀ p, Pt h1 p (F.cells (l[z.toNat]'hk)) 0 → K p h) : vK (aIndexAddr P t x (.int .i64 z)) h K :=
  idx_g hz s h0 hk fun p cs hp hc => by cases hc; exact hK p hp
/-- Of lists of lists. -/
theorem idx_l {α : Type} [R : Rep α] {t e sz by_ : Nat} {k : Nat} {l : List (List α)} [T : SlT P t e sz by_] (s : L h1 x l) (hz : sz = 1) (hk : k < l.length)
    (hK : ∀ p v, Pt h1 p [v] 0 → L h1 v l[k] → K p h) : vK (aIndexAddr P t x (.int .i64 (k : Int))) h K :=
  idx_n hz s hk fun p cs hp ⟨v, e, hl⟩ => by subst e; exact hK p v hp hl
theorem fa_g {t j off ft o : Nat} {cs : List Value} [T : FdT P t j off ft] (p : Pt h1 x cs o) (hK : ∀ p', Pt h1 p' cs (o + off) → K p' h) : vK (aFieldAddr P t x j) h K := by
  obtain ⟨fs, f, n, e1, e2, e3, e4, e5⟩ := fld_of T.ok
  obtain ⟨i, b, a, rfl, q⟩ := p
  refine vk_i (v := .pointer (some ⟨i, b + (o + off), none⟩)) ?_ (hK _ ⟨i, b, a, rfl, q⟩)
  unfold aFieldAddr
  simp only [e1, e2, e5, e3, Nat.add_assoc]
theorem ld_g {t o : Nat} {cs : List Value} {y : Value} [T : PlT P t] [S : Stb h1 h] (p : Pt h1 x cs o) (hy : cs[o]? = some y) (hK : K y h) : vK (aLoad P t x h) h K := by
  obtain ⟨i, b, a, rfl, e1, e2⟩ := (p.mono S.st).get hy
  exact ldc_i T.ok e1 e2 hK
theorem ldr_g {t n o : Nat} {cs ys : List Value} [T : RwT P t n] [S : Stb h1 h] (p : Pt h1 x cs o) (hy : (cs.drop o).take n = ys) (hn : n ≤ ys.length) (hK : K (.agg ys.toArray) h) : vK (aLoad P t x h) h K := by
  obtain ⟨d, e1, e2, e3, e4⟩ := row_of T.ok
  obtain ⟨i, b, a, rfl, q1, q2, q3, q4⟩ := p.mono S.st
  refine vk_i (v := .agg ys.toArray) ?_ hK
  have hl : n ≤ (cs.drop o).length := by rw [← hy, List.length_take] at hn; omega
  rw [List.length_drop] at hl
  have key : ((a.cells.drop (b + o)).take n) = ys := by
    rw [← hy]
    conv => rhs; rw [← q4]
    rw [List.drop_take, List.drop_drop, List.take_take]
    congr 1
    omega
  simp only [aLoad, q1, e1, e3]
  rw [if_pos e2, if_pos (by omega), key]
end Go.AM
