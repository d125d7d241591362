/-
  Contracts: slices over arrays told by labels; what stays while these change.
-/
import Derived.Test.YtalnnkpdpjmmkaaAmYc
set_option linter.unusedSimpArgs false
set_option linter.unusedVariables false
namespace Go.AM
variable {P : Program} {h h' h0 h1 h2 : Heap} {K : Value → Heap → Prop} {v x : Value}
variable {N : Nat → Option Nat} {C : Nat → List Value} {E : Nat → Nat}

/-- What holds whatever becomes of the labelled arrays. -/
def Frz (N : Nat → Option Nat) (h : Heap) (Q : Heap → Prop) : Prop := ∀ g : Heap, h.length ≤ g.length → (∀ (j : Nat) (a : Arr), (∀ l, N l ≠ some j) → h[j]? = some (.arr a) → g[j]? = some (.arr a)) → Q g
theorem Frz.self {Q : Heap → Prop} (f : Frz N h Q) : Q h := f h (Nat.le_refl _) fun _ _ _ e => e
theorem Frz.ext {Q : Heap → Prop} (f : Frz N h Q) (p : h <+: h') : Frz N h' Q := fun g hl hg => f g (Nat.le_trans p.length_le hl) fun j a hj e => hg j a hj ((Sub.of_pre p).2 _ _ e)
theorem Frz.set {Q : Heap → Prop} (f : Frz N h Q) {l n : Nat} (hl : N l = some n) (x : Ob) : Frz N (h.set n x) Q := fun g hle hg => f g (by simpa using hle) fun j a hj e => hg j a hj (by
  rw [List.getElem?_set, if_neg (by rintro rfl; exact hj l hl)]; exact e)
theorem Frz.lab {Q : Heap → Prop} (f : Frz N h Q) (l : Nat) (o : Option Nat) (ho : ∀ n, o = some n → h.length ≤ n) (p : Sub h h') : Frz (upN N l o) h' Q := fun g hle hg => f g (Nat.le_trans p.1 hle) fun j a hj e => hg j a (fun l' => by
  by_cases q : l' = l
  · subst q
    rw [upN_self]
    intro e2
    have := ho j e2
    have := (List.getElem?_eq_some_iff.mp e).1
    omega
  · rw [upN_ne q]; exact hj l') (p.2 _ _ e)
theorem Frz.of_only {Q : Heap → Prop} (o : Owns h0 h N C E) (p : h <+: h') (q : Only h h' Q) : Frz N h' Q := fun g hl hg => q g fun j a hj e => hg j a (fun l e2 => by have := o.lt e2; omega) e
theorem Frz.base {Q : Heap → Prop} (o : Owns h0 h N C E) (q : ∀ g, Sub h0 g → Q g) : Frz N h Q := fun g hl hg => q g ⟨Nat.le_trans o.pre.length_le hl, fun j a e => hg j a (fun l e2 => by
  have := (o.here l j e2).1
  have := (List.getElem?_eq_some_iff.mp e).1
  omega) (o.sub.2 _ _ e)⟩
theorem Frz.map {Q Q' : Heap → Prop} (f : Frz N h Q) (hm : ∀ g, Q g → Q' g) : Frz N h Q' := fun g hl hg => hm g (f g hl hg)
theorem Frz.and {Q Q' : Heap → Prop} (f : Frz N h Q) (f' : Frz N h Q') : Frz N h fun g => Q g ∧ Q' g := fun g hl hg => ⟨f g hl hg, f' g hl hg⟩
/-- What has been made since, told by itself. -/
theorem Owns.only {Q : Heap → Prop} (o : Owns h0 h N C E) (q : ∀ g, Owns [] g N C E → Q g) : Only h0 h Q := fun g hg => q g ⟨List.nil_prefix, fun l n e => ⟨Nat.zero_le _, hg _ _ (o.here l n e).1 (o.here l n e).2⟩, o.inj⟩
theorem Only.from {Q : Heap → Prop} (p : h0 <+: h) (q : Only h h' Q) : Only h0 h' Q := fun g hg => q g fun j a hj e => hg j a (Nat.le_trans p.length_le hj) e
theorem Only.map {Q Q' : Heap → Prop} (f : Only h h' Q) (hm : ∀ g, Q g → Q' g) : Only h h' Q' := fun g hg => hm g (f g hg)
theorem Only.pre {Q : Heap → Prop} (q : Only h h1 Q) (p : h1 <+: h2) : Only h h2 Q := q.mono (Sub.of_pre p)

/-- A slice of single cells over a labelled array (or none yet). -/
def LS (N : Nat → Option Nat) (C : Nat → List Value) (l : Nat) (v : Value) (q : List Value) : Prop :=
  (N l = none ∧ v = .slice none 0 0 ∧ q = []) ∨ ∃ i off c, N l = some i ∧ v = .slice (some ⟨i, off, none⟩) q.length c ∧ off + q.length ≤ (C l).length ∧ ((C l).drop off).take q.length = q
variable {l : Nat} {q : List Value}
theorem LS.nil (hn : N l = none) : LS N C l (.slice none 0 0) [] := .inl ⟨hn, rfl, rfl⟩
theorem LS.whole {i c k : Nat} (hn : N l = some i) (hk : (C l).length = k) : LS N C l (.slice (some ⟨i, 0, none⟩) k c) (C l) := .inr ⟨i, 0, c, hn, by rw [hk], by omega, by rw [List.drop_zero, List.take_length]⟩
theorem LS.ne {l' : Nat} {o : Option Nat} {cs : List Value} (s : LS N C l v q) (hne : l ≠ l') : LS (upN N l' o) (upN C l' cs) l v q := by
  unfold LS
  rw [upN_ne hne, upN_ne hne]; exact s
theorem LS.neC {l' : Nat} {cs : List Value} (s : LS N C l v q) (hne : l ≠ l') : LS N (upN C l' cs) l v q := by
  unfold LS
  rw [upN_ne hne]; exact s
theorem LS.seg (o : Owns h0 h N C E) (s : LS N C l v q) (he : E l = 1) (hb : q.length ≤ 2 ^ 50) : Seg 1 h v q.length q := by
  rcases s with ⟨_, rfl, rfl⟩ | ⟨i, off, c, hn, rfl, h1, h2⟩
  · exact Seg.nil _ _
  · exact ⟨⟨by omega, hb⟩, .inr ⟨i, off, c, _, rfl, o.get hn, he, by simpa using h1, by simpa using h2⟩⟩
theorem LS.ints {xs : List Int} (o : Owns h0 h N C E) (s : LS N C l v (xs.map (.int .i64))) (he : E l = 1) (hb : xs.length ≤ 2 ^ 50) : IntS h v xs := by
  have := s.seg o he (by simpa using hb)
  simpa [IntS] using this
theorem LS.bools {xs : List Bool} (o : Owns h0 h N C E) (s : LS N C l v (xs.map .bool)) (he : E l = 1) (hb : xs.length ≤ 2 ^ 50) : BoolS h v xs := by
  have := s.seg o he (by simpa using hb)
  simpa [BoolS] using this
/-- An append to it. -/
theorem lapp {t e by_ m : Nat} {xs : List Value} (ht : sliceT P t e 1 by_ = true) (o : Owns h0 h N C E) (s : LS N C l v q) (he : E l = 1) (hx : Seg 1 h x m xs) (hone : xs.all (·.oneCell') = true) (hm : 0 < m)
    (hb : (q.length + m) * by_ ≤ 2 ^ 46 ∧ q.length + m ≤ 2 ^ 46)
    (hK : ∀ (h' : Heap) (v' : Value), Owns h0 h' (upN N l (some h.length)) (upN C l (q ++ xs)) E → LS (upN N l (some h.length)) (upN C l (q ++ xs)) l v' (q ++ xs) → (∀ (j : Nat) (a : Arr), N l ≠ some j → h[j]? = some (.arr a) → h'[j]? = some (.arr a)) → h.length ≤ h'.length → (∃ c, v' = .slice (some ⟨h.length, 0, none⟩) (q.length + m) c) → K v' h') :
    okK (aAppend P t t v x h) K := by
  have hlx : xs.length = m := by simpa using hx.1.1
  have fin : LS (upN N l (some h.length)) (upN C l (q ++ xs)) l (.slice (some ⟨h.length, 0, none⟩) (q.length + m) 0) (q ++ xs) :=
    .inr ⟨h.length, 0, 0, upN_self _ _ _, by simp [hlx], by rw [upN_self]; simp, by rw [upN_self, List.drop_zero, List.take_length]⟩
  rcases s with ⟨hn, rfl, rfl⟩ | ⟨i, off, c, hn, rfl, h1, h2⟩
  · refine ok_i (app_nil ht hx hone hm (by simpa using hb)) ?_
    have := hK (newArr h xs 1) (.slice (some ⟨h.length, 0, none⟩) (0 + m) 0) (by simpa using o.add l xs 1 he) (by simpa using fin) (fun j a _ e => (Sub.of_pre (pre_new _ _ _)).2 _ _ e) (by simp [newArr]) ⟨0, by simp⟩
    simpa using this
  · have hi := o.get hn
    rw [he] at hi
    refine ok_i (app_at ht hx hone hm hb hi (by simpa using h1)) ?_
    rw [Nat.mul_one, h2]
    split
    · exact hK _ _ (o.add l (q ++ xs) 1 he) fin (fun j a _ e => (Sub.of_pre (pre_new _ _ _)).2 _ _ e) (by simp [newArr]) ⟨0, rfl⟩
    · refine hK _ _ (o.swap hn (q ++ xs) 1 he) fin (fun j a hj e => (Sub.of_pre (pre_new _ _ _)).2 _ _ ?_) (by simp [newArr]) ⟨0, rfl⟩
      rw [List.getElem?_set, if_neg (by rintro rfl; exact hj hn)]; exact e
/-- What stays of it. -/
theorem Frz.app {Q : Heap → Prop} (f : Frz N h Q) (hk : ∀ (j : Nat) (a : Arr), N l ≠ some j → h[j]? = some (.arr a) → h'[j]? = some (.arr a)) (hl : h.length ≤ h'.length) : Frz (upN N l (some h.length)) h' Q := fun g hle hg => f g (Nat.le_trans hl hle) fun j a hj e => hg j a (fun l' => by
  by_cases q : l' = l
  · subst q
    rw [upN_self]
    intro e2
    cases e2
    have := (List.getElem?_eq_some_iff.mp e).1
    omega
  · rw [upN_ne q]; exact hj l') (hk j a (hj l) e)
/-- All but the first. -/
theorem ltail {t e by_ : Nat} {y : Value} (ht : sliceT P t e 1 by_ = true) (o : Owns h0 h N C E) (s : LS N C l v (y :: q)) (he : E l = 1) (hK : ∀ v', LS N C l v' q → K v' h) : vK (aSlice P t v (some (.int .i64 1)) none none h) h K := by
  obtain ⟨hu, hsz, _⟩ := sliceT_of ht
  rcases s with ⟨_, _, e⟩ | ⟨i, off, c, hn, rfl, h1, h2⟩
  · cases e
  · have hi := o.get hn
    rw [he] at hi
    simp only [List.length_cons] at h1 h2
    refine vk_i (v := .slice (some ⟨i, off + 1, none⟩) q.length (if c = 0 then 0 else c - 1)) ?_ (hK _ (.inr ⟨i, off + 1, _, hn, rfl, by omega, ?_⟩))
    · simp only [aSlice, hu, hsz, hi, if_true, aBoundO, aBound]
      rw [if_pos ⟨by simp, by simp; omega⟩]
      simp
    · rw [← List.drop_drop]
      have := congrArg (List.drop 1) h2
      rw [List.drop_take] at this
      simpa using this
/-- A cell of a labelled array. -/
theorem ldl {e : TypeId} {i off : Nat} {y : Value} (hr : isPlain P e = true) (o : Owns h0 h N C E) (hl : N l = some i) (hc : (C l)[off]? = some y) (hK : K y h) : vK (aLoad P e (.pointer (some ⟨i, off, none⟩)) h) h K := ldc_i hr (o.get hl) hc hK
theorem stl {e : TypeId} {i off : Nat} {y : Value} (hs : szOf P e = some 1) (o : Owns h0 h N C E) (hl : N l = some i) (ho : off < (C l).length) (h1 : y.cells = #[y]) (h2 : y.oneCell' = true)
    (hK : Owns h0 (h.set i (.arr ⟨(C l).set off y, E l, false⟩)) N (upN C l ((C l).set off y)) E → K undef (h.set i (.arr ⟨(C l).set off y, E l, false⟩))) : okK ((aStore P e (.pointer (some ⟨i, off, none⟩)) y h).map (undef, ·)) K :=
  st_i hs (o.get hl) rfl ho h1 h2 (hK (o.put hl _))
theorem elt_at (sz b n c k : Nat) : elt sz (.slice (some ⟨b, 0, none⟩) n c) k = .pointer (some ⟨b, k * sz, none⟩) := by simp [elt]
theorem elt_at1 (b n c k : Nat) : elt 1 (.slice (some ⟨b, 0, none⟩) n c) k = .pointer (some ⟨b, k, none⟩) := by simp [elt]

/-! ### indexes that are numbers -/
theorem idxz {t e sz by_ n : Nat} {z : Int} {cs : List Value} (ht : sliceT P t e sz by_ = true) (s : Seg sz h1 x n cs) (h0 : 0 ≤ z) (hk : z < n) (hK : K (elt sz x z.toNat) h) : vK (aIndexAddr P t x (.int .i64 z)) h K := by
  obtain ⟨k, rfl⟩ : ∃ k : Nat, z = (k : Int) := ⟨z.toNat, (Int.toNat_of_nonneg h0).symm⟩
  exact idx_i ht s (by omega) hK
theorem idxzi {t e by_ : Nat} {z : Int} {xs : List Int} (ht : sliceT P t e 1 by_ = true) (s : IntS h1 x xs) (h0 : 0 ≤ z) (hk : z < xs.length) (hK : K (elt 1 x z.toNat) h) : vK (aIndexAddr P t x (.int .i64 z)) h K := idxz ht s h0 hk hK
theorem idxzb {t e by_ : Nat} {z : Int} {xs : List Bool} (ht : sliceT P t e 1 by_ = true) (s : BoolS h1 x xs) (h0 : 0 ≤ z) (hk : z < xs.length) (hK : K (elt 1 x z.toNat) h) : vK (aIndexAddr P t x (.int .i64 z)) h K := idxz ht s h0 hk hK
theorem idxzr {t e by_ : Nat} {z : Int} {xs : List (List Int)} (ht : sliceT P t e 1 by_ = true) (s : RowsS h1 x xs) (h0 : 0 ≤ z) (hk : z < xs.length) (hK : K (elt 1 x z.toNat) h) : vK (aIndexAddr P t x (.int .i64 z)) h K := by
  obtain ⟨rs, _, s, _⟩ := s
  exact idxz ht s h0 hk hK

/-! ### loops with a rank of their own -/
theorem ex_least {p : Nat → Prop} (hp : ∃ n, p n) : ∃ n, p n ∧ ∀ k, p k → n ≤ k := by
  obtain ⟨n, hn⟩ := hp
  induction n using Nat.strongRecOn with
  | _ n ih =>
    by_cases q : ∃ k, k < n ∧ p k
    · obtain ⟨k, hk, hp⟩ := q
      exact ih k hk hp
    · exact ⟨n, hn, fun k hk => by
        apply Classical.byContradiction
        intro hc
        exact q ⟨k, by omega, hk⟩⟩
open Classical in
noncomputable def lst (J : Nat → List Value → Heap → Prop) (vs : List Value) (h : Heap) : Nat := if hx : ∃ n, J n vs h then Classical.choose (ex_least hx) else 0
theorem lst_is {J : Nat → List Value → Heap → Prop} {vs : List Value} {n : Nat} (hn : J n vs h) : J (lst J vs h) vs h ∧ lst J vs h ≤ n := by
  have hx : ∃ n, J n vs h := ⟨n, hn⟩
  have := Classical.choose_spec (ex_least hx)
  unfold lst
  rw [dif_pos hx]
  exact ⟨this.1, this.2 n hn⟩
def exJ (J : Nat → List Value → Heap → Prop) (vs : List Value) (h : Heap) : Prop := ∃ n, J n vs h
theorem lp1 (J : Nat → List Value → Heap → Prop) {n0 : Nat} {a : Value} {Body : (List Value → Heap → Prop) → (List Value → Heap → Nat) → Heap → Tmps → Value → Prop} (h0 : J n0 [a] h)
    (hs : ∀ (n : Nat) (a : Value) (h2 : Heap) (j : Tmps), J n [a] h2 → lst J [a] h2 = n → Body (exJ J) (lst J) h2 j a) :
    ∃ (I : List Value → Heap → Prop) (μ : List Value → Heap → Nat), I [a] h ∧ ∀ (h2 : Heap) (j : Tmps) (v1 : Value), I [v1] h2 → Body I μ h2 j v1 :=
  ⟨exJ J, lst J, ⟨n0, h0⟩, fun h2 j v1 ⟨n, hn⟩ => hs _ v1 h2 j (lst_is hn).1 rfl⟩
theorem lp2 (J : Nat → List Value → Heap → Prop) {n0 : Nat} {a b : Value} {Body : (List Value → Heap → Prop) → (List Value → Heap → Nat) → Heap → Tmps → Value → Value → Prop} (h0 : J n0 [a, b] h)
    (hs : ∀ (n : Nat) (a b : Value) (h2 : Heap) (j : Tmps), J n [a, b] h2 → lst J [a, b] h2 = n → Body (exJ J) (lst J) h2 j a b) :
    ∃ (I : List Value → Heap → Prop) (μ : List Value → Heap → Nat), I [a, b] h ∧ ∀ (h2 : Heap) (j : Tmps) (v1 v2 : Value), I [v1, v2] h2 → Body I μ h2 j v1 v2 :=
  ⟨exJ J, lst J, ⟨n0, h0⟩, fun h2 j v1 v2 ⟨n, hn⟩ => hs _ v1 v2 h2 j (lst_is hn).1 rfl⟩
theorem lp3 (J : Nat → List Value → Heap → Prop) {n0 : Nat} {a b c : Value} {Body : (List Value → Heap → Prop) → (List Value → Heap → Nat) → Heap → Tmps → Value → Value → Value → Prop} (h0 : J n0 [a, b, c] h)
    (hs : ∀ (n : Nat) (a b c : Value) (h2 : Heap) (j : Tmps), J n [a, b, c] h2 → lst J [a, b, c] h2 = n → Body (exJ J) (lst J) h2 j a b c) :
    ∃ (I : List Value → Heap → Prop) (μ : List Value → Heap → Nat), I [a, b, c] h ∧ ∀ (h2 : Heap) (j : Tmps) (v1 v2 v3 : Value), I [v1, v2, v3] h2 → Body I μ h2 j v1 v2 v3 :=
  ⟨exJ J, lst J, ⟨n0, h0⟩, fun h2 j v1 v2 v3 ⟨n, hn⟩ => hs _ v1 v2 v3 h2 j (lst_is hn).1 rfl⟩
theorem nxt {J : Nat → List Value → Heap → Prop} {vs vs' : List Value} {n n' : Nat} (e : lst J vs h = n) (hl : n' < n) (hJ : J n' vs' h') : exJ J vs' h' ∧ lst J vs' h' < lst J vs h :=
  ⟨⟨n', hJ⟩, by have := (lst_is hJ).2; omega⟩
/-- A row, told in the memory where it was made. -/
theorem ldrb {t e by_ k : Nat} {xss : List (List Int)} (ht : sliceT P t e 1 by_ = true) (hr : isPlain P e = true) (s : RowsS h0 x xss) (hs : Sub h0 h) (hk : k < xss.length) (hK : ∀ r, IntS h0 r (xss.getD k []) → K r h) : vK (aLoad P e (elt 1 x k) h) h K := by
  obtain ⟨rs, h1, h2, h3⟩ := s
  exact ld_i ht hr (h2.mono hs) hk (y := rs.getD k undef) (by rw [List.getD_eq_getElem?_getD, List.getElem?_eq_getElem (by omega)]; rfl) (hK _ (h3 k hk))
theorem gd_set {α : Type} {l : List α} {k : Nat} {x d : α} (hk : k < l.length) : (l.set k x).getD k d = x := by simp [List.getD, hk]
theorem gd_set_ne {α : Type} {l : List α} {j k : Nat} {x d : α} (hn : j ≠ k) : (l.set k x).getD j d = l.getD j d := by simp [List.getD, List.getElem?_set_ne (Ne.symm hn)]
theorem gd_app {α : Type} {l r : List α} {k : Nat} {d : α} (hk : k < l.length) : (l ++ r).getD k d = l.getD k d := by simp [List.getD, List.getElem?_append_left hk]
/-- A label given up. -/
theorem Owns.forget (o : Owns h0 h N C E) (l : Nat) (cs : List Value) : Owns h0 h (upN N l none) (upN C l cs) E := by
  refine ⟨o.pre, fun l' n hn => ?_, fun l1 l2 n e1 e2 => ?_⟩
  · by_cases q : l' = l
    · rw [q, upN_self] at hn; cases hn
    · rw [upN_ne q] at hn ⊢; exact o.here l' n hn
  · by_cases q1 : l1 = l
    · rw [q1, upN_self] at e1; cases e1
    · by_cases q2 : l2 = l
      · rw [q2, upN_self] at e2; cases e2
      · rw [upN_ne q1] at e1; rw [upN_ne q2] at e2; exact o.inj l1 l2 n e1 e2
theorem Frz.fewer {Q : Heap → Prop} (f : Frz N h Q) (l : Nat) : Frz (upN N l none) h Q := fun g hl hg => f g hl fun j a hj e => hg j a (fun l' => by
  by_cases q : l' = l
  · subst q; rw [upN_self]; simp
  · rw [upN_ne q]; exact hj l') e
/-- An array that is written no more. -/
theorem LS.freeze (o : Owns h0 h N C E) (s : LS N C l v q) (he : E l = 1) (hb : q.length ≤ 2 ^ 50) : Frz (upN N l none) h fun g => Seg 1 g v q.length q := by
  intro g hl hg
  rcases s with ⟨_, rfl, rfl⟩ | ⟨i, off, c, hn, rfl, h1, h2⟩
  · exact Seg.nil _ _
  · refine ⟨⟨by omega, hb⟩, .inr ⟨i, off, c, _, rfl, hg i _ (fun l' => ?_) (o.get hn), he, by simpa using h1, by simpa using h2⟩⟩
    by_cases q : l' = l
    · subst q; rw [upN_self]; simp
    · rw [upN_ne q]; intro e; exact q (o.inj l' l i e hn)
theorem LS.freezei {xs : List Int} (o : Owns h0 h N C E) (s : LS N C l v (xs.map (.int .i64))) (he : E l = 1) (hb : xs.length ≤ 2 ^ 50) : Frz (upN N l none) h fun g => IntS g v xs := by
  have := LS.freeze o s he (by simpa using hb)
  simpa [IntS] using this
end Go.AM
