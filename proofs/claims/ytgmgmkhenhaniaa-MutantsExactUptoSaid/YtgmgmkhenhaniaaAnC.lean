/-
  Steps for walks that go all ways at once.
-/
import Derived.Test.YtgmgmkhenhaniaaAnB
set_option linter.unusedSimpArgs false
set_option linter.unusedVariables false
namespace Go.AM
variable {P : Program} {h h' h1 h2 : Heap} {h0 : Base} {K : Value → Heap → Prop} {v x : Value}

/-! ### which step it is -/
theorem is_gd {A : (Value → Heap → Prop) → Prop} {c : Value} {z : Bool} (q : gdK c z A K h) : gdK c z A K h := q
theorem is_cnd {A B : Prop} (q : cnd v A B) : cnd v A B := q
theorem is_vk {o : Option Value} (q : vK o h K) : vK o h K := q
theorem is_ok {o : Option (Value × Heap)} (q : okK o K) : okK o K := q
theorem is_bin {op : BinOp} {t : TypeId} {y : Value} (q : vK (aBin P op t x y) h K) : vK (aBin P op t x y) h K := q
theorem is_ld {t : TypeId} (q : vK (aLoad P t x h1) h K) : vK (aLoad P t x h1) h K := q
theorem is_idx {t : TypeId} {y : Value} (q : vK (aIndexAddr P t x y) h K) : vK (aIndexAddr P t x y) h K := q
theorem is_fa {t : TypeId} {k : Nat} (q : vK (aFieldAddr P t x k) h K) : vK (aFieldAddr P t x k) h K := q
theorem is_callf (f : FuncId) {args : List Value} (q : callK P (some (f, args)) h K) : callK P (some (f, args)) h K := q
theorem is_calldf (f : FuncId) {args : List Value} (q : callKD P (some (f, args)) h K) : callKD P (some (f, args)) h K := q
theorem is_six {t : TypeId} {y : Value} (q : vK (aIndex P t x y) h K) : vK (aIndex P t x y) h K := q
theorem is_bld {t : TypeId} {ps : List (Nat × Value)} (q : vK (aBuild P t ps) h K) : vK (aBuild P t ps) h K := q
theorem is_bsl {t : TypeId} {n : Nat} {ps : List (Nat × Value)} (q : okK (aBuildSlice P t n ps h) K) : okK (aBuildSlice P t n ps h) K := q
theorem is_st {o : Option Heap} (q : okK (o.map (undef, ·)) K) : okK (o.map (undef, ·)) K := q
theorem is_box {t : TypeId} (q : okK (some (aBox P t v h)) K) : okK (some (aBox P t v h)) K := q
theorem is_ret {R : Value → Heap → Prop} {l2 : List (Option Value)} (q : retV l2 R h) : retV l2 R h := q
theorem is_ldo {t : TypeId} {a : Addr} (q : vK (aLoad P t (.pointer (some a)) h1) h K) : vK (aLoad P t (.pointer (some a)) h1) h K := q
theorem is_vb {n : Nat} {Q : Prop} (q : VB n v ∧ Q) : VB n v ∧ Q := q
/-! ### truths -/
section
variable {A : (Value → Heap → Prop) → Prop} {b z : Bool} {X Y : Prop}
theorem gd_h (e : b = z) (hk : A K) : gdK (.bool b) z A K h := by subst e; cases b <;> exact ⟨hk⟩
theorem gd_n (e : b = !z) (hk : K undef h) : gdK (.bool b) z A K h := by subst e; cases z <;> exact ⟨hk⟩
theorem gd_st (h1 : b = true → A K) (h2 : b = false → K undef h) : gdK (.bool b) true A K h := by cases b; exact ⟨h2 rfl⟩; exact ⟨h1 rfl⟩
theorem gd_sf (h1 : b = true → K undef h) (h2 : b = false → A K) : gdK (.bool b) false A K h := by cases b; exact ⟨h2 rfl⟩; exact ⟨h1 rfl⟩
theorem gd_ht (e : b = true) (hk : A K) : gdK (.bool b) true A K h := gd_h e hk
theorem gd_hf (e : b = false) (hk : A K) : gdK (.bool b) false A K h := gd_h e hk
theorem gd_nt (e : b = false) (hk : K undef h) : gdK (.bool b) true A K h := gd_n e hk
theorem gd_nf (e : b = true) (hk : K undef h) : gdK (.bool b) false A K h := gd_n e hk
theorem cnd_h (e : b = true) (hk : X) : cnd (.bool b) X Y := by subst e; exact ⟨hk⟩
theorem cnd_n (e : b = false) (hk : Y) : cnd (.bool b) X Y := by subst e; exact ⟨hk⟩
theorem pick_h {a c : Value} (e : b = true) (hk : K a h) : vK (pickV (.bool b) a c) h K := by subst e; exact ⟨hk⟩
theorem pick_n {a c : Value} (e : b = false) (hk : K c h) : vK (pickV (.bool b) a c) h K := by subst e; exact ⟨hk⟩
theorem pick_s {a c : Value} (h1 : b = true → K a h) (h2 : b = false → K c h) : vK (pickV (.bool b) a c) h K := by cases b; exact ⟨h2 rfl⟩; exact ⟨h1 rfl⟩
theorem not_h (e : b = true) (hk : K (.bool false) h) : vK (aUn .not (.bool b)) h K := by subst e; exact ⟨hk⟩
theorem not_n (e : b = false) (hk : K (.bool true) h) : vK (aUn .not (.bool b)) h K := by subst e; exact ⟨hk⟩
theorem not_s (h1 : b = true → K (.bool false) h) (h2 : b = false → K (.bool true) h) : vK (aUn .not (.bool b)) h K := by cases b; exact ⟨h2 rfl⟩; exact ⟨h1 rfl⟩
end
theorem eql_h {k : IntKind} {t : TypeId} {a b : Int} (e : a = b) (hk : K (.bool true) h) : vK (aBin P .eql t (.int k a) (.int k b)) h K := eql_i (fun _ => hk) fun q => absurd e q
theorem eql_n {k : IntKind} {t : TypeId} {a b : Int} (e : ¬ a = b) (hk : K (.bool false) h) : vK (aBin P .eql t (.int k a) (.int k b)) h K := eql_i (fun q => absurd q e) fun _ => hk
theorem neq_h {k : IntKind} {t : TypeId} {a b : Int} (e : a = b) (hk : K (.bool false) h) : vK (aBin P .neq t (.int k a) (.int k b)) h K := neq_i (fun _ => hk) fun q => absurd e q
theorem neq_n {k : IntKind} {t : TypeId} {a b : Int} (e : ¬ a = b) (hk : K (.bool true) h) : vK (aBin P .neq t (.int k a) (.int k b)) h K := neq_i (fun q => absurd q e) fun _ => hk
theorem sub_j {t : TypeId} {a b : Int} (h1 : -9223372036854775808 ≤ a - b) (h2 : a - b < 9223372036854775808) (hk : K (.int .i64 (a - b)) h) : vK (aBin P .sub t (.int .i64 a) (.int .i64 b)) h K := sub_i ⟨by omega, by omega⟩ hk
theorem add_j {t : TypeId} {a b : Int} (h1 : -9223372036854775808 ≤ a + b) (h2 : a + b < 9223372036854775808) (hk : K (.int .i64 (a + b)) h) : vK (aBin P .add t (.int .i64 a) (.int .i64 b)) h K := add_i ⟨by omega, by omega⟩ hk
/-! ### texts -/
theorem ba_toList (a b : ByteArray) : a.toList = b.toList ↔ a = b := by
  constructor
  · intro e
    rw [ByteArray.toList_eq, ByteArray.toList_eq] at e
    exact ByteArray.ext (Array.toList_inj.mp e)
  · rintro rfl; rfl
theorem seq_s {t : TypeId} {a b : ByteArray} (h1 : a = b → K (.bool true) h) (h2 : ¬ a = b → K (.bool false) h) : vK (aBin P .eql t (.string a) (.string b)) h K := by
  refine vk_i (v := .bool (a.toList == b.toList)) (by simp [aBin]) ?_
  by_cases e : a = b
  · rw [beq_iff_eq.mpr ((ba_toList a b).mpr e)]; exact h1 e
  · rw [beq_eq_false_iff_ne.mpr fun q => e ((ba_toList a b).mp q)]; exact h2 e
theorem sne_s {t : TypeId} {a b : ByteArray} (h1 : a = b → K (.bool false) h) (h2 : ¬ a = b → K (.bool true) h) : vK (aBin P .neq t (.string a) (.string b)) h K := by
  refine vk_i (v := .bool (!(a.toList == b.toList))) (by simp [aBin]) ?_
  by_cases e : a = b
  · rw [beq_iff_eq.mpr ((ba_toList a b).mpr e)]; exact h1 e
  · rw [beq_eq_false_iff_ne.mpr fun q => e ((ba_toList a b).mp q)]; exact h2 e
theorem sls_i {t : TypeId} {a b : ByteArray} (hk : K (.bool (Op.bytesLess a.toList b.toList)) h) : vK (aBin P .lss t (.string a) (.string b)) h K := vk_i (by simp [aBin]) hk
class StrT (P : Program) (t : Nat) : Prop where
  ok : P.underlying t = some .string
theorem slen_i {t : Nat} {a : ByteArray} [T : StrT P t] (hk : K (.int .i64 (a.size : Int)) h) : vK (aLen P t (.string a)) h K := vk_i (by simp [aLen, T.ok]) hk
theorem sidx_i {t k : Nat} {a : ByteArray} [T : StrT P t] (hl : k < a.size) (hk : K (.int .u8 ((a[k]'hl).toNat : Int)) h) : vK (aIndex P t (.string a) (.int .i64 (k : Int))) h K := by
  refine vk_i (v := .int .u8 ((a[k]'hl).toNat : Int)) ?_ hk
  unfold aIndex
  rw [T.ok]
  simp [hl]
theorem sidx_0 {t : Nat} {a : ByteArray} [T : StrT P t] (hl : 0 < a.size) (hk : K (.int .u8 ((a[0]'hl).toNat : Int)) h) : vK (aIndex P t (.string a) (.int .i64 0)) h K := sidx_i (k := 0) hl hk
class IntT (P : Program) (t : Nat) (k : outParam IntKind) : Prop where
  ok : P.underlying t = some (.int k)
theorem wrap_i {n : Int} (h0 : -9223372036854775808 ≤ n) (h1 : n < 9223372036854775808) : IntKind.i64.wrap n = n := wrap_i64 ⟨by omega, by omega⟩
/-! ### elements told by a default -/
class Df (α : Type) where
  d : α
def gt {α : Type} [Df α] (l : List α) (k : Nat) : α := l.getD k Df.d
theorem gt_at {α : Type} [Df α] {l : List α} {k : Nat} (hk : k < l.length) : l[k] = gt l k := (gd_at _ hk).symm
theorem idx_d {α : Type} [F : Flat α] [Df α] {t e sz by_ : Nat} {k : Nat} {l : List α} [T : SlT P t e sz by_] (s : L h1 x l) (hz : sz = F.sz) (hk : k < l.length)
    (hK : ∀ p, Pt h1 p (F.cells (gt l k)) 0 → K p h) : vK (aIndexAddr P t x (.int .i64 (k : Int))) h K :=
  idx_f s hz hk (by rw [gt_at hk]; exact hK)
theorem idx_dz {α : Type} [F : Flat α] [Df α] {t e sz by_ : Nat} {z : Int} {l : List α} [T : SlT P t e sz by_] (s : L h1 x l) (hz : sz = F.sz) (h0 : 0 ≤ z) (hk : z.toNat < l.length)
    (hK : ∀ p, Pt h1 p (F.cells (gt l z.toNat)) 0 → K p h) : vK (aIndexAddr P t x (.int .i64 z)) h K :=
  idx_fz s hz h0 hk (by rw [gt_at hk]; exact hK)
theorem idx_dp {α : Type} [F : Flat α] [Df α] {t e sz by_ : Nat} {k : Nat} {l : List α} [T : SlT P t e sz by_] (s : L h1 x l) (hz : sz = F.sz) (h0 : 0 < k) (hk : k ≤ l.length)
    (hK : ∀ p, Pt h1 p (F.cells (gt l (k - 1))) 0 → K p h) : vK (aIndexAddr P t x (.int .i64 ((k : Int) - 1))) h K := by
  have e : (k : Int) - 1 = ((k - 1 : Nat) : Int) := by omega
  rw [e]
  exact idx_d s hz (by omega) hK
/-! ### lists of numbers wherever they lie -/
theorem leni_t {t e by_ : Nat} {xs : List Int} [T : SlT P t e 1 by_] (s : IntS h1 x xs) (hk : K (.int .i64 (xs.length : Int)) h) : vK (aLen P t x) h K := leni_i T.ok s hk
theorem idxi_t {t e by_ k : Nat} {xs : List Int} [T : SlT P t e 1 by_] (s : IntS h1 x xs) (hk : k < xs.length) (hK : K (elt 1 x k) h) : vK (aIndexAddr P t x (.int .i64 (k : Int))) h K := idxi_i T.ok s hk hK
theorem lds_t {e n k : Nat} {cs : List Value} {y : Value} [T2 : PlT P e] (s : Seg 1 h x n cs) (hk : k < n) (hy : cs[k]? = some y) (hK : K y h) : vK (aLoad P e (elt 1 x k) h) h K := by
  rcases s.2 with ⟨_, _, rfl, _, rfl⟩ | ⟨i, o, c, a, rfl, e1, e2, e3, e4⟩
  · omega
  · refine ldc_i T2.ok e1 ?_ hK
    rw [← e4, List.getElem?_take] at hy
    split at hy
    · rw [List.getElem?_drop] at hy; simpa using hy
    · cases hy
theorem ldi_t {e k : Nat} {xs : List Int} [T2 : PlT P e] (s : IntS h x xs) (hk : k < xs.length) (hK : K (.int .i64 (xs.getD k 0)) h) : vK (aLoad P e (elt 1 x k) h) h K :=
  lds_t s hk (by simp [hk, List.getD]) hK
theorem ih0 (l : List Int) : l.flatMap Flat.cells = l.map (Value.int .i64) := by
  induction l with
  | nil => rfl
  | cons a l ih => rw [List.flatMap_cons, ih]; rfl
theorem L.ints {l : List Int} (s : L h v l) : IntS h v l := by
  have := s.flat.seg
  have e : AM.flat l = l.map (.int .i64) := ih0 l
  rw [e] at this
  exact this
/-- The first that is not 0. -/
def orOf (l : List Int) : Int := (l.find? (fun x => decide (x ≠ 0))).getD 0
theorem orOf_cons (x : Int) (l : List Int) : orOf (x :: l) = if x = 0 then orOf l else x := by
  unfold orOf
  rw [List.find?_cons]
  by_cases e : x = 0 <;> simp [e]
theorem orOf_nil : orOf [] = 0 := rfl
theorem orOf_at {l : List Int} {k : Nat} (hk : k < l.length) (hz : ∀ j, j < k → l.getD j 0 = 0) (hn : l.getD k 0 ≠ 0) : orOf l = l.getD k 0 := by
  induction l generalizing k with
  | nil => simp at hk
  | cons x l ih =>
    rw [orOf_cons]
    cases k with
    | zero => simp at hn ⊢; simp [hn]
    | succ k =>
      have := hz 0 (by omega)
      simp at this
      rw [if_pos this]
      simp at hn ⊢
      simpa using ih (k := k) (by simpa using hk) (fun j hj => by simpa using hz (j + 1) (by omega)) (by simpa using hn)
theorem orOf_no {l : List Int} (hz : ∀ j, j < l.length → l.getD j 0 = 0) : orOf l = 0 := by
  induction l with
  | nil => rfl
  | cons x l ih =>
    rw [orOf_cons, if_pos (by simpa using hz 0 (by simp))]
    exact ih fun j hj => by simpa using hz (j + 1) (by simpa using hj)
/-! ### structs as values -/
theorem fld_g {t j off ft : Nat} {cs : List Value} {y : Value} [T : FdT P t j off ft] [T2 : PlT P ft] (hy : cs[off]? = some y) (hk : K y h) : vK (aField P t (.agg cs.toArray) j) h K := by
  obtain ⟨fs, f, n, e1, e2, e3, e4, e5⟩ := fld_of T.ok
  refine vk_i (v := y) ?_ hk
  have hp := T2.ok
  unfold isPlain at hp
  unfold aField
  simp only [e1, e2]
  unfold aPart
  subst e4
  split at hp
  · rename_i d hd
    rw [hd]
    simp only
    rw [if_neg (by simpa using hp), e3]
    simpa using hy
  · cases hp
/-! ### structs without slices within, as values -/
@[reducible] def fv {α : Type} [F : Flat α] (a : α) : Value := .agg (F.cells a).toArray
section
variable {α : Type} [F : Flat α] {a : α} {l l' : List E} {i k sz : Nat}
theorem ldr_w {t n : Nat} {cs : List Value} [T : RwT P t n] [S : Stb h1 h] (p : Pt h1 x cs 0) (hz : cs.length = n) (hK : K (.agg cs.toArray) h) : vK (aLoad P t x h) h K :=
  ldr_g p (ys := cs) (by rw [List.drop_zero, ← hz, List.take_length]) (by omega) hK
theorem box_a {t : Nat} {cs : List Value} (m : Mem h0 h l) (hK : ∀ (i : Nat) (h' : Heap) (z : Nat), Prec h h' → Mem h0 h' (⟨some i, cs, z⟩ :: l) → K (.pointer (some ⟨i, 0, none⟩)) h') : okK (some (aBox P t (.agg cs.toArray) h)) K :=
  box_g m fun i h' p m => hK i h' _ p m
theorem box_1 {t : Nat} {v : Value} (m : Mem h0 h l) (hv : v.cells.toList = [v]) (hK : ∀ (i : Nat) (h' : Heap) (z : Nat), Prec h h' → Mem h0 h' (⟨some i, [v], z⟩ :: l) → K (.pointer (some ⟨i, 0, none⟩)) h') : okK (some (aBox P t v h)) K :=
  box_g m fun i h' p m => hK i h' _ p (hv ▸ m)
theorem alloc_z {t : Nat} {zs : List Value} [T : ZrT P t zs] (m : Mem h0 h l) (hK : ∀ (i : Nat) (h' : Heap) (z : Nat), Prec h h' → Mem h0 h' (⟨some i, zs, z⟩ :: l) → K (.pointer (some ⟨i, 0, none⟩)) h') : okK (aAlloc P t h) K :=
  alloc_g m fun i h' p m => hK i h' _ p m
theorem ldo_w {t n : Nat} {cs : List Value} [T : RwT P t n] (m : Mem h0 h l) (q : Ent l i k cs sz) (hz : cs.length = n) (hK : K (.agg cs.toArray) h) : vK (aLoad P t (.pointer (some ⟨i, 0, none⟩)) h) h K :=
  ldor m (ys := cs) (by rw [List.drop_zero, ← hz, List.take_length]) (by omega) hK
theorem st_w {t n : Nat} {cs cs' : List Value} [T : RwT P t n] (m : Mem h0 h l) (q : Ent l i k cs sz) (hz : cs'.length = n) (h3 : cs.length = n) (h2 : cs'.all (·.oneCell') = true) (u : Upd l k ⟨some i, cs', sz⟩ l')
    (hK : ∀ h', Prec h h' → Mem h0 h' l' → K undef h') : okK ((aStore P t (.pointer (some ⟨i, 0, none⟩)) (.agg cs'.toArray) h).map (undef, ·)) K :=
  stw (ys := cs'.toArray) m (by simpa using hz) h3 h2 hK
theorem ldoe_f {t j : Nat} {xs : List α} [T : RwT P t sz] (m : Mem h0 h l) (q : Ent l i k (flat xs) sz) (hz : sz = F.sz) (hj : j < xs.length) (hK : K (fv xs[j]) h) : vK (aLoad P t (.pointer (some ⟨i, j * sz, none⟩)) h) h K :=
  ldoer m rfl hz hj rfl hK
theorem stoe_f {t j : Nat} {xs : List α} [T : RwT P t sz] (m : Mem h0 h l) (q : Ent l i k (flat xs) sz) (hz : sz = F.sz) (hj : j < xs.length) (u : Upd l k ⟨some i, flat (xs.set j a), sz⟩ l')
    (hK : ∀ h', Prec h h' → Mem h0 h' l' → K undef h') : okK ((aStore P t (.pointer (some ⟨i, j * sz, none⟩)) (fv a) h).map (undef, ·)) K :=
  stoer a m rfl hz hj rfl hK
end
/-! ### what a drawn region asks for -/
def vcB (v : Value) : Bool := match v with | .agg cs => cs.toList.all flatV | v => flatV v
theorem vb_c {n : Nat} {v : Value} (hv : vcB v = true) : VB n v := by
  have key : ∀ {v : Value}, flatV v = true → VB0 n v := by
    intro v hv
    unfold flatV at hv
    split at hv <;> first | trivial | cases hv
  unfold vcB at hv
  unfold VB
  cases v <;> first
    | exact key hv
    | (intro x hx; exact key (List.all_eq_true.mp hv x hx))
    | (simp [flatV] at hv)
theorem vb_n {Q : Prop} {n : Nat} {v : Value} (hv : vcB v = true) (hq : Q) : VB n v ∧ Q := ⟨vb_c hv, hq⟩
theorem vb_l {α : Type} [R : Rep α] {l : List α} {Q : Prop} {v : Value} [S : Stb h1 h] (s : L h1 v l) (hq : Q) : VB h.length v ∧ Q := ⟨(s.mono S.st).vb, hq⟩
theorem vb_f {α : Type} [F : Flat α] {Q : Prop} {n : Nat} {a : α} (hq : Q) : VB n (fv a) ∧ Q := ⟨vb_c (F.flat a), hq⟩
/-- What a read that waits must still find. -/
theorem pd_o {t : Nat} {y : Value} {l : List E} {i k sz o : Nat} {cs : List Value} {Q : Prop} [T : PlT P t] (m : Mem h0 h l) (q : Ent l i k cs sz) (hy : cs[o]? = some y) (hq : Q) : ((aLoad P t (.pointer (some ⟨i, o, none⟩)) h).map (·, h)) = some (y, h) ∧ Q := by
  refine ⟨?_, hq⟩
  have := ldo (K := fun v g => v = y ∧ g = h) (T := T) m (q := q) hy ⟨rfl, rfl⟩
  obtain ⟨this⟩ := this
  split at this
  · rename_i v e; rw [e, this.1]; rfl
  · exact this.elim
theorem pd_c {t : Nat} {y : Value} {l : List E} {i k sz o : Nat} {cs : List Value} {Q R : Prop} [T : PlT P t] (m : Mem h0 h l) (q : Ent l i k cs sz) (hy : cs[o]? = some y) (hr : R ∧ Q) : (((aLoad P t (.pointer (some ⟨i, o, none⟩)) h).map (·, h)) = some (y, h) ∧ R) ∧ Q :=
  ⟨pd_o m q hy hr.1, hr.2⟩
theorem new_n {Q : Prop} (hq : Q) : (∃ new, h = h ++ new) ∧ Q := ⟨⟨[], (List.append_nil _).symm⟩, hq⟩
theorem new_p {Q : Prop} (p : h <+: h') (hq : Q) : (∃ new, h' = h ++ new) ∧ Q := ⟨p.imp fun _ e => e.symm, hq⟩
/-! ### made slices -/
theorem bs_g {t n sz c : Nat} {ps : List (Nat × Value)} {cs : List Value} {l : List E} (e : aBuildSlice P t n ps h = some (.slice (some ⟨h.length, 0, none⟩) n c, newArr h cs sz)) (m : Mem h0 h l)
    (hK : ∀ (i : Nat) (h' : Heap), Prec h h' → Mem h0 h' (⟨some i, cs, sz⟩ :: l) → K (.slice (some ⟨i, 0, none⟩) n c) h') : okK (aBuildSlice P t n ps h) K :=
  ok_i e (hK h.length _ ⟨Stab.of_pre (pre_new _ _ _)⟩ (m.add _ _))
/-- An array of one's own as numbers. -/
theorem own_ints {l : List E} {i k n c : Nat} {cs : List Value} (m : Mem h0 h l) [q : Ent l i k cs 1] {xs : List Int} (hx : cs = xs.map (.int .i64)) (hn : xs.length = n) (hb : n ≤ 2 ^ 50) : IntS h (.slice (some ⟨i, 0, none⟩) n c) xs := by
  subst hx hn
  exact ⟨⟨by simp, hb⟩, .inr ⟨i, 0, c, _, rfl, m.get q.ok, rfl, by simp, by simp [List.take_of_length_le]⟩⟩
end Go.AM
