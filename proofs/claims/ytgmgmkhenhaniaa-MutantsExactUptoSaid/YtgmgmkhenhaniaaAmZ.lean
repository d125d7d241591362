/-
  Arguments laid into the abstract memory, and what a call leaves of the memory that was.
-/
import Derived.Test.YtgmgmkhenhaniaaAmY
import Derived.Deep.Slices
import Derived.Below
import Derived.Carry
import Derived.ChangeCalls
import Derived.OpenShut
set_option linter.unusedSimpArgs false
set_option linter.unusedVariables false
set_option linter.unnecessarySimpa false
namespace Go.AM
open Go.ChangeShapes Go.RowKit
variable {P : Program} {h h' h0 : Heap} {ρ ρ' : Place} {W : World}

/-- Nothing may be written. -/
def ROnly (h : Heap) : Prop := ∀ i, ¬ Writable h i
theorem ROnly.nil : ROnly [] := by
  rintro i (⟨a, e, _⟩ | ⟨es, e⟩) <;> cases e
theorem get_snoc {x : Ob} {i : Nat} {y : Ob} (e : (h ++ [x])[i]? = some y) : h[i]? = some y ∨ (i = h.length ∧ y = x) := by
  rw [List.getElem?_append] at e
  split at e
  · exact .inl e
  · rename_i hi
    have : i - h.length = 0 := by
      have := (List.getElem?_eq_some_iff.mp e).1
      simp at this; omega
    rw [this] at e
    exact .inr ⟨by omega, by simpa using e.symm⟩
theorem ROnly.snoc {x : Ob} (r : ROnly h) (hx : x = .dead ∨ ∃ cs n, x = .arr ⟨cs, n, true⟩) : ROnly (h ++ [x]) := by
  rintro i (⟨a, e, hro⟩ | ⟨es, e⟩)
  · rcases get_snoc e with e | ⟨_, e⟩
    · exact r i (.inl ⟨a, e, hro⟩)
    · rcases hx with rfl | ⟨cs, n, rfl⟩
      · cases e
      · cases e; cases hro
  · rcases get_snoc e with e | ⟨_, e⟩
    · exact r i (.inr ⟨es, e⟩)
    · rcases hx with rfl | ⟨cs, n, rfl⟩ <;> cases e
theorem put_le (R : Rel h ρ W) (L : Loc) : Le ρ (ρ.put h.length L) := by
  intro i M hi
  rw [Place.put_ne _ _ (by have := R.dom i M hi; omega)]; exact hi
theorem put_some {i n : Nat} {L M : Loc} (e : ρ.put n L i = some M) : (i = n ∧ M = L) ∨ (i ≠ n ∧ ρ i = some M) := by
  by_cases h : i = n
  · subst h; rw [Place.put_same] at e; exact .inl ⟨rfl, by cases e; rfl⟩
  · rw [Place.put_ne _ _ h] at e; exact .inr ⟨h, e⟩
/-- One more array that is only read. -/
theorem Rel.snoc (R : Rel h ρ W) (r : ROnly h) {x : Ob} {L : Loc} (hx : x = .dead ∨ ∃ vs cs ty fr, x = .arr ⟨vs, L.esz, true⟩ ∧ W.heap[L.blk]? = some (.cells cs ty fr) ∧ cs.size = L.size ∧ L.off + vs.length ≤ L.size ∧ CRel ρ vs cs L.off) :
    Rel (h ++ [x]) (ρ.put h.length L) W := by
  have hle := put_le R L
  have hr : ROnly (h ++ [x]) := r.snoc (hx.imp id (fun ⟨vs, _, _, _, e, _⟩ => ⟨vs, _, e⟩))
  refine ⟨?_, ?_, ?_, fun i j Li Lj _ _ _ hw => absurd hw (hr i)⟩
  · intro i M e
    rcases put_some e with ⟨rfl, _⟩ | ⟨_, e⟩
    · simp
    · have := R.dom i M e; simp; omega
  · intro i M a e ha
    rcases put_some e with ⟨rfl, rfl⟩ | ⟨hn, e⟩
    · rcases get_snoc ha with ha | ⟨_, ha⟩
      · have := (List.getElem?_eq_some_iff.mp ha).1; omega
      · rcases hx with rfl | ⟨vs, cs, ty, fr, rfl, h1, h2, h3, h4⟩
        · cases ha
        · cases ha
          exact ⟨cs, ty, fr, h1, h2, h3, rfl, fun k hk => (h4 k hk).mono hle, fun e => (by cases e)⟩
    · have hlt := R.dom i M e
      rw [List.getElem?_append_left hlt] at ha
      obtain ⟨cs, ty, fr, h1, h2, h3, h4, h5, h6⟩ := R.arr i M a e ha
      exact ⟨cs, ty, fr, h1, h2, h3, h4, fun k hk => (h5 k hk).mono hle, h6⟩
  · intro i M es e ha
    rcases get_snoc ha with ha | ⟨_, ha⟩
    · exact absurd (.inr ⟨es, ha⟩) (r i)
    · rcases hx with rfl | ⟨_, _, _, _, rfl, _⟩ <;> cases ha

/-! ### what the abstract memory tells of an argument -/
inductive ARd (P : Program) (h : Heap) {H : Type} : TypeId → List Value → DataW H → Prop
  | bool {t : TypeId} (ht : P.underlying t = some .bool) (b : Bool) : ARd P h t [.bool b] (.lit (.bool b))
  | int {t : TypeId} {k : IntKind} (ht : P.underlying t = some (.int k)) {n : Int} (hw : (Lit.int k n).wf = true) : ARd P h t [.int k n] (.lit (.int k n))
  | string {t : TypeId} (ht : P.underlying t = some .string) (s : ByteArray) : ARd P h t [.string s] (.lit (.string s.data.toList))
  | nil {t e : TypeId} (ht : P.underlying t = some (.slice e)) : ARd P h t [.slice none 0 0] .nil
  | slice {t e : TypeId} (ht : P.underlying t = some (.slice e)) {i len : Nat} {vs : List Value} {elems spare : List (DataW H)} (hlt : i < h.length) (hl : elems.length = len) (hv : vs.length = len * P.cellsOf e)
      (hi : len = 0 ∨ h[i]? = some (.arr ⟨vs, P.cellsOf e, true⟩)) (he : ∀ (k : Nat) (d : DataW H), elems[k]? = some d → ARd P h e ((vs.drop (k * P.cellsOf e)).take (P.cellsOf e)) d) :
      ARd P h t [.slice (some ⟨i, 0, none⟩) len 0] (.slice elems spare)
  | struct {t : TypeId} {fs : Array Field} (ht : P.underlying t = some (.struct fs)) {vs : List Value} {parts : List (DataW H)} (hl : vs.length = P.cellsOf t) (hp : parts.length = fs.size)
      (hf : ∀ (k : Nat) (f : Field) (d : DataW H), fs[k]? = some f → parts[k]? = some d → ARd P h f.type ((vs.drop f.offset).take (P.cellsOf f.type)) d) : ARd P h t vs (.agg parts)
  | array {t e : TypeId} {n : Nat} (ht : P.underlying t = some (.array n e)) {vs : List Value} {parts : List (DataW H)} (hl : vs.length = P.cellsOf t) (hp : parts.length = n)
      (hf : ∀ (k : Nat) (d : DataW H), parts[k]? = some d → ARd P h e ((vs.drop (k * P.cellsOf e)).take (P.cellsOf e)) d) : ARd P h t vs (.agg parts)
theorem ARd.mono {H : Type} {t : TypeId} {vs : List Value} {d : DataW H} (a : ARd P h t vs d) (hs : Sub h h') : ARd P h' t vs d := by
  induction a with
  | bool ht b => exact .bool ht b
  | int ht hw => exact .int ht hw
  | string ht s => exact .string ht s
  | nil ht => exact .nil ht
  | slice ht hlt hl hv hi _ ih => exact .slice ht (Nat.lt_of_lt_of_le hlt hs.1) hl hv (hi.imp id (hs.2 _ _)) ih
  | struct ht hl hp _ ih => exact .struct ht hl hp ih
  | array ht hl hp _ ih => exact .array ht hl hp ih

/-- Fields that tile the cells. -/
def tile (P : Program) : List Field → Nat → Option Nat
  | [], o => some o
  | f :: l, o => bif Nat.beq f.offset o then tile P l (o + P.cellsOf f.type) else none
/-- Types of plain data. -/
def simT (P : Program) : Nat → TypeId → Bool
  | 0, _ => false
  | n + 1, t =>
    match P.underlying t with
    | some .bool => true
    | some (.int _) => true
    | some .string => true
    | some (.slice e) => Nat.ble 1 (P.cellsOf e) && simT P n e
    | some (.struct fs) => (match tile P fs.toList 0 with | some m => Nat.beq m (P.cellsOf t) | none => false) && fs.toList.all fun f => simT P n f.type
    | some (.array k e) => Nat.beq (k * P.cellsOf e) (P.cellsOf t) && simT P n e
    | _ => false

theorem tile_le : ∀ (l : List Field) (o tot : Nat), tile P l o = some tot → o ≤ tot ∧ ∀ f ∈ l, o ≤ f.offset
  | [], o, tot, h => by cases h; exact ⟨Nat.le_refl _, fun f hf => by cases hf⟩
  | f :: l, o, tot, h => by
    simp only [tile] at h
    cases hb : Nat.beq f.offset o with
    | false => rw [hb] at h; cases h
    | true =>
      rw [hb] at h
      have e := Nat.eq_of_beq_eq_true hb
      obtain ⟨h1, h2⟩ := tile_le l _ _ h
      refine ⟨by omega, fun g hg => ?_⟩
      rcases List.mem_cons.mp hg with rfl | hg
      · omega
      · have := h2 g hg; omega
theorem LRel.take {a c : List Value} (r : LRel ρ a c) (n : Nat) : LRel ρ (a.take n) (c.take n) := by
  refine ⟨by simp [r.1], fun k => ?_⟩
  by_cases hk : k < n
  · have := r.2 k
    simpa [List.getD, List.getElem?_take, hk] using this
  · simp only [List.getD, List.getElem?_take, if_neg hk]; exact VRel.undef' ρ
theorem LRel.one {v c : Value} (r : VRel ρ v c) : LRel ρ [v] [c] := ⟨rfl, fun k => by
  cases k with
  | zero => exact r
  | succ k => exact VRel.undef' ρ⟩

section
variable {H : Type} {enc : TypeId × Value → H}
theorem build : ∀ (n m : Nat) (t : TypeId) (cs : List Value) (x : DataW H × List MemPlace), simT P m t = true → DataW.trod enc P W 0 (fun _ => true) true n t cs = some x →
    ∀ (h : Heap) (ρ : Place), Rel h ρ W → ROnly h → ∃ h' ρ', h <+: h' ∧ Le ρ ρ' ∧ Rel h' ρ' W ∧ ROnly h' ∧ ∃ vs, LRel ρ' vs cs ∧ ARd P h' t vs x.1 := by
  intro n
  induction n with
  | zero => intro m t cs x _ ht; simp [DataW.trod] at ht
  | succ n ih =>
    intro m t cs x hs ht h ρ R r
    cases m with
    | zero => cases hs
    | succ m =>
      unfold simT at hs
      split at hs
      · rename_i hu
        obtain ⟨b, rfl, rfl⟩ := DataW.trod_bool hu ht
        exact ⟨h, ρ, List.prefix_refl _, Le.refl _, R, r, _, .one (.bool b), .bool hu b⟩
      · rename_i k hu
        obtain ⟨b, rfl, rfl, hw⟩ := DataW.trod_int hu ht
        exact ⟨h, ρ, List.prefix_refl _, Le.refl _, R, r, _, .one (.int k b), .int hu hw⟩
      · rename_i hu
        obtain ⟨s, rfl, rfl, hw⟩ := DataW.trod_string hu ht
        exact ⟨h, ρ, List.prefix_refl _, Le.refl _, R, r, _, .one (.string s), .string hu s⟩
      · rename_i e hu
        simp only [Bool.and_eq_true] at hs
        have hsz : 1 ≤ P.cellsOf e := Nat.le_of_ble_eq_true hs.1
        rcases DataW.trod_slice hu ht with ⟨rfl, rfl⟩ | ⟨a, len, cap, elems, rest, n', hn', rfl, rfl, _, hlc, hcap, hlen, hel, hsp, _⟩
        · exact ⟨h, ρ, List.prefix_refl _, Le.refl _, R, r, _, .one .nilSlice, .nil hu⟩
        · obtain rfl : n' = n := by omega
          obtain ⟨hrl, hrest⟩ := hsp rfl
          generalize hw : P.cellsOf e = sz at *
          -- every element up to the capacity lies there
          have hthere : ∀ j, j < cap → ∃ cs', W.cells? 0 (a.add (j * sz)) sz = some cs' := by
            intro j hj
            by_cases hjl : j < len
            · have := hel j hjl
              rw [List.getElem?_eq_getElem (by omega)] at this
              obtain ⟨cs', h1, _⟩ := Option.bind_eq_some_iff.mp this
              exact ⟨cs', h1⟩
            · have := hrest (j - len) (by omega)
              rw [List.getElem?_eq_getElem (by omega)] at this
              obtain ⟨cs', h1, _⟩ := Option.bind_eq_some_iff.mp this
              exact ⟨cs', by rw [← h1]; congr 2; rw [Nat.add_sub_cancel' (by omega)]⟩
          by_cases hc0 : cap = 0
          · have hl0 : len = 0 := by omega
            subst hl0
            have he0 : elems = [] := List.length_eq_zero_iff.mp hlen
            subst he0
            refine ⟨h ++ [.dead], ρ.put h.length ⟨0, 0, 0, 0⟩, ⟨_, rfl⟩, put_le R _, R.snoc r (.inl rfl), r.snoc (.inl rfl), [.slice (some ⟨h.length, 0, none⟩) 0 0], .one ?_, ?_⟩
            · exact .slice (Place.put_same _ _ _) (by omega) (fun h => absurd rfl h) (fun h => by omega)
            · exact .slice (vs := []) hu (by simp) rfl (by simp) (.inl rfl) (fun k d e => by simp at e)
          · have hblk : ∃ bs ty fr, W.heap[a.block]? = some (.cells bs ty fr) ∧ a.spot = none ∧ a.off + cap * sz ≤ bs.size := by
              obtain ⟨cs0, h0⟩ := hthere 0 (by omega)
              obtain ⟨_, l0, g0⟩ := World.cells?_some h0
              obtain ⟨cs1, h1⟩ := hthere (cap - 1) (by omega)
              obtain ⟨_, l1, g1⟩ := World.cells?_some h1
              have e0 := g0 0 (by omega)
              have e1 := g1 (sz - 1) (by omega)
              have q0 : (a.add (0 * sz)).add 0 = a := by simp [Addr.add]
              rw [q0, List.getElem?_eq_getElem (by omega)] at e0
              unfold World.cell? at e0
              split at e0
              · rename_i bs ty fr hb
                split at e0
                · cases e0
                · rename_i hsp
                  have hnone : a.spot = none := by simpa using hsp
                  refine ⟨bs, ty, fr, hb, hnone, ?_⟩
                  have q1 : (a.add ((cap - 1) * sz)).add (sz - 1) = ⟨a.block, a.off + (cap * sz - 1), none⟩ := by
                    have : (cap - 1) * sz + (sz - 1) = cap * sz - 1 := by
                      obtain ⟨c', rfl⟩ : ∃ c', cap = c' + 1 := ⟨cap - 1, by omega⟩
                      simp [Nat.add_mul]; omega
                    obtain ⟨ab, ao, as⟩ := a
                    simp only at hnone
                    subst hnone
                    simp only [Addr.add]
                    split <;> split <;> simp_all <;> omega
                  rw [q1, List.getElem?_eq_getElem (by omega)] at e1
                  unfold World.cell? at e1
                  rw [hb] at e1
                  simp only [Option.isSome_none, Bool.false_eq_true, if_false] at e1
                  have hlt := (Array.getElem?_eq_some_iff.mp e1).1
                  have : 1 ≤ cap * sz := Nat.mul_pos (by omega) (by omega)
                  omega
              · cases e0
            obtain ⟨bs, ty, fr, hb, hspot, hfit⟩ := hblk
            -- the elements, one by one
            have claim : ∀ k, k ≤ len → ∃ h' ρ', h <+: h' ∧ Le ρ ρ' ∧ Rel h' ρ' W ∧ ROnly h' ∧ ∃ vs : List Value, vs.length = k * sz ∧ CRel ρ' vs bs a.off ∧
                ∀ (j : Nat) (d : DataW H × List MemPlace), j < k → elems[j]? = some d → ARd P h' e ((vs.drop (j * sz)).take sz) d.1 := by
              intro k
              induction k with
              | zero => intro _; exact ⟨h, ρ, List.prefix_refl _, Le.refl _, R, r, [], by simp, fun k hk => by simp at hk, fun j d hj => by omega⟩
              | succ k ihk =>
                intro hk
                obtain ⟨h1, ρ1, p1, le1, R1, r1, vs, l1, c1, a1⟩ := ihk (by omega)
                have hk' := hel k (by omega)
                rw [List.getElem?_eq_getElem (by omega)] at hk'
                obtain ⟨cs', e1, e2⟩ := Option.bind_eq_some_iff.mp hk'
                obtain ⟨h2, ρ2, p2, le2, R2, r2, us, l2, a2⟩ := ih m e cs' _ hs.2 e2 h1 ρ1 R1 r1
                obtain ⟨_, lc, gc⟩ := World.cells?_some e1
                have hus : us.length = sz := by rw [l2.1, lc]
                refine ⟨h2, ρ2, p1.trans p2, le1.trans le2, R2, r2, vs ++ us, by simp [l1, hus, Nat.add_mul], ?_, ?_⟩
                · intro q hq
                  by_cases hqv : q < vs.length
                  · rw [getD_append_left hqv]; exact (c1 q hqv).mono le2
                  · rw [getD_append_right (by omega)]
                    have hq' : q - vs.length < sz := by simp at hq; omega
                    have := l2.2 (q - vs.length)
                    have hg := gc (q - vs.length) hq'
                    rw [List.getElem?_eq_getElem (by omega)] at hg
                    have e3 : (a.add (k * sz)).add (q - vs.length) = ⟨a.block, a.off + q, none⟩ := by
                      obtain ⟨ab, ao, as⟩ := a
                      simp only at hspot
                      subst hspot
                      simp only [Addr.add]
                      split <;> split <;> simp_all <;> omega
                    rw [e3] at hg
                    unfold World.cell? at hg
                    rw [hb] at hg
                    simp only [Option.isSome_none, Bool.false_eq_true, if_false] at hg
                    have e4 : bs.getD (a.off + q) undef = cs'.getD (q - vs.length) undef := by
                      simp only [Array.getD_eq_getD_getElem?, hg, List.getD, List.getElem?_eq_getElem (show q - vs.length < cs'.length by omega)]
                    rw [e4]; exact this
                · intro j d hj hd
                  by_cases hjk : j < k
                  · have := (a1 j d hjk hd).mono (Sub.of_pre p2)
                    have hle : j * sz + sz ≤ vs.length := by rw [l1, ← Nat.succ_mul]; exact Nat.mul_le_mul_right _ hjk
                    rwa [List.drop_append_of_le_length (by omega), List.take_append_of_le_length (by simp; omega)]
                  · obtain rfl : j = k := by omega
                    rw [List.getElem?_eq_getElem (by omega)] at hd
                    cases hd
                    have : (vs ++ us).drop (j * sz) = us := by rw [← l1, List.drop_left]
                    rw [this, List.take_of_length_le (by omega)]
                    exact a2
            obtain ⟨h1, ρ1, p1, le1, R1, r1, vs, l1, c1, a1⟩ := claim len (Nat.le_refl _)
            have hvs : vs.length ≤ cap * sz := by rw [l1]; exact Nat.mul_le_mul_right _ hlc
            refine ⟨h1 ++ [.arr ⟨vs, sz, true⟩], ρ1.put h1.length ⟨a.block, a.off, bs.size, sz⟩, p1.trans ⟨_, rfl⟩, le1.trans (put_le R1 _), R1.snoc r1 (.inr ⟨vs, bs, ty, fr, rfl, hb, rfl, by simp only; omega, c1⟩), r1.snoc (.inr ⟨_, _, rfl⟩), [.slice (some ⟨h1.length, 0, none⟩) len 0], .one ?_, ?_⟩
            · refine .slice (Place.put_same _ _ _) hlc (fun h => absurd rfl h) (fun _ => ⟨?_, by simp only; omega⟩)
              obtain ⟨ab, ao, as⟩ := a
              simp only at hspot
              subst hspot; rfl
            · refine .slice (vs := vs) hu (by simp) (by simp [hlen]) (by rw [hw]; exact l1) (.inr (by rw [hw]; simp)) ?_
              intro k d hd
              rw [List.getElem?_map] at hd
              obtain ⟨y, hy, rfl⟩ := Option.map_eq_some_iff.mp hd
              have hkl : k < len := by have := (List.getElem?_eq_some_iff.mp hy).1; omega
              rw [hw]
              exact (a1 k y hkl hy).mono (Sub.of_pre ⟨_, rfl⟩)
      · rename_i fs hu
        simp only [Bool.and_eq_true] at hs
        obtain ⟨hs1, hs2⟩ := hs
        split at hs1
        · rename_i tot htile
          have htot := Nat.eq_of_beq_eq_true hs1
          obtain ⟨xs, n', hn', rfl, hcl, hxl, hxs⟩ := DataW.trod_struct hu ht
          obtain rfl : n' = n := by omega
          have claim : ∀ (l : List Field) (o i0 : Nat), (∀ (j : Nat) (f : Field), l[j]? = some f → fs[i0 + j]? = some f) → tile P l o = some tot → (∀ f ∈ l, simT P m f.type = true) → ∀ (h : Heap) (ρ : Place), Rel h ρ W → ROnly h →
              ∃ h' ρ', h <+: h' ∧ Le ρ ρ' ∧ Rel h' ρ' W ∧ ROnly h' ∧ ∃ vs : List Value, LRel ρ' vs (cs.drop o) ∧
                ∀ (j : Nat) (f : Field) (d : DataW H), l[j]? = some f → (xs[i0 + j]?).map (·.1) = some d → ARd P h' f.type ((vs.drop (f.offset - o)).take (P.cellsOf f.type)) d := by
            intro l
            induction l with
            | nil =>
              intro o i0 _ htl _ h ρ R r
              cases htl
              refine ⟨h, ρ, List.prefix_refl _, Le.refl _, R, r, [], ?_, fun j f d hj => by simp at hj⟩
              rw [List.drop_of_length_le (by omega)]
              exact .nil
            | cons f l ihl =>
              intro o i0 hfs htl hsim h ρ R r
              obtain ⟨hge, hof⟩ := tile_le _ _ _ htl
              simp only [tile] at htl
              cases hb : Nat.beq f.offset o with
              | false => rw [hb] at htl; cases htl
              | true =>
                rw [hb] at htl
                simp only [cond_true] at htl
                have eo := Nat.eq_of_beq_eq_true hb
                obtain ⟨hle2, hof2⟩ := tile_le _ _ _ htl
                have hf0 := hfs 0 f (by simp)
                simp only [Nat.add_zero] at hf0
                have hx0 := hxs i0 f hf0
                have hi0 : i0 < xs.length := by have := (Array.getElem?_eq_some_iff.mp hf0).1; omega
                rw [List.getElem?_eq_getElem hi0, eo] at hx0
                obtain ⟨h1, ρ1, p1, le1, R1, r1, us, lu, au⟩ := ih m f.type _ _ (hsim f (by simp)) hx0 h ρ R r
                obtain ⟨h2, ρ2, p2, le2, R2, r2, vs, lv, av⟩ := ihl (o + P.cellsOf f.type) (i0 + 1) (fun j g hg => by have := hfs (j + 1) g (by simpa using hg); rwa [show i0 + (j + 1) = i0 + 1 + j by omega] at this) htl (fun g hg => hsim g (by simp [hg])) h1 ρ1 R1 r1
                have hul : us.length = P.cellsOf f.type := by rw [lu.1]; simp; omega
                refine ⟨h2, ρ2, p1.trans p2, le1.trans le2, R2, r2, us ++ vs, ?_, ?_⟩
                · have := (lu.mono le2).append lv
                  rwa [← List.drop_drop, List.take_append_drop] at this
                · intro j g d hg hd
                  cases j with
                  | zero =>
                    simp only [List.getElem?_cons_zero, Option.some.injEq] at hg
                    subst hg
                    simp only [Nat.add_zero, List.getElem?_eq_getElem hi0, Option.map_some, Option.some.injEq] at hd
                    rw [eo, Nat.sub_self, List.drop_zero, List.take_append_of_le_length (by omega), List.take_of_length_le (by omega), ← hd]
                    exact au.mono (Sub.of_pre p2)
                  | succ j =>
                    simp only [List.getElem?_cons_succ] at hg
                    have := av j g d hg (by rwa [show i0 + 1 + j = i0 + (j + 1) by omega])
                    have hgo := hof2 g (List.mem_of_getElem? hg)
                    have e : (us ++ vs).drop (g.offset - o) = vs.drop (g.offset - (o + P.cellsOf f.type)) := by
                      rw [List.drop_append, List.drop_of_length_le (by omega), List.nil_append, hul]
                      congr 1; omega
                    rw [e]; exact this
          obtain ⟨h1, ρ1, p1, le1, R1, r1, vs, lv, av⟩ := claim fs.toList 0 0 (fun j f hj => by simpa using hj) htile (fun f hf => List.all_eq_true.mp hs2 f hf) h ρ R r
          rw [List.drop_zero] at lv
          refine ⟨h1, ρ1, p1, le1, R1, r1, vs, lv, .struct hu (by rw [lv.1, hcl]) (by simp [hxl]) ?_⟩
          intro k f d hk hd
          have := av k f d (by simpa using hk) (by simpa using hd)
          simpa using this
        · cases hs1
      · rename_i k e hu
        simp only [Bool.and_eq_true] at hs
        have hsz := Nat.eq_of_beq_eq_true hs.1
        obtain ⟨xs, n', hn', rfl, hcl, hxl, hxs⟩ := DataW.trod_array hu ht
        obtain rfl : n' = n := by omega
        generalize hw : P.cellsOf e = sz at *
        have claim : ∀ j, j ≤ k → ∃ h' ρ', h <+: h' ∧ Le ρ ρ' ∧ Rel h' ρ' W ∧ ROnly h' ∧ ∃ vs : List Value, LRel ρ' vs (cs.take (j * sz)) ∧
            ∀ (i : Nat) (d : DataW H), i < j → (xs[i]?).map (·.1) = some d → ARd P h' e ((vs.drop (i * sz)).take sz) d := by
          intro j
          induction j with
          | zero => intro _; exact ⟨h, ρ, List.prefix_refl _, Le.refl _, R, r, [], by rw [Nat.zero_mul, List.take_zero]; exact .nil, fun i d hi => by omega⟩
          | succ j ihj =>
            intro hj
            obtain ⟨h1, ρ1, p1, le1, R1, r1, vs, l1, a1⟩ := ihj (by omega)
            have hx0 := hxs j (by omega)
            rw [List.getElem?_eq_getElem (by omega)] at hx0
            obtain ⟨h2, ρ2, p2, le2, R2, r2, us, lu, au⟩ := ih m e _ _ hs.2 hx0 h1 ρ1 R1 r1
            have hle : j * sz + sz ≤ cs.length := by rw [hcl, ← hsz, ← Nat.succ_mul]; exact Nat.mul_le_mul_right _ hj
            have hul : us.length = sz := by rw [lu.1]; simp; omega
            have hvl : vs.length = j * sz := by rw [l1.1]; simp; omega
            refine ⟨h2, ρ2, p1.trans p2, le1.trans le2, R2, r2, vs ++ us, ?_, ?_⟩
            · have := (l1.mono le2).append lu
              rwa [Nat.succ_mul, List.take_add]
            · intro i d hi hd
              by_cases hij : i < j
              · have := (a1 i d hij hd).mono (Sub.of_pre p2)
                have hle2 : i * sz + sz ≤ vs.length := by rw [hvl, ← Nat.succ_mul]; exact Nat.mul_le_mul_right _ hij
                rwa [List.drop_append_of_le_length (by omega), List.take_append_of_le_length (by simp; omega)]
              · obtain rfl : i = j := by omega
                rw [List.getElem?_eq_getElem (by omega)] at hd
                simp only [Option.map_some, Option.some.injEq] at hd
                subst hd
                have : (vs ++ us).drop (i * sz) = us := by rw [← hvl, List.drop_left]
                rw [this, List.take_of_length_le (by omega)]
                exact au
        obtain ⟨h1, ρ1, p1, le1, R1, r1, vs, lv, av⟩ := claim k (Nat.le_refl _)
        rw [List.take_of_length_le (by omega)] at lv
        refine ⟨h1, ρ1, p1, le1, R1, r1, vs, lv, .array hu (by rw [lv.1, hcl]) (by simp [hxl]) ?_⟩
        intro i d hd
        rw [hw]
        have hi : i < k := by have := (List.getElem?_eq_some_iff.mp hd).1; simpa [hxl] using this
        exact av i d hi (by simpa using hd)
      · cases hs

/-- A list of arguments. -/
theorem buildAll : ∀ (ts : List TypeId) (m : Nat) (vs : List Value) (ds : List (DataW H)) (ps : List MemPlace), ts.all (simT P m) = true → DataW.TrodAll enc P W 0 (fun _ => true) true ts vs ds ps →
    ∀ (h : Heap) (ρ : Place), Rel h ρ W → ROnly h → ∃ h' ρ', h <+: h' ∧ Le ρ ρ' ∧ Rel h' ρ' W ∧ ROnly h' ∧ ∃ css : List (List Value), css.length = vs.length ∧ ts.length = vs.length ∧
      (∀ (k : Nat) (v : Value), vs[k]? = some v → LRel ρ' (css.getD k []) v.cells.toList) ∧ ∀ (k : Nat) (t : TypeId) (d : DataW H), ts[k]? = some t → ds[k]? = some d → ARd P h' t (css.getD k []) d := by
  intro ts
  induction ts with
  | nil =>
    intro m vs ds ps _ ht h ρ R r
    obtain ⟨rfl, rfl, rfl⟩ := trodAll_nil ht
    exact ⟨h, ρ, List.prefix_refl _, Le.refl _, R, r, [], rfl, rfl, fun k v hk => by simp at hk, fun k t d hk => by simp at hk⟩
  | cons t ts ih =>
    intro m vs ds ps hs ht h ρ R r
    simp only [List.all_cons, Bool.and_eq_true] at hs
    obtain ⟨v, vs, d, ds, p, q, rfl, rfl, rfl, ⟨n, h0⟩, hr⟩ := trodAll_cons ht
    obtain ⟨h1, ρ1, p1, le1, R1, r1, us, lu, au⟩ := build n m t _ _ hs.1 h0 h ρ R r
    obtain ⟨h2, ρ2, p2, le2, R2, r2, css, l1, l2, l3, l4⟩ := ih m vs ds q hs.2 hr h1 ρ1 R1 r1
    refine ⟨h2, ρ2, p1.trans p2, le1.trans le2, R2, r2, us :: css, by simp [l1], by simp [l2], ?_, ?_⟩
    · intro k x hk
      cases k with
      | zero => simp at hk; subst hk; simpa using lu.mono le2
      | succ k => simpa using l3 k x (by simpa using hk)
    · intro k t' d' hk hd
      cases k with
      | zero => simp at hk hd; subst hk hd; simpa using au.mono (Sub.of_pre p2)
      | succ k => simpa using l4 k t' d' (by simpa using hk) (by simpa using hd)
end

/-! ### what a call leaves -/
theorem Step.below {h h' : Heap} {ρ ρ' : Place} {w w' : World} (S : Step h ρ w h' ρ' w') (r : ROnly h) : Below w.heap.size w w' :=
  ⟨S.os, S.tape, S.output, S.size, fun b hb => S.keep b hb fun i L _ hw => absurd hw (r i)⟩

/-- The row's end, where nothing below has turned. -/
theorem post_of_below {H : Type} {enc : TypeId × Value → H} {f : Func} {s : ChangeSpec} {apart fresh handsOn again : Bool} {W W' : World} {args : Array Value} {v : Value} {ds gs : List (DataW H)} {before : List MemPlace}
    (hl : laidOutB P = true) (hr : ∀ t ∈ f.params.toList, P.readableRec t = true ∧ t < P.types.size)
    (hW : DataW.Whole enc P f.params.toList s.vars apart W args.toList ds gs before) (hb : Below W.heap.size W W') (hv : s.vars = [])
    (hres : ∀ (b : Nat) (sp : Nat → Bool) (hd : Bool), DataW.TrodAll enc P W' b sp hd f.resultTypes.toList (v.resultList f.resultTypes.size) (s.fn H (ds ++ gs)).results [])
    (hargs : (s.fn H (ds ++ gs)).args = ds) (hvars : (s.fn H (ds ++ gs)).vars = [])
    (hok : ∀ (j : Nat) (t : TypeId) (r : Value), f.resultTypes[j]? = some t → (v.resultList f.resultTypes.size)[j]? = some r → Value.okWide P W' .any 0 t r) :
    s.post enc P f apart fresh handsOn again W args v W' := by
  have hlt := hW.lt
  have hW' := hW
  obtain ⟨p, q, hA, hV, rfl, hz, hn⟩ := hW
  rw [hv] at hV
  obtain ⟨rfl, rfl⟩ := trodVars_none hV
  simp only [List.append_nil] at *
  have stays : ∀ (sp : Nat → Bool), (∀ x ∈ p, sp x.block = true) → DataW.TrodAll enc P W' 0 sp true f.params.toList args.toList ds p := by
    intro sp hsp
    have key : ∀ (ts : List TypeId) (vs : List Value) (ds : List (DataW H)) (ps : List MemPlace), (∀ t ∈ ts, P.readableRec t = true ∧ t < P.types.size) → DataW.TrodAll enc P W 0 (fun _ => true) true ts vs ds ps → (∀ x ∈ ps, x ∈ p) → DataW.TrodAll enc P W' 0 sp true ts vs ds ps := by
      intro ts
      induction ts with
      | nil => intro vs ds ps _ h _; obtain ⟨rfl, rfl, rfl⟩ := trodAll_nil h; exact trodAll_mk0
      | cons t ts ih =>
        intro vs ds ps hr' h hps
        obtain ⟨v, vs, d, ds, p', q', rfl, rfl, rfl, h0, hrest⟩ := trodAll_cons h
        refine ⟨p', q', ?_, ih _ _ _ (fun t' ht' => hr' t' (by simp [ht'])) hrest (fun x hx => hps x (by simp [hx])), rfl⟩
        exact WideElems.Trod_stays hl (hr' t (by simp)).1 (hr' t (by simp)).2 h0 (fun x hx => hb.same (hlt x (hps x (by simp [hx])))) (fun x hx => hsp x (hps x (by simp [hx])))
    exact key _ _ _ _ hr hA (fun x hx => hx)
  have e2 : DataW.TrodVars enc P W' (fun b => decide (b < W.heap.size)) s.vars (s.fn H ds).vars [] := by rw [hv, hvars]; rfl
  refine ⟨ds, [], p, [], p, [], hW', ?_, ?_, ?_, ?_, fun _ => ⟨hok, ?_⟩⟩
  · simpa using hres _ _ _
  · simp only [List.append_nil, hargs]; exact stays _ (fun x hx => by simpa using hlt x hx)
  · simpa using e2
  · exact World.keptBut_mono (fun x hx => ⟨hx, .inr (.inl hx)⟩) (hb.frame _)
  · refine ⟨_, [], ([] ++ p) ++ [], ⟨[] ++ p, [], trodAll_append (stays _ (fun _ _ => rfl)) (hres _ _ _), ?_, rfl, ?_, ?_⟩, ?_⟩
    · rw [hv]; rfl
    · intro b off hp
      have hp' : MemPlace.cell b off ∈ p := by simpa using hp
      rw [hb.frozen (show (⟨b, off, none⟩ : Addr).block < W.heap.size from hlt _ hp')]
      exact hz b off hp'
    · intro ha; simpa using hn ha
    · intro x hx _; simpa using hx

/-- The value that cells make: a struct, or a single one. -/
def absV (P : Program) (t : TypeId) (cs : List Value) : Value := match P.underlying t with | some (.struct _) => .agg cs.toArray | some (.array _ _) => .agg cs.toArray | _ => cs.getD 0 undef
theorem absV_rel {H : Type} {t : TypeId} {v : Value} {cs : List Value} {d : DataW H} {base : Nat} (ok : Value.okWide P W .any base t v) (r : LRel ρ cs v.cells.toList) (a : ARd P h t cs d) : VRel ρ (absV P t cs) v := by
  have single : ∀ x : Value, cs = [x] → (∀ c, v = .agg c → False) → VRel ρ (cs.getD 0 undef) v := by
    intro x e hn
    have := r.2 0
    have hc : v.cells.toList = [v] := by
      cases v <;> first | rfl | exact (hn _ rfl).elim
    rw [hc] at this
    simpa using this
  unfold Value.okWide at ok
  cases a with
  | bool ht b =>
    simp only [absV, ht] at ok ⊢
    exact single _ rfl (fun c e => by subst e; simp [Cell.okWide, Cell.ok, ht] at ok)
  | int ht hw =>
    simp only [absV, ht] at ok ⊢
    exact single _ rfl (fun c e => by subst e; simp [Cell.okWide, Cell.ok, ht] at ok)
  | string ht s =>
    simp only [absV, ht] at ok ⊢
    exact single _ rfl (fun c e => by subst e; simp [Cell.okWide, Cell.ok, ht] at ok)
  | nil ht =>
    simp only [absV, ht] at ok ⊢
    exact single _ rfl (fun c e => by subst e; simp [Cell.okWide, Cell.ok, ht] at ok)
  | slice ht hlt hl hv hi he =>
    simp only [absV, ht] at ok ⊢
    exact single _ rfl (fun c e => by subst e; simp [Cell.okWide, Cell.ok, ht] at ok)
  | struct ht hl hp hf =>
    simp only [absV, ht] at ok ⊢
    obtain ⟨c, rfl, _⟩ := ok
    refine .agg (by simpa [Value.cells] using r.1) fun j => ?_
    have := r.2 j
    simpa [Value.cells, Array.getD_eq_getD_getElem?, List.getD] using this
  | array ht hl hp hf =>
    simp only [absV, ht] at ok ⊢
    obtain ⟨c, rfl, _⟩ := ok
    refine .agg (by simpa [Value.cells] using r.1) fun j => ?_
    have := r.2 j
    simpa [Value.cells, Array.getD_eq_getD_getElem?, List.getD] using this

/-- A law's contract, out of what holds of it over the abstract memory. -/
theorem CallsX.go {f : FuncId} {args : Array Value} {w : World} {Q : Ending → World → Prop} (hcal : callable P f = true) (hc : CallsX P f args w Q) : Calls P f args w Q := by
  rcases hc with ⟨_, h⟩ | ⟨c, w', hr, _⟩
  · exact h
  · exfalso
    unfold callable at hcal
    split at hcal
    · rename_i fn hfn
      simp only [Bool.and_eq_true] at hcal
      have h1 : ¬ (fn.name = "runtime.NumGoroutine") := by simpa using hcal.1
      have h2 : ¬ (fn.body = none) := by cases hb : fn.body <;> simp_all
      simp [callFunc, hfn, h1, h2] at hr
    · cases hcal
theorem law_calls {H : Type} {enc : TypeId × Value → H} {f : FuncId} {fn : Func} {s : ChangeSpec} {apart fresh handsOn again : Bool} {args : Array Value} {ds gs : List (DataW H)} {before : List MemPlace} {tb : TypeId} {base m : Nat}
    (hl : laidOutB P = true) (hr : ∀ t ∈ fn.params.toList, P.readableRec t = true ∧ t < P.types.size) (hsim : fn.params.toList.all (simT P m) = true) (hv : s.vars = []) (hb : fn.resultTypes = #[tb]) (hbu : P.underlying tb = some .bool)
    (hval : ∀ (j : Nat) (t : TypeId) (v : Value), fn.params[j]? = some t → args[j]? = some v → Value.okWide P W .any base t v)
    (hW : DataW.Whole enc P fn.params.toList s.vars apart W args.toList ds gs before)
    (hs : (s.fn H (ds ++ gs)).results = [.lit (.bool true)] ∧ (s.fn H (ds ++ gs)).args = ds ∧ (s.fn H (ds ++ gs)).vars = [])
    (hcon : ∀ (h : Heap) (as : List Value), as.length = fn.params.size → (∀ (k : Nat) (t : TypeId) (d : DataW H), fn.params[k]? = some t → ds[k]? = some d → ∃ cs, as[k]? = some (absV P t cs) ∧ ARd P h t cs d) → DetP P f as h fun v _ => v = .bool true)
    (hng : P.globals.size = 0 := by rfl) (hcal : callable P f = true := by rfl) :
    Calls P f args W fun e W' => ∃ v, e = .returned v ∧ s.post enc P fn apart fresh handsOn again W args v W' := by
  have hW' := hW
  obtain ⟨p, q, hA, _, _, _, _⟩ := hW'
  obtain ⟨h, ρ, _, _, R, r, css, l1, l2, l3, l4⟩ := buildAll (P := P) (W := W) fn.params.toList m args.toList ds p hsim hA [] (fun _ => none) ⟨fun i L e => (by cases e), fun i L a e => (by cases e), fun i L es e => (by cases e), fun i j Li Lj e => (by cases e)⟩ ROnly.nil
  have hlens : fn.params.size = args.size := by simpa using l2
  have hdl := (trodAll_length hA).2
  have hargs : LRel ρ (List.zipWith (absV P) fn.params.toList css) args.toList := by
    refine ⟨by simp [l1, hlens], fun k => ?_⟩
    by_cases hk : k < args.size
    · have ht : fn.params[k]? = some fn.params[k] := by simp [hlens, hk]
      have hvk : args[k]? = some args[k] := by simp [hk]
      have hdk : k < ds.length := by rw [hdl]; simp [hlens, hk]
      have hd : ds[k]? = some ds[k] := by simp [hdk]
      have := absV_rel (hval k _ _ ht hvk) (l3 k args[k] (by simp [hk])) (l4 k _ _ (by simpa using ht) hd)
      simpa [List.getD, List.getElem?_zipWith, hk, hlens, l1] using this
    · have h1 : (List.zipWith (absV P) fn.params.toList css)[k]? = none := by rw [List.getElem?_eq_none]; simp [l1, hlens]; omega
      have h2 : args.toList[k]? = none := by rw [List.getElem?_eq_none]; simp; omega
      simp only [List.getD, h1, h2]
      exact VRel.undef' ρ
  have run := (hcon h (List.zipWith (absV P) fn.params.toList css) (by simp [l1, hlens]) ?_).toP
  · refine CallsX.go (hcal := hcal) ((run ρ W args.toList (GlobP.no hng _) R hargs).mono ?_)
    rintro e W' ⟨v, h', ρ', c, rfl, rfl, R', S', V'⟩
    cases V'
    refine ⟨.bool true, rfl, post_of_below hl hr hW (S'.below r) hv ?_ hs.2.1 hs.2.2 (ok_one hb rfl (okWide_bool_mk hbu _))⟩
    intro b sp hd
    rw [hs.1, hb]
    exact ⟨[], [], shut_bool hbu _, trodAll_mk0, rfl⟩
  · intro k t d ht hd
    refine ⟨css.getD k [], ?_, l4 k t d (by simpa using ht) hd⟩
    have hk : k < args.size := by rw [← hlens]; exact (Array.getElem?_eq_some_iff.mp ht).1
    simp [List.getElem?_zipWith, ht, List.getD, hk, l1]

/-! ### arguments that are lists of numbers -/
def dint {H : Type} : DataW H → Int | .lit (.int _ n) => n | _ => 0
def dints {H : Type} : DataW H → List Int | .slice elems _ => elems.map dint | _ => []
theorem ARd.dint {H : Type} {t : TypeId} {cs : List Value} {d : DataW H} {k : IntKind} (a : ARd P h t cs d) (ht : P.underlying t = some (.int k)) : cs = [.int k (dint d)] ∧ absV P t cs = .int k (dint d) ∧ (Lit.int k (dint d)).wf = true := by
  cases a with
  | int h1 hw => rw [ht] at h1; cases h1; exact ⟨rfl, by simp [absV, ht, AM.dint], hw⟩
  | bool h1 => rw [ht] at h1; cases h1
  | string h1 => rw [ht] at h1; cases h1
  | nil h1 => rw [ht] at h1; cases h1
  | slice h1 => rw [ht] at h1; cases h1
  | struct h1 => rw [ht] at h1; cases h1
  | array h1 => rw [ht] at h1; cases h1
theorem ARd.ints {H : Type} {t e : TypeId} {cs : List Value} {d : DataW H} (a : ARd P h t cs d) (ht : P.underlying t = some (.slice e)) (he : P.underlying e = some (.int .i64)) (hc : P.cellsOf e = 1) (hb : (dints d).length ≤ 2 ^ 50) :
    IntS h (absV P t cs) (dints d) ∧ cs = [absV P t cs] := by
  cases a with
  | nil h1 => exact ⟨by simp [absV, ht]; exact Seg.nil 1 h, by simp [absV, ht]⟩
  | slice h1 hlt hl hv hi hel =>
    rename_i e' i len vs elems spare
    rw [ht] at h1
    cases h1
    rw [hc] at hv hi hel
    refine ⟨?_, by simp [absV, ht]⟩
    simp only [absV, ht]
    simp only [dints, List.length_map] at hb
    have hvs : vs = elems.map fun d => Value.int .i64 (AM.dint d) := by
      refine List.ext_getElem? fun k => ?_
      by_cases hk : k < len
      · have hk1 : elems[k]? = some elems[k] := by simp [hl, hk]
        have := (hel k _ hk1).dint he
        have h2 := this.1
        rw [Nat.mul_one, List.take_one, List.head?_drop] at h2
        have hkv : k < vs.length := by omega
        rw [List.getElem?_eq_getElem hkv] at h2 ⊢
        simp at h2
        simp [hk1, h2]
      · rw [List.getElem?_eq_none (by omega), List.getElem?_eq_none (by simp; omega)]
    refine ⟨⟨by simp [dints], by simp [dints]; omega⟩, ?_⟩
    simp only [dints, List.length_map]
    rcases hi with h0 | hi
    · subst h0; exact .inl ⟨some (i, 0), 0, rfl, fun p hp => (by cases hp; exact hlt), hl⟩
    · refine .inr ⟨i, 0, 0, _, by simp [hl, List.getD], hi, rfl, by simp [hl, hv], ?_⟩
      simp only [List.drop_zero]
      rw [List.take_of_length_le (by omega), hvs]
      simp
  | bool h1 => rw [ht] at h1; cases h1
  | string h1 => rw [ht] at h1; cases h1
  | int h1 => rw [ht] at h1; cases h1
  | struct h1 => rw [ht] at h1; cases h1
  | array h1 => rw [ht] at h1; cases h1
end Go.AM
