import Derived.Test.YtdjoednhfoligaaCvD
set_option linter.unusedSimpArgs false
set_option linter.unusedVariables false
set_option maxRecDepth 100000
namespace Go.Proofs.Ytdjoednhfoligaa
open Go.AM
variable {h h' h0 h1 : Heap} {K : Value → Heap → Prop}

/-! ### graphs -/
def gE : Nat → Nat := fun l => if l = 0 then 7 else 1
def vBy (I : Nat) (N : Nat → Option Nat) (j : Nat) : Value := match N (3 + 2 * j) with | some a => .slice (some ⟨a, 0, none⟩) I (I + 1) | none => .slice none 0 0
def vFr (N : Nat → Option Nat) (C : Nat → List Value) (j : Nat) : Value := match N (4 + 2 * j) with | some a => .slice (some ⟨a, 0, none⟩) (C (4 + 2 * j)).length 0 | none => .slice none 0 0
def gCells (m : Mac) (S : Nat) (st : Value) (bi fi : Nat) : List Value := [.int .i64 m.states, .int .i64 m.inputs, .int .i64 m.outputs, .int .i64 m.start, st, .slice (some ⟨bi, 0, none⟩) S (S + 1), .slice (some ⟨fi, 0, none⟩) S (S + 1)]
structure GInv (m : Mac) (S I : Nat) (h0 h : Heap) (gi bi fi : Nat) (st : Value) (N : Nat → Option Nat) (C : Nat → List Value) : Prop where
  own : Owns h0 h N C gE
  n0 : N 0 = some gi
  n1 : N 1 = some bi
  n2 : N 2 = some fi
  c0 : C 0 = gCells m S st bi fi
  c1 : C 1 = (List.range S).map (vBy I N)
  c2 : C 2 = (List.range S).map (vFr N C)
variable {m : Mac} {S I gi bi fi : Nat} {st : Value} {N : Nat → Option Nat} {C : Nat → List Value}
theorem map_set {f f' : Nat → Value} {n k : Nat} {x : Value} (hk : f' k = x) (hne : ∀ j, j ≠ k → f' j = f j) : ((List.range n).map f).set k x = (List.range n).map f' := by
  refine List.ext_getElem? fun j => ?_
  rw [List.getElem?_set]
  simp only [List.getElem?_map, List.length_map, List.length_range]
  by_cases q : k = j
  · subst q
    rw [if_pos rfl]
    by_cases hj : k < n
    · rw [if_pos hj, List.getElem?_range hj]; simp [hk]
    · rw [if_neg hj, List.getElem?_eq_none (by simp; omega)]; rfl
  · rw [if_neg q]
    by_cases hj : j < n
    · rw [List.getElem?_range hj]; simp [hne j (fun e => q e.symm)]
    · rw [List.getElem?_eq_none (by simp; omega)]; rfl
theorem GInv.putBy (g : GInv m S I h0 h gi bi fi st N C) {k n : Nat} {cs : List Value} (o : Owns h0 h1 (upN N (3 + 2 * k) (some n)) (upN C (3 + 2 * k) cs) gE) :
    GInv m S I h0 (h1.set bi (.arr ⟨(C 1).set k (.slice (some ⟨n, 0, none⟩) I (I + 1)), 1, false⟩)) gi bi fi st (upN N (3 + 2 * k) (some n)) (upN (upN C (3 + 2 * k) cs) 1 ((C 1).set k (.slice (some ⟨n, 0, none⟩) I (I + 1)))) := by
  have b1 : upN N (3 + 2 * k) (some n) 1 = some bi := by rw [upN_ne (by omega)]; exact g.n1
  refine ⟨o.put b1 _, by rw [upN_ne (by omega)]; exact g.n0, b1, by rw [upN_ne (by omega)]; exact g.n2, by rw [upN_ne (by omega), upN_ne (by omega)]; exact g.c0, ?_, ?_⟩
  · rw [upN_self, g.c1]
    refine map_set ?_ fun j hj => ?_
    · unfold vBy; rw [upN_self]
    · unfold vBy; rw [upN_ne (by omega)]
  · rw [upN_ne (by omega), upN_ne (by omega), g.c2]
    refine List.map_congr_left fun j _ => ?_
    unfold vFr
    rw [upN_ne (by omega), upN_ne (by omega), upN_ne (by omega)]
theorem GInv.setBy (g : GInv m S I h0 h gi bi fi st N C) {k a : Nat} (ha : N (3 + 2 * k) = some a) (cs : List Value) : GInv m S I h0 (h.set a (.arr ⟨cs, 1, false⟩)) gi bi fi st N (upN C (3 + 2 * k) cs) := by
  have o := g.own.put ha cs
  have e : gE (3 + 2 * k) = 1 := by unfold gE; rw [if_neg (by omega)]
  rw [e] at o
  refine ⟨o, g.n0, g.n1, g.n2, by rw [upN_ne (by omega)]; exact g.c0, by rw [upN_ne (by omega)]; exact g.c1, ?_⟩
  rw [upN_ne (by omega), g.c2]
  refine List.map_congr_left fun j _ => ?_
  unfold vFr
  rw [upN_ne (by omega)]
theorem GInv.putFr (g : GInv m S I h0 h gi bi fi st N C) {k n : Nat} {cs : List Value} (o : Owns h0 h1 (upN N (4 + 2 * k) (some n)) (upN C (4 + 2 * k) cs) gE) :
    GInv m S I h0 (h1.set fi (.arr ⟨(C 2).set k (.slice (some ⟨n, 0, none⟩) cs.length 0), 1, false⟩)) gi bi fi st (upN N (4 + 2 * k) (some n)) (upN (upN C (4 + 2 * k) cs) 2 ((C 2).set k (.slice (some ⟨n, 0, none⟩) cs.length 0))) := by
  have b2 : upN N (4 + 2 * k) (some n) 2 = some fi := by rw [upN_ne (by omega)]; exact g.n2
  refine ⟨o.put b2 _, by rw [upN_ne (by omega)]; exact g.n0, by rw [upN_ne (by omega)]; exact g.n1, b2, by rw [upN_ne (by omega), upN_ne (by omega)]; exact g.c0, ?_, ?_⟩
  · rw [upN_ne (by omega), upN_ne (by omega), g.c1]
    refine List.map_congr_left fun j _ => ?_
    unfold vBy
    rw [upN_ne (by omega)]
  · rw [upN_self, g.c2]
    refine map_set ?_ fun j hj => ?_
    · unfold vFr; rw [upN_self, upN_ne (by omega), upN_self]
    · unfold vFr; rw [upN_ne (by omega), upN_ne (by omega), upN_ne (by omega)]
theorem GInv.ext (g : GInv m S I h0 h gi bi fi st N C) (p : h <+: h') : GInv m S I h0 h' gi bi fi st N C := ⟨g.own.ext p, g.n0, g.n1, g.n2, g.c0, g.c1, g.c2⟩
theorem GInv.g0 (g : GInv m S I h0 h gi bi fi st N C) : h[gi]? = some (.arr ⟨gCells m S st bi fi, 7, false⟩) := by have := g.own.get g.n0; rw [g.c0] at this; exact this
theorem GInv.g1 (g : GInv m S I h0 h gi bi fi st N C) : h[bi]? = some (.arr ⟨C 1, 1, false⟩) := g.own.get g.n1
theorem GInv.g2 (g : GInv m S I h0 h gi bi fi st N C) : h[fi]? = some (.arr ⟨C 2, 1, false⟩) := g.own.get g.n2
theorem GInv.by_ (g : GInv m S I h0 h gi bi fi st N C) {k a : Nat} (ha : N (3 + 2 * k) = some a) : h[a]? = some (.arr ⟨C (3 + 2 * k), 1, false⟩) := by
  have := g.own.get ha
  have e : gE (3 + 2 * k) = 1 := by unfold gE; rw [if_neg (by omega)]
  rw [e] at this; exact this
theorem GInv.fr_ (g : GInv m S I h0 h gi bi fi st N C) {k a : Nat} (ha : N (4 + 2 * k) = some a) : h[a]? = some (.arr ⟨C (4 + 2 * k), 1, false⟩) := by
  have := g.own.get ha
  have e : gE (4 + 2 * k) = 1 := by unfold gE; rw [if_neg (by omega)]
  rw [e] at this; exact this
theorem GInv.seg1 (g : GInv m S I h0 h gi bi fi st N C) (hS : S ≤ 40) : Seg 1 h (.slice (some ⟨bi, 0, none⟩) S (S + 1)) S (C 1) := g.own.seg g.n1 rfl (by rw [g.c1]; simp) (by omega)
theorem GInv.seg2 (g : GInv m S I h0 h gi bi fi st N C) (hS : S ≤ 40) : Seg 1 h (.slice (some ⟨fi, 0, none⟩) S (S + 1)) S (C 2) := g.own.seg g.n2 rfl (by rw [g.c2]; simp) (by omega)
theorem GInv.at1 (g : GInv m S I h0 h gi bi fi st N C) {k : Nat} (hk : k < S) : (C 1)[k]? = some (vBy I N k) := by rw [g.c1]; simp [hk]
theorem GInv.at2 (g : GInv m S I h0 h gi bi fi st N C) {k : Nat} (hk : k < S) : (C 2)[k]? = some (vFr N C k) := by rw [g.c2]; simp [hk]

def byRow (m : Mac) (I k j : Nat) : List Int := (List.range I).map fun n => optI (stepTo m.steps k (j : Int) ((n : Nat) : Int))
def frRow (m : Mac) (k j : Nat) : List Int := ((List.range k).filter fun i => decide ((m.steps.getD i dst).fr = (j : Int))).map fun i : Nat => (i : Int)
theorem byRow_len (m : Mac) (I k j : Nat) : (byRow m I k j).length = I := by simp [byRow]
theorem byRow_zero (m : Mac) (I j : Nat) : (byRow m I 0 j).map (Value.int .i64) = List.replicate I (.int .i64 (-1)) := by
  refine List.ext_getElem (by simp [byRow]) fun n h1 h2 => ?_
  simp [byRow, stepTo, firstOf, optI]
theorem stAt_is (l : List St) (f n : Int) (i : Nat) : stAt l f n i = if (l.getD i dst).fr = f ∧ (l.getD i dst).inp = n then some i else none := by
  unfold stAt
  split <;> rename_i e <;> first | rw [if_pos e] | rw [if_neg e] | simp_all
theorem stepTo_new {m : Mac} (r : Right m) {k : Nat} (hk : k < m.steps.length) : stepTo m.steps k (m.steps.getD k dst).fr (m.steps.getD k dst).inp = none := by
  unfold stepTo
  refine firstOf_none fun j hj => ?_
  rw [stAt_is, if_neg (r.key hj hk)]
theorem byRow_succ {m : Mac} (r : Right m) {I k j : Nat} (hk : k < m.steps.length) {s n : Nat} (hs : (m.steps.getD k dst).fr = (s : Int)) (hn : (m.steps.getD k dst).inp = (n : Int)) :
    byRow m I (k + 1) j = if j = s then (byRow m I k j).set n (k : Int) else byRow m I k j := by
  have hnew := stepTo_new r hk
  rw [hs, hn] at hnew
  have hat : ∀ a b : Nat, stAt m.steps (a : Int) (b : Int) k = if a = s ∧ b = n then some k else none := by
    intro a b
    rw [stAt_is, hs, hn]
    by_cases q : a = s ∧ b = n
    · rw [if_pos q, if_pos ⟨by omega, by omega⟩]
    · rw [if_neg q, if_neg (fun e => q ⟨by omega, by omega⟩)]
  refine List.ext_getElem (by split <;> simp [byRow]) fun i h1 h2 => ?_
  have hi : i < I := by simpa [byRow] using h1
  have e1 : (byRow m I (k + 1) j)[i] = optI ((stepTo m.steps k (j : Int) (i : Int)).or (stAt m.steps (j : Int) (i : Int) k)) := by
    simp only [byRow, List.getElem_map, List.getElem_range, stepTo_succ]
  have e2 : (byRow m I k j)[i]'(by rw [byRow_len]; exact hi) = optI (stepTo m.steps k (j : Int) (i : Int)) := by
    simp only [byRow, List.getElem_map, List.getElem_range]
  rw [e1, hat]
  by_cases q : j = s
  · subst q
    simp only [if_true, true_and] at h2 ⊢
    rw [List.getElem_set]
    by_cases q2 : i = n
    · subst q2
      rw [if_pos rfl, if_pos rfl, hnew]; rfl
    · rw [if_neg q2, if_neg (fun e => q2 e.symm), e2]; simp
  · simp only [if_neg q] at h2 ⊢
    rw [if_neg (fun e => q e.1), e2]; simp
theorem frRow_succ {m : Mac} {k j s : Nat} (hs : (m.steps.getD k dst).fr = (s : Int)) : frRow m (k + 1) j = if j = s then frRow m k j ++ [(k : Int)] else frRow m k j := by
  unfold frRow
  rw [List.range_succ, List.filter_append, List.map_append]
  by_cases q : j = s
  · subst q
    rw [if_pos rfl]
    simp only [List.filter_cons, List.filter_nil, hs, decide_true, if_true, List.map_cons, List.map_nil]
  · rw [if_neg q]
    simp only [List.filter_cons, List.filter_nil, hs]
    rw [decide_eq_false (by omega)]
    simp
theorem frRow_len (m : Mac) (k j : Nat) : (frRow m k j).length ≤ k := by
  unfold frRow
  rw [List.length_map]
  have := List.length_filter_le (fun i => decide ((m.steps.getD i dst).fr = (j : Int))) (List.range k)
  simpa using this
def byL (m : Mac) : List (List Int) := (List.range m.states.toNat).map (byRow m m.inputs.toNat m.steps.length)
def frL (m : Mac) : List (List Int) := (List.range m.states.toNat).map (frRow m m.steps.length)
structure Graph (gi : Nat) (h : Heap) (m : Mac) (st by_ fr : Value) : Prop where
  cells : h[gi]? = some (.arr ⟨[.int .i64 m.states, .int .i64 m.inputs, .int .i64 m.outputs, .int .i64 m.start, st, by_, fr], 7, false⟩)
  steps : StepsS h st m.steps
  by_ : RowsS h by_ (byL m)
  fr : RowsS h fr (frL m)
theorem Graph.mono {gi : Nat} {m : Mac} {st by_ fr : Value} (g : Graph gi h m st by_ fr) (s : Sub h h') : Graph gi h' m st by_ fr := ⟨s.2 _ _ g.cells, g.steps.mono s, g.by_.mono s, g.fr.mono s⟩
end Go.Proofs.Ytdjoednhfoligaa
