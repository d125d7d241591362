import Derived.Test.YtgmgmkhenhaniaaAnJ
import Derived.Shelf.SlSortCmp.NoneTotal
set_option linter.unusedVariables false
set_option linter.unusedSimpArgs false
set_option linter.unnecessarySimpa false
set_option linter.unusedSectionVars false
/-! slices.SortFunc over a list of one's own: the shelf's contract, handed up. -/
namespace Go.AM
open Go
open Go.Shelf Go.Lib
variable {P : Program} {h h' h1 h2 : Heap} {h0 : Base} {K : Value → Heap → Prop} {v x : Value} {l : List E} {i k sz : Nat} {o : Option Nat} {cs : List Value}
theorem flatV_eq {ρ : Place} {v c : Value} (hv : flatV v = true) (r : VRel ρ v c) : c = v := by
  cases r <;> first | rfl | (simp [flatV] at hv; done)
theorem fv_rel {ρ : Place} {α : Type} [F : Flat α] (a : α) : VRel ρ (fv a) (fv a) := by
  refine .agg rfl fun j => ?_
  by_cases hj : j < (F.cells a).length
  · have : (F.cells a).toArray.getD j undef = (F.cells a)[j] := by simp [hj]
    rw [this]
    exact flatV_rel (List.all_eq_true.mp (F.flat a) _ (List.getElem_mem _))
  · have : (F.cells a).toArray.getD j undef = undef := by simp [hj]
    rw [this]; exact VRel.undef' ρ
/-- What a pure contract leaves in the machine's own memory. -/
theorem Runs.grows {f : FuncId} {args : List Value} {n : Int} (hrl : LRel (fun _ => none) args args) (hcal : callable P f = true) (hno : P.globals.size = 0) (hr : Runs P f args [] (.int .i64 n) []) (w : World) :
    Calls P f args.toArray w fun e w' => e = .returned (.int .i64 n) ∧ ∃ q os, w' = Go.Sort.grow (w.drewN q) os := by
  refine CallsX.go hcal ((hr (fun _ => none) w args (GlobP.no hno _) ⟨fun i L e => (by cases e), fun i L a e => (by cases e), fun i L es e => (by cases e), fun i j Li Lj e => (by cases e)⟩ hrl).mono ?_)
  rintro e w' ⟨v', h', ρ', c, ⟨rfl, rfl⟩, rfl, R', S', hv'⟩
  cases hv'
  refine ⟨rfl, w'.drawn - w.drawn, w'.heap.extract w.heap.size w'.heap.size, ?_⟩
  have keep : ∀ b, b < w.heap.size → w'.heap[b]? = w.heap[b]? := fun b hb => S'.keep b hb fun i L e => (by cases e)
  have hheap : w'.heap = w.heap ++ w'.heap.extract w.heap.size w'.heap.size := by
    have hsz := S'.size
    refine Array.ext_getElem? fun b => ?_
    rw [Array.getElem?_append]
    split
    · exact keep b (by assumption)
    · rw [Array.getElem?_extract]
      split
      · congr 1; omega
      · rw [Array.getElem?_eq_none (by omega)]
  have hd := S'.drawn
  have ho := S'.os
  have ht := S'.tape
  have hu := S'.output
  obtain ⟨hp, tp, dr, os, out⟩ := w'
  obtain ⟨hp0, tp0, dr0, os0, out0⟩ := w
  simp only at *
  subst ho ht hu
  simp only [Go.Sort.grow, World.drewN]
  rw [← hheap, show dr0 + (dr - dr0) = dr by omega]
/-- What is so of a world is so of one whose blocks are the same. -/
theorem Rel.same {w w' : World} {ρ : Place} (R : Rel h ρ w) (hk : ∀ b, b < w.heap.size → w'.heap[b]? = w.heap[b]?) : Rel h ρ w' := by
  have lt : ∀ {b : Nat} {x : _}, w.heap[b]? = some x → b < w.heap.size := fun e => (Array.getElem?_eq_some_iff.mp e).1
  refine ⟨R.dom, ?_, ?_, R.inj⟩
  · intro i L a h1 h2
    obtain ⟨cs, ty, fr, e1, e2⟩ := R.arr i L a h1 h2
    exact ⟨cs, ty, fr, by rw [hk _ (lt e1)]; exact e1, e2⟩
  · intro i L es h1 h2
    obtain ⟨en, cl, e1, e2⟩ := R.map i L es h1 h2
    exact ⟨en, cl, by rw [hk _ (lt e1)]; exact e1, e2⟩
theorem flatK_get {α : Type} [Inhabited α] [F : Flat α] (l : List α) {t : Nat} (ht : t < l.length * F.sz) : (Go.Sort.flatK F.cells F.sz l.toArray)[t]! = (flat l).getD t undef := by
  have hp : 0 < F.sz := by
    rcases Nat.eq_zero_or_pos F.sz with e | e
    · rw [e] at ht; simp at ht
    · exact e
  have hq : t / F.sz < l.length := by rw [Nat.div_lt_iff_lt_mul hp]; exact ht
  have hr : t % F.sz < F.sz := Nat.mod_lt _ hp
  rw [Go.Sort.get_flatK _ _ _ _ (by simpa using ht)]
  have e1 := flat_get (xs := l) hq hr
  have e2 : t / F.sz * F.sz + t % F.sz = t := by rw [Nat.mul_comm]; exact Nat.div_add_mod t F.sz
  rw [e2] at e1
  simp only [List.getD, e1]
  have e3 : (l.toArray[t / F.sz]!) = l[t / F.sz] := by simp [hq]
  rw [e3]
  have hlen : t % F.sz < (F.cells l[t / F.sz]).length := by rw [F.len]; exact hr
  simp [hlen]
/-- The list sorted. -/
def srt {α : Type} (cf : α → α → Int) (l : List α) : List α := l.mergeSort fun x y => !(Go.Proofs.ltOf cf) y x
theorem sort_run {α : Type} [Inhabited α] [F : Flat α] {r : Ren} (L : Go.Proofs.SlLaysF0.n6 P r) (aE : ∀ w, (isAgg (r.t 24)).run P w = .ok true w) (zE : ∀ w, (Go.sizeOf (r.t 24)).run P w = .ok F.sz w)
    (cf : α → α → Int) (hO : Go.Sort.SWO (Go.Proofs.ltOf cf)) (hT : ∀ x y, (Go.Proofs.ltOf cf) x y = false → (Go.Proofs.ltOf cf) y x = false → x = y) {g0 fn : FuncId}
    (eg : ∀ args w, (callFunc g0 args).run P w = .ok (.enter g0 args) w) (hcal : callable P g0 = true) (hno : P.globals.size = 0)
    (hcmp : ∀ x y : α, Runs P g0 [fv x, fv y] [] (.int .i64 (cf x y)) []) (hfn : r.f 6 = fn) (hcal6 : callable P fn = true)
    {xs : List α} {c : Nat} (e : h[i]? = some (.arr ⟨flat xs, F.sz, false⟩)) (hne : 0 < xs.length) (hlen : xs.length < 4611686018427387904) (hsz : 0 < F.sz) :
    Runs P fn [.slice (some ⟨i, 0, none⟩) xs.length c, .func (.func g0) #[] #[]] h (.tuple #[]) (h.set i (.arr ⟨flat (srt cf xs), F.sz, false⟩)) := by
  intro ρ w cargs G R rl
  obtain ⟨c0, c1, rfl⟩ : ∃ c0 c1, cargs = [c0, c1] := by
    match cargs, rl.1 with
    | [a, b], _ => exact ⟨a, b, rfl⟩
  have r0 := rl.2 0
  have r1 := rl.2 1
  simp only [List.getD, List.getElem?_cons_zero, Option.getD_some, List.getElem?_cons_succ] at r0 r1
  obtain ⟨Lc, cap, ad, hρ, rfl, hle, hc⟩ : ∃ (Lc : Loc) (cap : Nat) (ad : Addr), ρ i = some Lc ∧ c0 = .slice (some ad) xs.length cap ∧ xs.length ≤ cap ∧ (0 < cap → ad = ⟨Lc.blk, Lc.off + 0, none⟩ ∧ Lc.off + 0 + cap * Lc.esz ≤ Lc.size) := by
    cases r0 with
    | slice h1 h2 h3 h4 => exact ⟨_, _, _, h1, rfl, h2, h4⟩
  obtain ⟨rfl, hfit⟩ := hc (by omega)
  rw [Nat.add_zero] at *
  have hc1 : c1 = .func (.func g0) #[] #[] := by
    cases r1 with
    | func _ h1 _ h3 _ => rw [Array.eq_empty_of_size_eq_zero h1.symm, Array.eq_empty_of_size_eq_zero h3.symm]
  subst hc1
  obtain ⟨bs, ty, fr, hb, hbs, hin, hesz, hcr, hfr⟩ := R.arr i Lc _ hρ e
  have hfr := hfr rfl
  subst hfr
  have hlt : Lc.blk < w.heap.size := (Array.getElem?_eq_some_iff.mp hb).1
  simp only [flat_length] at hin hcr
  have hcell : ∀ t, t < xs.length * F.sz → bs[Lc.off + t]? = some ((flat xs).getD t undef) := by
    intro t ht
    have h1 := hcr t (by rw [flat_length]; exact ht)
    have h2 : Lc.off + t < bs.size := by omega
    have h3 : (flat xs).getD t undef ∈ flat xs := gd_mem _ (by rw [flat_length]; exact ht)
    have h4 : flatV ((flat xs).getD t undef) = true := by
      obtain ⟨a, _, hv⟩ := List.mem_flatMap.mp h3
      exact List.all_eq_true.mp (F.flat a) _ hv
    have h5 := flatV_eq h4 h1
    rw [Array.getElem?_eq_getElem h2, ← h5]
    simp [h2]
  have hH : Go.Sort.HoldsK F.cells F.sz w Lc.blk Lc.off xs.toArray := by
    intro t ht
    rw [Go.Sort.size_flatK] at ht
    have ht : t < xs.length * F.sz := by simpa using ht
    refine ⟨?_, ?_⟩
    · simp only [World.cell?, hb, Option.isSome_none, Bool.false_eq_true, if_false, hcell t ht, id]
      rw [flatK_get xs ht]
    · simp [World.frozen?, hb]
  have hcl : Go.Proofs.CmpLays P g0 #[] F.cells F.sz cf Lc.blk Lc.off xs.toArray.size w := by
    intro m os dk _ x y
    have := Runs.grows (P := P) (f := g0) (args := [fv x, fv y]) (n := cf x y) ⟨rfl, fun k => by
      match k with
      | 0 => exact fv_rel x
      | 1 => exact fv_rel y
      | k + 2 => exact VRel.undef' _⟩ hcal hno (hcmp x y) (Go.Proofs.sortWorldK F.cells F.sz w Lc.blk Lc.off m dk os)
    simpa using this
  have key := Go.Proofs.AnyQ.slices_SortFunc_total L F.sz aE zE F.cells F.len (fun x v hv => List.all_eq_true.mp (flat_ones (F.flat x)) v hv) cf hO g0 #[] Lc.blk Lc.off cap xs.toArray w eg hcl hH hlt (by simpa using hlen) hT
  rw [hfn] at key
  refine .inl ⟨hcal6, ?_⟩
  have hs : xs.toArray.size = xs.length := by simp
  rw [hs] at key
  refine key.mono ?_
  rintro e' w' ⟨rfl, n, os, hww⟩
  rw [show (xs.toArray.toList.mergeSort fun x y => !(Go.Proofs.ltOf cf) y x) = srt cf xs from rfl] at hww
  subst hww
  have hsl : (srt cf xs).length = xs.length := by simp [srt]
  obtain ⟨A, S, _⟩ := R.setArr (ar := ⟨flat xs, F.sz, false⟩) hρ e rfl (cs := bs) (cs' := Go.Sort.putCells id Lc.off (Go.Sort.flatK F.cells F.sz (srt cf xs).toArray) bs) (ty := ty) hb (by simp [Go.Sort.putCells]) (cells' := flat (srt cf xs)) (by simp only [flat_length, hsl]) (by
    intro t ht
    rw [flat_length, hsl] at ht
    have h2 : Lc.off + t < bs.size := by omega
    have e1 : (Go.Sort.putCells id Lc.off (Go.Sort.flatK F.cells F.sz (srt cf xs).toArray) bs).getD (Lc.off + t) undef = (flat (srt cf xs)).getD t undef := by
      unfold Go.Sort.putCells
      have : (bs.mapIdx fun k x => if Lc.off ≤ k ∧ k < Lc.off + (Go.Sort.flatK F.cells F.sz (srt cf xs).toArray).size then id (Go.Sort.flatK F.cells F.sz (srt cf xs).toArray)[k - Lc.off]! else x).getD (Lc.off + t) undef = id (Go.Sort.flatK F.cells F.sz (srt cf xs).toArray)[Lc.off + t - Lc.off]! := by
        simp only [Array.getD_eq_getD_getElem?, Array.getElem?_mapIdx, Array.getElem?_eq_getElem h2, Option.map_some, Option.getD_some]
        rw [if_pos ⟨by omega, by rw [Go.Sort.size_flatK]; simp only [List.size_toArray, hsl]; omega⟩]
      rw [this, Nat.add_sub_cancel_left]
      exact flatK_get (srt cf xs) (by rw [hsl]; exact ht)
    rw [e1]
    refine flatV_rel ?_
    have h3 : (flat (srt cf xs)).getD t undef ∈ flat (srt cf xs) := gd_mem _ (by rw [flat_length, hsl]; exact ht)
    obtain ⟨a, _, hv⟩ := List.mem_flatMap.mp h3
    exact List.all_eq_true.mp (F.flat a) _ hv)
  have hpw : ∀ b, b < (w.setRow Lc.blk (Go.Sort.putCells id Lc.off (Go.Sort.flatK F.cells F.sz (srt cf xs).toArray) bs)).heap.size →
      (Go.Proofs.sortWorldK F.cells F.sz w Lc.blk Lc.off n (srt cf xs).toArray os).heap[b]? = (w.setRow Lc.blk (Go.Sort.putCells id Lc.off (Go.Sort.flatK F.cells F.sz (srt cf xs).toArray) bs)).heap[b]? := by
    intro b hbl
    have hbl : b < w.heap.size := by simpa [World.setRow] using hbl
    show ((Go.Sort.putRow id (Go.Sort.ahead w n) Lc.blk Lc.off (Go.Sort.flatK F.cells F.sz (srt cf xs).toArray)).heap ++ os)[b]? = _
    rw [Array.getElem?_append_left (by simpa [Go.Sort.putRow, Go.Sort.mapBlock, Go.Sort.ahead] using hbl)]
    by_cases eb : b = Lc.blk
    · subst eb
      rw [setRow_heap w Lc.blk bs _ ty (0, 0) hb]
      simp only [Go.Sort.putRow, Go.Sort.mapBlock, Go.Sort.ahead, Array.getElem?_modify, if_true, hb, Option.map_some, Go.Sort.onCells]
    · rw [setRow_other _ _ _ _ eb]
      simp [Go.Sort.putRow, Go.Sort.mapBlock, Go.Sort.ahead, Array.getElem?_modify, Ne.symm eb]
  refine ⟨.tuple #[], _, ρ, .tuple #[], ⟨rfl, rfl⟩, rfl, A.same hpw, ?_, .tuple rfl fun j hj => absurd hj (by simp)⟩
  refine ⟨S.ext, S.new, S.len, rfl, rfl, rfl, ?_, ?_, fun b hb2 hn => ?_, S.old⟩
  · show w.heap.size ≤ ((Go.Sort.putRow id (Go.Sort.ahead w n) Lc.blk Lc.off _).heap ++ os).size
    simp [Go.Sort.putRow, Go.Sort.mapBlock, Go.Sort.ahead]
  · exact Nat.le_add_right _ _
  · rw [hpw b (by simpa [World.setRow] using hb2)]
    exact S.keep b hb2 hn
end Go.AM
