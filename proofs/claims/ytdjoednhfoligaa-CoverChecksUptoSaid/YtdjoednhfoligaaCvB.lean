import Derived.Test.YtdjoednhfoligaaCvF
import Derived.Test.YtdjoednhfoligaaAmZb
import Derived.Test.YtdjoednhfoligaaAmV
set_option linter.unusedSimpArgs false
set_option linter.unusedVariables false
set_option maxRecDepth 100000
namespace Go.Proofs.Ytdjoednhfoligaa
open Go.AM
variable {h h' h0 : Heap} {K : Value → Heap → Prop}

theorem t23 : sliceT Try.prog 25 3 1 8 = true := by kernel_rfl

theorem t22 : sliceT Try.prog 45 25 1 24 = true := by kernel_rfl

theorem t94 : sliceT Try.prog 132 29 1 8 = true := by kernel_rfl

theorem r3 : isPlain Try.prog 3 = true := by kernel_rfl

theorem r23 : isPlain Try.prog 25 = true := by kernel_rfl

theorem r25 : isPlain Try.prog 29 = true := by kernel_rfl

theorem c61 (b : Bool) (e : Int) : Runs Try.prog 61 [.bool b, .int .i64 e] h (.int .i64 (if b then 0 else e)) h := by
  refine DetP.runs (w61 ?_)
  unfold n61
  cases b <;> (with_reducible repeat first|refine mv_i ?_|refine cnd_t ?_|refine cnd_f ?_|refine gd_tt ?_|refine gd_ff ?_|refine gd_tf ?_|refine gd_ft ?_|refine gd_u ?_|refine pick_t ?_|refine pick_f ?_|refine not_t ?_|refine not_f ?_|refine nil_i ?_|refine ret1 ?_|refine ret2 ?_|refine ret0 ?_|refine ret3 ?_|refine ex2_0 ?_|refine ex2_1 ?_|refine ex3_0 ?_|refine ex3_1 ?_|refine ex3_2 ?_) <;> exact ⟨rfl, rfl⟩

def inR (n a b : Int) : Bool := decide (a ≤ n ∧ n ≤ b)

theorem c59 (n a b : Int) : Runs Try.prog 59 [.int .i64 n, .int .i64 a, .int .i64 b] h (.bool (inR n a b)) h := by
  refine DetP.runs (w59 ?_)
  unfold n59
  with_reducible (refine mv_i ?_; refine mv_i ?_; refine mv_i ?_)
  refine leq_i (fun h1 => ?_) (fun h1 => ?_)
  · with_reducible (refine mv_i ?_; refine gd_tt ?_; refine mv_i ?_; refine gd_tt ?_; refine mv_i ?_; refine gd_tt ?_)
    refine leq_i (fun h2 => ?_) (fun h2 => ?_) <;> (with_reducible repeat first|refine mv_i ?_|refine cnd_t ?_|refine cnd_f ?_|refine gd_tt ?_|refine gd_ff ?_|refine gd_tf ?_|refine gd_ft ?_|refine gd_u ?_|refine pick_t ?_|refine pick_f ?_|refine not_t ?_|refine not_f ?_|refine nil_i ?_|refine ret1 ?_|refine ret2 ?_|refine ret0 ?_|refine ret3 ?_|refine ex2_0 ?_|refine ex2_1 ?_|refine ex3_0 ?_|refine ex3_1 ?_|refine ex3_2 ?_) <;> exact ⟨by simp [inR, h1, h2], rfl⟩
  · with_reducible (refine mv_i ?_; refine gd_ft ?_; refine gd_ft ?_; refine gd_ft ?_; refine pick_f ?_; refine mv_i ?_; refine ret1 ?_) 
    exact ⟨by simp [inR, h1], rfl⟩

theorem c22 (n a b : Int) : Runs Try.prog 22 [.int .i64 n, .int .i64 a, .int .i64 b] h (.bool (inR n a b)) h := by
  refine DetP.runs (w22 ?_)
  unfold n22
  with_reducible (refine mv_i ?_; refine mv_i ?_; refine mv_i ?_)
  refine leq_i (fun h1 => ?_) (fun h1 => ?_)
  · with_reducible (refine mv_i ?_; refine gd_tt ?_; refine mv_i ?_; refine gd_tt ?_; refine mv_i ?_; refine gd_tt ?_)
    refine leq_i (fun h2 => ?_) (fun h2 => ?_) <;> (with_reducible repeat first|refine mv_i ?_|refine cnd_t ?_|refine cnd_f ?_|refine gd_tt ?_|refine gd_ff ?_|refine gd_tf ?_|refine gd_ft ?_|refine gd_u ?_|refine pick_t ?_|refine pick_f ?_|refine not_t ?_|refine not_f ?_|refine nil_i ?_|refine ret1 ?_|refine ret2 ?_|refine ret0 ?_|refine ret3 ?_|refine ex2_0 ?_|refine ex2_1 ?_|refine ex3_0 ?_|refine ex3_1 ?_|refine ex3_2 ?_) <;> exact ⟨by simp [inR, h1, h2], rfl⟩
  · with_reducible (refine mv_i ?_; refine gd_ft ?_; refine gd_ft ?_; refine gd_ft ?_; refine pick_f ?_; refine mv_i ?_; refine ret1 ?_) 
    exact ⟨by simp [inR, h1], rfl⟩

theorem c47 {a : Value} {xs : List Int} {n : Int} (s : IntS h a xs) : Runs Try.prog 47 [a, .int .i64 n] h (.bool (decide (n ∈ xs))) h := by
  have lt := s.lt
  refine DetP.runs (w47 ?_)
  unfold n47
  with_reducible (refine mv_i ?_; refine mv_i ?_)
  refine loop1 xs.length (fun k h2 => h2 = h ∧ ∀ j, j < k → xs.getD j 0 ≠ n) ⟨rfl, fun j hj => by omega⟩ ?_
  rintro k _ _ hk ⟨rfl, hJ⟩
  with_reducible (refine mv_i ?_; refine mv_i ?_)
  with_reducible (refine leni_i t23 (by assumption) ?_)
  refine lss_i (fun hlt => ?_) (fun hge => ?_)
  · with_reducible (refine cnd_t ?_; refine mv_i ?_; refine mv_i ?_)
    with_reducible (refine idxi_i t23 (by assumption) (by omega) ?_)
    with_reducible (refine ldi_i t23 r3 (by assumption) (by omega) ?_)
    with_reducible (refine mv_i ?_)
    refine eql_i (fun he => ?_) (fun he => ?_)
    · with_reducible (refine cnd_t ?_; refine mv_i ?_; refine ret1 ?_)
      refine ⟨?_, rfl⟩
      have : n ∈ xs := he ▸ gd_mem 0 (by omega)
      simp [this]
    · with_reducible (refine cnd_f ?_; refine mv_i ?_)
      refine inc_i (by omega) ?_
      with_reducible (refine mv_i ?_)
      refine next1 (by omega) ⟨rfl, fun j hj => ?_⟩
      by_cases e : j = k
      · subst e; exact he
      · exact hJ j (by omega)
  · with_reducible (refine cnd_f ?_; refine mv_i ?_; refine ret1 ?_)
    refine ⟨?_, rfl⟩
    have : ¬ n ∈ xs := by
      intro hm
      obtain ⟨j, hj, e⟩ := mem_gd 0 hm
      exact hJ j (by omega) e
    simp [this]

def tErrAt (xs : List Int) (i : Nat) : Option Int := if inR (xs.getD i 0) 0 11 = false then some 3 else if 0 < i ∧ xs.getD i 0 ≤ xs.getD (i - 1) 0 then some 14 else none

def tErr (xs : List Int) : Int := (firstOf (tErrAt xs) xs.length).getD 0

theorem tErr_none {xs : List Int} (hf : ∀ j, j < xs.length → tErrAt xs j = none) : tErr xs = 0 := by unfold tErr; rw [firstOf_none hf]; rfl

theorem tErr_some {xs : List Int} {k : Nat} {e : Int} (hf : ∀ j, j < k → tErrAt xs j = none) (hk : k < xs.length) (he : tErrAt xs k = some e) : tErr xs = e := by unfold tErr; rw [firstOf_some hf hk he]; rfl

def nz (e : Int) : Option Int := if e = 0 then none else some e

def orOf (es : List Int) : Int := (firstOf (fun i => nz (es.getD i 0)) es.length).getD 0

theorem c50 {a : Value} {xs : List Int} (s : IntS h a xs) : Runs Try.prog 50 [a] h (.int .i64 (orOf xs)) h := by
  have lt := s.lt
  refine DetP.runs (w50 ?_)
  unfold n50
  with_reducible (refine mv_i ?_; refine mv_i ?_; refine mv_i ?_)
  with_reducible (refine leni_i t94 (by assumption) ?_)
  with_reducible (refine mv_i ?_)
  refine loop1 xs.length (fun k h2 => h2 = h ∧ ∀ j, j < k → nz (xs.getD j 0) = none) ⟨rfl, fun j hj => by omega⟩ ?_
  rintro k _ _ hk ⟨rfl, hJ⟩
  skip
  refine lss_i (fun hlt => ?_) (fun hge => ?_)
  · with_reducible (refine cnd_t ?_)
    with_reducible (refine idxi_i t94 (by assumption) (by omega) ?_)
    with_reducible (refine ldi_i t94 r25 (by assumption) (by omega) ?_)
    with_reducible (refine mv_i ?_; refine mv_i ?_; refine mv_i ?_)
    refine neq_i (fun he => ?_) (fun he => ?_)
    · with_reducible (refine cnd_f ?_)
      refine inc_i (by omega) ?_
      with_reducible (refine mv_i ?_)
      refine next1 (by omega) ⟨rfl, fun j hj => ?_⟩
      by_cases q : j = k
      · subst q; unfold nz; rw [if_pos he]
      · exact hJ j (by omega)
    · with_reducible (refine cnd_t ?_; refine mv_i ?_; refine mv_i ?_; refine ret1 ?_)
      refine ⟨?_, rfl⟩
      unfold orOf
      rw [firstOf_some (f := fun i => nz (xs.getD i 0)) hJ (by omega) (by unfold nz; exact if_neg he)]
      rfl
  · with_reducible (refine cnd_f ?_; refine mv_i ?_; refine mv_i ?_; refine ret1 ?_)
    refine ⟨?_, rfl⟩
    unfold orOf
    rw [firstOf_none (f := fun i => nz (xs.getD i 0)) (fun j hj => hJ j (by omega))]
    rfl

theorem or2 (a b : Int) : orOf [a, b] = if a = 0 then b else a := by
  have e : List.range 2 = [0, 1] := rfl
  simp only [orOf, List.length_cons, List.length_nil, firstOf, nz]
  by_cases ha : a = 0 <;> by_cases hb : b = 0 <;> simp [ha, hb, e]

theorem or3 (a b c : Int) : orOf [a, b, c] = if a = 0 then (if b = 0 then c else b) else a := by
  have e : List.range 3 = [0, 1, 2] := rfl
  simp only [orOf, List.length_cons, List.length_nil, firstOf, nz]
  by_cases ha : a = 0 <;> by_cases hb : b = 0 <;> by_cases hc : c = 0 <;> simp [ha, hb, hc, e]

theorem bs94_2 (a b : Int) (h : Heap) : aBuildSlice Try.prog 132 2 [(0, .int .i64 a), (1, .int .i64 b)] h = some (.slice (some ⟨h.length, 0, none⟩) 2 3, newArr h [.int .i64 a, .int .i64 b] 1) := by kernel_rfl

theorem bs94_3 (a b c : Int) (h : Heap) : aBuildSlice Try.prog 132 3 [(0, .int .i64 a), (1, .int .i64 b), (2, .int .i64 c)] h = some (.slice (some ⟨h.length, 0, none⟩) 3 4, newArr h [.int .i64 a, .int .i64 b, .int .i64 c] 1) := by kernel_rfl

theorem bs23_1 (a : Int) (h : Heap) : aBuildSlice Try.prog 25 1 [(0, .int .i64 a)] h = some (.slice (some ⟨h.length, 0, none⟩) 1 2, newArr h [.int .i64 a] 1) := by kernel_rfl

theorem bs23_0 (h : Heap) : aBuildSlice Try.prog 25 0 [] h = some (.slice (some ⟨h.length, 0, none⟩) 0 1, newArr h [] 1) := by kernel_rfl

theorem bs22_1 (o : Option Addr) (l c : Nat) (h : Heap) : aBuildSlice Try.prog 45 1 [(0, .slice o l c)] h = some (.slice (some ⟨h.length, 0, none⟩) 1 2, newArr h [.slice o l c] 1) := by kernel_rfl

def rErr (xs : List Int) : Int := if xs.length = 0 then 1 else tErr xs

def rowAt (xss : List (List Int)) (i : Nat) : Option (Int × Int) := if rErr (xss.getD i []) = 0 then none else some ((i : Int), rErr (xss.getD i []))

def tabErr (xss : List (List Int)) : Int × Int := if 12 < xss.length then (0, 2) else (firstOf (rowAt xss) xss.length).getD (0, 0)

theorem tabErr_none {xss : List (List Int)} (hl : ¬ 12 < xss.length) (hf : ∀ j, j < xss.length → rowAt xss j = none) : tabErr xss = (0, 0) := by unfold tabErr; rw [if_neg hl, firstOf_none hf]; rfl

theorem tabErr_some {xss : List (List Int)} {k : Nat} {e : Int × Int} (hl : ¬ 12 < xss.length) (hf : ∀ j, j < k → rowAt xss j = none) (hk : k < xss.length) (he : rowAt xss k = some e) : tabErr xss = e := by unfold tabErr; rw [if_neg hl, firstOf_some hf hk he]; rfl

def pairV (p : Int × Int) : Value := .tuple #[.int .i64 p.1, .int .i64 p.2]

def ownV (h : Heap) (xs : List Int) : Value := if xs.length = 0 then .slice (some ⟨h.length, 0, none⟩) 0 1 else .slice (some ⟨h.length + 1, 0, none⟩) xs.length 0

def ownH (h : Heap) (xs : List Int) : Heap := if xs.length = 0 then newArr h [] 1 else newArr (newArr h [] 1) (xs.map (.int .i64)) 1

theorem ints_one (xs : List Int) : (xs.map (Value.int .i64)).all (·.oneCell') = true := by simp [Value.oneCell']

theorem ownV_slice (h : Heap) (xs : List Int) : ∃ o l c, ownV h xs = .slice o l c := by unfold ownV; split <;> exact ⟨_, _, _, rfl⟩

theorem ownH_pre (h : Heap) (xs : List Int) : h <+: ownH h xs := by
  unfold ownH
  split
  · exact pre_new _ _ _
  · exact (pre_new _ _ _).trans (pre_new _ _ _)

theorem own_only (h : Heap) {xs : List Int} (hb : xs.length ≤ 2 ^ 50) : Only h (ownH h xs) fun g => IntS g (ownV h xs) xs := by
  intro g hg
  unfold ownV
  by_cases h0 : xs.length = 0
  · rw [if_pos h0]
    refine ⟨⟨by simp, hb⟩, .inl ⟨some (h.length, 0), 1, by simp, fun p hp => ?_, h0⟩⟩
    cases hp
    have := hg h.length ⟨[], 1, false⟩ (Nat.le_refl _) (by unfold ownH; rw [if_pos h0]; exact newArr_get _ _ _)
    exact (List.getElem?_eq_some_iff.mp this).1
  · rw [if_neg h0]
    refine ⟨⟨by simp, hb⟩, .inr ⟨h.length + 1, 0, 0, ⟨xs.map (.int .i64), 1, false⟩, rfl, ?_, rfl, by simp, by rw [List.drop_zero, List.take_of_length_le (by simp)]⟩⟩
    refine hg _ _ (by omega) ?_
    unfold ownH
    rw [if_neg h0]
    have := newArr_get (newArr h [] 1) (xs.map (.int .i64)) 1
    rwa [newArr_length] at this

theorem c17 {a : Value} {xs : List Int} (s : IntS h a xs) (hb : xs.length ≤ 2 ^ 40) : Runs Try.prog 17 [a] h (ownV h xs) (ownH h xs) := by
  refine DetP.runs (w17 ?_)
  unfold n17
  with_reducible (refine mv_i ?_)
  refine ok_i (bs23_0 _) ?_
  with_reducible (refine mv_i ?_)
  have e := own_app t23 h.length (h := newArr h [] 1) (s.mono (Sub.of_pre (pre_new _ _ _))) (ints_one xs) ⟨by omega, by omega⟩
  by_cases h0 : xs.length = 0
  · rw [if_pos h0] at e
    refine ok_i e ?_
    with_reducible (refine mv_i ?_; refine ret1 ?_)
    unfold ownV ownH
    rw [if_pos h0, if_pos h0]
    exact ⟨rfl, rfl⟩
  · rw [if_neg h0] at e
    refine ok_i e ?_
    with_reducible (refine mv_i ?_; refine ret1 ?_)
    unfold ownV ownH
    rw [if_neg h0, if_neg h0, newArr_length]
    exact ⟨rfl, rfl⟩

def Few (xss : List (List Int)) : Prop := xss.length ≤ 2 ^ 40 ∧ ∀ xs ∈ xss, xs.length ≤ 2 ^ 40

def RowsK (g : Heap) (rs : List Value) (k : Nat) (xss : List (List Int)) : Prop := ∀ j, j < k → (rs.getD j undef).oneCell' = true ∧ IntS g (rs.getD j undef) (xss.getD j [])

theorem RowsK.mono {g g' : Heap} {rs : List Value} {k : Nat} {xss : List (List Int)} (r : RowsK g rs k xss) (hs : Sub g g') : RowsK g' rs k xss := fun j hj => ⟨(r j hj).1, (r j hj).2.mono hs⟩

theorem c30 {a : Value} {xss : List (List Int)} (s : RowsS h a xss) (hf : Few xss) : DetP Try.prog 30 [a] h fun v h' => h <+: h' ∧ RowsS h' v xss ∧ ∃ o l, v = .slice o l 0 := by
  have lt := s.lt
  refine w30 ?_
  unfold n30
  with_reducible (refine mv_i ?_; refine mv_i ?_; refine mv_i ?_)
  refine loop2 xss.length (fun k v h2 => ∃ rs, Own 1 h h2 v k rs ∧ RowsK (kill v h2) rs k xss) ⟨[], Own.nil 1 (List.prefix_refl _), fun j hj => by omega⟩ ?_
  rintro k v h2 _ hk ⟨rs, o, hr⟩
  have s2 := s.mono (Sub.of_pre o.pre)
  with_reducible (refine mv_i ?_; refine mv_i ?_)
  with_reducible (refine lenr_i t22 (by assumption) ?_)
  refine lss_i (fun hlt => ?_) (fun hge => ?_)
  · with_reducible (refine cnd_t ?_; refine mv_i ?_; refine mv_i ?_; refine mv_i ?_)
    refine idxr_i t22 s2 (by omega) ?_
    refine ldr_i t22 r23 s2 (by omega) fun r hrow => ?_
    have hrl : (xss.getD k []).length ≤ 2 ^ 40 := hf.2 _ (gd_mem [] (by omega))
    refine call_r (c17 hrow hrl) ?_
    obtain ⟨o3, sk3⟩ := o.ext (ownH_pre h2 (xss.getD k []))
    obtain ⟨p, l, c, ev⟩ := ownV_slice h2 (xss.getD k [])
    rw [ev]
    refine ok_i (bs22_1 p l c _) ?_
    obtain ⟨o4, sk4⟩ := o3.ext (pre_new (ownH h2 (xss.getD k [])) [.slice p l c] 1)
    refine app_i t22 o4 (Seg.new (n := 1) 2 (by simp) (by omega)) (by simp [Value.oneCell']) (by omega) ⟨by have := hf.1; omega, by have := hf.1; omega⟩ fun v' h' o5 sk5 => ?_
    with_reducible (refine mv_i ?_; refine mv_i ?_)
    refine inc_i (by omega) ?_
    with_reducible (refine mv_i ?_)
    refine next2 (by omega) ⟨_, o5, fun j hj => ?_⟩
    have hlen : rs.length = k := by have := o.1.1; omega
    by_cases q : j = k
    · subst q
      have e : (rs ++ [Value.slice p l c]).getD j undef = .slice p l c := by rw [getD_append_right (by omega), hlen, Nat.sub_self]; rfl
      rw [e]
      refine ⟨rfl, ?_⟩
      have := o.kill (own_only h2 (xs := xss.getD j []) (by omega))
      rw [ev] at this
      exact (this.mono sk4).mono sk5
    · rw [getD_append_left (by omega)]
      obtain ⟨q1, q2⟩ := hr j (by omega)
      exact ⟨q1, ((q2.mono sk3).mono sk4).mono sk5⟩
  · with_reducible (refine cnd_f ?_; refine mv_i ?_; refine mv_i ?_; refine ret1 ?_)
    refine ⟨o.pre, ⟨rs, ?_, ?_, ?_⟩, ?_⟩
    rotate_left 3
    · rcases o.2.2 with ⟨rfl, _⟩ | ⟨i, rfl, _⟩ <;> exact ⟨_, _, rfl⟩
    · have := o.1.1; omega
    · have e : k = xss.length := by omega
      subst e; exact o.seg
    · intro j hj
      exact ((hr j (by omega)).2).mono (kill_sub _ _)

def Tests (xs : List Int) : Prop := ∀ x ∈ xs, 0 ≤ x ∧ x ≤ 11

theorem Tests.lt {xs : List Int} (t : Tests xs) : bitsOf xs < 2 ^ 64 := bitsOf_lt fun x hx => by have := t x hx; omega

theorem Tests.take {xs : List Int} (t : Tests xs) (k : Nat) : Tests (xs.take k) := fun x hx => t x (List.mem_of_mem_take hx)

theorem words_one (ws : List Nat) : (ws.map fun n : Nat => Value.int .u64 (n : Int)).all (·.oneCell') = true := by simp [Value.oneCell']

def hits (row ts : List Int) : Bool := row.any fun x => decide (x ∈ ts)

def isChoice (xss : List (List Int)) (ts : List Int) : Bool := xss.all fun r => hits r ts

theorem c45 (b : Bool) : Runs Try.prog 45 [.bool b] h (.int .i64 (if b then 1 else 0)) h := by
  refine DetP.runs (w45 ?_)
  unfold n45
  cases b <;> (with_reducible repeat first|refine mv_i ?_|refine cnd_t ?_|refine cnd_f ?_|refine gd_tt ?_|refine gd_ff ?_|refine gd_tf ?_|refine gd_ft ?_|refine gd_u ?_|refine pick_t ?_|refine pick_f ?_|refine not_t ?_|refine not_f ?_|refine nil_i ?_|refine ret1 ?_|refine ret2 ?_|refine ret0 ?_|refine ret3 ?_|refine ex2_0 ?_|refine ex2_1 ?_|refine ex3_0 ?_|refine ex3_1 ?_|refine ex3_2 ?_) <;> exact ⟨rfl, rfl⟩

theorem c23 {a b : Value} {xs ys : List Int} (s : IntS h a xs) (s2 : IntS h b ys) : Runs Try.prog 23 [a, b] h (.bool (decide (xs = ys))) h := by
  have lt := s.lt
  have lt2 := s2.lt
  refine DetP.runs (w23 ?_)
  unfold n23
  with_reducible (refine mv_i ?_; refine mv_i ?_)
  refine leni_i t23 s ?_
  with_reducible (refine mv_i ?_)
  refine leni_i t23 s2 ?_
  refine neq_i (fun hl => ?_) (fun hl => ?_)
  · with_reducible (refine cnd_f ?_; refine mv_i ?_)
    refine loop1 xs.length (fun k h2 => h2 = h ∧ ∀ j, j < k → xs.getD j 0 = ys.getD j 0) ⟨rfl, fun j hj => by omega⟩ ?_
    rintro k _ _ hk ⟨rfl, hJ⟩
    with_reducible (refine mv_i ?_; refine mv_i ?_)
    refine leni_i t23 s ?_
    refine lss_i (fun hlt => ?_) (fun hge => ?_)
    · with_reducible (refine cnd_t ?_; refine mv_i ?_; refine mv_i ?_)
      refine idxi_i t23 s (by omega) ?_
      refine ldi_i t23 r3 s (by omega) ?_
      refine ⟨trivial, ?_⟩
      with_reducible (refine mv_i ?_; refine mv_i ?_)
      refine idxi_i (k := k) t23 s2 (by omega) ?_
      refine ldi_i (k := k) t23 r3 s2 (by omega) ?_
      refine ⟨trivial, ?_⟩
      refine neq_i (fun he => ?_) (fun he => ?_)
      · with_reducible (refine cnd_f ?_; refine mv_i ?_)
        refine inc_i (by omega) ?_
        with_reducible (refine mv_i ?_)
        refine next1 (by omega) ⟨rfl, fun j hj => ?_⟩
        by_cases q : j = k
        · subst q; exact he
        · exact hJ j (by omega)
      · with_reducible (refine cnd_t ?_; refine mv_i ?_; refine ret1 ?_)
        refine ⟨?_, rfl⟩
        have : ¬ xs = ys := fun e => he (by rw [e])
        simp [this]
    · with_reducible (refine cnd_f ?_; refine mv_i ?_; refine ret1 ?_)
      refine ⟨?_, rfl⟩
      have : xs = ys := by
        refine List.ext_getElem (by omega) fun j h1 h2 => ?_
        have := hJ j (by omega)
        rw [gd_at 0 h1, gd_at 0 h2] at this
        exact this
      simp [this]
  · with_reducible (refine cnd_t ?_; refine mv_i ?_; refine ret1 ?_)
    refine ⟨?_, rfl⟩
    have : ¬ xs = ys := fun e => hl (by rw [e])
    simp [this]

theorem t34 : sliceT Try.prog 22 76 4 32 = true := by kernel_rfl

theorem r34 : isPlain Try.prog 22 = true := by kernel_rfl

theorem st63 : rowT4 Try.prog 76 3 = true := by kernel_rfl

def dst : St := ⟨0, 0, 0, 0⟩

theorem fa36_0 (i : Nat) : aFieldAddr Try.prog 24 (.pointer (some ⟨i, 0, none⟩)) 0 = some (.pointer (some ⟨i, 0, none⟩)) := by kernel_rfl

theorem fa36_1 (i : Nat) : aFieldAddr Try.prog 24 (.pointer (some ⟨i, 0, none⟩)) 1 = some (.pointer (some ⟨i, 1, none⟩)) := by kernel_rfl

theorem fa36_2 (i : Nat) : aFieldAddr Try.prog 24 (.pointer (some ⟨i, 0, none⟩)) 2 = some (.pointer (some ⟨i, 2, none⟩)) := by kernel_rfl

theorem fa36_3 (i : Nat) : aFieldAddr Try.prog 24 (.pointer (some ⟨i, 0, none⟩)) 3 = some (.pointer (some ⟨i, 3, none⟩)) := by kernel_rfl

theorem fa36_4 (i : Nat) : aFieldAddr Try.prog 24 (.pointer (some ⟨i, 0, none⟩)) 4 = some (.pointer (some ⟨i, 4, none⟩)) := by kernel_rfl

theorem fa63_0 (i : Nat) : aFieldAddr Try.prog 76 (.pointer (some ⟨i, 0, none⟩)) 0 = some (.pointer (some ⟨i, 0, none⟩)) := by kernel_rfl

theorem fa63_1 (i : Nat) : aFieldAddr Try.prog 76 (.pointer (some ⟨i, 0, none⟩)) 1 = some (.pointer (some ⟨i, 1, none⟩)) := by kernel_rfl

theorem fa63_2 (i : Nat) : aFieldAddr Try.prog 76 (.pointer (some ⟨i, 0, none⟩)) 2 = some (.pointer (some ⟨i, 2, none⟩)) := by kernel_rfl

theorem fa63_3 (i : Nat) : aFieldAddr Try.prog 76 (.pointer (some ⟨i, 0, none⟩)) 3 = some (.pointer (some ⟨i, 3, none⟩)) := by kernel_rfl

theorem vbi (n : Nat) (z : Int) : VB n (.int .i64 z) := trivial

theorem box36 (a b c d e : Value) (h : Heap) : aBox Try.prog 24 (.agg #[a, b, c, d, e]) h = (.pointer (some ⟨h.length, 0, none⟩), newArr h [a, b, c, d, e] 5) := by kernel_rfl

theorem box3 (a : Int) (h : Heap) : aBox Try.prog 3 (.int .i64 a) h = (.pointer (some ⟨h.length, 0, none⟩), newArr h [.int .i64 a] 1) := by kernel_rfl

theorem al63 (h : Heap) : aAlloc Try.prog 76 h = some (.pointer (some ⟨h.length, 0, none⟩), newArr h [.int .i64 0, .int .i64 0, .int .i64 0, .int .i64 0] 4) := by kernel_rfl

theorem row36 : (match Try.prog.underlying 24 with | some d => d.isRow | none => false) = true := by kernel_rfl

theorem sz36 : szOf Try.prog 24 = some 5 := by kernel_rfl

theorem sz63 : szOf Try.prog 76 = some 4 := by kernel_rfl

theorem ld36 {i : Nat} {a b c d e : Value} (hi : h[i]? = some (.arr ⟨[a, b, c, d, e], 5, false⟩)) : aLoad Try.prog 24 (.pointer (some ⟨i, 0, none⟩)) h = some (.agg #[a, b, c, d, e]) := by
  have hr := row36
  split at hr
  · rename_i dd hd
    simp only [aLoad, hi, hd, sz36]
    rw [if_pos hr, if_pos (by simp)]
    rfl
  · cases hr

theorem sto63 (g : Heap) (s : St) : aStore Try.prog 76 (.pointer (some ⟨g.length, 0, none⟩)) (.agg s.cells.toArray) (newArr g [.int .i64 0, .int .i64 0, .int .i64 0, .int .i64 0] 4) = some (newArr g s.cells 4) := by
  simp only [aStore, newArr_get, sz63]
  rw [if_pos (by simp [Value.cells, St.cells, Value.oneCell'])]
  congr 1
  simp only [newArr]
  rw [List.set_append_right _ _ (Nat.le_refl _), Nat.sub_self]
  rfl

theorem c107 (n a b : Int) : Runs Try.prog 107 [.int .i64 n, .int .i64 a, .int .i64 b] h (.bool (inR n a b)) h := by
  refine DetP.runs (w107 ?_)
  unfold n107
  with_reducible (refine mv_i ?_; refine mv_i ?_; refine mv_i ?_)
  refine leq_i (fun h1 => ?_) (fun h1 => ?_)
  · with_reducible (refine mv_i ?_; refine gd_tt ?_; refine mv_i ?_; refine gd_tt ?_; refine mv_i ?_; refine gd_tt ?_)
    refine leq_i (fun h2 => ?_) (fun h2 => ?_) <;> (with_reducible repeat first|refine mv_i ?_|refine cnd_t ?_|refine cnd_f ?_|refine gd_tt ?_|refine gd_ff ?_|refine gd_tf ?_|refine gd_ft ?_|refine gd_u ?_|refine pick_t ?_|refine pick_f ?_|refine not_t ?_|refine not_f ?_|refine nil_i ?_|refine ret1 ?_|refine ret2 ?_|refine ret0 ?_|refine ret3 ?_|refine ex2_0 ?_|refine ex2_1 ?_|refine ex3_0 ?_|refine ex3_1 ?_|refine ex3_2 ?_) <;> exact ⟨by simp [inR, h1, h2], rfl⟩
  · with_reducible (refine mv_i ?_; refine gd_ft ?_; refine gd_ft ?_; refine gd_ft ?_; refine pick_f ?_; refine mv_i ?_; refine ret1 ?_) 
    exact ⟨by simp [inR, h1], rfl⟩

theorem c108 (n : Int) : Runs Try.prog 108 [.int .i64 n] h (.bool false) h := by
  refine DetP.runs (w108 ?_)
  unfold n108
  with_reducible (refine mv_i ?_; refine mv_i ?_; refine mv_i ?_)
  refine neq_i (fun _ => ?_) (fun hne => absurd rfl hne)
  with_reducible (refine mv_i ?_; refine ret1 ?_)
  exact ⟨rfl, rfl⟩

def cmpI (a b : Int) : Int := if a < b then -1 else if b < a then 1 else 0

theorem c94 (a b : Int) : Runs Try.prog 94 [.int .i64 a, .int .i64 b] h (.int .i64 (cmpI a b)) h := by
  refine DetP.runs (w94 ?_)
  unfold n94
  with_reducible (refine mv_i ?_; refine mv_i ?_)
  refine call_r (c108 a) ?_
  with_reducible (refine mv_i ?_; refine mv_i ?_)
  refine call_r (c108 b) ?_
  with_reducible (refine mv_i ?_; refine mv_i ?_; refine cnd_f ?_; refine mv_i ?_; refine cnd_f ?_; refine mv_i ?_; refine mv_i ?_)
  refine lss_i (fun h1 => ?_) (fun h1 => ?_)
  · with_reducible (refine cnd_t ?_; refine mv_i ?_; refine ret1 ?_)
    exact ⟨by unfold cmpI; rw [if_pos h1], rfl⟩
  · with_reducible (refine cnd_f ?_; refine mv_i ?_; refine mv_i ?_)
    refine gtr_i (fun h2 => ?_) (fun h2 => ?_)
    · with_reducible (refine cnd_t ?_; refine mv_i ?_; refine ret1 ?_)
      exact ⟨by unfold cmpI; rw [if_neg h1, if_pos h2], rfl⟩
    · with_reducible (refine cnd_f ?_; refine mv_i ?_; refine ret1 ?_)
      exact ⟨by unfold cmpI; rw [if_neg h1, if_neg h2], rfl⟩

theorem c93 {a : Value} {xs : List Int} (s : IntS h a xs) : Runs Try.prog 93 [a] h (.int .i64 (orOf xs)) h := by
  have lt := s.lt
  refine DetP.runs (w93 ?_)
  unfold n93
  with_reducible (refine mv_i ?_; refine mv_i ?_; refine mv_i ?_)
  with_reducible (refine leni_i t23 (by assumption) ?_)
  with_reducible (refine mv_i ?_)
  refine loop1 xs.length (fun k h2 => h2 = h ∧ ∀ j, j < k → nz (xs.getD j 0) = none) ⟨rfl, fun j hj => by omega⟩ ?_
  rintro k _ _ hk ⟨rfl, hJ⟩
  skip
  refine lss_i (fun hlt => ?_) (fun hge => ?_)
  · with_reducible (refine cnd_t ?_)
    with_reducible (refine idxi_i t23 (by assumption) (by omega) ?_)
    with_reducible (refine ldi_i t23 r3 (by assumption) (by omega) ?_)
    with_reducible (refine mv_i ?_; refine mv_i ?_; refine mv_i ?_)
    refine neq_i (fun he => ?_) (fun he => ?_)
    · with_reducible (refine cnd_f ?_)
      refine inc_i (by omega) ?_
      with_reducible (refine mv_i ?_)
      refine next1 (by omega) ⟨rfl, fun j hj => ?_⟩
      by_cases q : j = k
      · subst q; unfold nz; rw [if_pos he]
      · exact hJ j (by omega)
    · with_reducible (refine cnd_t ?_; refine mv_i ?_; refine mv_i ?_; refine ret1 ?_)
      refine ⟨?_, rfl⟩
      unfold orOf
      rw [firstOf_some (f := fun i => nz (xs.getD i 0)) hJ (by omega) (by unfold nz; exact if_neg he)]
      rfl
  · with_reducible (refine cnd_f ?_; refine mv_i ?_; refine mv_i ?_; refine ret1 ?_)
    refine ⟨?_, rfl⟩
    unfold orOf
    rw [firstOf_none (f := fun i => nz (xs.getD i 0)) (fun j hj => hJ j (by omega))]
    rfl

theorem bs23_2 (a b : Int) (h : Heap) : aBuildSlice Try.prog 25 2 [(0, .int .i64 a), (1, .int .i64 b)] h = some (.slice (some ⟨h.length, 0, none⟩) 2 3, newArr h [.int .i64 a, .int .i64 b] 1) := by kernel_rfl

def okSt (m : Mac) (s : St) : Bool := inR s.fr 0 (m.states - 1) && inR s.to 0 (m.states - 1) && inR s.inp 0 (m.inputs - 1) && inR s.out 0 (m.outputs - 1)

def ltKey (a b : St) : Bool := decide (a.fr < b.fr ∨ a.fr = b.fr ∧ a.inp < b.inp)

def mAt (m : Mac) (i : Nat) : Option (Int × Int) :=
  if okSt m (m.steps.getD i dst) = false then some ((i : Int), 3) else if 0 < i ∧ ltKey (m.steps.getD (i - 1) dst) (m.steps.getD i dst) = false then some ((i : Int), 14) else none

def mHead (m : Mac) : Bool := inR m.states 1 40 && inR m.inputs 1 8 && inR m.outputs 1 8 && inR m.start 0 (m.states - 1)

def mErr (m : Mac) : Int × Int := if mHead m = false then (0, 3) else if m.states * m.inputs < m.steps.length then (0, 2) else (firstOf (mAt m) m.steps.length).getD (0, 0)

theorem mErr_none {m : Mac} (h1 : mHead m = true) (h2 : ¬ m.states * m.inputs < m.steps.length) (hf : ∀ j, j < m.steps.length → mAt m j = none) : mErr m = (0, 0) := by
  unfold mErr; rw [if_neg (by rw [h1]; simp), if_neg h2, firstOf_none hf]; rfl

theorem mErr_some {m : Mac} {k : Nat} {e : Int × Int} (h1 : mHead m = true) (h2 : ¬ m.states * m.inputs < m.steps.length) (hf : ∀ j, j < k → mAt m j = none) (hk : k < m.steps.length) (he : mAt m k = some e) : mErr m = e := by
  unfold mErr; rw [if_neg (by rw [h1]; simp), if_neg h2, firstOf_some hf hk he]; rfl

theorem cmp_key (a b : St) : (0 ≤ orOf [cmpI a.fr b.fr, cmpI a.inp b.inp]) ↔ ltKey a b = false := by
  rw [or2]
  unfold ltKey cmpI
  rw [decide_eq_false_iff_not]
  by_cases h1 : a.fr < b.fr
  · rw [if_pos h1]; simp [h1]
  · rw [if_neg h1]
    by_cases h2 : b.fr < a.fr
    · rw [if_pos h2]; simp; omega
    · rw [if_neg h2]
      simp only [if_true]
      by_cases h3 : a.inp < b.inp
      · rw [if_pos h3]; simp; omega
      · rw [if_neg h3]
        by_cases h4 : b.inp < a.inp
        · rw [if_pos h4]; simp; omega
        · rw [if_neg h4]; simp; omega

theorem mul_b {a b : Int} (ha : inR a 1 40 = true) (hb : inR b 1 8 = true) : 1 ≤ a * b ∧ a * b ≤ 320 := by
  simp [inR] at ha hb
  constructor
  · have := Int.mul_le_mul ha.1 hb.1 (by omega) (by omega); simpa using this
  · have := Int.mul_le_mul ha.2 hb.2 (by omega) (by omega); simpa using this

theorem mul_i {t : TypeId} {a b : Int} {K : Value → Heap → Prop} (hx : R64 (a * b)) (hk : K (.int .i64 (a * b)) h) : vK (aBin Try.prog .mul t (.int .i64 a) (.int .i64 b)) h K :=
  vk_i (v := .int .i64 (a * b)) (by simp [aBin, aInt, wrap_i64 hx]) hk

theorem c87 {a : Value} {m : Mac} (s : MacV h a m) : Runs Try.prog 87 [a] h (pairV (mErr m)) h := by
  refine DetP.forget rfl ?_
  refine w87 ?_
  unfold n87
  obtain ⟨o, l, c, rfl, ss⟩ := s
  have lt := ss.lt
  rw [box36]
  refine ok_i rfl ?_
  have p1 := pre_new h [.int .i64 m.states, .int .i64 m.inputs, .int .i64 m.outputs, .int .i64 m.start, .slice o l c] 5
  have hb1 := newArr_get h [.int .i64 m.states, .int .i64 m.inputs, .int .i64 m.outputs, .int .i64 m.start, .slice o l c] 5
  have hbad : mHead m = false → pairV (mErr m) = .tuple #[.int .i64 0, .int .i64 3] := fun e => by unfold mErr; rw [if_pos e]; rfl
  generalize hg1 : newArr h [.int .i64 m.states, .int .i64 m.inputs, .int .i64 m.outputs, .int .i64 m.start, .slice o l c] 5 = g1 at p1 hb1 ⊢
  with_reducible (refine mv_i ?_; refine mv_i ?_; refine vk_i (fa36_0 _) ?_; refine ld5_0 r3 (by assumption) ?_)
  refine call_r (c107 _ _ _) ?_
  cases e1 : inR m.states 1 40 with
  | false => 
    with_reducible (refine not_f ?_; refine mv_i ?_; refine gd_tf ?_; refine gd_tf ?_; refine gd_tf ?_; refine gd_tf ?_; refine pick_t ?_; refine mv_i ?_; refine gd_tf ?_; refine gd_tf ?_; refine gd_tf ?_; refine gd_tf ?_; refine pick_t ?_; refine mv_i ?_; refine gd_tf ?_; refine gd_tf ?_; refine gd_tf ?_; refine gd_tf ?_; refine gd_tf ?_; refine gd_tf ?_; refine gd_tf ?_; refine pick_t ?_; refine cnd_t ?_; refine mv_i ?_; refine mv_i ?_; refine ret2 ?_)
    exact ⟨(hbad (by simp [mHead, e1])).symm, p1⟩
  | true =>
    have f1 : 1 ≤ m.states ∧ m.states ≤ 40 := by simpa [inR] using e1
    with_reducible (refine not_t ?_; refine mv_i ?_; refine gd_ff ?_; refine vk_i (fa36_1 _) ?_; refine gd_ff ?_; refine ld5_1 r3 (by assumption) ?_; refine gd_ff ?_)
    refine call_r (c107 _ _ _) ?_
    cases e2 : inR m.inputs 1 8 with
    | false => 
      with_reducible (refine gd_ff ?_; refine not_f ?_; refine pick_f ?_; refine mv_i ?_; refine gd_tf ?_; refine gd_tf ?_; refine gd_tf ?_; refine gd_tf ?_; refine pick_t ?_; refine mv_i ?_; refine gd_tf ?_; refine gd_tf ?_; refine gd_tf ?_; refine gd_tf ?_; refine gd_tf ?_; refine gd_tf ?_; refine gd_tf ?_; refine pick_t ?_; refine cnd_t ?_; refine mv_i ?_; refine mv_i ?_; refine ret2 ?_)
      exact ⟨(hbad (by simp [mHead, e1, e2])).symm, p1⟩
    | true =>
      have f2 : 1 ≤ m.inputs ∧ m.inputs ≤ 8 := by simpa [inR] using e2
      with_reducible (refine gd_ff ?_; refine not_t ?_; refine pick_f ?_; refine mv_i ?_; refine gd_ff ?_; refine vk_i (fa36_2 _) ?_; refine gd_ff ?_; refine ld5_2 r3 (by assumption) ?_; refine gd_ff ?_)
      refine call_r (c107 _ _ _) ?_
      cases e3 : inR m.outputs 1 8 with
      | false => 
        with_reducible (refine gd_ff ?_; refine not_f ?_; refine pick_f ?_; refine mv_i ?_; refine gd_tf ?_; refine gd_tf ?_; refine gd_tf ?_; refine gd_tf ?_; refine gd_tf ?_; refine gd_tf ?_; refine gd_tf ?_; refine pick_t ?_; refine cnd_t ?_; refine mv_i ?_; refine mv_i ?_; refine ret2 ?_)
        exact ⟨(hbad (by simp [mHead, e1, e2, e3])).symm, p1⟩
      | true =>
        have f3 : 1 ≤ m.outputs ∧ m.outputs ≤ 8 := by simpa [inR] using e3
        with_reducible (refine gd_ff ?_; refine not_t ?_; refine pick_f ?_; refine mv_i ?_; refine gd_ff ?_; refine vk_i (fa36_3 _) ?_; refine gd_ff ?_; refine ld5_3 r3 (by assumption) ?_; refine gd_ff ?_; refine vk_i (fa36_0 _) ?_; refine gd_ff ?_; refine ld5_0 r3 (by assumption) ?_; refine gd_ff ?_)
        refine sub_i ⟨by omega, by omega⟩ ?_
        with_reducible (refine gd_ff ?_)
        refine call_r (c107 _ _ _) ?_
        cases e4 : inR m.start 0 (m.states - 1) with
        | false => 
          with_reducible (refine gd_ff ?_; refine not_f ?_; refine pick_f ?_; refine cnd_t ?_; refine mv_i ?_; refine mv_i ?_; refine ret2 ?_)
          exact ⟨(hbad (by simp [mHead, e1, e2, e3, e4])).symm, p1⟩
        | true =>
          have hhead : mHead m = true := by simp [mHead, e1, e2, e3, e4]
          have hmb := mul_b e1 e2
          have ss1 := ss.mono (Sub.of_pre p1)
          with_reducible (refine gd_ff ?_; refine not_t ?_; refine pick_f ?_; refine cnd_f ?_; refine vk_i (fa36_4 _) ?_; refine ld5_4 r34 (by assumption) ?_)
          refine len_i t34 ss1 ?_
          with_reducible (refine vk_i (fa36_0 _) ?_; refine ld5_0 r3 (by assumption) ?_; refine vk_i (fa36_1 _) ?_; refine ld5_1 r3 (by assumption) ?_)
          refine mul_i ⟨by omega, by omega⟩ ?_
          refine gtr_i (fun hgt => ?_) (fun hgt => ?_)
          · with_reducible (refine cnd_t ?_; refine mv_i ?_; refine mv_i ?_; refine ret2 ?_)
            exact ⟨by unfold mErr; rw [if_neg (by rw [hhead]; simp), if_pos hgt]; rfl, p1⟩
          · with_reducible (refine cnd_f ?_; refine vk_i (fa36_4 _) ?_; refine ld5_4 r34 (by assumption) ?_)
            refine len_i t34 ss1 ?_
            with_reducible (refine mv_i ?_)
            refine loop1 m.steps.length (fun k h2 => g1 <+: h2 ∧ ∀ j, j < k → mAt m j = none) ⟨List.prefix_refl _, fun j hj => by omega⟩ ?_
            rintro k h2 _ hk ⟨p2, hJ⟩
            have ss2 := ss1.mono (Sub.of_pre p2)
            skip
            refine lss_i (fun hlt => ?_) (fun hge => ?_)
            · have hk2 : k < m.steps.length := by omega
              with_reducible (refine cnd_t ?_; refine mv_i ?_)
              refine idx_i (k := k) t34 ss2 hk2 ?_
              refine ldst_i st63 ss2 hk2 dst ?_
              refine ok_i (al63 _) ?_
              with_reducible (refine mv_i ?_)
              refine ok_i (v := undef) (h' := newArr h2 (m.steps.getD k dst).cells 4) (by rw [sto63]; rfl) ?_
              have p3 := pre_new h2 (m.steps.getD k dst).cells 4
              have hb3 := (Sub.of_pre p3).2 _ _ ((Sub.of_pre p2).2 _ _ hb1)
              have ss3 := ss2.mono (Sub.of_pre p3)
              have p03 := (p1.trans p2).trans p3
              have nextJ : mAt m k = none → ∀ j, j < k + 1 → mAt m j = none := fun e j hj => by
                by_cases q : j = k
                · subst q; exact e
                · exact hJ j (by omega)
              have hs3 : (newArr h2 (m.steps.getD k dst).cells 4)[h2.length]? = some (.arr ⟨[.int .i64 (m.steps.getD k dst).fr, .int .i64 (m.steps.getD k dst).inp, .int .i64 (m.steps.getD k dst).out, .int .i64 (m.steps.getD k dst).to], 4, false⟩) := newArr_get _ _ _
              generalize newArr h2 (m.steps.getD k dst).cells 4 = h3 at p3 hs3 hb3 ss3 p03 ⊢
              generalize hsk : m.steps.getD k dst = sk at hs3 ⊢
              have hret : okSt m sk = false → pairV (mErr m) = .tuple #[.int .i64 (k : Int), .int .i64 3] := fun e => by
                rw [mErr_some hhead hgt hJ hk2 (e := ((k : Int), 3)) (by unfold mAt; rw [hsk, if_pos e])]; rfl
              with_reducible (refine vk_i (fa63_0 _) ?_; refine ld4_0 r3 (by assumption) ?_; refine vk_i (fa36_0 _) ?_; refine ld5_0 r3 (by assumption) ?_)
              refine sub_i ⟨by omega, by omega⟩ ?_
              refine call_r (c107 _ _ _) ?_
              cases q1 : inR sk.fr 0 (m.states - 1) with
              | false => 
                with_reducible (refine not_f ?_; refine mv_i ?_; refine gd_tf ?_; refine gd_tf ?_; refine gd_tf ?_; refine gd_tf ?_; refine gd_tf ?_; refine gd_tf ?_; refine gd_tf ?_; refine pick_t ?_; refine mv_i ?_; refine gd_tf ?_; refine gd_tf ?_; refine gd_tf ?_; refine gd_tf ?_; refine gd_tf ?_; refine gd_tf ?_; refine gd_tf ?_; refine pick_t ?_; refine mv_i ?_; refine gd_tf ?_; refine gd_tf ?_; refine gd_tf ?_; refine gd_tf ?_; refine gd_tf ?_; refine gd_tf ?_; refine gd_tf ?_; refine pick_t ?_; refine cnd_t ?_; refine mv_i ?_; refine mv_i ?_; refine mv_i ?_; refine ret2 ?_)
                exact ⟨(hret (by simp [okSt, q1])).symm, p03⟩
              | true =>
                with_reducible (refine not_t ?_; refine mv_i ?_; refine gd_ff ?_; refine vk_i (fa63_3 _) ?_; refine gd_ff ?_; refine ld4_3 r3 (by assumption) ?_; refine gd_ff ?_; refine vk_i (fa36_0 _) ?_; refine gd_ff ?_; refine ld5_0 r3 (by assumption) ?_; refine gd_ff ?_)
                refine sub_i ⟨by omega, by omega⟩ ?_
                with_reducible (refine gd_ff ?_)
                refine call_r (c107 _ _ _) ?_
                cases q2 : inR sk.to 0 (m.states - 1) with
                | false => 
                  with_reducible (refine gd_ff ?_; refine not_f ?_; refine pick_f ?_; refine mv_i ?_; refine gd_tf ?_; refine gd_tf ?_; refine gd_tf ?_; refine gd_tf ?_; refine gd_tf ?_; refine gd_tf ?_; refine gd_tf ?_; refine pick_t ?_; refine mv_i ?_; refine gd_tf ?_; refine gd_tf ?_; refine gd_tf ?_; refine gd_tf ?_; refine gd_tf ?_; refine gd_tf ?_; refine gd_tf ?_; refine pick_t ?_; refine cnd_t ?_; refine mv_i ?_; refine mv_i ?_; refine mv_i ?_; refine ret2 ?_)
                  exact ⟨(hret (by simp [okSt, q1, q2])).symm, p03⟩
                | true =>
                  with_reducible (refine gd_ff ?_; refine not_t ?_; refine pick_f ?_; refine mv_i ?_; refine gd_ff ?_; refine vk_i (fa63_1 _) ?_; refine gd_ff ?_; refine ld4_1 r3 (by assumption) ?_; refine gd_ff ?_; refine vk_i (fa36_1 _) ?_; refine gd_ff ?_; refine ld5_1 r3 (by assumption) ?_; refine gd_ff ?_)
                  refine sub_i ⟨by omega, by omega⟩ ?_
                  with_reducible (refine gd_ff ?_)
                  refine call_r (c107 _ _ _) ?_
                  cases q3 : inR sk.inp 0 (m.inputs - 1) with
                  | false => 
                    with_reducible (refine gd_ff ?_; refine not_f ?_; refine pick_f ?_; refine mv_i ?_; refine gd_tf ?_; refine gd_tf ?_; refine gd_tf ?_; refine gd_tf ?_; refine gd_tf ?_; refine gd_tf ?_; refine gd_tf ?_; refine pick_t ?_; refine cnd_t ?_; refine mv_i ?_; refine mv_i ?_; refine mv_i ?_; refine ret2 ?_)
                    exact ⟨(hret (by simp [okSt, q1, q2, q3])).symm, p03⟩
                  | true =>
                    with_reducible (refine gd_ff ?_; refine not_t ?_; refine pick_f ?_; refine mv_i ?_; refine gd_ff ?_; refine vk_i (fa63_2 _) ?_; refine gd_ff ?_; refine ld4_2 r3 (by assumption) ?_; refine gd_ff ?_; refine vk_i (fa36_2 _) ?_; refine gd_ff ?_; refine ld5_2 r3 (by assumption) ?_; refine gd_ff ?_)
                    refine sub_i ⟨by omega, by omega⟩ ?_
                    with_reducible (refine gd_ff ?_)
                    refine call_r (c107 _ _ _) ?_
                    cases q4 : inR sk.out 0 (m.outputs - 1) with
                    | false => 
                      with_reducible (refine gd_ff ?_; refine not_f ?_; refine pick_f ?_; refine cnd_t ?_; refine mv_i ?_; refine mv_i ?_; refine mv_i ?_; refine ret2 ?_)
                      exact ⟨(hret (by simp [okSt, q1, q2, q3, q4])).symm, p03⟩
                    | true =>
                      have hok : okSt m sk = true := by simp [okSt, q1, q2, q3, q4]
                      with_reducible (refine gd_ff ?_; refine not_t ?_; refine pick_f ?_; refine cnd_f ?_; refine mv_i ?_)
                      refine gtr_i (fun h0 => ?_) (fun h0 => ?_)
                      · have hpk : k - 1 < m.steps.length := by omega
                        with_reducible (refine mv_i ?_; refine gd_tt ?_; refine vk_i (fa36_4 _) ?_; refine gd_tt ?_; refine ld5_4 r34 (by assumption) ?_)
                        refine ⟨seg_vb ss3, ?_⟩
                        with_reducible (refine gd_tt ?_; refine mv_i ?_; refine gd_tt ?_)
                        refine sub_i ⟨by omega, by omega⟩ ?_
                        rw [show (k : Int) - 1 = ((k - 1 : Nat) : Int) by omega]
                        with_reducible (refine gd_tt ?_)
                        refine idx_i (k := k - 1) t34 ss3 hpk ?_
                        with_reducible (refine gd_tt ?_; refine fae_i st63 (by assumption) (by omega) (by omega) ?_; refine gd_tt ?_; refine ldf_i st63 (by assumption) (by omega) (by omega) dst ?_; refine ⟨vbi _ _, ?_⟩; refine gd_tt ?_; refine vk_i (fa63_0 _) ?_; refine gd_tt ?_; refine ld4_0 r3 (by assumption) ?_; refine ⟨vbi _ _, ?_⟩; refine gd_tt ?_)
                        refine calld_r (c94 _ _) ⟨⟨[], by simp⟩, ?_⟩
                        with_reducible (refine gd_tt ?_; refine vk_i (fa36_4 _) ?_; refine gd_tt ?_; refine ld5_4 r34 (by assumption) ?_)
                        refine ⟨seg_vb ss3, ?_⟩
                        with_reducible (refine gd_tt ?_; refine mv_i ?_; refine gd_tt ?_)
                        refine sub_i ⟨by omega, by omega⟩ ?_
                        rw [show (k : Int) - 1 = ((k - 1 : Nat) : Int) by omega]
                        with_reducible (refine gd_tt ?_)
                        refine idx_i (k := k - 1) t34 ss3 hpk ?_
                        with_reducible (refine gd_tt ?_; refine fae_i st63 (by assumption) (by omega) (by omega) ?_; refine gd_tt ?_; refine ldf_i st63 (by assumption) (by omega) (by omega) dst ?_; refine ⟨vbi _ _, ?_⟩; refine gd_tt ?_; refine vk_i (fa63_1 _) ?_; refine gd_tt ?_; refine ld4_1 r3 (by assumption) ?_; refine ⟨vbi _ _, ?_⟩; refine gd_tt ?_)
                        refine calld_r (c94 _ _) ⟨⟨[], by simp⟩, ?_⟩
                        with_reducible (refine gd_tt ?_)
                        refine ok_i (bs23_2 _ _ _) ?_
                        with_reducible (refine gd_tt ?_)
                        have p4 := p03.trans (pre_new h3 [.int .i64 (cmpI (St.get (m.steps.getD (k - 1) dst) 0) sk.fr), .int .i64 (cmpI (St.get (m.steps.getD (k - 1) dst) 1) sk.inp)] 1)
                        refine calld_r (c93 (xs := [_, _]) (Seg.new 3 (by rfl) (by simp))) ⟨⟨[], by simp⟩, ?_⟩
                        with_reducible (refine gd_tt ?_)
                        have hck := cmp_key (m.steps.getD (k - 1) dst) sk
                        refine geq_i (fun hc => ?_) (fun hc => ?_)
                        · with_reducible (refine pick_t ?_; refine cnd_t ?_; refine mv_i ?_; refine mv_i ?_; refine mv_i ?_; refine ret2 ?_)
                          refine ⟨?_, p4⟩
                          rw [mErr_some hhead hgt hJ hk2 (e := ((k : Int), 14)) (by unfold mAt; rw [hsk, if_neg (by rw [hok]; simp), if_pos ⟨by omega, hck.mp hc⟩])]; rfl
                        · with_reducible (refine pick_t ?_; refine cnd_f ?_)
                          refine inc_i (by omega) ?_
                          with_reducible (refine mv_i ?_)
                          refine next1 hk2 ⟨(p2.trans p3).trans (pre_new _ _ _), nextJ ?_⟩
                          unfold mAt
                          rw [hsk, if_neg (by rw [hok]; simp), if_neg (fun hh => hc (hck.mpr hh.2))]
                      · with_reducible (refine mv_i ?_; refine gd_ft ?_; refine gd_ft ?_; refine gd_ft ?_; refine gd_ft ?_; refine gd_ft ?_; refine gd_ft ?_; refine gd_ft ?_; refine gd_ft ?_; refine gd_ft ?_; refine gd_ft ?_; refine gd_ft ?_; refine gd_ft ?_; refine gd_ft ?_; refine gd_ft ?_; refine gd_ft ?_; refine gd_ft ?_; refine gd_ft ?_; refine gd_ft ?_; refine gd_ft ?_; refine gd_ft ?_; refine gd_ft ?_; refine gd_ft ?_; refine gd_ft ?_; refine pick_f ?_; refine cnd_f ?_)
                        refine inc_i (by omega) ?_
                        with_reducible (refine mv_i ?_)
                        refine next1 hk2 ⟨p2.trans p3, nextJ ?_⟩
                        unfold mAt
                        rw [hsk, if_neg (by rw [hok]; simp), if_neg (fun hh => h0 (by omega))]
            · with_reducible (refine cnd_f ?_; refine mv_i ?_; refine mv_i ?_; refine ret2 ?_)
              exact ⟨by rw [mErr_none hhead hgt (fun j hj => hJ j (by omega))]; rfl, p1.trans p2⟩

def cmpL : List Int → List Int → Int
  | [], [] => 0
  | [], _ :: _ => -1
  | _ :: _, [] => 1
  | a :: l, b :: m => if a = b then cmpL l m else if b < a then 1 else -1

theorem drop_cons' {row : List Int} {k : Nat} (hk : k < row.length) : row.drop k = row.getD k 0 :: row.drop (k + 1) := by
  rw [gd_at 0 hk]; exact List.drop_eq_getElem_cons hk

theorem cmpL_drop : ∀ (k : Nat) (xs ys : List Int), k ≤ xs.length → k ≤ ys.length → (∀ j, j < k → xs.getD j 0 = ys.getD j 0) → cmpL xs ys = cmpL (xs.drop k) (ys.drop k)
  | 0, _, _, _, _, _ => rfl
  | k + 1, [], _, h, _, _ => by simp at h
  | k + 1, _ :: _, [], _, h, _ => by simp at h
  | k + 1, a :: l, b :: m, h1, h2, h3 => by
    have e := h3 0 (by omega)
    simp at e
    subst e
    simp only [cmpL, if_true, List.drop_succ_cons]
    exact cmpL_drop k l m (by simpa using h1) (by simpa using h2) (fun j hj => by have := h3 (j + 1) (by omega); simpa using this)

theorem c92 {a b : Value} {xs ys : List Int} (s : IntS h a xs) (s2 : IntS h b ys) : Runs Try.prog 92 [a, b] h (.int .i64 (cmpL xs ys)) h := by
  have lt := s.lt
  have lt2 := s2.lt
  refine DetP.runs (w92 ?_)
  unfold n92
  with_reducible (refine mv_i ?_; refine mv_i ?_)
  refine loop1 xs.length (fun k h2 => h2 = h ∧ k ≤ ys.length ∧ ∀ j, j < k → xs.getD j 0 = ys.getD j 0) ⟨rfl, by omega, fun j hj => by omega⟩ ?_
  rintro k _ _ hk ⟨rfl, hk2, hJ⟩
  have hd := cmpL_drop k xs ys hk hk2 hJ
  with_reducible (refine mv_i ?_; refine mv_i ?_)
  refine leni_i t23 s ?_
  refine lss_i (fun hlt => ?_) (fun hge => ?_)
  · with_reducible (refine mv_i ?_; refine gd_tt ?_; refine mv_i ?_; refine gd_tt ?_; refine mv_i ?_; refine gd_tt ?_)
    refine leni_i t23 s2 ?_
    with_reducible (refine gd_tt ?_)
    refine lss_i (fun hlt2 => ?_) (fun hge2 => ?_)
    · with_reducible (refine pick_t ?_; refine cnd_t ?_; refine mv_i ?_; refine mv_i ?_)
      refine idxi_i (k := k) t23 s (by omega) ?_
      refine ldi_i (k := k) t23 r3 s (by omega) ?_
      refine ⟨trivial, ?_⟩
      with_reducible (refine mv_i ?_; refine mv_i ?_)
      refine idxi_i (k := k) t23 s2 (by omega) ?_
      refine ldi_i (k := k) t23 r3 s2 (by omega) ?_
      refine ⟨trivial, ?_⟩
      refine neq_i (fun he => ?_) (fun he => ?_)
      · with_reducible (refine cnd_f ?_; refine mv_i ?_)
        refine inc_i (by omega) ?_
        with_reducible (refine mv_i ?_)
        refine next1 (by omega) ⟨rfl, by omega, fun j hj => ?_⟩
        by_cases q : j = k
        · subst q; exact he
        · exact hJ j (by omega)
      · with_reducible (refine cnd_t ?_; refine mv_i ?_; refine mv_i ?_)
        refine idxi_i (k := k) t23 s (by omega) ?_
        refine ldi_i (k := k) t23 r3 s (by omega) ?_
        refine ⟨trivial, ?_⟩
        with_reducible (refine mv_i ?_; refine mv_i ?_)
        refine idxi_i (k := k) t23 s2 (by omega) ?_
        refine ldi_i (k := k) t23 r3 s2 (by omega) ?_
        refine ⟨trivial, ?_⟩
        refine gtr_b ?_
        refine calld_r (c45 _) ⟨⟨[], by simp⟩, ?_⟩
        refine mul_i ⟨by split <;> omega, by split <;> omega⟩ ?_
        refine sub_i ⟨by split <;> omega, by split <;> omega⟩ ?_
        with_reducible (refine mv_i ?_; refine ret1 ?_)
        refine ⟨?_, rfl⟩
        rw [hd, drop_cons' (show k < xs.length by omega), drop_cons' (show k < ys.length by omega)]
        simp only [cmpL]
        rw [if_neg he]
        by_cases hg : ys.getD k 0 < xs.getD k 0
        · rw [if_pos hg, decide_eq_true hg]; rfl
        · rw [if_neg hg, decide_eq_false hg]; rfl
    · with_reducible (refine pick_t ?_; refine cnd_f ?_; refine mv_i ?_)
      have hfin : (xs.length = k ∨ ys.length = k) → cmpL xs ys = (if decide ((ys.length : Int) < xs.length) = true then 1 else 0) - (if decide ((xs.length : Int) < ys.length) = true then 1 else 0) := by
        intro hor
        rw [hd]
        rcases hor with e | e
        · rw [List.drop_of_length_le (by omega)]
          cases hq : ys.drop k with
          | nil => have := congrArg List.length hq; simp at this; simp [cmpL]; omega
          | cons y l => have := congrArg List.length hq; simp at this; simp [cmpL]; omega
        · rw [List.drop_of_length_le (show ys.length ≤ k by omega)]
          cases hq : xs.drop k with
          | nil => have := congrArg List.length hq; simp at this; simp [cmpL]; omega
          | cons y l => have := congrArg List.length hq; simp at this; simp [cmpL]; omega
      refine leni_i t23 s ?_
      with_reducible (refine mv_i ?_)
      refine leni_i t23 s2 ?_
      refine gtr_b ?_
      refine call_r (c45 _) ?_
      with_reducible (refine mv_i ?_)
      refine leni_i t23 s ?_
      with_reducible (refine mv_i ?_)
      refine leni_i t23 s2 ?_
      refine lss_b ?_
      refine call_r (c45 _) ?_
      refine sub_i ⟨by split <;> split <;> omega, by split <;> split <;> omega⟩ ?_
      with_reducible (refine mv_i ?_; refine ret1 ?_)
      exact ⟨by rw [hfin (by omega)], rfl⟩
  · with_reducible (refine mv_i ?_; refine gd_ft ?_; refine gd_ft ?_; refine gd_ft ?_; refine gd_ft ?_; refine pick_f ?_; refine cnd_f ?_; refine mv_i ?_)
    have hfin : (xs.length = k ∨ ys.length = k) → cmpL xs ys = (if decide ((ys.length : Int) < xs.length) = true then 1 else 0) - (if decide ((xs.length : Int) < ys.length) = true then 1 else 0) := by
      intro hor
      rw [hd]
      rcases hor with e | e
      · rw [List.drop_of_length_le (by omega)]
        cases hq : ys.drop k with
        | nil => have := congrArg List.length hq; simp at this; simp [cmpL]; omega
        | cons y l => have := congrArg List.length hq; simp at this; simp [cmpL]; omega
      · rw [List.drop_of_length_le (show ys.length ≤ k by omega)]
        cases hq : xs.drop k with
        | nil => have := congrArg List.length hq; simp at this; simp [cmpL]; omega
        | cons y l => have := congrArg List.length hq; simp at this; simp [cmpL]; omega
    refine leni_i t23 s ?_
    with_reducible (refine mv_i ?_)
    refine leni_i t23 s2 ?_
    refine gtr_b ?_
    refine call_r (c45 _) ?_
    with_reducible (refine mv_i ?_)
    refine leni_i t23 s ?_
    with_reducible (refine mv_i ?_)
    refine leni_i t23 s2 ?_
    refine lss_b ?_
    refine call_r (c45 _) ?_
    refine sub_i ⟨by split <;> split <;> omega, by split <;> split <;> omega⟩ ?_
    with_reducible (refine mv_i ?_; refine ret1 ?_)
    exact ⟨by rw [hfin (by omega)], rfl⟩

theorem cmp_key2 (a b : St) : (0 ≤ cmpL [a.fr, a.inp] [b.fr, b.inp]) ↔ ltKey a b = false := by
  unfold ltKey
  rw [decide_eq_false_iff_not]
  simp only [cmpL]
  by_cases h1 : a.fr = b.fr
  · rw [if_pos h1]
    by_cases h2 : a.inp = b.inp
    · rw [if_pos h2]; simp; omega
    · rw [if_neg h2]
      by_cases h3 : b.inp < a.inp
      · rw [if_pos h3]; simp; omega
      · rw [if_neg h3]; simp; omega
  · rw [if_neg h1]
    by_cases h3 : b.fr < a.fr
    · rw [if_pos h3]; simp; omega
    · rw [if_neg h3]; simp; omega

theorem c63 {a : Value} {m : Mac} (s : MacV h a m) : Runs Try.prog 63 [a] h (pairV (mErr m)) h := by
  refine DetP.forget rfl ?_
  refine w63 ?_
  unfold n63
  obtain ⟨o, l, c, rfl, ss⟩ := s
  have lt := ss.lt
  rw [box36]
  refine ok_i rfl ?_
  have p1 := pre_new h [.int .i64 m.states, .int .i64 m.inputs, .int .i64 m.outputs, .int .i64 m.start, .slice o l c] 5
  have hb1 := newArr_get h [.int .i64 m.states, .int .i64 m.inputs, .int .i64 m.outputs, .int .i64 m.start, .slice o l c] 5
  have hbad : mHead m = false → pairV (mErr m) = .tuple #[.int .i64 0, .int .i64 3] := fun e => by unfold mErr; rw [if_pos e]; rfl
  generalize hg1 : newArr h [.int .i64 m.states, .int .i64 m.inputs, .int .i64 m.outputs, .int .i64 m.start, .slice o l c] 5 = g1 at p1 hb1 ⊢
  with_reducible (refine mv_i ?_; refine mv_i ?_; refine vk_i (fa36_0 _) ?_; refine ld5_0 r3 (by assumption) ?_)
  refine call_r (c22 _ _ _) ?_
  cases e1 : inR m.states 1 40 with
  | false => 
    with_reducible (refine not_f ?_; refine mv_i ?_; refine gd_tf ?_; refine gd_tf ?_; refine gd_tf ?_; refine gd_tf ?_; refine pick_t ?_; refine mv_i ?_; refine gd_tf ?_; refine gd_tf ?_; refine gd_tf ?_; refine gd_tf ?_; refine pick_t ?_; refine mv_i ?_; refine gd_tf ?_; refine gd_tf ?_; refine gd_tf ?_; refine gd_tf ?_; refine gd_tf ?_; refine gd_tf ?_; refine gd_tf ?_; refine pick_t ?_; refine cnd_t ?_; refine mv_i ?_; refine mv_i ?_; refine ret2 ?_)
    exact ⟨(hbad (by simp [mHead, e1])).symm, p1⟩
  | true =>
    have f1 : 1 ≤ m.states ∧ m.states ≤ 40 := by simpa [inR] using e1
    with_reducible (refine not_t ?_; refine mv_i ?_; refine gd_ff ?_; refine vk_i (fa36_1 _) ?_; refine gd_ff ?_; refine ld5_1 r3 (by assumption) ?_; refine gd_ff ?_)
    refine call_r (c22 _ _ _) ?_
    cases e2 : inR m.inputs 1 8 with
    | false => 
      with_reducible (refine gd_ff ?_; refine not_f ?_; refine pick_f ?_; refine mv_i ?_; refine gd_tf ?_; refine gd_tf ?_; refine gd_tf ?_; refine gd_tf ?_; refine pick_t ?_; refine mv_i ?_; refine gd_tf ?_; refine gd_tf ?_; refine gd_tf ?_; refine gd_tf ?_; refine gd_tf ?_; refine gd_tf ?_; refine gd_tf ?_; refine pick_t ?_; refine cnd_t ?_; refine mv_i ?_; refine mv_i ?_; refine ret2 ?_)
      exact ⟨(hbad (by simp [mHead, e1, e2])).symm, p1⟩
    | true =>
      have f2 : 1 ≤ m.inputs ∧ m.inputs ≤ 8 := by simpa [inR] using e2
      with_reducible (refine gd_ff ?_; refine not_t ?_; refine pick_f ?_; refine mv_i ?_; refine gd_ff ?_; refine vk_i (fa36_2 _) ?_; refine gd_ff ?_; refine ld5_2 r3 (by assumption) ?_; refine gd_ff ?_)
      refine call_r (c22 _ _ _) ?_
      cases e3 : inR m.outputs 1 8 with
      | false => 
        with_reducible (refine gd_ff ?_; refine not_f ?_; refine pick_f ?_; refine mv_i ?_; refine gd_tf ?_; refine gd_tf ?_; refine gd_tf ?_; refine gd_tf ?_; refine gd_tf ?_; refine gd_tf ?_; refine gd_tf ?_; refine pick_t ?_; refine cnd_t ?_; refine mv_i ?_; refine mv_i ?_; refine ret2 ?_)
        exact ⟨(hbad (by simp [mHead, e1, e2, e3])).symm, p1⟩
      | true =>
        have f3 : 1 ≤ m.outputs ∧ m.outputs ≤ 8 := by simpa [inR] using e3
        with_reducible (refine gd_ff ?_; refine not_t ?_; refine pick_f ?_; refine mv_i ?_; refine gd_ff ?_; refine vk_i (fa36_3 _) ?_; refine gd_ff ?_; refine ld5_3 r3 (by assumption) ?_; refine gd_ff ?_; refine vk_i (fa36_0 _) ?_; refine gd_ff ?_; refine ld5_0 r3 (by assumption) ?_; refine gd_ff ?_)
        refine sub_i ⟨by omega, by omega⟩ ?_
        with_reducible (refine gd_ff ?_)
        refine call_r (c22 _ _ _) ?_
        cases e4 : inR m.start 0 (m.states - 1) with
        | false => 
          with_reducible (refine gd_ff ?_; refine not_f ?_; refine pick_f ?_; refine cnd_t ?_; refine mv_i ?_; refine mv_i ?_; refine ret2 ?_)
          exact ⟨(hbad (by simp [mHead, e1, e2, e3, e4])).symm, p1⟩
        | true =>
          have hhead : mHead m = true := by simp [mHead, e1, e2, e3, e4]
          have hmb := mul_b e1 e2
          have ss1 := ss.mono (Sub.of_pre p1)
          with_reducible (refine gd_ff ?_; refine not_t ?_; refine pick_f ?_; refine cnd_f ?_; refine vk_i (fa36_4 _) ?_; refine ld5_4 r34 (by assumption) ?_)
          refine len_i t34 ss1 ?_
          with_reducible (refine vk_i (fa36_0 _) ?_; refine ld5_0 r3 (by assumption) ?_; refine vk_i (fa36_1 _) ?_; refine ld5_1 r3 (by assumption) ?_)
          refine mul_i ⟨by omega, by omega⟩ ?_
          refine gtr_i (fun hgt => ?_) (fun hgt => ?_)
          · with_reducible (refine cnd_t ?_; refine mv_i ?_; refine mv_i ?_; refine ret2 ?_)
            exact ⟨by unfold mErr; rw [if_neg (by rw [hhead]; simp), if_pos hgt]; rfl, p1⟩
          · with_reducible (refine cnd_f ?_; refine mv_i ?_)
            refine loop1 m.steps.length (fun k h2 => g1 <+: h2 ∧ ∀ j, j < k → mAt m j = none) ⟨List.prefix_refl _, fun j hj => by omega⟩ ?_
            rintro k h2 _ hk ⟨p2, hJ⟩
            have ss2 := ss1.mono (Sub.of_pre p2)
            have hbL := (Sub.of_pre p2).2 _ _ hb1
            with_reducible (refine mv_i ?_; refine vk_i (fa36_4 _) ?_; refine ld5_4 r34 (by assumption) ?_)
            refine len_i t34 ss2 ?_
            refine lss_i (fun hlt => ?_) (fun hge => ?_)
            · have hk2 : k < m.steps.length := by omega
              with_reducible (refine cnd_t ?_; refine vk_i (fa36_4 _) ?_; refine ld5_4 r34 (by assumption) ?_; refine mv_i ?_)
              refine idx_i (k := k) t34 ss2 hk2 ?_
              refine ldst_i st63 ss2 hk2 dst ?_
              refine ok_i (al63 _) ?_
              skip
              refine ok_i (v := undef) (h' := newArr h2 (m.steps.getD k dst).cells 4) (by rw [sto63]; rfl) ?_
              have p3 := pre_new h2 (m.steps.getD k dst).cells 4
              have hb3 := (Sub.of_pre p3).2 _ _ ((Sub.of_pre p2).2 _ _ hb1)
              have ss3 := ss2.mono (Sub.of_pre p3)
              have p03 := (p1.trans p2).trans p3
              have nextJ : mAt m k = none → ∀ j, j < k + 1 → mAt m j = none := fun e j hj => by
                by_cases q : j = k
                · subst q; exact e
                · exact hJ j (by omega)
              have hs3 : (newArr h2 (m.steps.getD k dst).cells 4)[h2.length]? = some (.arr ⟨[.int .i64 (m.steps.getD k dst).fr, .int .i64 (m.steps.getD k dst).inp, .int .i64 (m.steps.getD k dst).out, .int .i64 (m.steps.getD k dst).to], 4, false⟩) := newArr_get _ _ _
              generalize newArr h2 (m.steps.getD k dst).cells 4 = h3 at p3 hs3 hb3 ss3 p03 ⊢
              generalize hsk : m.steps.getD k dst = sk at hs3 ⊢
              have hret : okSt m sk = false → pairV (mErr m) = .tuple #[.int .i64 (k : Int), .int .i64 3] := fun e => by
                rw [mErr_some hhead hgt hJ hk2 (e := ((k : Int), 3)) (by unfold mAt; rw [hsk, if_pos e])]; rfl
              with_reducible (refine vk_i (fa63_0 _) ?_; refine ld4_0 r3 (by assumption) ?_; refine vk_i (fa36_0 _) ?_; refine ld5_0 r3 (by assumption) ?_)
              refine sub_i ⟨by omega, by omega⟩ ?_
              refine call_r (c22 _ _ _) ?_
              cases q1 : inR sk.fr 0 (m.states - 1) with
              | false => 
                with_reducible (refine not_f ?_; refine mv_i ?_; refine gd_tf ?_; refine gd_tf ?_; refine gd_tf ?_; refine gd_tf ?_; refine gd_tf ?_; refine gd_tf ?_; refine gd_tf ?_; refine pick_t ?_; refine mv_i ?_; refine gd_tf ?_; refine gd_tf ?_; refine gd_tf ?_; refine gd_tf ?_; refine gd_tf ?_; refine gd_tf ?_; refine gd_tf ?_; refine pick_t ?_; refine mv_i ?_; refine gd_tf ?_; refine gd_tf ?_; refine gd_tf ?_; refine gd_tf ?_; refine gd_tf ?_; refine gd_tf ?_; refine gd_tf ?_; refine pick_t ?_; refine cnd_t ?_; refine mv_i ?_; refine mv_i ?_; refine mv_i ?_; refine ret2 ?_)
                exact ⟨(hret (by simp [okSt, q1])).symm, p03⟩
              | true =>
                with_reducible (refine not_t ?_; refine mv_i ?_; refine gd_ff ?_; refine vk_i (fa63_3 _) ?_; refine gd_ff ?_; refine ld4_3 r3 (by assumption) ?_; refine gd_ff ?_; refine vk_i (fa36_0 _) ?_; refine gd_ff ?_; refine ld5_0 r3 (by assumption) ?_; refine gd_ff ?_)
                refine sub_i ⟨by omega, by omega⟩ ?_
                with_reducible (refine gd_ff ?_)
                refine call_r (c22 _ _ _) ?_
                cases q2 : inR sk.to 0 (m.states - 1) with
                | false => 
                  with_reducible (refine gd_ff ?_; refine not_f ?_; refine pick_f ?_; refine mv_i ?_; refine gd_tf ?_; refine gd_tf ?_; refine gd_tf ?_; refine gd_tf ?_; refine gd_tf ?_; refine gd_tf ?_; refine gd_tf ?_; refine pick_t ?_; refine mv_i ?_; refine gd_tf ?_; refine gd_tf ?_; refine gd_tf ?_; refine gd_tf ?_; refine gd_tf ?_; refine gd_tf ?_; refine gd_tf ?_; refine pick_t ?_; refine cnd_t ?_; refine mv_i ?_; refine mv_i ?_; refine mv_i ?_; refine ret2 ?_)
                  exact ⟨(hret (by simp [okSt, q1, q2])).symm, p03⟩
                | true =>
                  with_reducible (refine gd_ff ?_; refine not_t ?_; refine pick_f ?_; refine mv_i ?_; refine gd_ff ?_; refine vk_i (fa63_1 _) ?_; refine gd_ff ?_; refine ld4_1 r3 (by assumption) ?_; refine gd_ff ?_; refine vk_i (fa36_1 _) ?_; refine gd_ff ?_; refine ld5_1 r3 (by assumption) ?_; refine gd_ff ?_)
                  refine sub_i ⟨by omega, by omega⟩ ?_
                  with_reducible (refine gd_ff ?_)
                  refine call_r (c22 _ _ _) ?_
                  cases q3 : inR sk.inp 0 (m.inputs - 1) with
                  | false => 
                    with_reducible (refine gd_ff ?_; refine not_f ?_; refine pick_f ?_; refine mv_i ?_; refine gd_tf ?_; refine gd_tf ?_; refine gd_tf ?_; refine gd_tf ?_; refine gd_tf ?_; refine gd_tf ?_; refine gd_tf ?_; refine pick_t ?_; refine cnd_t ?_; refine mv_i ?_; refine mv_i ?_; refine mv_i ?_; refine ret2 ?_)
                    exact ⟨(hret (by simp [okSt, q1, q2, q3])).symm, p03⟩
                  | true =>
                    with_reducible (refine gd_ff ?_; refine not_t ?_; refine pick_f ?_; refine mv_i ?_; refine gd_ff ?_; refine vk_i (fa63_2 _) ?_; refine gd_ff ?_; refine ld4_2 r3 (by assumption) ?_; refine gd_ff ?_; refine vk_i (fa36_2 _) ?_; refine gd_ff ?_; refine ld5_2 r3 (by assumption) ?_; refine gd_ff ?_)
                    refine sub_i ⟨by omega, by omega⟩ ?_
                    with_reducible (refine gd_ff ?_)
                    refine call_r (c22 _ _ _) ?_
                    cases q4 : inR sk.out 0 (m.outputs - 1) with
                    | false => 
                      with_reducible (refine gd_ff ?_; refine not_f ?_; refine pick_f ?_; refine cnd_t ?_; refine mv_i ?_; refine mv_i ?_; refine mv_i ?_; refine ret2 ?_)
                      exact ⟨(hret (by simp [okSt, q1, q2, q3, q4])).symm, p03⟩
                    | true =>
                      have hok : okSt m sk = true := by simp [okSt, q1, q2, q3, q4]
                      with_reducible (refine gd_ff ?_; refine not_t ?_; refine pick_f ?_; refine cnd_f ?_; refine mv_i ?_)
                      refine gtr_i (fun h0 => ?_) (fun h0 => ?_)
                      · have hpk : k - 1 < m.steps.length := by omega
                        with_reducible (refine mv_i ?_; refine gd_tt ?_; refine vk_i (fa36_4 _) ?_; refine gd_tt ?_; refine ld5_4 r34 (by assumption) ?_)
                        refine ⟨seg_vb ss3, ?_⟩
                        with_reducible (refine gd_tt ?_; refine mv_i ?_; refine gd_tt ?_)
                        refine sub_i ⟨by omega, by omega⟩ ?_
                        rw [show (k : Int) - 1 = ((k - 1 : Nat) : Int) by omega]
                        with_reducible (refine gd_tt ?_)
                        refine idx_i (k := k - 1) t34 ss3 hpk ?_
                        with_reducible (refine gd_tt ?_; refine fae_i st63 (by assumption) (by omega) (by omega) ?_; refine gd_tt ?_; refine ldf_i st63 (by assumption) (by omega) (by omega) dst ?_; refine ⟨vbi _ _, ?_⟩; refine gd_tt ?_; refine vk_i (fa36_4 _) ?_; refine gd_tt ?_; refine ld5_4 r34 (by assumption) ?_)
                        refine ⟨seg_vb ss3, ?_⟩
                        with_reducible (refine gd_tt ?_; refine mv_i ?_; refine gd_tt ?_)
                        refine sub_i ⟨by omega, by omega⟩ ?_
                        rw [show (k : Int) - 1 = ((k - 1 : Nat) : Int) by omega]
                        with_reducible (refine gd_tt ?_)
                        refine idx_i (k := k - 1) t34 ss3 hpk ?_
                        with_reducible (refine gd_tt ?_; refine fae_i st63 (by assumption) (by omega) (by omega) ?_; refine gd_tt ?_; refine ldf_i st63 (by assumption) (by omega) (by omega) dst ?_; refine ⟨vbi _ _, ?_⟩; refine gd_tt ?_)
                        refine ok_i (bs23_2 _ _ _) ?_
                        have pa := pre_new h3 [.int .i64 (St.get (m.steps.getD (k - 1) dst) 0), .int .i64 (St.get (m.steps.getD (k - 1) dst) 1)] 1
                        have sa : IntS (newArr h3 [.int .i64 (St.get (m.steps.getD (k - 1) dst) 0), .int .i64 (St.get (m.steps.getD (k - 1) dst) 1)] 1) (.slice (some ⟨h3.length, 0, none⟩) 2 3) [(m.steps.getD (k - 1) dst).fr, (m.steps.getD (k - 1) dst).inp] := Seg.new (n := 2) 3 rfl (by omega)
                        have hs4 := (Sub.of_pre pa).2 _ _ hs3
                        generalize newArr h3 [.int .i64 (St.get (m.steps.getD (k - 1) dst) 0), .int .i64 (St.get (m.steps.getD (k - 1) dst) 1)] 1 = h4 at pa sa hs4 ⊢
                        with_reducible (refine gd_tt ?_; refine vk_i (fa63_0 _) ?_; refine gd_tt ?_; refine ld4_0 r3 (by assumption) ?_; refine ⟨vbi _ _, ?_⟩; refine gd_tt ?_; refine vk_i (fa63_1 _) ?_; refine gd_tt ?_; refine ld4_1 r3 (by assumption) ?_; refine ⟨vbi _ _, ?_⟩; refine gd_tt ?_)
                        refine ok_i (bs23_2 _ _ _) ?_
                        have pb := pre_new h4 [.int .i64 sk.fr, .int .i64 sk.inp] 1
                        have sb : IntS (newArr h4 [.int .i64 sk.fr, .int .i64 sk.inp] 1) (.slice (some ⟨h4.length, 0, none⟩) 2 3) [sk.fr, sk.inp] := Seg.new (n := 2) 3 rfl (by omega)
                        with_reducible (refine gd_tt ?_)
                        refine calld_r (c92 (sa.mono (Sub.of_pre pb)) sb) ⟨⟨[], by simp⟩, ?_⟩
                        have p4 := (p03.trans pa).trans pb
                        with_reducible (refine gd_tt ?_)
                        have hck := cmp_key2 (m.steps.getD (k - 1) dst) sk
                        refine geq_i (fun hc => ?_) (fun hc => ?_)
                        · with_reducible (refine pick_t ?_; refine cnd_t ?_; refine mv_i ?_; refine mv_i ?_; refine mv_i ?_; refine ret2 ?_)
                          refine ⟨?_, p4⟩
                          rw [mErr_some hhead hgt hJ hk2 (e := ((k : Int), 14)) (by unfold mAt; rw [hsk, if_neg (by rw [hok]; simp), if_pos ⟨by omega, hck.mp hc⟩])]; rfl
                        · with_reducible (refine pick_t ?_; refine cnd_f ?_; refine mv_i ?_)
                          refine inc_i (by omega) ?_
                          with_reducible (refine mv_i ?_)
                          refine next1 hk2 ⟨((p2.trans p3).trans pa).trans pb, nextJ ?_⟩
                          unfold mAt
                          rw [hsk, if_neg (by rw [hok]; simp), if_neg (fun hh => hc (hck.mpr hh.2))]
                      · with_reducible (refine mv_i ?_; refine gd_ft ?_; refine gd_ft ?_; refine gd_ft ?_; refine gd_ft ?_; refine gd_ft ?_; refine gd_ft ?_; refine gd_ft ?_; refine gd_ft ?_; refine gd_ft ?_; refine gd_ft ?_; refine gd_ft ?_; refine gd_ft ?_; refine gd_ft ?_; refine gd_ft ?_; refine gd_ft ?_; refine gd_ft ?_; refine gd_ft ?_; refine gd_ft ?_; refine gd_ft ?_; refine gd_ft ?_; refine gd_ft ?_; refine gd_ft ?_; refine pick_f ?_; refine cnd_f ?_; refine mv_i ?_)
                        refine inc_i (by omega) ?_
                        with_reducible (refine mv_i ?_)
                        refine next1 hk2 ⟨p2.trans p3, nextJ ?_⟩
                        unfold mAt
                        rw [hsk, if_neg (by rw [hok]; simp), if_neg (fun hh => h0 (by omega))]
            · with_reducible (refine cnd_f ?_; refine mv_i ?_; refine mv_i ?_; refine ret2 ?_)
              exact ⟨by rw [mErr_none hhead hgt (fun j hj => hJ j (by omega))]; rfl, p1.trans p2⟩

theorem macv_of {h : Heap} {m : Mac} {o : Option Addr} {l c : Nat} (s : StepsS h (.slice o l c) m.steps) : MacV h (.agg #[.int .i64 m.states, .int .i64 m.inputs, .int .i64 m.outputs, .int .i64 m.start, .slice o l c]) m := ⟨o, l, c, rfl, s⟩

theorem c18 {a : Value} {m : Mac} (s : MacV h a m) : Runs Try.prog 18 [a] h (.int .i64 (mErr m).2) h := by
  refine DetP.forget rfl ?_
  refine w18 ?_
  unfold n18
  obtain ⟨o, l, c, rfl, ss⟩ := s
  rw [box36]
  refine ok_i rfl ?_
  have p1 := pre_new h [.int .i64 m.states, .int .i64 m.inputs, .int .i64 m.outputs, .int .i64 m.start, .slice o l c] 5
  have hb1 := newArr_get h [.int .i64 m.states, .int .i64 m.inputs, .int .i64 m.outputs, .int .i64 m.start, .slice o l c] 5
  with_reducible (refine mv_i ?_)
  refine vk_i (ld36 hb1) ?_
  refine call_r (c63 (macv_of (ss.mono (Sub.of_pre p1)))) ?_
  unfold pairV
  with_reducible (refine mv_i ?_; refine ex2_0 ?_; refine ex2_1 ?_; refine mv_i ?_; refine mv_i ?_; refine mv_i ?_; refine mv_i ?_; refine ret1 ?_)
  exact ⟨rfl, p1⟩

theorem c51 {a : Value} {m : Mac} (s : MacV h a m) : Runs Try.prog 51 [a] h (.int .i64 (mErr m).2) h := by
  refine DetP.forget rfl ?_
  refine w51 ?_
  unfold n51
  obtain ⟨o, l, c, rfl, ss⟩ := s
  rw [box36]
  refine ok_i rfl ?_
  have p1 := pre_new h [.int .i64 m.states, .int .i64 m.inputs, .int .i64 m.outputs, .int .i64 m.start, .slice o l c] 5
  have hb1 := newArr_get h [.int .i64 m.states, .int .i64 m.inputs, .int .i64 m.outputs, .int .i64 m.start, .slice o l c] 5
  with_reducible (refine mv_i ?_)
  refine vk_i (ld36 hb1) ?_
  refine call_r (c87 (macv_of (ss.mono (Sub.of_pre p1)))) ?_
  unfold pairV
  with_reducible (refine mv_i ?_; refine ex2_0 ?_; refine ex2_1 ?_; refine mv_i ?_; refine mv_i ?_; refine mv_i ?_; refine mv_i ?_; refine ret1 ?_)
  exact ⟨rfl, p1⟩

def pm (n : Int) : Int := IntKind.i64.wrap (n - 1)

theorem subw_i {t : TypeId} {n : Int} {K : Value → Heap → Prop} (hk : K (.int .i64 (pm n)) h) : vK (aBin Try.prog .sub t (.int .i64 n) (.int .i64 1)) h K := vk_i (v := .int .i64 (pm n)) (by simp [aBin, aInt, pm]) hk

theorem pm_eq {n : Int} (h1 : 1 ≤ n) (h2 : n ≤ 2 ^ 40) : pm n = n - 1 := wrap_i64 ⟨by omega, by omega⟩

def wErr (w : List Int) (inputs most : Int) : Int := if most < (w.length : Int) then 2 else if w.all (fun x => inR x 0 (pm inputs)) = true then 0 else 3

theorem all_gd {xs : List Int} {p : Int → Bool} (hJ : ∀ j, j < xs.length → p (xs.getD j 0) = true) : xs.all p = true := by
  rw [List.all_eq_true]
  intro x hx
  obtain ⟨j, hj, rfl⟩ := mem_gd 0 hx
  exact hJ j hj

theorem not_all {xs : List Int} {p : Int → Bool} {k : Nat} (hk : k < xs.length) (hp : p (xs.getD k 0) = false) : xs.all p = false := by
  rw [List.all_eq_false]
  exact ⟨_, gd_mem 0 hk, by rw [hp]; simp⟩

theorem c41 {a : Value} {w : List Int} {n most : Int} (s : IntS h a w) : Runs Try.prog 41 [a, .int .i64 n, .int .i64 most] h (.int .i64 (wErr w n most)) h := by
  have lt := s.lt
  refine DetP.runs (w41 ?_)
  unfold n41
  with_reducible (refine mv_i ?_; refine mv_i ?_)
  refine leni_i t23 s ?_
  with_reducible (refine mv_i ?_)
  refine gtr_i (fun hg => ?_) (fun hg => ?_)
  · with_reducible (refine cnd_t ?_; refine mv_i ?_; refine ret1 ?_)
    exact ⟨by unfold wErr; rw [if_pos hg], rfl⟩
  · with_reducible (refine cnd_f ?_; refine mv_i ?_)
    refine loop1 w.length (fun k h2 => h2 = h ∧ ∀ j, j < k → inR (w.getD j 0) 0 (pm n) = true) ⟨rfl, fun j hj => by omega⟩ ?_
    rintro k _ _ hk ⟨rfl, hJ⟩
    with_reducible (refine mv_i ?_; refine mv_i ?_)
    refine leni_i t23 s ?_
    refine lss_i (fun hlt => ?_) (fun hge => ?_)
    · with_reducible (refine cnd_t ?_; refine mv_i ?_; refine mv_i ?_)
      refine idxi_i (k := k) t23 s (by omega) ?_
      refine ldi_i (k := k) t23 r3 s (by omega) ?_
      with_reducible (refine mv_i ?_)
      refine subw_i ?_
      refine call_r (c22 _ _ _) ?_
      cases hr : inR (w.getD k 0) 0 (pm n) with
      | false =>
        with_reducible (refine not_f ?_; refine cnd_t ?_; refine mv_i ?_; refine ret1 ?_)
        exact ⟨by unfold wErr; rw [if_neg hg, if_neg (by rw [not_all (show k < w.length by omega) hr]; simp)], rfl⟩
      | true =>
        with_reducible (refine not_t ?_; refine cnd_f ?_; refine mv_i ?_)
        refine inc_i (by omega) ?_
        with_reducible (refine mv_i ?_)
        refine next1 (by omega) ⟨rfl, fun j hj => ?_⟩
        by_cases q : j = k
        · subst q; exact hr
        · exact hJ j (by omega)
    · with_reducible (refine cnd_f ?_; refine mv_i ?_; refine ret1 ?_)
      exact ⟨by unfold wErr; rw [if_neg hg, if_pos (all_gd fun j hj => hJ j (by omega))], rfl⟩

theorem c91 {a : Value} {w : List Int} {i : Nat} {g : FuncId} {p : Int → Bool} (s : IntS h a w) (hg : ∀ x : Int, Runs Try.prog g [.int .i64 x, .pointer (some ⟨i, 0, none⟩)] h (.bool (p x)) h) :
    ∃ n : Int, (0 ≤ n ↔ w.any p = true) ∧ Runs Try.prog 91 [a, .func (.func g) #[] #[.pointer (some ⟨i, 0, none⟩)]] h (.int .i64 n) h := by
  have lt := s.lt
  have walk : ∀ n : Int, ((∃ k : Nat, n = k ∧ k < w.length ∧ (∀ j, j < k → p (w.getD j 0) = false) ∧ p (w.getD k 0) = true) ∨ (n = -1 ∧ ∀ j, j < w.length → p (w.getD j 0) = false)) →
      Runs Try.prog 91 [a, .func (.func g) #[] #[.pointer (some ⟨i, 0, none⟩)]] h (.int .i64 n) h := by
    intro n hn
    refine DetP.runs (w91 ?_)
    unfold n91
    with_reducible (refine mv_i ?_; refine mv_i ?_)
    refine leni_i t23 s ?_
    with_reducible (refine mv_i ?_)
    refine loop1 w.length (fun k h2 => h = h2 ∧ ∀ j, j < k → p (w.getD j 0) = false) ⟨rfl, fun j hj => by omega⟩ ?_
    rintro k _ _ hk ⟨rfl, hJ⟩
    skip
    refine lss_i (fun hlt => ?_) (fun hge => ?_)
    · with_reducible (refine cnd_t ?_; refine mv_i ?_; refine mv_i ?_; refine mv_i ?_; refine mv_i ?_; refine mv_i ?_)
      refine idxi_i (k := k) t23 s (by omega) ?_
      refine ldi_i (k := k) t23 r3 s (by omega) ?_
      refine call_r (f := g) (args := [.int .i64 (w.getD k 0), .pointer (some ⟨i, 0, none⟩)]) (hg _) ?_
      cases hz : p (w.getD k 0) with
      | true =>
        with_reducible (refine cnd_t ?_; refine mv_i ?_; refine mv_i ?_; refine ret1 ?_)
        refine ⟨?_, rfl⟩
        rcases hn with ⟨k', rfl, h1, h2, h3⟩ | ⟨_, h1⟩
        · have : k = k' := by
            rcases Nat.lt_trichotomy k k' with q | q | q
            · have := h2 k q; rw [hz] at this; cases this
            · exact q
            · have := hJ k' q; rw [h3] at this; cases this
          rw [this]
        · have := h1 k (by omega); rw [hz] at this; cases this
      | false =>
        with_reducible (refine cnd_f ?_)
        refine inc_i (by omega) ?_
        with_reducible (refine mv_i ?_)
        refine next1 (by omega) ⟨rfl, fun j hj => ?_⟩
        by_cases q : j = k
        · subst q; exact hz
        · exact hJ j (by omega)
    · with_reducible (refine cnd_f ?_; refine mv_i ?_; refine ret1 ?_)
      refine ⟨?_, rfl⟩
      rcases hn with ⟨k', rfl, h1, h2, h3⟩ | ⟨rfl, _⟩
      · have := hJ k' (by omega); rw [h3] at this; cases this
      · rfl
  by_cases hex : ∃ k, k < w.length ∧ p (w.getD k 0) = true
  · obtain ⟨k, hk, hmin⟩ := least hex
    have hprev : ∀ j, j < k → p (w.getD j 0) = false := fun j hj => by
      cases e : p (w.getD j 0) with
      | false => rfl
      | true => have := hmin j ⟨by omega, e⟩; omega
    exact ⟨k, ⟨fun _ => List.any_eq_true.mpr ⟨_, gd_mem 0 hk.1, hk.2⟩, fun _ => by omega⟩, walk k (.inl ⟨k, rfl, hk.1, hprev, hk.2⟩)⟩
  · have hno : ∀ j, j < w.length → p (w.getD j 0) = false := fun j hj => by
      cases e : p (w.getD j 0) with
      | false => rfl
      | true => exact absurd ⟨j, hj, e⟩ hex
    refine ⟨-1, ⟨fun h => by omega, fun ha => ?_⟩, walk (-1) (.inr ⟨rfl, hno⟩)⟩
    obtain ⟨x, hx, hpx⟩ := List.any_eq_true.mp ha
    obtain ⟨j, hj, rfl⟩ := mem_gd 0 hx
    have := hno j hj
    rw [hpx] at this; cases this

theorem c62 {a : Value} {w : List Int} {i : Nat} {g : FuncId} {p : Int → Bool} (s : IntS h a w) (hg : ∀ x : Int, Runs Try.prog g [.int .i64 x, .pointer (some ⟨i, 0, none⟩)] h (.bool (p x)) h) :
    Runs Try.prog 62 [a, .func (.func g) #[] #[.pointer (some ⟨i, 0, none⟩)]] h (.bool (w.any p)) h := by
  obtain ⟨n, hn, hr⟩ := c91 s hg
  refine DetP.runs (w62 ?_)
  unfold n62
  with_reducible (refine mv_i ?_; refine mv_i ?_; refine mv_i ?_)
  refine call_r hr ?_
  refine geq_b ?_
  with_reducible (refine mv_i ?_; refine ret1 ?_)
  refine ⟨?_, rfl⟩
  congr 1
  rw [Bool.eq_iff_iff, decide_eq_true_eq]
  exact hn

theorem any_all (w : List Int) (n : Int) : (!(w.any fun x => !inR x 0 (pm n))) = w.all fun x => inR x 0 (pm n) := by
  rw [List.not_any_eq_all_not]; simp

def sErr (ws : List (List Int)) (n : Int) : Int := if 2000 < ws.length then 2 else (firstOf (fun i => nz (wErr (ws.getD i []) n 60)) ws.length).getD 0

theorem sErr_none {ws : List (List Int)} {n : Int} (hg : ¬ 2000 < ws.length) (hJ : ∀ j, j < ws.length → wErr (ws.getD j []) n 60 = 0) : sErr ws n = 0 := by
  unfold sErr
  rw [if_neg hg, firstOf_none (f := fun i => nz (wErr (ws.getD i []) n 60)) (fun j hj => by unfold nz; rw [if_pos (hJ j hj)])]; rfl

theorem sErr_some {ws : List (List Int)} {n : Int} {k : Nat} (hg : ¬ 2000 < ws.length) (hJ : ∀ j, j < k → wErr (ws.getD j []) n 60 = 0) (hk : k < ws.length) (he : ¬ wErr (ws.getD k []) n 60 = 0) : sErr ws n = wErr (ws.getD k []) n 60 := by
  unfold sErr
  rw [if_neg hg, firstOf_some (f := fun i => nz (wErr (ws.getD i []) n 60)) (fun j hj => by unfold nz; rw [if_pos (hJ j hj)]) hk (by unfold nz; exact if_neg he)]; rfl

def stAt (l : List St) (f n : Int) (i : Nat) : Option Nat := if (l.getD i dst).fr = f ∧ (l.getD i dst).inp = n then some i else none

def stepAt (l : List St) (f n : Int) : Option Nat := firstOf (stAt l f n) l.length

def takenI (l : List St) : Int → List Int → List Nat
  | _, [] => []
  | f, n :: w => match stepAt l f n with | none => [] | some k => k :: takenI l (l.getD k dst).to w

theorem stepAt_lt {l : List St} {f n : Int} {k : Nat} (he : stepAt l f n = some k) : k < l.length ∧ (l.getD k dst).fr = f ∧ (l.getD k dst).inp = n := by
  obtain ⟨j, hj, hs⟩ := firstOf_is he
  unfold stAt at hs
  split at hs
  · rename_i hc; cases hs; exact ⟨hj, hc⟩
  · cases hs

def optI : Option Nat → Int | some k => (k : Int) | none => -1

theorem c81 {a : Value} {m : Mac} {f n : Int} (s : MacV h a m) : Runs Try.prog 81 [a, .int .i64 f, .int .i64 n] h (.int .i64 (optI (stepAt m.steps f n))) h := by
  refine DetP.forget rfl ?_
  refine w81 ?_
  unfold n81
  obtain ⟨o, l, c, rfl, ss⟩ := s
  have lt := ss.lt
  rw [box36]
  refine ok_i rfl ?_
  have p1 := pre_new h [.int .i64 m.states, .int .i64 m.inputs, .int .i64 m.outputs, .int .i64 m.start, .slice o l c] 5
  have hb1 := newArr_get h [.int .i64 m.states, .int .i64 m.inputs, .int .i64 m.outputs, .int .i64 m.start, .slice o l c] 5
  have ss1 := ss.mono (Sub.of_pre p1)
  generalize newArr h [.int .i64 m.states, .int .i64 m.inputs, .int .i64 m.outputs, .int .i64 m.start, .slice o l c] 5 = g1 at p1 hb1 ss1 ⊢
  with_reducible (refine mv_i ?_; refine mv_i ?_)
  refine loop1 m.steps.length (fun k h2 => g1 = h2 ∧ ∀ j, j < k → stAt m.steps f n j = none) ⟨rfl, fun j hj => by omega⟩ ?_
  rintro k _ _ hk ⟨rfl, hJ⟩
  with_reducible (refine mv_i ?_; refine vk_i (fa36_4 _) ?_; refine ld5_4 r34 (by assumption) ?_)
  refine len_i t34 ss1 ?_
  refine lss_i (fun hlt => ?_) (fun hge => ?_)
  · have hk2 : k < m.steps.length := by omega
    have next : stAt m.steps f n k = none → ∀ j, j < k + 1 → stAt m.steps f n j = none := fun e j hj => by
      by_cases q : j = k
      · subst q; exact e
      · exact hJ j (by omega)
    with_reducible (refine cnd_t ?_; refine vk_i (fa36_4 _) ?_; refine ld5_4 r34 (by assumption) ?_; refine mv_i ?_)
    refine idx_i (k := k) t34 ss1 hk2 ?_
    with_reducible (refine fae_i st63 (by assumption) (by omega) (by omega) ?_; refine ldf_i st63 (by assumption) (by omega) (by omega) dst ?_; refine mv_i ?_)
    refine eql_i (fun he => ?_) (fun he => ?_)
    · with_reducible (refine mv_i ?_; refine gd_tt ?_; refine vk_i (fa36_4 _) ?_; refine gd_tt ?_; refine ld5_4 r34 (by assumption) ?_; refine gd_tt ?_; refine mv_i ?_; refine gd_tt ?_)
      refine idx_i (k := k) t34 ss1 hk2 ?_
      with_reducible (refine gd_tt ?_; refine fae_i st63 (by assumption) (by omega) (by omega) ?_; refine gd_tt ?_; refine ldf_i st63 (by assumption) (by omega) (by omega) dst ?_; refine gd_tt ?_; refine mv_i ?_; refine gd_tt ?_)
      refine eql_i (fun he2 => ?_) (fun he2 => ?_)
      · with_reducible (refine pick_t ?_; refine cnd_t ?_; refine mv_i ?_; refine mv_i ?_; refine ret1 ?_)
        refine ⟨?_, p1⟩
        unfold stepAt
        rw [firstOf_some hJ hk2 (e := k) (by unfold stAt; exact if_pos ⟨he, he2⟩)]; rfl
      · with_reducible (refine pick_t ?_; refine cnd_f ?_; refine mv_i ?_)
        refine inc_i (by omega) ?_
        with_reducible (refine mv_i ?_)
        exact next1 hk2 ⟨rfl, next (by unfold stAt; exact if_neg fun h => he2 h.2)⟩
    · with_reducible (refine mv_i ?_; refine gd_ft ?_; refine gd_ft ?_; refine gd_ft ?_; refine gd_ft ?_; refine gd_ft ?_; refine gd_ft ?_; refine gd_ft ?_; refine gd_ft ?_; refine pick_f ?_; refine cnd_f ?_; refine mv_i ?_)
      refine inc_i (by omega) ?_
      with_reducible (refine mv_i ?_)
      exact next1 hk2 ⟨rfl, next (by unfold stAt; exact if_neg fun h => he h.1)⟩
  · with_reducible (refine cnd_f ?_; refine mv_i ?_; refine ret1 ?_)
    refine ⟨?_, p1⟩
    unfold stepAt
    rw [firstOf_none (fun j hj => hJ j (by omega))]; rfl

inductive Walk (l : List St) : Int → List Int → List Nat → Int → Prop
  | nil (f : Int) : Walk l f [] [] f
  | snoc {f g : Int} {w : List Int} {ks : List Nat} {n : Int} {k : Nat} (h : Walk l f w ks g) (hs : stepAt l g n = some k) : Walk l f (w ++ [n]) (ks ++ [k]) (l.getD k dst).to

theorem Walk.rest {l : List St} {f g : Int} {w : List Int} {ks : List Nat} (h : Walk l f w ks g) : ∀ v, takenI l f (w ++ v) = ks ++ takenI l g v := by
  induction h with
  | nil => intro v; rfl
  | snoc h hs ih =>
    intro v
    rw [List.append_assoc, ih]
    simp only [List.singleton_append, takenI, hs, List.append_assoc]

theorem Walk.length {l : List St} {f g : Int} {w : List Int} {ks : List Nat} (h : Walk l f w ks g) : ks.length = w.length := by
  induction h with
  | nil => rfl
  | snoc h hs ih => simp [ih]

theorem c46 {a b : Value} {m : Mac} {f : Int} {w : List Int} (s : MacV h a m) (sw : IntS h b w) (hw : w.length ≤ 2 ^ 40) :
    DetP Try.prog 46 [a, .int .i64 f, b] h fun v h' => h <+: h' ∧ Only h h' fun g => IntS g v ((takenI m.steps f w).map fun k : Nat => (k : Int)) := by
  refine w46 ?_
  unfold n46
  obtain ⟨o, l, c, rfl, ss⟩ := s
  have lt := ss.lt
  rw [box36]
  refine ok_i rfl ?_
  have p1 := pre_new h [.int .i64 m.states, .int .i64 m.inputs, .int .i64 m.outputs, .int .i64 m.start, .slice o l c] 5
  have hb1 := newArr_get h [.int .i64 m.states, .int .i64 m.inputs, .int .i64 m.outputs, .int .i64 m.start, .slice o l c] 5
  have ss1 := ss.mono (Sub.of_pre p1)
  have sw1 := sw.mono (Sub.of_pre p1)
  generalize newArr h [.int .i64 m.states, .int .i64 m.inputs, .int .i64 m.outputs, .int .i64 m.start, .slice o l c] 5 = g1 at p1 hb1 ss1 sw1 ⊢
  with_reducible (refine mv_i ?_; refine mv_i ?_; refine mv_i ?_)
  refine loop3 w.length (fun k fv v h2 => ∃ (ks : List Nat) (g : Int), fv = .int .i64 g ∧ Walk m.steps f (w.take k) ks g ∧ Own 1 g1 h2 v k ((ks.map fun k : Nat => (k : Int)).map (.int .i64))) ⟨[], f, rfl, .nil f, Own.nil 1 (List.prefix_refl _)⟩ ?_
  rintro k _ v h2 _ hk ⟨ks, g, rfl, hwk, ow⟩
  have ss2 := ss1.mono (Sub.of_pre ow.pre)
  have sw2 := sw1.mono (Sub.of_pre ow.pre)
  have hb2 := (Sub.of_pre ow.pre).2 _ _ hb1
  have hkl := hwk.length
  rw [List.length_take] at hkl
  have hres : ∀ (r : List Nat), takenI m.steps f w = r → r = ks → Only h h2 fun g => IntS g v (r.map fun k : Nat => (k : Int)) := by
    intro r _ e
    subst e
    intro q hq
    have := ow.only q fun j a hj e => hq j a (Nat.le_trans p1.length_le hj) e
    have e2 : k = ((r.map fun k : Nat => (k : Int))).length := by simp; omega
    rw [e2] at this
    exact this
  with_reducible (refine mv_i ?_; refine mv_i ?_)
  refine leni_i t23 sw2 ?_
  refine lss_i (fun hlt => ?_) (fun hge => ?_)
  · have hk2 : k < w.length := by omega
    have hrest := hwk.rest (w.drop k)
    rw [List.take_append_drop, drop_cons' hk2] at hrest
    have mv2 : MacV h2 (.agg #[.int .i64 m.states, .int .i64 m.inputs, .int .i64 m.outputs, .int .i64 m.start, .slice o l c]) m := macv_of ss2
    with_reducible (refine cnd_t ?_)
    refine vk_i (ld36 hb2) ?_
    refine ⟨?_, ?_⟩
    · intro x hx
      simp at hx
      rcases hx with rfl | rfl | rfl | rfl | rfl
      · trivial
      · trivial
      · trivial
      · trivial
      · rcases ss2.2 with ⟨oo, cc, e, e2, _⟩ | ⟨i, oo, cc, a, e, e1, _⟩
        · cases e
          cases oo with
          | none => trivial
          | some p => exact e2 p rfl
        · cases e
          exact (List.getElem?_eq_some_iff.mp e1).1
    with_reducible (refine mv_i ?_; refine mv_i ?_; refine mv_i ?_)
    refine idxi_i (k := k) t23 sw2 hk2 ?_
    refine ldi_i (k := k) t23 r3 sw2 hk2 ?_
    refine ⟨trivial, ?_⟩
    refine calld_r (c81 mv2) ⟨⟨[], by simp⟩, ?_⟩
    with_reducible (refine mv_i ?_; refine mv_i ?_)
    cases hst : stepAt m.steps g (w.getD k 0) with
    | none =>
      refine eql_i (fun _ => ?_) (fun hne => absurd rfl hne)
      with_reducible (refine cnd_t ?_; refine mv_i ?_; refine mv_i ?_; refine ret1 ?_)
      have e : takenI m.steps f w = ks := by rw [hrest]; simp only [takenI, hst, List.append_nil]
      rw [e]
      exact ⟨p1.trans ow.pre, hres ks e rfl⟩
    | some j =>
      obtain ⟨hj, _⟩ := stepAt_lt hst
      refine eql_i (fun he => absurd he (by simp only [optI]; omega)) (fun _ => ?_)
      with_reducible (refine cnd_f ?_; refine mv_i ?_; refine mv_i ?_)
      simp only [optI]
      refine ok_i (bs23_1 _ _) ?_
      obtain ⟨o4, _⟩ := ow.ext (pre_new h2 [.int .i64 (j : Int)] 1)
      refine app_i t23 o4 (Seg.new (n := 1) 2 (by simp) (by omega)) (by simp [Value.oneCell']) (by omega) ⟨by omega, by omega⟩ fun v' h' o5 _ => ?_
      have hb5 := (Sub.of_pre o5.pre).2 _ _ hb1
      have ss5 := ss1.mono (Sub.of_pre o5.pre)
      with_reducible (refine mv_i ?_; refine vk_i (fa36_4 _) ?_; refine ld5_4 r34 (by assumption) ?_; refine mv_i ?_)
      refine idx_i (k := j) t34 ss5 hj ?_
      with_reducible (refine fae_i st63 (by assumption) (by omega) (by omega) ?_; refine ldf_i st63 (by assumption) (by omega) (by omega) dst ?_; refine mv_i ?_; refine mv_i ?_)
      refine inc_i (by omega) ?_
      with_reducible (refine mv_i ?_)
      refine next3 hk2 ⟨ks ++ [j], _, rfl, ?_, ?_⟩
      · rw [take_gd 0 hk2]
        exact .snoc hwk hst
      · simpa using o5
  · have ek : k = w.length := by omega
    subst ek
    have hrest := hwk.rest []
    rw [List.take_of_length_le (Nat.le_refl _)] at hrest
    with_reducible (refine cnd_f ?_; refine mv_i ?_; refine mv_i ?_; refine ret1 ?_)
    have e : takenI m.steps f w = ks := by simpa [takenI] using hrest
    rw [e]
    exact ⟨p1.trans ow.pre, hres ks e rfl⟩

theorem takenI_lt {l : List St} : ∀ (w : List Int) (f : Int), ∀ k ∈ takenI l f w, k < l.length
  | [], f, k, h => by simp [takenI] at h
  | n :: w, f, k, h => by
    simp only [takenI] at h
    split at h
    · cases h
    · rename_i j hj
      rcases List.mem_cons.mp h with rfl | h
      · exact (stepAt_lt hj).1
      · exact takenI_lt w _ k h

theorem takenI_len {l : List St} : ∀ (w : List Int) (f : Int), (takenI l f w).length ≤ w.length
  | [], f => by simp [takenI]
  | n :: w, f => by
    simp only [takenI]
    split
    · simp
    · simp; exact takenI_len w _

def outsOf (m : Mac) (f : Int) (w : List Int) : List Int := (takenI m.steps f w).map fun k => (m.steps.getD k dst).out

def stsOf (m : Mac) (f : Int) (w : List Int) : List Int := (takenI m.steps f w).map fun k => (m.steps.getD k dst).to

theorem ltKey_trans {a b c : St} (h1 : ltKey a b = true) (h2 : ltKey b c = true) : ltKey a c = true := by
  unfold ltKey at *
  simp only [decide_eq_true_eq] at *
  omega

structure Right (m : Mac) : Prop where
  head : mHead m = true
  few : (m.steps.length : Int) ≤ m.states * m.inputs
  ok : ∀ k, k < m.steps.length → okSt m (m.steps.getD k dst) = true
  lt : ∀ j k, j < k → k < m.steps.length → ltKey (m.steps.getD j dst) (m.steps.getD k dst) = true

theorem right_of {m : Mac} (he : (mErr m).2 = 0) : Right m := by
  unfold mErr at he
  split at he
  · simp at he
  · rename_i hh
    split at he
    · simp at he
    · rename_i hg
      have hn : firstOf (mAt m) m.steps.length = none := by
        cases hf : firstOf (mAt m) m.steps.length with
        | none => rfl
        | some e =>
          exfalso
          rw [hf] at he
          obtain ⟨k, _, hk⟩ := firstOf_is hf
          unfold mAt at hk
          split at hk
          · cases hk; simp at he
          · split at hk
            · cases hk; simp at he
            · cases hk
      have hat := firstOf_not hn
      have hok : ∀ k, k < m.steps.length → okSt m (m.steps.getD k dst) = true ∧ (0 < k → ltKey (m.steps.getD (k - 1) dst) (m.steps.getD k dst) = true) := by
        intro k hk
        have := hat k hk
        unfold mAt at this
        split at this
        · cases this
        · rename_i h1
          split at this
          · cases this
          · rename_i h2
            refine ⟨by simpa using h1, fun h0 => ?_⟩
            cases q : ltKey (m.steps.getD (k - 1) dst) (m.steps.getD k dst) with
            | true => rfl
            | false => exact absurd ⟨h0, q⟩ h2
      refine ⟨by simpa using hh, by omega, fun k hk => (hok k hk).1, ?_⟩
      intro j k
      induction k with
      | zero => intro h; omega
      | succ k ih =>
        intro hjk hk
        have h1 := (hok (k + 1) hk).2 (by omega)
        simp only [Nat.add_sub_cancel] at h1
        by_cases e : j = k
        · subst e; exact h1
        · exact ltKey_trans (ih (by omega) (by omega)) h1

theorem mErr_zero {m : Mac} (he : (mErr m).2 = 0) : mErr m = (0, 0) := by
  unfold mErr at he ⊢
  split at he
  · simp at he
  · rename_i hh
    split at he
    · simp at he
    · rename_i hg
      rw [if_neg hh, if_neg hg]
      cases hf : firstOf (mAt m) m.steps.length with
      | none => rfl
      | some e =>
        exfalso
        rw [hf] at he
        obtain ⟨k, _, hk⟩ := firstOf_is hf
        unfold mAt at hk
        split at hk
        · cases hk; simp at he
        · split at hk
          · cases hk; simp at he
          · cases hk

theorem Right.bounds {m : Mac} (r : Right m) : 1 ≤ m.states ∧ m.states ≤ 40 ∧ 1 ≤ m.inputs ∧ m.inputs ≤ 8 ∧ 0 ≤ m.start ∧ m.start < m.states := by
  have := r.head
  simp only [mHead, inR, Bool.and_eq_true, decide_eq_true_eq] at this
  omega

theorem Right.st {m : Mac} (r : Right m) {k : Nat} (hk : k < m.steps.length) : 0 ≤ (m.steps.getD k dst).fr ∧ (m.steps.getD k dst).fr < m.states ∧ 0 ≤ (m.steps.getD k dst).to ∧ (m.steps.getD k dst).to < m.states ∧
    0 ≤ (m.steps.getD k dst).inp ∧ (m.steps.getD k dst).inp < m.inputs := by
  have := r.ok k hk
  simp only [okSt, inR, Bool.and_eq_true, decide_eq_true_eq] at this
  omega

theorem Right.key {m : Mac} (r : Right m) {j k : Nat} (hj : j < k) (hk : k < m.steps.length) : ¬ ((m.steps.getD j dst).fr = (m.steps.getD k dst).fr ∧ (m.steps.getD j dst).inp = (m.steps.getD k dst).inp) := by
  have := r.lt j k hj hk
  unfold ltKey at this
  simp only [decide_eq_true_eq] at this
  omega

def stepTo (l : List St) (k : Nat) (f n : Int) : Option Nat := firstOf (stAt l f n) k

theorem stepTo_succ (l : List St) (k : Nat) (f n : Int) : stepTo l (k + 1) f n = (stepTo l k f n).or (stAt l f n k) := firstOf_succ _ _

def cellP (N S : Nat) (l : List St) (k : Nat) (f n : Nat) : Value := match stepTo l k (f : Int) (n : Int) with | none => .pointer none | some j => .pointer (some ⟨N + 2 + S + j, 0, none⟩)

structure TInv (h : Heap) (N S I : Nat) (l : List St) (box : Arr) (k : Nat) (h2 : Heap) : Prop where
  len : h2.length = N + 2 + S + k
  pre : h <+: h2
  bx : h2[N]? = some (.arr box)
  tb : h2[N + 1]? = some (.arr ⟨(List.range S).map fun f => .slice (some ⟨N + 2 + f, 0, none⟩) I (I + 1), 1, false⟩)
  rw : ∀ f, f < S → h2[N + 2 + f]? = some (.arr ⟨(List.range I).map fun n => cellP N S l k f n, 1, false⟩)
  ob : ∀ j, j < k → h2[N + 2 + S + j]? = some (.arr ⟨(l.getD j dst).cells, 4, false⟩)

structure PInv (h : Heap) (N S I : Nat) (box : Arr) (i : Nat) (h2 : Heap) : Prop where
  len : h2.length = N + 2 + i
  pre : h <+: h2
  bx : h2[N]? = some (.arr box)
  tb : h2[N + 1]? = some (.arr ⟨(List.range S).map fun f => if f < i then .slice (some ⟨N + 2 + f, 0, none⟩) I (I + 1) else .slice none 0 0, 1, false⟩)
  rw : ∀ f, f < i → h2[N + 2 + f]? = some (.arr ⟨List.replicate I (.pointer none), 1, false⟩)

theorem set_ne {i j : Nat} {x : Ob} {g : Heap} (hne : i ≠ j) : (g.set i x)[j]? = g[j]? := List.getElem?_set_ne hne

theorem app_at {g : Heap} {cs : List Value} {z j : Nat} (hj : j < g.length) : (newArr g cs z)[j]? = g[j]? := by unfold newArr; rw [List.getElem?_append_left hj]

theorem range_set {S i : Nat} (f g : Nat → Value) (hi : i < S) (hg : ∀ k, k ≠ i → g k = f k) : ((List.range S).map f).set i (g i) = (List.range S).map g := by
  refine List.ext_getElem? fun k => ?_
  rw [List.getElem?_set]
  by_cases e : i = k
  · subst e; simp [hi]
  · rw [if_neg e]
    simp only [List.getElem?_map]
    cases hk : (List.range S)[k]? with
    | none => rfl
    | some y =>
      obtain ⟨hlt, rfl⟩ := List.getElem?_eq_some_iff.mp hk
      simp only [List.getElem_range, Option.map_some]
      rw [hg k (Ne.symm e)]

def tabV (N S : Nat) : Value := .slice (some ⟨N + 1, 0, none⟩) S (S + 1)

theorem seg_range {g : Heap} {i S c : Nat} {f : Nat → Value} (hi : g[i]? = some (.arr ⟨(List.range S).map f, 1, false⟩)) (hb : S ≤ 2 ^ 50) : Seg 1 g (.slice (some ⟨i, 0, none⟩) S c) S ((List.range S).map f) :=
  ⟨⟨by simp, hb⟩, .inr ⟨i, 0, c, _, rfl, hi, rfl, by simp, by rw [List.drop_zero, List.take_of_length_le (by simp)]⟩⟩

theorem vb_mac {m : Mac} {o : Option Addr} {l c : Nat} (s : StepsS h (.slice o l c) m.steps) : VB h.length (.agg #[.int .i64 m.states, .int .i64 m.inputs, .int .i64 m.outputs, .int .i64 m.start, .slice o l c]) := by
  intro x hx
  simp at hx
  rcases hx with rfl | rfl | rfl | rfl | rfl
  · trivial
  · trivial
  · trivial
  · trivial
  · rcases s.2 with ⟨oo, cc, e, e2, _⟩ | ⟨i, oo, cc, a, e, e1, _⟩
    · cases e
      cases oo with
      | none => trivial
      | some p => exact e2 p rfl
    · cases e
      exact (List.getElem?_eq_some_iff.mp e1).1

theorem stepAt_to (l : List St) (f n : Int) : stepTo l l.length f n = stepAt l f n := rfl

theorem w_in {w : List Int} {n : Int} (hz : wErr w n 60 = 0) : w.length ≤ 60 ∧ ∀ k, k < w.length → inR (w.getD k 0) 0 (pm n) = true := by
  unfold wErr at hz
  split at hz
  · cases hz
  · split at hz
    · rename_i h1 h2
      refine ⟨by omega, fun k hk => ?_⟩
      rw [List.all_eq_true] at h2
      exact h2 _ (gd_mem 0 hk)
    · cases hz

theorem al36 (h : Heap) : aAlloc Try.prog 24 h = some (.pointer (some ⟨h.length, 0, none⟩), newArr h [.int .i64 0, .int .i64 0, .int .i64 0, .int .i64 0, .slice none 0 0] 5) := by kernel_rfl

theorem bs34_0 (h : Heap) : aBuildSlice Try.prog 22 0 [] h = some (.slice (some ⟨h.length, 0, none⟩) 0 1, newArr h [] 4) := by kernel_rfl

theorem s34 : szOf Try.prog 22 = some 1 := by kernel_rfl

theorem sto36 {g : Heap} {i : Nat} {a b c d e a' b' c' d' : Value} {o : Option Addr} {l k : Nat} (hi : g[i]? = some (.arr ⟨[a, b, c, d, e], 5, false⟩)) {x1 x2 x3 x4 : Int} (h1 : a' = .int .i64 x1) (h2 : b' = .int .i64 x2) (h3 : c' = .int .i64 x3) (h4 : d' = .int .i64 x4) :
    aStore Try.prog 24 (.pointer (some ⟨i, 0, none⟩)) (.agg #[a', b', c', d', .slice o l k]) g = some (g.set i (.arr ⟨[a', b', c', d', .slice o l k], 5, false⟩)) := by
  subst h1 h2 h3 h4
  simp only [aStore, hi, sz36]
  rw [if_pos (by simp [Value.cells, Value.oneCell'])]
  rfl

theorem flat_one (l : List St) : (l.flatMap St.cells).all (·.oneCell') = true := by
  rw [List.all_eq_true]
  intro x hx
  obtain ⟨s, _, hs⟩ := List.mem_flatMap.mp hx
  simp [St.cells] at hs
  rcases hs with rfl | rfl | rfl | rfl <;> rfl

theorem c16 {a : Value} {m : Mac} (s : MacV h a m) (hl : m.steps.length ≤ 2 ^ 40) : DetP Try.prog 16 [a] h fun v h' => h <+: h' ∧ MacV h' v m := by
  refine w16 ?_
  unfold n16
  obtain ⟨o, l, c, rfl, ss⟩ := s
  rw [box36]
  refine ok_i rfl ?_
  have p1 := pre_new h [.int .i64 m.states, .int .i64 m.inputs, .int .i64 m.outputs, .int .i64 m.start, .slice o l c] 5
  have hb1 := newArr_get h [.int .i64 m.states, .int .i64 m.inputs, .int .i64 m.outputs, .int .i64 m.start, .slice o l c] 5
  have L1 := newArr_length h [.int .i64 m.states, .int .i64 m.inputs, .int .i64 m.outputs, .int .i64 m.start, .slice o l c] 5
  generalize newArr h [.int .i64 m.states, .int .i64 m.inputs, .int .i64 m.outputs, .int .i64 m.start, .slice o l c] 5 = g1 at p1 hb1 L1 ⊢
  refine ok_i (al36 _) ?_
  have p2 := pre_new g1 [.int .i64 0, .int .i64 0, .int .i64 0, .int .i64 0, .slice none 0 0] 5
  have hb2 := newArr_get g1 [.int .i64 0, .int .i64 0, .int .i64 0, .int .i64 0, .slice none 0 0] 5
  have L2 := newArr_length g1 [.int .i64 0, .int .i64 0, .int .i64 0, .int .i64 0, .slice none 0 0] 5
  generalize newArr g1 [.int .i64 0, .int .i64 0, .int .i64 0, .int .i64 0, .slice none 0 0] 5 = g2 at p2 hb2 L2 ⊢
  refine ok_i (bs34_0 _) ?_
  have p3 := pre_new g2 [] 4
  have hb3 := newArr_get g2 [] 4
  have L3 := newArr_length g2 [] 4
  generalize newArr g2 [] 4 = g3 at p3 hb3 L3 ⊢
  have p13 := (p1.trans p2).trans p3
  have h1b := (Sub.of_pre (p2.trans p3)).2 _ _ hb1
  have h2b := (Sub.of_pre p3).2 _ _ hb2
  have ss3 := ss.mono (Sub.of_pre p13)
  with_reducible (refine vk_i (fa36_4 _) ?_; refine ld5_4 r34 (by assumption) ?_)
  have happ : ∃ v6 g4, aAppend Try.prog 22 22 (.slice (some ⟨g2.length, 0, none⟩) 0 1) (.slice o l c) g3 = some (v6, g4) ∧ g3 <+: g4 ∧ StepsS g4 v6 m.steps ∧ ∃ o' l' c', v6 = .slice o' l' c' := by
    have e := own_app t34 g2.length ss3 (flat_one _) ⟨by omega, by omega⟩
    by_cases h0 : m.steps.length = 0
    · rw [if_pos h0] at e
      refine ⟨_, _, e, List.prefix_refl _, ⟨⟨by simp [h0, List.length_eq_zero_iff.mp h0], by omega⟩, .inl ⟨some (g2.length, 0), 1, rfl, fun p hp => ?_, h0⟩⟩, _, _, _, rfl⟩
      cases hp
      show g2.length < g3.length
      omega
    · rw [if_neg h0] at e
      refine ⟨_, _, e, pre_new _ _ _, ?_, _, _, _, rfl⟩
      exact Seg.new 0 ss3.1.1 ss3.1.2
  obtain ⟨v6, g4, eapp, p4, s6, o6, l6, cp6, rfl⟩ := happ
  refine ok_i eapp ?_
  have h1b4 := (Sub.of_pre p4).2 _ _ h1b
  have h2b4 := (Sub.of_pre p4).2 _ _ h2b
  with_reducible (refine vk_i (fa36_4 _) ?_)
  refine st_i s34 h1b4 rfl (by simp) rfl rfl ?_
  have hlt1 := (List.getElem?_eq_some_iff.mp h1b4).1
  have h1c : (g4.set h.length (.arr { (⟨[.int .i64 m.states, .int .i64 m.inputs, .int .i64 m.outputs, .int .i64 m.start, .slice o l c], 5, false⟩ : Arr) with cells := [.int .i64 m.states, .int .i64 m.inputs, .int .i64 m.outputs, .int .i64 m.start, .slice o l c].set 4 (.slice o6 l6 cp6) }))[h.length]? = some (.arr ⟨[.int .i64 m.states, .int .i64 m.inputs, .int .i64 m.outputs, .int .i64 m.start, .slice o6 l6 cp6], 5, false⟩) := by simp [hlt1]
  have k1 := KeptB.set h.length g4 (.arr { (⟨[.int .i64 m.states, .int .i64 m.inputs, .int .i64 m.outputs, .int .i64 m.start, .slice o l c], 5, false⟩ : Arr) with cells := [.int .i64 m.states, .int .i64 m.inputs, .int .i64 m.outputs, .int .i64 m.start, .slice o l c].set 4 (.slice o6 l6 cp6) })
  have p5 := pre_set (p13.trans p4) (Nat.le_refl _) (.arr { (⟨[.int .i64 m.states, .int .i64 m.inputs, .int .i64 m.outputs, .int .i64 m.start, .slice o l c], 5, false⟩ : Arr) with cells := [.int .i64 m.states, .int .i64 m.inputs, .int .i64 m.outputs, .int .i64 m.start, .slice o l c].set 4 (.slice o6 l6 cp6) })
  have s7 := s6.keep k1 h1b4 (by simp)
  have h2c := k1.2 g1.length _ (by omega) h2b4
  generalize g4.set h.length (.arr { (⟨[.int .i64 m.states, .int .i64 m.inputs, .int .i64 m.outputs, .int .i64 m.start, .slice o l c], 5, false⟩ : Arr) with cells := [.int .i64 m.states, .int .i64 m.inputs, .int .i64 m.outputs, .int .i64 m.start, .slice o l c].set 4 (.slice o6 l6 cp6) }) = g5 at h1c p5 s7 h2c ⊢
  refine vk_i (ld36 h1c) ?_
  refine ok_i (v := undef) (h' := g5.set g1.length (.arr ⟨[.int .i64 m.states, .int .i64 m.inputs, .int .i64 m.outputs, .int .i64 m.start, .slice o6 l6 cp6], 5, false⟩)) (by rw [sto36 h2c rfl rfl rfl rfl]; rfl) ?_
  have k2 := KeptB.set g1.length g5 (.arr ⟨[.int .i64 m.states, .int .i64 m.inputs, .int .i64 m.outputs, .int .i64 m.start, .slice o6 l6 cp6], 5, false⟩)
  have p6 := pre_set p5 (by omega : h.length ≤ g1.length) (.arr ⟨[.int .i64 m.states, .int .i64 m.inputs, .int .i64 m.outputs, .int .i64 m.start, .slice o6 l6 cp6], 5, false⟩)
  have s8 := s7.keep k2 h2c (by simp)
  have hlt2 := (List.getElem?_eq_some_iff.mp h2c).1
  have h2d : (g5.set g1.length (.arr ⟨[.int .i64 m.states, .int .i64 m.inputs, .int .i64 m.outputs, .int .i64 m.start, .slice o6 l6 cp6], 5, false⟩))[g1.length]? = some (.arr ⟨[.int .i64 m.states, .int .i64 m.inputs, .int .i64 m.outputs, .int .i64 m.start, .slice o6 l6 cp6], 5, false⟩) := by simp [hlt2]
  rw [ld36 h2d]
  refine ret1 ?_
  exact ⟨p6, macv_of s8⟩

theorem c36 {a b : Value} {xs ys : List (List Int)} (s : RowsS h a xs) (s2 : RowsS h b ys) : Runs Try.prog 36 [a, b] h (.bool (decide (xs = ys))) h := by
  have lt := s.lt
  have lt2 := s2.lt
  refine DetP.runs (w36 ?_)
  unfold n36
  with_reducible (refine mv_i ?_; refine mv_i ?_)
  refine lenr_i t22 s ?_
  with_reducible (refine mv_i ?_)
  refine lenr_i t22 s2 ?_
  refine neq_i (fun hl => ?_) (fun hl => ?_)
  · with_reducible (refine cnd_f ?_; refine mv_i ?_)
    refine loop1 xs.length (fun k h2 => h2 = h ∧ ∀ j, j < k → xs.getD j [] = ys.getD j []) ⟨rfl, fun j hj => by omega⟩ ?_
    rintro k _ _ hk ⟨rfl, hJ⟩
    with_reducible (refine mv_i ?_; refine mv_i ?_)
    refine lenr_i t22 s ?_
    refine lss_i (fun hlt => ?_) (fun hge => ?_)
    · with_reducible (refine cnd_t ?_; refine mv_i ?_; refine mv_i ?_)
      refine idxr_i (k := k) t22 s (by omega) ?_
      refine ldr_i (k := k) t22 r23 s (by omega) fun r hr => ?_
      refine ⟨seg_vb hr, ?_⟩
      with_reducible (refine mv_i ?_; refine mv_i ?_)
      refine idxr_i (k := k) t22 s2 (by omega) ?_
      refine ldr_i (k := k) t22 r23 s2 (by omega) fun r2 hr2 => ?_
      refine ⟨seg_vb hr2, ?_⟩
      refine calld_r (c23 hr hr2) ⟨⟨[], by simp⟩, ?_⟩
      by_cases he : xs.getD k [] = ys.getD k []
      · rw [decide_eq_true he]
        with_reducible (refine not_t ?_; refine cnd_f ?_; refine mv_i ?_)
        refine inc_i (by omega) ?_
        with_reducible (refine mv_i ?_)
        refine next1 (by omega) ⟨rfl, fun j hj => ?_⟩
        by_cases q : j = k
        · subst q; exact he
        · exact hJ j (by omega)
      · rw [decide_eq_false he]
        with_reducible (refine not_f ?_; refine cnd_t ?_; refine mv_i ?_; refine ret1 ?_)
        refine ⟨?_, rfl⟩
        have : ¬ xs = ys := fun e => he (by rw [e])
        simp [this]
    · with_reducible (refine cnd_f ?_; refine mv_i ?_; refine ret1 ?_)
      refine ⟨?_, rfl⟩
      have : xs = ys := by
        refine List.ext_getElem (by omega) fun j h1 h2 => ?_
        have := hJ j (by omega)
        rw [gd_at [] h1, gd_at [] h2] at this
        exact this
      simp [this]
  · with_reducible (refine cnd_t ?_; refine mv_i ?_; refine ret1 ?_)
    refine ⟨?_, rfl⟩
    have : ¬ xs = ys := fun e => hl (by rw [e])
    simp [this]

theorem drop_consV {row : List Value} {k : Nat} (hk : k < row.length) : row.drop k = row.getD k undef :: row.drop (k + 1) := by
  rw [gd_at undef hk]; exact List.drop_eq_getElem_cons hk

theorem sub1_i {x : Value} {xss : List (List Int)} {k : Nat} {o : Option Addr} {l : Nat} {K : Value → Heap → Prop} (s : RowsS h x xss) (hx : x = .slice o l 0) (hk : k < xss.length)
    (hK : ∀ y, RowsS h y [xss.getD k []] → K y h) : vK (aSlice Try.prog 45 x (some (.int .i64 (k : Int))) (some (.int .i64 ((k + 1 : Nat) : Int))) none h) h K := by
  obtain ⟨rs, h1, h2, h3⟩ := s
  obtain ⟨hu, hsz, _⟩ := sliceT_of t22
  have lt := h2.1.2
  rcases h2.2 with ⟨_, _, _, _, e⟩ | ⟨i, oo, c, a, rfl, e1, e2, e3, e4⟩
  · omega
  · cases hx
    simp only [Nat.mul_one] at e3 e4
    have hr := h3 k hk
    refine vk_i (v := .slice (some ⟨i, oo + k, none⟩) 1 0) ?_ (hK _ ⟨[rs.getD k undef], rfl, ⟨⟨rfl, by simp⟩, .inr ⟨i, oo + k, 0, a, rfl, e1, e2, by simp; omega, ?_⟩⟩, ?_⟩)
    · simp only [aSlice, hu, hsz, e1, e2, if_true, aBoundO, aBound, capOf]
      rw [if_pos ⟨by omega, by omega⟩]
      simp only
      rw [if_pos ⟨by omega, by omega⟩]
      simp
    · simp only [List.length_singleton, Nat.mul_one]
      rw [← List.drop_drop]
      have := congrArg (List.drop k) e4
      rw [List.drop_take] at this
      have e5 := congrArg (List.take 1) this
      rw [List.take_take, Nat.min_eq_left (by omega)] at e5
      rw [e5, drop_consV (show k < rs.length by omega)]
      rfl
    · intro j hj
      have : j = 0 := by simpa using hj
      subst this
      exact hr

end Go.Proofs.Ytdjoednhfoligaa
