import Derived.Test.YtkgdclcmfnhbmaaSpG
import Derived.Test.YtkgdclcmfnhbmaaAmV
set_option linter.unusedSimpArgs false
set_option linter.unusedVariables false
set_option maxRecDepth 100000
namespace Go.Proofs.Ytkgdclcmfnhbmaa
open Go.AM
variable {h h' h0 : Heap}


/-! ### lists copied -/
def ownV (h : Heap) (xs : List Int) : Value := if xs.length = 0 then .slice (some ⟨h.length, 0, none⟩) 0 1 else .slice (some ⟨h.length + 1, 0, none⟩) xs.length 0
def ownH (h : Heap) (xs : List Int) : Heap := if xs.length = 0 then newArr h [] 1 else newArr (newArr h [] 1) (xs.map (.int .i64)) 1
theorem ints_one (xs : List Int) : (xs.map (Value.int .i64)).all (·.oneCell') = true := by simp [Value.oneCell']
theorem ownV_slice (h : Heap) (xs : List Int) : ∃ o l c, ownV h xs = .slice o l c := by unfold ownV; split <;> exact ⟨_, _, _, rfl⟩
theorem ownH_pre (h : Heap) (xs : List Int) : h <+: ownH h xs := by
  unfold ownH
  split
  · exact pre_new _ _ _
  · exact (pre_new _ _ _).trans (pre_new _ _ _)
theorem own_only (h : Heap) {xs : List Int} (hb : xs.length ≤ 2 ^ 50) : Only h (ownH h xs) fun g => IntS g (ownV h xs) xs := by
  intro g hg
  unfold ownV
  by_cases h0 : xs.length = 0
  · rw [if_pos h0]
    refine ⟨⟨by simp, hb⟩, .inl ⟨some (h.length, 0), 1, by simp, fun p hp => ?_, h0⟩⟩
    cases hp
    have := hg h.length ⟨[], 1, false⟩ (Nat.le_refl _) (by unfold ownH; rw [if_pos h0]; exact newArr_get _ _ _)
    exact (List.getElem?_eq_some_iff.mp this).1
  · rw [if_neg h0]
    refine ⟨⟨by simp, hb⟩, .inr ⟨h.length + 1, 0, 0, ⟨xs.map (.int .i64), 1, false⟩, rfl, ?_, rfl, by simp, by rw [List.drop_zero, List.take_of_length_le (by simp)]⟩⟩
    refine hg _ _ (by omega) ?_
    unfold ownH
    rw [if_neg h0]
    have := newArr_get (newArr h [] 1) (xs.map (.int .i64)) 1
    rwa [newArr_length] at this
theorem c13 {a : Value} {xs : List Int} (s : IntS h a xs) (hb : xs.length ≤ 2 ^ 40) : Runs Try.prog 13 [a] h (ownV h xs) (ownH h xs) := by
  refine DetP.runs (w13 ?_)
  unfold n13
  (with_reducible repeat first|refine mv_i ?_|refine cnd_t ?_|refine cnd_f ?_|refine gd_tt ?_|refine gd_ff ?_|refine gd_tf ?_|refine gd_ft ?_|refine gd_u ?_|refine pick_t ?_|refine pick_f ?_|refine not_t ?_|refine not_f ?_|refine nil_i ?_|refine ret1 ?_|refine ret2 ?_|refine ret0 ?_|refine ret3 ?_|refine ex2_0 ?_|refine ex2_1 ?_|refine ex3_0 ?_|refine ex3_1 ?_|refine ex3_2 ?_)
  refine ok_i (bs23_0 _) ?_
  (with_reducible repeat first|refine mv_i ?_|refine cnd_t ?_|refine cnd_f ?_|refine gd_tt ?_|refine gd_ff ?_|refine gd_tf ?_|refine gd_ft ?_|refine gd_u ?_|refine pick_t ?_|refine pick_f ?_|refine not_t ?_|refine not_f ?_|refine nil_i ?_|refine ret1 ?_|refine ret2 ?_|refine ret0 ?_|refine ret3 ?_|refine ex2_0 ?_|refine ex2_1 ?_|refine ex3_0 ?_|refine ex3_1 ?_|refine ex3_2 ?_)
  have e := own_app t23 h.length (h := newArr h [] 1) (s.mono (Sub.of_pre (pre_new _ _ _))) (ints_one xs) ⟨by omega, by omega⟩
  by_cases h0 : xs.length = 0
  · rw [if_pos h0] at e
    refine ok_i e ?_
    (with_reducible repeat first|refine mv_i ?_|refine cnd_t ?_|refine cnd_f ?_|refine gd_tt ?_|refine gd_ff ?_|refine gd_tf ?_|refine gd_ft ?_|refine gd_u ?_|refine pick_t ?_|refine pick_f ?_|refine not_t ?_|refine not_f ?_|refine nil_i ?_|refine ret1 ?_|refine ret2 ?_|refine ret0 ?_|refine ret3 ?_|refine ex2_0 ?_|refine ex2_1 ?_|refine ex3_0 ?_|refine ex3_1 ?_|refine ex3_2 ?_)
    unfold ownV ownH
    rw [if_pos h0, if_pos h0]
    exact ⟨rfl, rfl⟩
  · rw [if_neg h0] at e
    refine ok_i e ?_
    (with_reducible repeat first|refine mv_i ?_|refine cnd_t ?_|refine cnd_f ?_|refine gd_tt ?_|refine gd_ff ?_|refine gd_tf ?_|refine gd_ft ?_|refine gd_u ?_|refine pick_t ?_|refine pick_f ?_|refine not_t ?_|refine not_f ?_|refine nil_i ?_|refine ret1 ?_|refine ret2 ?_|refine ret0 ?_|refine ret3 ?_|refine ex2_0 ?_|refine ex2_1 ?_|refine ex3_0 ?_|refine ex3_1 ?_|refine ex3_2 ?_)
    unfold ownV ownH
    rw [if_neg h0, if_neg h0, newArr_length]
    exact ⟨rfl, rfl⟩
/-- Lists that are not too long. -/
def Few (xss : List (List Int)) : Prop := xss.length ≤ 2 ^ 40 ∧ ∀ xs ∈ xss, xs.length ≤ 2 ^ 40
def RowsK (g : Heap) (rs : List Value) (k : Nat) (xss : List (List Int)) : Prop := ∀ j, j < k → (rs.getD j undef).oneCell' = true ∧ IntS g (rs.getD j undef) (xss.getD j [])
theorem RowsK.mono {g g' : Heap} {rs : List Value} {k : Nat} {xss : List (List Int)} (r : RowsK g rs k xss) (hs : Sub g g') : RowsK g' rs k xss := fun j hj => ⟨(r j hj).1, (r j hj).2.mono hs⟩
theorem c12 {a : Value} {xss : List (List Int)} (s : RowsS h a xss) (hf : Few xss) : DetP Try.prog 12 [a] h fun v h' => h <+: h' ∧ RowsS h' v xss ∧ ∃ o l, v = .slice o l 0 := by
  have lt := s.lt
  refine w12 ?_
  unfold n12
  (with_reducible repeat first|refine mv_i ?_|refine cnd_t ?_|refine cnd_f ?_|refine gd_tt ?_|refine gd_ff ?_|refine gd_tf ?_|refine gd_ft ?_|refine gd_u ?_|refine pick_t ?_|refine pick_f ?_|refine not_t ?_|refine not_f ?_|refine nil_i ?_|refine ret1 ?_|refine ret2 ?_|refine ret0 ?_|refine ret3 ?_|refine ex2_0 ?_|refine ex2_1 ?_|refine ex3_0 ?_|refine ex3_1 ?_|refine ex3_2 ?_)
  refine loop2 xss.length (fun k v h2 => ∃ rs, Own 1 h h2 v k rs ∧ RowsK (kill v h2) rs k xss) ⟨[], Own.nil 1 (List.prefix_refl _), fun j hj => by omega⟩ ?_
  rintro k v h2 _ hk ⟨rs, o, hr⟩
  have s2 := s.mono (Sub.of_pre o.pre)
  (with_reducible repeat first|refine mv_i ?_|refine cnd_t ?_|refine cnd_f ?_|refine gd_tt ?_|refine gd_ff ?_|refine gd_tf ?_|refine gd_ft ?_|refine gd_u ?_|refine pick_t ?_|refine pick_f ?_|refine not_t ?_|refine not_f ?_|refine nil_i ?_|refine ret1 ?_|refine ret2 ?_|refine ret0 ?_|refine ret3 ?_|refine ex2_0 ?_|refine ex2_1 ?_|refine ex3_0 ?_|refine ex3_1 ?_|refine ex3_2 ?_)
  (first | with_reducible refine leni_i t23 (by assumption) ?_ | with_reducible refine lenr_i t22 (by assumption) ?_ | with_reducible refine lenw_i t65 (by assumption) ?_ | with_reducible refine leni_i t94 (by assumption) ?_)
  refine lss_i (fun hlt => ?_) (fun hge => ?_)
  · (with_reducible repeat first|refine mv_i ?_|refine cnd_t ?_|refine cnd_f ?_|refine gd_tt ?_|refine gd_ff ?_|refine gd_tf ?_|refine gd_ft ?_|refine gd_u ?_|refine pick_t ?_|refine pick_f ?_|refine not_t ?_|refine not_f ?_|refine nil_i ?_|refine ret1 ?_|refine ret2 ?_|refine ret0 ?_|refine ret3 ?_|refine ex2_0 ?_|refine ex2_1 ?_|refine ex3_0 ?_|refine ex3_1 ?_|refine ex3_2 ?_)
    refine idxr_i t22 s2 (by omega) ?_
    refine ldr_i t22 r23 s2 (by omega) fun r hrow => ?_
    have hrl : (xss.getD k []).length ≤ 2 ^ 40 := hf.2 _ (gd_mem [] (by omega))
    refine call_r (c13 hrow hrl) ?_
    obtain ⟨o3, sk3⟩ := o.ext (ownH_pre h2 (xss.getD k []))
    obtain ⟨p, l, c, ev⟩ := ownV_slice h2 (xss.getD k [])
    rw [ev]
    refine ok_i (bs22_1 p l c _) ?_
    obtain ⟨o4, sk4⟩ := o3.ext (pre_new (ownH h2 (xss.getD k [])) [.slice p l c] 1)
    refine app_i t22 o4 (Seg.new (n := 1) 2 (by simp) (by omega)) (by simp [Value.oneCell']) (by omega) ⟨by have := hf.1; omega, by have := hf.1; omega⟩ fun v' h' o5 sk5 => ?_
    (with_reducible repeat first|refine mv_i ?_|refine cnd_t ?_|refine cnd_f ?_|refine gd_tt ?_|refine gd_ff ?_|refine gd_tf ?_|refine gd_ft ?_|refine gd_u ?_|refine pick_t ?_|refine pick_f ?_|refine not_t ?_|refine not_f ?_|refine nil_i ?_|refine ret1 ?_|refine ret2 ?_|refine ret0 ?_|refine ret3 ?_|refine ex2_0 ?_|refine ex2_1 ?_|refine ex3_0 ?_|refine ex3_1 ?_|refine ex3_2 ?_)
    refine inc_i (by omega) ?_
    (with_reducible repeat first|refine mv_i ?_|refine cnd_t ?_|refine cnd_f ?_|refine gd_tt ?_|refine gd_ff ?_|refine gd_tf ?_|refine gd_ft ?_|refine gd_u ?_|refine pick_t ?_|refine pick_f ?_|refine not_t ?_|refine not_f ?_|refine nil_i ?_|refine ret1 ?_|refine ret2 ?_|refine ret0 ?_|refine ret3 ?_|refine ex2_0 ?_|refine ex2_1 ?_|refine ex3_0 ?_|refine ex3_1 ?_|refine ex3_2 ?_)
    refine next2 (by omega) ⟨_, o5, fun j hj => ?_⟩
    have hlen : rs.length = k := by have := o.1.1; omega
    by_cases q : j = k
    · subst q
      have e : (rs ++ [Value.slice p l c]).getD j undef = .slice p l c := by rw [getD_append_right (by omega), hlen, Nat.sub_self]; rfl
      rw [e]
      refine ⟨rfl, ?_⟩
      have := o.kill (own_only h2 (xs := xss.getD j []) (by omega))
      rw [ev] at this
      exact (this.mono sk4).mono sk5
    · rw [getD_append_left (by omega)]
      obtain ⟨q1, q2⟩ := hr j (by omega)
      exact ⟨q1, ((q2.mono sk3).mono sk4).mono sk5⟩
  · (with_reducible repeat first|refine mv_i ?_|refine cnd_t ?_|refine cnd_f ?_|refine gd_tt ?_|refine gd_ff ?_|refine gd_tf ?_|refine gd_ft ?_|refine gd_u ?_|refine pick_t ?_|refine pick_f ?_|refine not_t ?_|refine not_f ?_|refine nil_i ?_|refine ret1 ?_|refine ret2 ?_|refine ret0 ?_|refine ret3 ?_|refine ex2_0 ?_|refine ex2_1 ?_|refine ex3_0 ?_|refine ex3_1 ?_|refine ex3_2 ?_)
    refine ⟨o.pre, ⟨rs, ?_, ?_, ?_⟩, ?_⟩
    rotate_left 3
    · rcases o.2.2 with ⟨rfl, _⟩ | ⟨i, rfl, _⟩ <;> exact ⟨_, _, rfl⟩
    · have := o.1.1; omega
    · have e : k = xss.length := by omega
      subst e; exact o.seg
    · intro j hj
      exact ((hr j (by omega)).2).mono (kill_sub _ _)

/-! ### words -/
def Tests (xs : List Int) : Prop := ∀ x ∈ xs, 0 ≤ x ∧ x ≤ 11
theorem Tests.lt {xs : List Int} (t : Tests xs) : bitsOf xs < 2 ^ 64 := bitsOf_lt fun x hx => by have := t x hx; omega
theorem Tests.take {xs : List Int} (t : Tests xs) (k : Nat) : Tests (xs.take k) := fun x hx => t x (List.mem_of_mem_take hx)
theorem c40 {a : Value} {xs : List Int} (s : IntS h a xs) (ht : Tests xs) : Runs Try.prog 40 [a] h (.int .u64 (bitsOf xs : Nat)) h := by
  have lt := s.lt
  refine DetP.runs (w40 ?_)
  unfold n40
  (with_reducible repeat first|refine mv_i ?_|refine cnd_t ?_|refine cnd_f ?_|refine gd_tt ?_|refine gd_ff ?_|refine gd_tf ?_|refine gd_ft ?_|refine gd_u ?_|refine pick_t ?_|refine pick_f ?_|refine not_t ?_|refine not_f ?_|refine nil_i ?_|refine ret1 ?_|refine ret2 ?_|refine ret0 ?_|refine ret3 ?_|refine ex2_0 ?_|refine ex2_1 ?_|refine ex3_0 ?_|refine ex3_1 ?_|refine ex3_2 ?_)
  (first | with_reducible refine leni_i t23 (by assumption) ?_ | with_reducible refine lenr_i t22 (by assumption) ?_ | with_reducible refine lenw_i t65 (by assumption) ?_ | with_reducible refine leni_i t94 (by assumption) ?_)
  (with_reducible repeat first|refine mv_i ?_|refine cnd_t ?_|refine cnd_f ?_|refine gd_tt ?_|refine gd_ff ?_|refine gd_tf ?_|refine gd_ft ?_|refine gd_u ?_|refine pick_t ?_|refine pick_f ?_|refine not_t ?_|refine not_f ?_|refine nil_i ?_|refine ret1 ?_|refine ret2 ?_|refine ret0 ?_|refine ret3 ?_|refine ex2_0 ?_|refine ex2_1 ?_|refine ex3_0 ?_|refine ex3_1 ?_|refine ex3_2 ?_)
  refine loop2 xs.length (fun k v h2 => h2 = h ∧ v = .int .u64 (bitsOf (xs.take k) : Nat)) ⟨rfl, by simp [bitsOf]⟩ ?_
  rintro k _ _ _ hk ⟨rfl, rfl⟩
  (with_reducible repeat first|refine mv_i ?_|refine cnd_t ?_|refine cnd_f ?_|refine gd_tt ?_|refine gd_ff ?_|refine gd_tf ?_|refine gd_ft ?_|refine gd_u ?_|refine pick_t ?_|refine pick_f ?_|refine not_t ?_|refine not_f ?_|refine nil_i ?_|refine ret1 ?_|refine ret2 ?_|refine ret0 ?_|refine ret3 ?_|refine ex2_0 ?_|refine ex2_1 ?_|refine ex3_0 ?_|refine ex3_1 ?_|refine ex3_2 ?_)
  refine lss_i (fun hlt => ?_) (fun hge => ?_)
  · have hx := ht _ (gd_mem 0 (show k < xs.length by omega))
    (with_reducible repeat first|refine mv_i ?_|refine cnd_t ?_|refine cnd_f ?_|refine gd_tt ?_|refine gd_ff ?_|refine gd_tf ?_|refine gd_ft ?_|refine gd_u ?_|refine pick_t ?_|refine pick_f ?_|refine not_t ?_|refine not_f ?_|refine nil_i ?_|refine ret1 ?_|refine ret2 ?_|refine ret0 ?_|refine ret3 ?_|refine ex2_0 ?_|refine ex2_1 ?_|refine ex3_0 ?_|refine ex3_1 ?_|refine ex3_2 ?_)
    (first | with_reducible refine idxi_i t23 (by assumption) (by omega) ?_ | with_reducible refine idxr_i t22 (by assumption) (by omega) ?_ | with_reducible refine idxw_i t65 (by assumption) (by omega) ?_ | with_reducible refine idxi_i t94 (by assumption) (by omega) ?_)
    (first | with_reducible refine ldi_i t23 r3 (by assumption) (by omega) ?_ | with_reducible refine ldr_i t22 r23 (by assumption) (by omega) ?_ | with_reducible refine ldw_i t65 r71 (by assumption) (by omega) ?_ | with_reducible refine ldi_i t94 r25 (by assumption) (by omega) ?_)
    (with_reducible repeat first|refine mv_i ?_|refine cnd_t ?_|refine cnd_f ?_|refine gd_tt ?_|refine gd_ff ?_|refine gd_tf ?_|refine gd_ft ?_|refine gd_u ?_|refine pick_t ?_|refine pick_f ?_|refine not_t ?_|refine not_f ?_|refine nil_i ?_|refine ret1 ?_|refine ret2 ?_|refine ret0 ?_|refine ret3 ?_|refine ex2_0 ?_|refine ex2_1 ?_|refine ex3_0 ?_|refine ex3_1 ?_|refine ex3_2 ?_)
    refine shl_i hx.1 (by omega) ?_
    refine or_i (ht.take k).lt (Nat.pow_lt_pow_right (by omega) (by omega)) ?_
    (with_reducible repeat first|refine mv_i ?_|refine cnd_t ?_|refine cnd_f ?_|refine gd_tt ?_|refine gd_ff ?_|refine gd_tf ?_|refine gd_ft ?_|refine gd_u ?_|refine pick_t ?_|refine pick_f ?_|refine not_t ?_|refine not_f ?_|refine nil_i ?_|refine ret1 ?_|refine ret2 ?_|refine ret0 ?_|refine ret3 ?_|refine ex2_0 ?_|refine ex2_1 ?_|refine ex3_0 ?_|refine ex3_1 ?_|refine ex3_2 ?_)
    refine inc_i (by omega) ?_
    (with_reducible repeat first|refine mv_i ?_|refine cnd_t ?_|refine cnd_f ?_|refine gd_tt ?_|refine gd_ff ?_|refine gd_tf ?_|refine gd_ft ?_|refine gd_u ?_|refine pick_t ?_|refine pick_f ?_|refine not_t ?_|refine not_f ?_|refine nil_i ?_|refine ret1 ?_|refine ret2 ?_|refine ret0 ?_|refine ret3 ?_|refine ex2_0 ?_|refine ex2_1 ?_|refine ex3_0 ?_|refine ex3_1 ?_|refine ex3_2 ?_)
    refine next2 (by omega) ⟨rfl, ?_⟩
    rw [take_gd 0 (by omega), bitsOf_snoc]
  · (with_reducible repeat first|refine mv_i ?_|refine cnd_t ?_|refine cnd_f ?_|refine gd_tt ?_|refine gd_ff ?_|refine gd_tf ?_|refine gd_ft ?_|refine gd_u ?_|refine pick_t ?_|refine pick_f ?_|refine not_t ?_|refine not_f ?_|refine nil_i ?_|refine ret1 ?_|refine ret2 ?_|refine ret0 ?_|refine ret3 ?_|refine ex2_0 ?_|refine ex2_1 ?_|refine ex3_0 ?_|refine ex3_1 ?_|refine ex3_2 ?_)
    refine ⟨?_, rfl⟩
    rw [List.take_of_length_le (by omega)]
theorem words_one (ws : List Nat) : (ws.map fun n : Nat => Value.int .u64 (n : Int)).all (·.oneCell') = true := by simp [Value.oneCell']
theorem c36 {a : Value} {xss : List (List Int)} (s : RowsS h a xss) (hf : Few xss) (ht : ∀ xs ∈ xss, Tests xs) : DetP Try.prog 36 [a] h fun v h' => h <+: h' ∧ WS h' v (xss.map bitsOf) := by
  have lt := s.lt
  refine w36 ?_
  unfold n36
  (with_reducible repeat first|refine mv_i ?_|refine cnd_t ?_|refine cnd_f ?_|refine gd_tt ?_|refine gd_ff ?_|refine gd_tf ?_|refine gd_ft ?_|refine gd_u ?_|refine pick_t ?_|refine pick_f ?_|refine not_t ?_|refine not_f ?_|refine nil_i ?_|refine ret1 ?_|refine ret2 ?_|refine ret0 ?_|refine ret3 ?_|refine ex2_0 ?_|refine ex2_1 ?_|refine ex3_0 ?_|refine ex3_1 ?_|refine ex3_2 ?_)
  (first | with_reducible refine leni_i t23 (by assumption) ?_ | with_reducible refine lenr_i t22 (by assumption) ?_ | with_reducible refine lenw_i t65 (by assumption) ?_ | with_reducible refine leni_i t94 (by assumption) ?_)
  (with_reducible repeat first|refine mv_i ?_|refine cnd_t ?_|refine cnd_f ?_|refine gd_tt ?_|refine gd_ff ?_|refine gd_tf ?_|refine gd_ft ?_|refine gd_u ?_|refine pick_t ?_|refine pick_f ?_|refine not_t ?_|refine not_f ?_|refine nil_i ?_|refine ret1 ?_|refine ret2 ?_|refine ret0 ?_|refine ret3 ?_|refine ex2_0 ?_|refine ex2_1 ?_|refine ex3_0 ?_|refine ex3_1 ?_|refine ex3_2 ?_)
  refine loop2 xss.length (fun k v h2 => Own 1 h h2 v k ((xss.take k).map fun xs => .int .u64 (bitsOf xs : Nat))) (Own.nil 1 (List.prefix_refl _)) ?_
  rintro k v h2 _ hk o
  have s2 := s.mono (Sub.of_pre o.pre)
  (with_reducible repeat first|refine mv_i ?_|refine cnd_t ?_|refine cnd_f ?_|refine gd_tt ?_|refine gd_ff ?_|refine gd_tf ?_|refine gd_ft ?_|refine gd_u ?_|refine pick_t ?_|refine pick_f ?_|refine not_t ?_|refine not_f ?_|refine nil_i ?_|refine ret1 ?_|refine ret2 ?_|refine ret0 ?_|refine ret3 ?_|refine ex2_0 ?_|refine ex2_1 ?_|refine ex3_0 ?_|refine ex3_1 ?_|refine ex3_2 ?_)
  refine lss_i (fun hlt => ?_) (fun hge => ?_)
  · (with_reducible repeat first|refine mv_i ?_|refine cnd_t ?_|refine cnd_f ?_|refine gd_tt ?_|refine gd_ff ?_|refine gd_tf ?_|refine gd_ft ?_|refine gd_u ?_|refine pick_t ?_|refine pick_f ?_|refine not_t ?_|refine not_f ?_|refine nil_i ?_|refine ret1 ?_|refine ret2 ?_|refine ret0 ?_|refine ret3 ?_|refine ex2_0 ?_|refine ex2_1 ?_|refine ex3_0 ?_|refine ex3_1 ?_|refine ex3_2 ?_)
    refine idxr_i t22 s2 (by omega) ?_
    refine ldr_i t22 r23 s2 (by omega) fun r hrow => ?_
    (with_reducible repeat first|refine mv_i ?_|refine cnd_t ?_|refine cnd_f ?_|refine gd_tt ?_|refine gd_ff ?_|refine gd_tf ?_|refine gd_ft ?_|refine gd_u ?_|refine pick_t ?_|refine pick_f ?_|refine not_t ?_|refine not_f ?_|refine nil_i ?_|refine ret1 ?_|refine ret2 ?_|refine ret0 ?_|refine ret3 ?_|refine ex2_0 ?_|refine ex2_1 ?_|refine ex3_0 ?_|refine ex3_1 ?_|refine ex3_2 ?_)
    refine call_r (c40 hrow (ht _ (gd_mem [] (by omega)))) ?_
    refine ok_i (bs65_1 _ _) ?_
    obtain ⟨o4, _⟩ := o.ext (pre_new h2 [.int .u64 (bitsOf (xss.getD k []) : Nat)] 1)
    refine app_i t65 o4 (Seg.new (n := 1) 2 (by simp) (by omega)) (by simp [Value.oneCell']) (by omega) ⟨by have := hf.1; omega, by have := hf.1; omega⟩ fun v' h' o5 _ => ?_
    (with_reducible repeat first|refine mv_i ?_|refine cnd_t ?_|refine cnd_f ?_|refine gd_tt ?_|refine gd_ff ?_|refine gd_tf ?_|refine gd_ft ?_|refine gd_u ?_|refine pick_t ?_|refine pick_f ?_|refine not_t ?_|refine not_f ?_|refine nil_i ?_|refine ret1 ?_|refine ret2 ?_|refine ret0 ?_|refine ret3 ?_|refine ex2_0 ?_|refine ex2_1 ?_|refine ex3_0 ?_|refine ex3_1 ?_|refine ex3_2 ?_)
    refine inc_i (by omega) ?_
    (with_reducible repeat first|refine mv_i ?_|refine cnd_t ?_|refine cnd_f ?_|refine gd_tt ?_|refine gd_ff ?_|refine gd_tf ?_|refine gd_ft ?_|refine gd_u ?_|refine pick_t ?_|refine pick_f ?_|refine not_t ?_|refine not_f ?_|refine nil_i ?_|refine ret1 ?_|refine ret2 ?_|refine ret0 ?_|refine ret3 ?_|refine ex2_0 ?_|refine ex2_1 ?_|refine ex3_0 ?_|refine ex3_1 ?_|refine ex3_2 ?_)
    refine next2 (by omega) ?_
    rw [take_gd [] (by omega), List.map_append]
    exact o5
  · (with_reducible repeat first|refine mv_i ?_|refine cnd_t ?_|refine cnd_f ?_|refine gd_tt ?_|refine gd_ff ?_|refine gd_tf ?_|refine gd_ft ?_|refine gd_u ?_|refine pick_t ?_|refine pick_f ?_|refine not_t ?_|refine not_f ?_|refine nil_i ?_|refine ret1 ?_|refine ret2 ?_|refine ret0 ?_|refine ret3 ?_|refine ex2_0 ?_|refine ex2_1 ?_|refine ex3_0 ?_|refine ex3_1 ?_|refine ex3_2 ?_)
    refine ⟨o.pre, ?_⟩
    have e : k = xss.length := by omega
    subst e
    have := o.seg
    rw [List.take_of_length_le (Nat.le_refl _)] at this
    unfold WS
    rw [List.length_map, List.map_map]
    exact this

/-! ### hits -/
def hits (row ts : List Int) : Bool := row.any fun x => decide (x ∈ ts)
theorem c52 {a b : Value} {row ts : List Int} (s : IntS h a row) (s2 : IntS h b ts) : Runs Try.prog 52 [a, b] h (.bool (hits row ts)) h := by
  have lt := s.lt
  refine DetP.runs (w52 ?_)
  unfold n52
  (with_reducible repeat first|refine mv_i ?_|refine cnd_t ?_|refine cnd_f ?_|refine gd_tt ?_|refine gd_ff ?_|refine gd_tf ?_|refine gd_ft ?_|refine gd_u ?_|refine pick_t ?_|refine pick_f ?_|refine not_t ?_|refine not_f ?_|refine nil_i ?_|refine ret1 ?_|refine ret2 ?_|refine ret0 ?_|refine ret3 ?_|refine ex2_0 ?_|refine ex2_1 ?_|refine ex3_0 ?_|refine ex3_1 ?_|refine ex3_2 ?_)
  refine loop1 row.length (fun k h2 => h2 = h ∧ ∀ j, j < k → ¬ row.getD j 0 ∈ ts) ⟨rfl, fun j hj => by omega⟩ ?_
  rintro k _ _ hk ⟨rfl, hJ⟩
  (with_reducible repeat first|refine mv_i ?_|refine cnd_t ?_|refine cnd_f ?_|refine gd_tt ?_|refine gd_ff ?_|refine gd_tf ?_|refine gd_ft ?_|refine gd_u ?_|refine pick_t ?_|refine pick_f ?_|refine not_t ?_|refine not_f ?_|refine nil_i ?_|refine ret1 ?_|refine ret2 ?_|refine ret0 ?_|refine ret3 ?_|refine ex2_0 ?_|refine ex2_1 ?_|refine ex3_0 ?_|refine ex3_1 ?_|refine ex3_2 ?_)
  refine leni_i t23 s ?_
  refine lss_i (fun hlt => ?_) (fun hge => ?_)
  · (with_reducible repeat first|refine mv_i ?_|refine cnd_t ?_|refine cnd_f ?_|refine gd_tt ?_|refine gd_ff ?_|refine gd_tf ?_|refine gd_ft ?_|refine gd_u ?_|refine pick_t ?_|refine pick_f ?_|refine not_t ?_|refine not_f ?_|refine nil_i ?_|refine ret1 ?_|refine ret2 ?_|refine ret0 ?_|refine ret3 ?_|refine ex2_0 ?_|refine ex2_1 ?_|refine ex3_0 ?_|refine ex3_1 ?_|refine ex3_2 ?_)
    refine idxi_i t23 s (by omega) ?_
    refine ldi_i t23 r3 s (by omega) ?_
    refine call_r (c51 s2) ?_
    refine cnd_b (fun he => ?_) (fun he => ?_)
    · (with_reducible repeat first|refine mv_i ?_|refine cnd_t ?_|refine cnd_f ?_|refine gd_tt ?_|refine gd_ff ?_|refine gd_tf ?_|refine gd_ft ?_|refine gd_u ?_|refine pick_t ?_|refine pick_f ?_|refine not_t ?_|refine not_f ?_|refine nil_i ?_|refine ret1 ?_|refine ret2 ?_|refine ret0 ?_|refine ret3 ?_|refine ex2_0 ?_|refine ex2_1 ?_|refine ex3_0 ?_|refine ex3_1 ?_|refine ex3_2 ?_)
      refine ⟨?_, rfl⟩
      have : hits row ts = true := by
        unfold hits
        exact List.any_eq_true.mpr ⟨_, gd_mem 0 (show k < row.length by omega), he⟩
      rw [this]
    · (with_reducible repeat first|refine mv_i ?_|refine cnd_t ?_|refine cnd_f ?_|refine gd_tt ?_|refine gd_ff ?_|refine gd_tf ?_|refine gd_ft ?_|refine gd_u ?_|refine pick_t ?_|refine pick_f ?_|refine not_t ?_|refine not_f ?_|refine nil_i ?_|refine ret1 ?_|refine ret2 ?_|refine ret0 ?_|refine ret3 ?_|refine ex2_0 ?_|refine ex2_1 ?_|refine ex3_0 ?_|refine ex3_1 ?_|refine ex3_2 ?_)
      refine inc_i (by omega) ?_
      (with_reducible repeat first|refine mv_i ?_|refine cnd_t ?_|refine cnd_f ?_|refine gd_tt ?_|refine gd_ff ?_|refine gd_tf ?_|refine gd_ft ?_|refine gd_u ?_|refine pick_t ?_|refine pick_f ?_|refine not_t ?_|refine not_f ?_|refine nil_i ?_|refine ret1 ?_|refine ret2 ?_|refine ret0 ?_|refine ret3 ?_|refine ex2_0 ?_|refine ex2_1 ?_|refine ex3_0 ?_|refine ex3_1 ?_|refine ex3_2 ?_)
      refine next1 (by omega) ⟨rfl, fun j hj => ?_⟩
      by_cases q : j = k
      · subst q; simpa using he
      · exact hJ j (by omega)
  · (with_reducible repeat first|refine mv_i ?_|refine cnd_t ?_|refine cnd_f ?_|refine gd_tt ?_|refine gd_ff ?_|refine gd_tf ?_|refine gd_ft ?_|refine gd_u ?_|refine pick_t ?_|refine pick_f ?_|refine not_t ?_|refine not_f ?_|refine nil_i ?_|refine ret1 ?_|refine ret2 ?_|refine ret0 ?_|refine ret3 ?_|refine ex2_0 ?_|refine ex2_1 ?_|refine ex3_0 ?_|refine ex3_1 ?_|refine ex3_2 ?_)
    refine ⟨?_, rfl⟩
    have : hits row ts = false := by
      unfold hits
      rw [List.any_eq_false]
      intro x hx
      obtain ⟨j, hj, e⟩ := mem_gd 0 hx
      have := hJ j (by omega)
      rw [e] at this
      simpa using this
    rw [this]
def isChoice (xss : List (List Int)) (ts : List Int) : Bool := xss.all fun r => hits r ts
theorem c29 {a b : Value} {xss : List (List Int)} {ts : List Int} (s : RowsS h a xss) (s2 : IntS h b ts) : Runs Try.prog 29 [a, b] h (.bool (isChoice xss ts)) h := by
  have lt := s.lt
  refine DetP.runs (w29 ?_)
  unfold n29
  (with_reducible repeat first|refine mv_i ?_|refine cnd_t ?_|refine cnd_f ?_|refine gd_tt ?_|refine gd_ff ?_|refine gd_tf ?_|refine gd_ft ?_|refine gd_u ?_|refine pick_t ?_|refine pick_f ?_|refine not_t ?_|refine not_f ?_|refine nil_i ?_|refine ret1 ?_|refine ret2 ?_|refine ret0 ?_|refine ret3 ?_|refine ex2_0 ?_|refine ex2_1 ?_|refine ex3_0 ?_|refine ex3_1 ?_|refine ex3_2 ?_)
  refine loop1 xss.length (fun k h2 => h2 = h ∧ ∀ j, j < k → hits (xss.getD j []) ts = true) ⟨rfl, fun j hj => by omega⟩ ?_
  rintro k _ _ hk ⟨rfl, hJ⟩
  (with_reducible repeat first|refine mv_i ?_|refine cnd_t ?_|refine cnd_f ?_|refine gd_tt ?_|refine gd_ff ?_|refine gd_tf ?_|refine gd_ft ?_|refine gd_u ?_|refine pick_t ?_|refine pick_f ?_|refine not_t ?_|refine not_f ?_|refine nil_i ?_|refine ret1 ?_|refine ret2 ?_|refine ret0 ?_|refine ret3 ?_|refine ex2_0 ?_|refine ex2_1 ?_|refine ex3_0 ?_|refine ex3_1 ?_|refine ex3_2 ?_)
  refine lenr_i t22 s ?_
  refine lss_i (fun hlt => ?_) (fun hge => ?_)
  · (with_reducible repeat first|refine mv_i ?_|refine cnd_t ?_|refine cnd_f ?_|refine gd_tt ?_|refine gd_ff ?_|refine gd_tf ?_|refine gd_ft ?_|refine gd_u ?_|refine pick_t ?_|refine pick_f ?_|refine not_t ?_|refine not_f ?_|refine nil_i ?_|refine ret1 ?_|refine ret2 ?_|refine ret0 ?_|refine ret3 ?_|refine ex2_0 ?_|refine ex2_1 ?_|refine ex3_0 ?_|refine ex3_1 ?_|refine ex3_2 ?_)
    refine idxr_i t22 s (by omega) ?_
    refine ldr_i t22 r23 s (by omega) fun r hrow => ?_
    (with_reducible repeat first|refine mv_i ?_|refine cnd_t ?_|refine cnd_f ?_|refine gd_tt ?_|refine gd_ff ?_|refine gd_tf ?_|refine gd_ft ?_|refine gd_u ?_|refine pick_t ?_|refine pick_f ?_|refine not_t ?_|refine not_f ?_|refine nil_i ?_|refine ret1 ?_|refine ret2 ?_|refine ret0 ?_|refine ret3 ?_|refine ex2_0 ?_|refine ex2_1 ?_|refine ex3_0 ?_|refine ex3_1 ?_|refine ex3_2 ?_)
    refine call_r (c52 hrow s2) ?_
    cases he : hits (xss.getD k []) ts with
    | true =>
      (with_reducible repeat first|refine mv_i ?_|refine cnd_t ?_|refine cnd_f ?_|refine gd_tt ?_|refine gd_ff ?_|refine gd_tf ?_|refine gd_ft ?_|refine gd_u ?_|refine pick_t ?_|refine pick_f ?_|refine not_t ?_|refine not_f ?_|refine nil_i ?_|refine ret1 ?_|refine ret2 ?_|refine ret0 ?_|refine ret3 ?_|refine ex2_0 ?_|refine ex2_1 ?_|refine ex3_0 ?_|refine ex3_1 ?_|refine ex3_2 ?_)
      refine inc_i (by omega) ?_
      (with_reducible repeat first|refine mv_i ?_|refine cnd_t ?_|refine cnd_f ?_|refine gd_tt ?_|refine gd_ff ?_|refine gd_tf ?_|refine gd_ft ?_|refine gd_u ?_|refine pick_t ?_|refine pick_f ?_|refine not_t ?_|refine not_f ?_|refine nil_i ?_|refine ret1 ?_|refine ret2 ?_|refine ret0 ?_|refine ret3 ?_|refine ex2_0 ?_|refine ex2_1 ?_|refine ex3_0 ?_|refine ex3_1 ?_|refine ex3_2 ?_)
      refine next1 (by omega) ⟨rfl, fun j hj => ?_⟩
      by_cases q : j = k
      · subst q; exact he
      · exact hJ j (by omega)
    | false =>
      (with_reducible repeat first|refine mv_i ?_|refine cnd_t ?_|refine cnd_f ?_|refine gd_tt ?_|refine gd_ff ?_|refine gd_tf ?_|refine gd_ft ?_|refine gd_u ?_|refine pick_t ?_|refine pick_f ?_|refine not_t ?_|refine not_f ?_|refine nil_i ?_|refine ret1 ?_|refine ret2 ?_|refine ret0 ?_|refine ret3 ?_|refine ex2_0 ?_|refine ex2_1 ?_|refine ex3_0 ?_|refine ex3_1 ?_|refine ex3_2 ?_)
      refine ⟨?_, rfl⟩
      have : isChoice xss ts = false := by
        unfold isChoice
        rw [List.all_eq_false]
        exact ⟨_, gd_mem [] (show k < xss.length by omega), by rw [he]; simp⟩
      rw [this]
  · (with_reducible repeat first|refine mv_i ?_|refine cnd_t ?_|refine cnd_f ?_|refine gd_tt ?_|refine gd_ff ?_|refine gd_tf ?_|refine gd_ft ?_|refine gd_u ?_|refine pick_t ?_|refine pick_f ?_|refine not_t ?_|refine not_f ?_|refine nil_i ?_|refine ret1 ?_|refine ret2 ?_|refine ret0 ?_|refine ret3 ?_|refine ex2_0 ?_|refine ex2_1 ?_|refine ex3_0 ?_|refine ex3_1 ?_|refine ex3_2 ?_)
    refine ⟨?_, rfl⟩
    have : isChoice xss ts = true := by
      unfold isChoice
      rw [List.all_eq_true]
      intro r hr
      obtain ⟨j, hj, e⟩ := mem_gd [] hr
      rw [← e]; exact hJ j (by omega)
    rw [this]
theorem c50 (b : Bool) : Runs Try.prog 50 [.bool b] h (.int .i64 (if b then 1 else 0)) h := by
  refine DetP.runs (w50 ?_)
  unfold n50
  cases b <;> (with_reducible repeat first|refine mv_i ?_|refine cnd_t ?_|refine cnd_f ?_|refine gd_tt ?_|refine gd_ff ?_|refine gd_tf ?_|refine gd_ft ?_|refine gd_u ?_|refine pick_t ?_|refine pick_f ?_|refine not_t ?_|refine not_f ?_|refine nil_i ?_|refine ret1 ?_|refine ret2 ?_|refine ret0 ?_|refine ret3 ?_|refine ex2_0 ?_|refine ex2_1 ?_|refine ex3_0 ?_|refine ex3_1 ?_|refine ex3_2 ?_) <;> exact ⟨rfl, rfl⟩
theorem c26 {a b : Value} {xs ys : List Int} (s : IntS h a xs) (s2 : IntS h b ys) : Runs Try.prog 26 [a, b] h (.bool (decide (xs = ys))) h := by
  have lt := s.lt
  have lt2 := s2.lt
  refine DetP.runs (w26 ?_)
  unfold n26
  (with_reducible repeat first|refine mv_i ?_|refine cnd_t ?_|refine cnd_f ?_|refine gd_tt ?_|refine gd_ff ?_|refine gd_tf ?_|refine gd_ft ?_|refine gd_u ?_|refine pick_t ?_|refine pick_f ?_|refine not_t ?_|refine not_f ?_|refine nil_i ?_|refine ret1 ?_|refine ret2 ?_|refine ret0 ?_|refine ret3 ?_|refine ex2_0 ?_|refine ex2_1 ?_|refine ex3_0 ?_|refine ex3_1 ?_|refine ex3_2 ?_)
  refine leni_i t23 s ?_
  (with_reducible repeat first|refine mv_i ?_|refine cnd_t ?_|refine cnd_f ?_|refine gd_tt ?_|refine gd_ff ?_|refine gd_tf ?_|refine gd_ft ?_|refine gd_u ?_|refine pick_t ?_|refine pick_f ?_|refine not_t ?_|refine not_f ?_|refine nil_i ?_|refine ret1 ?_|refine ret2 ?_|refine ret0 ?_|refine ret3 ?_|refine ex2_0 ?_|refine ex2_1 ?_|refine ex3_0 ?_|refine ex3_1 ?_|refine ex3_2 ?_)
  refine leni_i t23 s2 ?_
  refine neq_i (fun hl => ?_) (fun hl => ?_)
  · (with_reducible repeat first|refine mv_i ?_|refine cnd_t ?_|refine cnd_f ?_|refine gd_tt ?_|refine gd_ff ?_|refine gd_tf ?_|refine gd_ft ?_|refine gd_u ?_|refine pick_t ?_|refine pick_f ?_|refine not_t ?_|refine not_f ?_|refine nil_i ?_|refine ret1 ?_|refine ret2 ?_|refine ret0 ?_|refine ret3 ?_|refine ex2_0 ?_|refine ex2_1 ?_|refine ex3_0 ?_|refine ex3_1 ?_|refine ex3_2 ?_)
    refine loop1 xs.length (fun k h2 => h2 = h ∧ ∀ j, j < k → xs.getD j 0 = ys.getD j 0) ⟨rfl, fun j hj => by omega⟩ ?_
    rintro k _ _ hk ⟨rfl, hJ⟩
    (with_reducible repeat first|refine mv_i ?_|refine cnd_t ?_|refine cnd_f ?_|refine gd_tt ?_|refine gd_ff ?_|refine gd_tf ?_|refine gd_ft ?_|refine gd_u ?_|refine pick_t ?_|refine pick_f ?_|refine not_t ?_|refine not_f ?_|refine nil_i ?_|refine ret1 ?_|refine ret2 ?_|refine ret0 ?_|refine ret3 ?_|refine ex2_0 ?_|refine ex2_1 ?_|refine ex3_0 ?_|refine ex3_1 ?_|refine ex3_2 ?_)
    refine leni_i t23 s ?_
    refine lss_i (fun hlt => ?_) (fun hge => ?_)
    · (with_reducible repeat first|refine mv_i ?_|refine cnd_t ?_|refine cnd_f ?_|refine gd_tt ?_|refine gd_ff ?_|refine gd_tf ?_|refine gd_ft ?_|refine gd_u ?_|refine pick_t ?_|refine pick_f ?_|refine not_t ?_|refine not_f ?_|refine nil_i ?_|refine ret1 ?_|refine ret2 ?_|refine ret0 ?_|refine ret3 ?_|refine ex2_0 ?_|refine ex2_1 ?_|refine ex3_0 ?_|refine ex3_1 ?_|refine ex3_2 ?_)
      refine idxi_i t23 s (by omega) ?_
      refine ldi_i t23 r3 s (by omega) ?_
      refine ⟨trivial, ?_⟩
      (with_reducible repeat first|refine mv_i ?_|refine cnd_t ?_|refine cnd_f ?_|refine gd_tt ?_|refine gd_ff ?_|refine gd_tf ?_|refine gd_ft ?_|refine gd_u ?_|refine pick_t ?_|refine pick_f ?_|refine not_t ?_|refine not_f ?_|refine nil_i ?_|refine ret1 ?_|refine ret2 ?_|refine ret0 ?_|refine ret3 ?_|refine ex2_0 ?_|refine ex2_1 ?_|refine ex3_0 ?_|refine ex3_1 ?_|refine ex3_2 ?_)
      refine idxi_i (k := k) t23 s2 (by omega) ?_
      refine ldi_i (k := k) t23 r3 s2 (by omega) ?_
      refine ⟨trivial, ?_⟩
      refine neq_i (fun he => ?_) (fun he => ?_)
      · (with_reducible repeat first|refine mv_i ?_|refine cnd_t ?_|refine cnd_f ?_|refine gd_tt ?_|refine gd_ff ?_|refine gd_tf ?_|refine gd_ft ?_|refine gd_u ?_|refine pick_t ?_|refine pick_f ?_|refine not_t ?_|refine not_f ?_|refine nil_i ?_|refine ret1 ?_|refine ret2 ?_|refine ret0 ?_|refine ret3 ?_|refine ex2_0 ?_|refine ex2_1 ?_|refine ex3_0 ?_|refine ex3_1 ?_|refine ex3_2 ?_)
        refine inc_i (by omega) ?_
        (with_reducible repeat first|refine mv_i ?_|refine cnd_t ?_|refine cnd_f ?_|refine gd_tt ?_|refine gd_ff ?_|refine gd_tf ?_|refine gd_ft ?_|refine gd_u ?_|refine pick_t ?_|refine pick_f ?_|refine not_t ?_|refine not_f ?_|refine nil_i ?_|refine ret1 ?_|refine ret2 ?_|refine ret0 ?_|refine ret3 ?_|refine ex2_0 ?_|refine ex2_1 ?_|refine ex3_0 ?_|refine ex3_1 ?_|refine ex3_2 ?_)
        refine next1 (by omega) ⟨rfl, fun j hj => ?_⟩
        by_cases q : j = k
        · subst q; exact he
        · exact hJ j (by omega)
      · (with_reducible repeat first|refine mv_i ?_|refine cnd_t ?_|refine cnd_f ?_|refine gd_tt ?_|refine gd_ff ?_|refine gd_tf ?_|refine gd_ft ?_|refine gd_u ?_|refine pick_t ?_|refine pick_f ?_|refine not_t ?_|refine not_f ?_|refine nil_i ?_|refine ret1 ?_|refine ret2 ?_|refine ret0 ?_|refine ret3 ?_|refine ex2_0 ?_|refine ex2_1 ?_|refine ex3_0 ?_|refine ex3_1 ?_|refine ex3_2 ?_)
        refine ⟨?_, rfl⟩
        have : ¬ xs = ys := fun e => he (by rw [e])
        simp [this]
    · (with_reducible repeat first|refine mv_i ?_|refine cnd_t ?_|refine cnd_f ?_|refine gd_tt ?_|refine gd_ff ?_|refine gd_tf ?_|refine gd_ft ?_|refine gd_u ?_|refine pick_t ?_|refine pick_f ?_|refine not_t ?_|refine not_f ?_|refine nil_i ?_|refine ret1 ?_|refine ret2 ?_|refine ret0 ?_|refine ret3 ?_|refine ex2_0 ?_|refine ex2_1 ?_|refine ex3_0 ?_|refine ex3_1 ?_|refine ex3_2 ?_)
      refine ⟨?_, rfl⟩
      have : xs = ys := by
        refine List.ext_getElem (by omega) fun j h1 h2 => ?_
        have := hJ j (by omega)
        rw [gd_at 0 h1, gd_at 0 h2] at this
        exact this
      simp [this]
  · (with_reducible repeat first|refine mv_i ?_|refine cnd_t ?_|refine cnd_f ?_|refine gd_tt ?_|refine gd_ff ?_|refine gd_tf ?_|refine gd_ft ?_|refine gd_u ?_|refine pick_t ?_|refine pick_f ?_|refine not_t ?_|refine not_f ?_|refine nil_i ?_|refine ret1 ?_|refine ret2 ?_|refine ret0 ?_|refine ret3 ?_|refine ex2_0 ?_|refine ex2_1 ?_|refine ex3_0 ?_|refine ex3_1 ?_|refine ex3_2 ?_)
    refine ⟨?_, rfl⟩
    have : ¬ xs = ys := fun e => hl (by rw [e])
    simp [this]
end Go.Proofs.Ytkgdclcmfnhbmaa
