import Derived.Test.YtkgdclcmfnhbmaaSpH
set_option linter.unusedSimpArgs false
set_option linter.unusedVariables false
set_option maxRecDepth 100000
namespace Go.Proofs.Ytkgdclcmfnhbmaa
open Go.AM
variable {h h' h0 : Heap}

/-! ### the greedy order -/
def cntTo (xss : List (List Int)) (out : List Int) (t : Int) (k : Nat) : Nat := ((xss.take k).filter fun r => decide (t ∈ r) && !hits r out).length
def cntOf (xss : List (List Int)) (out : List Int) (t : Int) : Nat := cntTo xss out t xss.length
theorem cntTo_succ {xss : List (List Int)} {out : List Int} {t : Int} {k : Nat} (hk : k < xss.length) : cntTo xss out t (k + 1) = cntTo xss out t k + (if (decide (t ∈ xss.getD k []) && !hits (xss.getD k []) out) = true then 1 else 0) := by
  unfold cntTo
  rw [take_gd [] hk, List.filter_append, List.length_append]
  congr 1
  simp only [List.filter_cons, List.filter_nil]
  split <;> rfl
theorem cntTo_le (xss : List (List Int)) (out : List Int) (t : Int) (k : Nat) : cntTo xss out t k ≤ xss.length := by
  unfold cntTo
  exact Nat.le_trans (List.length_filter_le _ _) (by simp; omega)
def stepB (xss : List (List Int)) (out : List Int) (b : Int × Int) (t : Nat) : Int × Int := if ¬ (t : Int) ∈ out ∧ b.2 < cntOf xss out t then ((t : Int), (cntOf xss out t : Int)) else b
def bestTo (xss : List (List Int)) (out : List Int) (n : Nat) : Int × Int := (List.range n).foldl (stepB xss out) (-1, -1)
theorem bestTo_succ (xss : List (List Int)) (out : List Int) (n : Nat) : bestTo xss out (n + 1) = stepB xss out (bestTo xss out n) n := by
  unfold bestTo; rw [List.range_succ, List.foldl_append]; rfl
def greedyN (xss : List (List Int)) : Nat → List Int
  | 0 => []
  | k + 1 => greedyN xss k ++ [(bestTo xss (greedyN xss k) 12).1]
theorem greedyN_length (xss : List (List Int)) : ∀ k, (greedyN xss k).length = k
  | 0 => rfl
  | k + 1 => by simp [greedyN, greedyN_length xss k]
theorem bestTo_bound (xss : List (List Int)) (out : List Int) : ∀ n, (bestTo xss out n).2 ≤ xss.length ∧ -1 ≤ (bestTo xss out n).2 ∧ -1 ≤ (bestTo xss out n).1 ∧ (bestTo xss out n).1 ≤ n
  | 0 => ⟨by simp [bestTo], by simp [bestTo], by simp [bestTo], by simp [bestTo]⟩
  | n + 1 => by
    have := bestTo_bound xss out n
    have hc := cntTo_le xss out n xss.length
    rw [bestTo_succ]
    unfold stepB
    split
    · simp only [cntOf]; omega
    · omega
theorem bestTo_valid (xss : List (List Int)) (out : List Int) : ∀ n, (bestTo xss out n = (-1, -1) ∧ ∀ t : Nat, t < n → (t : Int) ∈ out) ∨ (0 ≤ (bestTo xss out n).1 ∧ (bestTo xss out n).1 < n)
  | 0 => .inl ⟨rfl, fun t ht => by omega⟩
  | n + 1 => by
    rw [bestTo_succ]
    unfold stepB
    split
    · right; simp only; omega
    · rename_i hc
      rcases bestTo_valid xss out n with ⟨h1, h2⟩ | h1
      · left
        refine ⟨h1, fun t ht => ?_⟩
        by_cases e : t = n
        · subst e
          apply Classical.byContradiction
          intro hn
          exact hc ⟨hn, by rw [h1]; simp only; omega⟩
        · exact h2 t (by omega)
      · right; omega
theorem best_ok (xss : List (List Int)) {out : List Int} (hl : out.length < 12) : 0 ≤ (bestTo xss out 12).1 ∧ (bestTo xss out 12).1 ≤ 11 := by
  rcases bestTo_valid xss out 12 with ⟨_, h2⟩ | h1
  · exfalso
    have := nodup_sub ((List.range 12).map fun n : Nat => (n : Int)) out (by decide) (fun x hx => by
      obtain ⟨t, ht, rfl⟩ := List.mem_map.mp hx
      exact h2 t (List.mem_range.mp ht))
    simp at this
    omega
  · omega
theorem greedy_tests (xss : List (List Int)) : ∀ k, k ≤ 12 → Tests (greedyN xss k)
  | 0, _ => fun x hx => by cases hx
  | k + 1, hk => by
    intro x hx
    simp only [greedyN, List.mem_append, List.mem_singleton] at hx
    rcases hx with hx | rfl
    · exact greedy_tests xss k (by omega) x hx
    · exact best_ok xss (by rw [greedyN_length]; omega)

theorem Own.ints {v : Value} {xs : List Int} {n : Nat} (o : Own 1 h0 h v n (xs.map (.int .i64))) (hn : n = xs.length) : IntS h v xs := by
  subst hn; exact o.seg
def lenμ (vs : List Value) (_ : Heap) : Nat := match vs with | [.slice _ n _] => 12 - n | _ => 0
theorem c27 {a : Value} {xss : List (List Int)} (s : RowsS h a xss) (hf : Few xss) : DetP Try.prog 27 [a] h fun v h' => h <+: h' ∧ IntS h' v (greedyN xss 12) := by
  have lt := hf.1
  refine w27 ?_
  unfold n27
  (with_reducible repeat first|refine mv_i ?_|refine cnd_t ?_|refine cnd_f ?_|refine gd_tt ?_|refine gd_ff ?_|refine gd_tf ?_|refine gd_ft ?_|refine gd_u ?_|refine pick_t ?_|refine pick_f ?_|refine not_t ?_|refine not_f ?_|refine nil_i ?_|refine ret1 ?_|refine ret2 ?_|refine ret0 ?_|refine ret3 ?_|refine ex2_0 ?_|refine ex2_1 ?_|refine ex3_0 ?_|refine ex3_1 ?_|refine ex3_2 ?_)
  refine ⟨fun vs h2 => ∃ (k : Nat) (v : Value), vs = [v] ∧ k ≤ 12 ∧ Own 1 h h2 v k ((greedyN xss k).map (.int .i64)), lenμ, ⟨0, _, rfl, by omega, Own.nil 1 (List.prefix_refl _)⟩, ?_⟩
  rintro h2 _ v ⟨k, v', e, hk, o⟩
  cases e
  have hgl := greedyN_length xss k
  have s2 := s.mono (Sub.of_pre o.pre)
  have so : IntS h2 v (greedyN xss k) := Own.ints o hgl.symm
  (with_reducible repeat first|refine mv_i ?_|refine cnd_t ?_|refine cnd_f ?_|refine gd_tt ?_|refine gd_ff ?_|refine gd_tf ?_|refine gd_ft ?_|refine gd_u ?_|refine pick_t ?_|refine pick_f ?_|refine not_t ?_|refine not_f ?_|refine nil_i ?_|refine ret1 ?_|refine ret2 ?_|refine ret0 ?_|refine ret3 ?_|refine ex2_0 ?_|refine ex2_1 ?_|refine ex3_0 ?_|refine ex3_1 ?_|refine ex3_2 ?_)
  refine len_i t23 o.seg ?_
  refine lss_i (fun hlt => ?_) (fun hge => ?_)
  · (with_reducible repeat first|refine mv_i ?_|refine cnd_t ?_|refine cnd_f ?_|refine gd_tt ?_|refine gd_ff ?_|refine gd_tf ?_|refine gd_ft ?_|refine gd_u ?_|refine pick_t ?_|refine pick_f ?_|refine not_t ?_|refine not_f ?_|refine nil_i ?_|refine ret1 ?_|refine ret2 ?_|refine ret0 ?_|refine ret3 ?_|refine ex2_0 ?_|refine ex2_1 ?_|refine ex3_0 ?_|refine ex3_1 ?_|refine ex3_2 ?_)
    refine loop3 12 (fun t b m h3 => h2 = h3 ∧ b = .int .i64 (bestTo xss (greedyN xss k) t).1 ∧ m = .int .i64 (bestTo xss (greedyN xss k) t).2) ⟨rfl, rfl, rfl⟩ ?_
    rintro t _ _ _ _ ht ⟨rfl, rfl, rfl⟩
    have hbb := bestTo_bound xss (greedyN xss k) t
    (with_reducible repeat first|refine mv_i ?_|refine cnd_t ?_|refine cnd_f ?_|refine gd_tt ?_|refine gd_ff ?_|refine gd_tf ?_|refine gd_ft ?_|refine gd_u ?_|refine pick_t ?_|refine pick_f ?_|refine not_t ?_|refine not_f ?_|refine nil_i ?_|refine ret1 ?_|refine ret2 ?_|refine ret0 ?_|refine ret3 ?_|refine ex2_0 ?_|refine ex2_1 ?_|refine ex3_0 ?_|refine ex3_1 ?_|refine ex3_2 ?_)
    refine lss_i (fun hlt2 => ?_) (fun hge2 => ?_)
    · (with_reducible repeat first|refine mv_i ?_|refine cnd_t ?_|refine cnd_f ?_|refine gd_tt ?_|refine gd_ff ?_|refine gd_tf ?_|refine gd_ft ?_|refine gd_u ?_|refine pick_t ?_|refine pick_f ?_|refine not_t ?_|refine not_f ?_|refine nil_i ?_|refine ret1 ?_|refine ret2 ?_|refine ret0 ?_|refine ret3 ?_|refine ex2_0 ?_|refine ex2_1 ?_|refine ex3_0 ?_|refine ex3_1 ?_|refine ex3_2 ?_)
      refine seq_J (fun xs h4 => h2 = h4 ∧ xs = [.int .i64 (bestTo xss (greedyN xss k) (t + 1)).1, .int .i64 (bestTo xss (greedyN xss k) (t + 1)).2]) ?_ ?_
      · rintro _ _ ⟨rfl, rfl⟩ _
        (with_reducible repeat first|refine mv_i ?_|refine cnd_t ?_|refine cnd_f ?_|refine gd_tt ?_|refine gd_ff ?_|refine gd_tf ?_|refine gd_ft ?_|refine gd_u ?_|refine pick_t ?_|refine pick_f ?_|refine not_t ?_|refine not_f ?_|refine nil_i ?_|refine ret1 ?_|refine ret2 ?_|refine ret0 ?_|refine ret3 ?_|refine ex2_0 ?_|refine ex2_1 ?_|refine ex3_0 ?_|refine ex3_1 ?_|refine ex3_2 ?_)
        refine inc_i (by omega) ?_
        (with_reducible repeat first|refine mv_i ?_|refine cnd_t ?_|refine cnd_f ?_|refine gd_tt ?_|refine gd_ff ?_|refine gd_tf ?_|refine gd_ft ?_|refine gd_u ?_|refine pick_t ?_|refine pick_f ?_|refine not_t ?_|refine not_f ?_|refine nil_i ?_|refine ret1 ?_|refine ret2 ?_|refine ret0 ?_|refine ret3 ?_|refine ex2_0 ?_|refine ex2_1 ?_|refine ex3_0 ?_|refine ex3_1 ?_|refine ex3_2 ?_)
        exact next3 (by omega) ⟨rfl, rfl, rfl⟩
      · intro k' hk'
        (with_reducible repeat first|refine mv_i ?_|refine cnd_t ?_|refine cnd_f ?_|refine gd_tt ?_|refine gd_ff ?_|refine gd_tf ?_|refine gd_ft ?_|refine gd_u ?_|refine pick_t ?_|refine pick_f ?_|refine not_t ?_|refine not_f ?_|refine nil_i ?_|refine ret1 ?_|refine ret2 ?_|refine ret0 ?_|refine ret3 ?_|refine ex2_0 ?_|refine ex2_1 ?_|refine ex3_0 ?_|refine ex3_1 ?_|refine ex3_2 ?_)
        refine loop2 xss.length (fun i c h4 => h2 = h4 ∧ c = .int .i64 (cntTo xss (greedyN xss k) t i : Nat)) ⟨rfl, rfl⟩ ?_
        rintro i _ _ _ hi ⟨rfl, rfl⟩
        (with_reducible repeat first|refine mv_i ?_|refine cnd_t ?_|refine cnd_f ?_|refine gd_tt ?_|refine gd_ff ?_|refine gd_tf ?_|refine gd_ft ?_|refine gd_u ?_|refine pick_t ?_|refine pick_f ?_|refine not_t ?_|refine not_f ?_|refine nil_i ?_|refine ret1 ?_|refine ret2 ?_|refine ret0 ?_|refine ret3 ?_|refine ex2_0 ?_|refine ex2_1 ?_|refine ex3_0 ?_|refine ex3_1 ?_|refine ex3_2 ?_)
        refine lenr_i t22 s2 ?_
        refine lss_i (fun hlt3 => ?_) (fun hge3 => ?_)
        · have hcs := cntTo_succ (out := greedyN xss k) (t := (t : Int)) (show i < xss.length by omega)
          have hcb := cntTo_le xss (greedyN xss k) t i
          (with_reducible repeat first|refine mv_i ?_|refine cnd_t ?_|refine cnd_f ?_|refine gd_tt ?_|refine gd_ff ?_|refine gd_tf ?_|refine gd_ft ?_|refine gd_u ?_|refine pick_t ?_|refine pick_f ?_|refine not_t ?_|refine not_f ?_|refine nil_i ?_|refine ret1 ?_|refine ret2 ?_|refine ret0 ?_|refine ret3 ?_|refine ex2_0 ?_|refine ex2_1 ?_|refine ex3_0 ?_|refine ex3_1 ?_|refine ex3_2 ?_)
          refine idxr_i t22 s2 (by omega) ?_
          refine ldr_i t22 r23 s2 (by omega) fun r hrow => ?_
          (with_reducible repeat first|refine mv_i ?_|refine cnd_t ?_|refine cnd_f ?_|refine gd_tt ?_|refine gd_ff ?_|refine gd_tf ?_|refine gd_ft ?_|refine gd_u ?_|refine pick_t ?_|refine pick_f ?_|refine not_t ?_|refine not_f ?_|refine nil_i ?_|refine ret1 ?_|refine ret2 ?_|refine ret0 ?_|refine ret3 ?_|refine ex2_0 ?_|refine ex2_1 ?_|refine ex3_0 ?_|refine ex3_1 ?_|refine ex3_2 ?_)
          refine call_r (c51 hrow) ?_
          have fin : ∀ b : Bool, (decide ((t : Int) ∈ xss.getD i []) && !hits (xss.getD i []) (greedyN xss k)) = b → ∀ (K : Value → Heap → Prop), K (.int .i64 (cntTo xss (greedyN xss k) t (i + 1) : Nat)) h2 →
              callK Try.prog (some (50, [.bool b])) h2 fun v h => vK (aBin Try.prog BinOp.add 3 (.int .i64 (cntTo xss (greedyN xss k) t i : Nat)) v) h K := by
            intro b hb K hK
            refine call_r (c50 b) ?_
            refine add_i ⟨by cases b <;> simp <;> omega, by cases b <;> simp <;> omega⟩ ?_
            rw [hcs, hb] at hK
            have e : (((cntTo xss (greedyN xss k) t i + if b = true then 1 else 0 : Nat)) : Int) = (cntTo xss (greedyN xss k) t i : Int) + (if b = true then 1 else 0) := by cases b <;> simp
            rw [e] at hK
            exact hK
          cases hm : decide ((t : Int) ∈ xss.getD i []) with
          | false =>
            rw [hm] at fin
            (with_reducible repeat first|refine mv_i ?_|refine cnd_t ?_|refine cnd_f ?_|refine gd_tt ?_|refine gd_ff ?_|refine gd_tf ?_|refine gd_ft ?_|refine gd_u ?_|refine pick_t ?_|refine pick_f ?_|refine not_t ?_|refine not_f ?_|refine nil_i ?_|refine ret1 ?_|refine ret2 ?_|refine ret0 ?_|refine ret3 ?_|refine ex2_0 ?_|refine ex2_1 ?_|refine ex3_0 ?_|refine ex3_1 ?_|refine ex3_2 ?_)
            refine fin false rfl _ ?_
            (with_reducible repeat first|refine mv_i ?_|refine cnd_t ?_|refine cnd_f ?_|refine gd_tt ?_|refine gd_ff ?_|refine gd_tf ?_|refine gd_ft ?_|refine gd_u ?_|refine pick_t ?_|refine pick_f ?_|refine not_t ?_|refine not_f ?_|refine nil_i ?_|refine ret1 ?_|refine ret2 ?_|refine ret0 ?_|refine ret3 ?_|refine ex2_0 ?_|refine ex2_1 ?_|refine ex3_0 ?_|refine ex3_1 ?_|refine ex3_2 ?_)
            refine inc_i (by omega) ?_
            (with_reducible repeat first|refine mv_i ?_|refine cnd_t ?_|refine cnd_f ?_|refine gd_tt ?_|refine gd_ff ?_|refine gd_tf ?_|refine gd_ft ?_|refine gd_u ?_|refine pick_t ?_|refine pick_f ?_|refine not_t ?_|refine not_f ?_|refine nil_i ?_|refine ret1 ?_|refine ret2 ?_|refine ret0 ?_|refine ret3 ?_|refine ex2_0 ?_|refine ex2_1 ?_|refine ex3_0 ?_|refine ex3_1 ?_|refine ex3_2 ?_)
            exact next2 (by omega) ⟨rfl, rfl⟩
          | true =>
            rw [hm] at fin
            (with_reducible repeat first|refine mv_i ?_|refine cnd_t ?_|refine cnd_f ?_|refine gd_tt ?_|refine gd_ff ?_|refine gd_tf ?_|refine gd_ft ?_|refine gd_u ?_|refine pick_t ?_|refine pick_f ?_|refine not_t ?_|refine not_f ?_|refine nil_i ?_|refine ret1 ?_|refine ret2 ?_|refine ret0 ?_|refine ret3 ?_|refine ex2_0 ?_|refine ex2_1 ?_|refine ex3_0 ?_|refine ex3_1 ?_|refine ex3_2 ?_)
            refine idxr_i t22 s2 (by omega) ?_
            (with_reducible repeat first|refine mv_i ?_|refine cnd_t ?_|refine cnd_f ?_|refine gd_tt ?_|refine gd_ff ?_|refine gd_tf ?_|refine gd_ft ?_|refine gd_u ?_|refine pick_t ?_|refine pick_f ?_|refine not_t ?_|refine not_f ?_|refine nil_i ?_|refine ret1 ?_|refine ret2 ?_|refine ret0 ?_|refine ret3 ?_|refine ex2_0 ?_|refine ex2_1 ?_|refine ex3_0 ?_|refine ex3_1 ?_|refine ex3_2 ?_)
            refine ldr_i t22 r23 s2 (by omega) fun r2 hrow2 => ?_
            (with_reducible repeat first|refine mv_i ?_|refine cnd_t ?_|refine cnd_f ?_|refine gd_tt ?_|refine gd_ff ?_|refine gd_tf ?_|refine gd_ft ?_|refine gd_u ?_|refine pick_t ?_|refine pick_f ?_|refine not_t ?_|refine not_f ?_|refine nil_i ?_|refine ret1 ?_|refine ret2 ?_|refine ret0 ?_|refine ret3 ?_|refine ex2_0 ?_|refine ex2_1 ?_|refine ex3_0 ?_|refine ex3_1 ?_|refine ex3_2 ?_)
            refine call_r (c52 hrow2 so) ?_
            cases hh : hits (xss.getD i []) (greedyN xss k) with
            | false =>
              rw [hh] at fin
              (with_reducible repeat first|refine mv_i ?_|refine cnd_t ?_|refine cnd_f ?_|refine gd_tt ?_|refine gd_ff ?_|refine gd_tf ?_|refine gd_ft ?_|refine gd_u ?_|refine pick_t ?_|refine pick_f ?_|refine not_t ?_|refine not_f ?_|refine nil_i ?_|refine ret1 ?_|refine ret2 ?_|refine ret0 ?_|refine ret3 ?_|refine ex2_0 ?_|refine ex2_1 ?_|refine ex3_0 ?_|refine ex3_1 ?_|refine ex3_2 ?_)
              refine fin true rfl _ ?_
              (with_reducible repeat first|refine mv_i ?_|refine cnd_t ?_|refine cnd_f ?_|refine gd_tt ?_|refine gd_ff ?_|refine gd_tf ?_|refine gd_ft ?_|refine gd_u ?_|refine pick_t ?_|refine pick_f ?_|refine not_t ?_|refine not_f ?_|refine nil_i ?_|refine ret1 ?_|refine ret2 ?_|refine ret0 ?_|refine ret3 ?_|refine ex2_0 ?_|refine ex2_1 ?_|refine ex3_0 ?_|refine ex3_1 ?_|refine ex3_2 ?_)
              refine inc_i (by omega) ?_
              (with_reducible repeat first|refine mv_i ?_|refine cnd_t ?_|refine cnd_f ?_|refine gd_tt ?_|refine gd_ff ?_|refine gd_tf ?_|refine gd_ft ?_|refine gd_u ?_|refine pick_t ?_|refine pick_f ?_|refine not_t ?_|refine not_f ?_|refine nil_i ?_|refine ret1 ?_|refine ret2 ?_|refine ret0 ?_|refine ret3 ?_|refine ex2_0 ?_|refine ex2_1 ?_|refine ex3_0 ?_|refine ex3_1 ?_|refine ex3_2 ?_)
              exact next2 (by omega) ⟨rfl, rfl⟩
            | true =>
              rw [hh] at fin
              (with_reducible repeat first|refine mv_i ?_|refine cnd_t ?_|refine cnd_f ?_|refine gd_tt ?_|refine gd_ff ?_|refine gd_tf ?_|refine gd_ft ?_|refine gd_u ?_|refine pick_t ?_|refine pick_f ?_|refine not_t ?_|refine not_f ?_|refine nil_i ?_|refine ret1 ?_|refine ret2 ?_|refine ret0 ?_|refine ret3 ?_|refine ex2_0 ?_|refine ex2_1 ?_|refine ex3_0 ?_|refine ex3_1 ?_|refine ex3_2 ?_)
              refine fin false rfl _ ?_
              (with_reducible repeat first|refine mv_i ?_|refine cnd_t ?_|refine cnd_f ?_|refine gd_tt ?_|refine gd_ff ?_|refine gd_tf ?_|refine gd_ft ?_|refine gd_u ?_|refine pick_t ?_|refine pick_f ?_|refine not_t ?_|refine not_f ?_|refine nil_i ?_|refine ret1 ?_|refine ret2 ?_|refine ret0 ?_|refine ret3 ?_|refine ex2_0 ?_|refine ex2_1 ?_|refine ex3_0 ?_|refine ex3_1 ?_|refine ex3_2 ?_)
              refine inc_i (by omega) ?_
              (with_reducible repeat first|refine mv_i ?_|refine cnd_t ?_|refine cnd_f ?_|refine gd_tt ?_|refine gd_ff ?_|refine gd_tf ?_|refine gd_ft ?_|refine gd_u ?_|refine pick_t ?_|refine pick_f ?_|refine not_t ?_|refine not_f ?_|refine nil_i ?_|refine ret1 ?_|refine ret2 ?_|refine ret0 ?_|refine ret3 ?_|refine ex2_0 ?_|refine ex2_1 ?_|refine ex3_0 ?_|refine ex3_1 ?_|refine ex3_2 ?_)
              exact next2 (by omega) ⟨rfl, rfl⟩
        · have ei : i = xss.length := by omega
          subst ei
          (with_reducible repeat first|refine mv_i ?_|refine cnd_t ?_|refine cnd_f ?_|refine gd_tt ?_|refine gd_ff ?_|refine gd_tf ?_|refine gd_ft ?_|refine gd_u ?_|refine pick_t ?_|refine pick_f ?_|refine not_t ?_|refine not_f ?_|refine nil_i ?_|refine ret1 ?_|refine ret2 ?_|refine ret0 ?_|refine ret3 ?_|refine ex2_0 ?_|refine ex2_1 ?_|refine ex3_0 ?_|refine ex3_1 ?_|refine ex3_2 ?_)
          refine call_r (c51 so) ?_
          cases hm : decide ((t : Int) ∈ greedyN xss k) with
          | true =>
            (with_reducible repeat first|refine mv_i ?_|refine cnd_t ?_|refine cnd_f ?_|refine gd_tt ?_|refine gd_ff ?_|refine gd_tf ?_|refine gd_ft ?_|refine gd_u ?_|refine pick_t ?_|refine pick_f ?_|refine not_t ?_|refine not_f ?_|refine nil_i ?_|refine ret1 ?_|refine ret2 ?_|refine ret0 ?_|refine ret3 ?_|refine ex2_0 ?_|refine ex2_1 ?_|refine ex3_0 ?_|refine ex3_1 ?_|refine ex3_2 ?_)
            refine hk' _ _ ⟨rfl, ?_⟩
            rw [bestTo_succ]
            unfold stepB
            rw [if_neg (fun hh => hh.1 (by simpa using hm))]
          | false =>
            (with_reducible repeat first|refine mv_i ?_|refine cnd_t ?_|refine cnd_f ?_|refine gd_tt ?_|refine gd_ff ?_|refine gd_tf ?_|refine gd_ft ?_|refine gd_u ?_|refine pick_t ?_|refine pick_f ?_|refine not_t ?_|refine not_f ?_|refine nil_i ?_|refine ret1 ?_|refine ret2 ?_|refine ret0 ?_|refine ret3 ?_|refine ex2_0 ?_|refine ex2_1 ?_|refine ex3_0 ?_|refine ex3_1 ?_|refine ex3_2 ?_)
            refine gtr_i (fun hg => ?_) (fun hg => ?_)
            · (with_reducible repeat first|refine mv_i ?_|refine cnd_t ?_|refine cnd_f ?_|refine gd_tt ?_|refine gd_ff ?_|refine gd_tf ?_|refine gd_ft ?_|refine gd_u ?_|refine pick_t ?_|refine pick_f ?_|refine not_t ?_|refine not_f ?_|refine nil_i ?_|refine ret1 ?_|refine ret2 ?_|refine ret0 ?_|refine ret3 ?_|refine ex2_0 ?_|refine ex2_1 ?_|refine ex3_0 ?_|refine ex3_1 ?_|refine ex3_2 ?_)
              refine hk' _ _ ⟨rfl, ?_⟩
              rw [bestTo_succ]
              unfold stepB
              rw [if_pos ⟨by simpa using hm, hg⟩]
              rfl
            · (with_reducible repeat first|refine mv_i ?_|refine cnd_t ?_|refine cnd_f ?_|refine gd_tt ?_|refine gd_ff ?_|refine gd_tf ?_|refine gd_ft ?_|refine gd_u ?_|refine pick_t ?_|refine pick_f ?_|refine not_t ?_|refine not_f ?_|refine nil_i ?_|refine ret1 ?_|refine ret2 ?_|refine ret0 ?_|refine ret3 ?_|refine ex2_0 ?_|refine ex2_1 ?_|refine ex3_0 ?_|refine ex3_1 ?_|refine ex3_2 ?_)
              refine hk' _ _ ⟨rfl, ?_⟩
              rw [bestTo_succ]
              unfold stepB
              rw [if_neg (fun hh => hg hh.2)]
    · have et : t = 12 := by omega
      subst et
      (with_reducible repeat first|refine mv_i ?_|refine cnd_t ?_|refine cnd_f ?_|refine gd_tt ?_|refine gd_ff ?_|refine gd_tf ?_|refine gd_ft ?_|refine gd_u ?_|refine pick_t ?_|refine pick_f ?_|refine not_t ?_|refine not_f ?_|refine nil_i ?_|refine ret1 ?_|refine ret2 ?_|refine ret0 ?_|refine ret3 ?_|refine ex2_0 ?_|refine ex2_1 ?_|refine ex3_0 ?_|refine ex3_1 ?_|refine ex3_2 ?_)
      refine ok_i (bs23_1 _ _) ?_
      obtain ⟨o4, _⟩ := o.ext (pre_new h2 [.int .i64 (bestTo xss (greedyN xss k) 12).1] 1)
      refine app_i t23 o4 (Seg.new (n := 1) 2 (by simp) (by omega)) (by simp [Value.oneCell']) (by omega) ⟨by omega, by omega⟩ fun v' h' o5 _ => ?_
      (with_reducible repeat first|refine mv_i ?_|refine cnd_t ?_|refine cnd_f ?_|refine gd_tt ?_|refine gd_ff ?_|refine gd_tf ?_|refine gd_ft ?_|refine gd_u ?_|refine pick_t ?_|refine pick_f ?_|refine not_t ?_|refine not_f ?_|refine nil_i ?_|refine ret1 ?_|refine ret2 ?_|refine ret0 ?_|refine ret3 ?_|refine ex2_0 ?_|refine ex2_1 ?_|refine ex3_0 ?_|refine ex3_1 ?_|refine ex3_2 ?_)
      refine ⟨⟨k + 1, v', rfl, by omega, ?_⟩, ?_⟩
      · simp only [greedyN, List.map_append]
        exact o5
      · rcases o5.2.2 with ⟨_, e0⟩ | ⟨i5, rfl, _⟩
        · omega
        · rcases o.2.2 with ⟨rfl, rfl⟩ | ⟨i1, rfl, _⟩ <;> simp only [lenμ] <;> omega
  · (with_reducible repeat first|refine mv_i ?_|refine cnd_t ?_|refine cnd_f ?_|refine gd_tt ?_|refine gd_ff ?_|refine gd_tf ?_|refine gd_ft ?_|refine gd_u ?_|refine pick_t ?_|refine pick_f ?_|refine not_t ?_|refine not_f ?_|refine nil_i ?_|refine ret1 ?_|refine ret2 ?_|refine ret0 ?_|refine ret3 ?_|refine ex2_0 ?_|refine ex2_1 ?_|refine ex3_0 ?_|refine ex3_1 ?_|refine ex3_2 ?_)
    have ek : k = 12 := by omega
    subst ek
    exact ⟨o.pre, so⟩
end Go.Proofs.Ytkgdclcmfnhbmaa
