import Derived.Test.YtkgdclcmfnhbmaaSpJ
set_option linter.unusedSimpArgs false
set_option linter.unusedVariables false
set_option maxRecDepth 100000
namespace Go.Proofs.Ytkgdclcmfnhbmaa
open Go.AM
variable {h h' h0 : Heap}

/-! ### catches -/
theorem box71 (a : Int) (h : Heap) : aBox Try.prog 71 (.int .u64 a) h = (.pointer (some ⟨h.length, 0, none⟩), newArr h [.int .u64 a] 1) := by kernel_rfl
theorem c60 {i ch w : Nat} {a : Arr} (hi : h[i]? = some (.arr a)) (hc : a.cells[0]? = some (.int .u64 (ch : Int))) (hw : w < 2 ^ 64) (hch : ch < 2 ^ 64) :
    Runs Try.prog 60 [.int .u64 (w : Int), .pointer (some ⟨i, 0, none⟩)] h (.bool (decide (w &&& ch = 0))) h := by
  refine DetP.runs (w60 ?_)
  unfold n60
  (with_reducible repeat first|refine mv_i ?_|refine cnd_t ?_|refine cnd_f ?_|refine gd_tt ?_|refine gd_ff ?_|refine gd_tf ?_|refine gd_ft ?_|refine gd_u ?_|refine pick_t ?_|refine pick_f ?_|refine not_t ?_|refine not_f ?_|refine nil_i ?_|refine ret1 ?_|refine ret2 ?_|refine ret0 ?_|refine ret3 ?_|refine ex2_0 ?_|refine ex2_1 ?_|refine ex3_0 ?_|refine ex3_1 ?_|refine ex3_2 ?_)
  refine ldc_i r71 hi hc ?_
  refine and_i hw hch ?_
  refine eql_b ?_
  (with_reducible repeat first|refine mv_i ?_|refine cnd_t ?_|refine cnd_f ?_|refine gd_tt ?_|refine gd_ff ?_|refine gd_tf ?_|refine gd_ft ?_|refine gd_u ?_|refine pick_t ?_|refine pick_f ?_|refine not_t ?_|refine not_f ?_|refine nil_i ?_|refine ret1 ?_|refine ret2 ?_|refine ret0 ?_|refine ret3 ?_|refine ex2_0 ?_|refine ex2_1 ?_|refine ex3_0 ?_|refine ex3_1 ?_|refine ex3_2 ?_)
  exact ⟨by congr 1; simp only [decide_eq_decide]; omega, rfl⟩
theorem c77 {v : Value} {ws : List Nat} {i ch : Nat} {a : Arr} (s : WS h v ws) (hi : h[i]? = some (.arr a)) (hc : a.cells[0]? = some (.int .u64 (ch : Int))) (hw : ∀ w ∈ ws, w < 2 ^ 64) (hch : ch < 2 ^ 64) :
    ∃ n : Int, (0 ≤ n ↔ ∃ w ∈ ws, w &&& ch = 0) ∧ Runs Try.prog 77 [v, .func (.func 60) #[] #[.pointer (some ⟨i, 0, none⟩)]] h (.int .i64 n) h := by
  have lt := s.lt
  have hfind : (∃ k, k < ws.length ∧ (∀ j, j < k → ¬ ws.getD j 0 &&& ch = 0) ∧ ws.getD k 0 &&& ch = 0) ∨ ∀ j, j < ws.length → ¬ ws.getD j 0 &&& ch = 0 := by
    by_cases hex : ∃ k, k < ws.length ∧ ws.getD k 0 &&& ch = 0
    · obtain ⟨k, hk, hmin⟩ := least hex
      exact .inl ⟨k, hk.1, fun j hj hz => by have := hmin j ⟨by omega, hz⟩; omega, hk.2⟩
    · exact .inr fun j hj hz => hex ⟨j, hj, hz⟩
  have walk : ∀ n : Int, ((∃ k : Nat, n = k ∧ k < ws.length ∧ (∀ j, j < k → ¬ ws.getD j 0 &&& ch = 0) ∧ ws.getD k 0 &&& ch = 0) ∨ (n = -1 ∧ ∀ j, j < ws.length → ¬ ws.getD j 0 &&& ch = 0)) →
      Runs Try.prog 77 [v, .func (.func 60) #[] #[.pointer (some ⟨i, 0, none⟩)]] h (.int .i64 n) h := by
    intro n hn
    refine DetP.runs (w77 ?_)
    unfold n77
    (with_reducible repeat first|refine mv_i ?_|refine cnd_t ?_|refine cnd_f ?_|refine gd_tt ?_|refine gd_ff ?_|refine gd_tf ?_|refine gd_ft ?_|refine gd_u ?_|refine pick_t ?_|refine pick_f ?_|refine not_t ?_|refine not_f ?_|refine nil_i ?_|refine ret1 ?_|refine ret2 ?_|refine ret0 ?_|refine ret3 ?_|refine ex2_0 ?_|refine ex2_1 ?_|refine ex3_0 ?_|refine ex3_1 ?_|refine ex3_2 ?_)
    refine lenw_i t65 s ?_
    (with_reducible repeat first|refine mv_i ?_|refine cnd_t ?_|refine cnd_f ?_|refine gd_tt ?_|refine gd_ff ?_|refine gd_tf ?_|refine gd_ft ?_|refine gd_u ?_|refine pick_t ?_|refine pick_f ?_|refine not_t ?_|refine not_f ?_|refine nil_i ?_|refine ret1 ?_|refine ret2 ?_|refine ret0 ?_|refine ret3 ?_|refine ex2_0 ?_|refine ex2_1 ?_|refine ex3_0 ?_|refine ex3_1 ?_|refine ex3_2 ?_)
    refine loop1 ws.length (fun k h2 => h = h2 ∧ ∀ j, j < k → ¬ ws.getD j 0 &&& ch = 0) ⟨rfl, fun j hj => by omega⟩ ?_
    rintro k _ _ hk ⟨rfl, hJ⟩
    (with_reducible repeat first|refine mv_i ?_|refine cnd_t ?_|refine cnd_f ?_|refine gd_tt ?_|refine gd_ff ?_|refine gd_tf ?_|refine gd_ft ?_|refine gd_u ?_|refine pick_t ?_|refine pick_f ?_|refine not_t ?_|refine not_f ?_|refine nil_i ?_|refine ret1 ?_|refine ret2 ?_|refine ret0 ?_|refine ret3 ?_|refine ex2_0 ?_|refine ex2_1 ?_|refine ex3_0 ?_|refine ex3_1 ?_|refine ex3_2 ?_)
    refine lss_i (fun hlt => ?_) (fun hge => ?_)
    · (with_reducible repeat first|refine mv_i ?_|refine cnd_t ?_|refine cnd_f ?_|refine gd_tt ?_|refine gd_ff ?_|refine gd_tf ?_|refine gd_ft ?_|refine gd_u ?_|refine pick_t ?_|refine pick_f ?_|refine not_t ?_|refine not_f ?_|refine nil_i ?_|refine ret1 ?_|refine ret2 ?_|refine ret0 ?_|refine ret3 ?_|refine ex2_0 ?_|refine ex2_1 ?_|refine ex3_0 ?_|refine ex3_1 ?_|refine ex3_2 ?_)
      refine idxw_i (k := k) t65 s (by omega) ?_
      refine ldw_i (k := k) t65 r71 s (by omega) ?_
      refine call_r (f := 60) (args := [.int .u64 (ws.getD k 0 : Nat), .pointer (some ⟨i, 0, none⟩)]) (c60 hi hc (hw _ (gd_mem 0 (by omega))) hch) ?_
      by_cases hz : ws.getD k 0 &&& ch = 0
      · rw [decide_eq_true hz]
        (with_reducible repeat first|refine mv_i ?_|refine cnd_t ?_|refine cnd_f ?_|refine gd_tt ?_|refine gd_ff ?_|refine gd_tf ?_|refine gd_ft ?_|refine gd_u ?_|refine pick_t ?_|refine pick_f ?_|refine not_t ?_|refine not_f ?_|refine nil_i ?_|refine ret1 ?_|refine ret2 ?_|refine ret0 ?_|refine ret3 ?_|refine ex2_0 ?_|refine ex2_1 ?_|refine ex3_0 ?_|refine ex3_1 ?_|refine ex3_2 ?_)
        refine ⟨?_, rfl⟩
        rcases hn with ⟨k', rfl, h1, h2, h3⟩ | ⟨_, h1⟩
        · have : k = k' := by
            rcases Nat.lt_trichotomy k k' with q | q | q
            · exact absurd hz (h2 k q)
            · exact q
            · exact absurd h3 (hJ k' q)
          rw [this]
        · exact absurd hz (h1 k (by omega))
      · rw [decide_eq_false hz]
        (with_reducible repeat first|refine mv_i ?_|refine cnd_t ?_|refine cnd_f ?_|refine gd_tt ?_|refine gd_ff ?_|refine gd_tf ?_|refine gd_ft ?_|refine gd_u ?_|refine pick_t ?_|refine pick_f ?_|refine not_t ?_|refine not_f ?_|refine nil_i ?_|refine ret1 ?_|refine ret2 ?_|refine ret0 ?_|refine ret3 ?_|refine ex2_0 ?_|refine ex2_1 ?_|refine ex3_0 ?_|refine ex3_1 ?_|refine ex3_2 ?_)
        refine inc_i (by omega) ?_
        (with_reducible repeat first|refine mv_i ?_|refine cnd_t ?_|refine cnd_f ?_|refine gd_tt ?_|refine gd_ff ?_|refine gd_tf ?_|refine gd_ft ?_|refine gd_u ?_|refine pick_t ?_|refine pick_f ?_|refine not_t ?_|refine not_f ?_|refine nil_i ?_|refine ret1 ?_|refine ret2 ?_|refine ret0 ?_|refine ret3 ?_|refine ex2_0 ?_|refine ex2_1 ?_|refine ex3_0 ?_|refine ex3_1 ?_|refine ex3_2 ?_)
        refine next1 (by omega) ⟨rfl, fun j hj => ?_⟩
        by_cases q : j = k
        · subst q; exact hz
        · exact hJ j (by omega)
    · (with_reducible repeat first|refine mv_i ?_|refine cnd_t ?_|refine cnd_f ?_|refine gd_tt ?_|refine gd_ff ?_|refine gd_tf ?_|refine gd_ft ?_|refine gd_u ?_|refine pick_t ?_|refine pick_f ?_|refine not_t ?_|refine not_f ?_|refine nil_i ?_|refine ret1 ?_|refine ret2 ?_|refine ret0 ?_|refine ret3 ?_|refine ex2_0 ?_|refine ex2_1 ?_|refine ex3_0 ?_|refine ex3_1 ?_|refine ex3_2 ?_)
      refine ⟨?_, rfl⟩
      rcases hn with ⟨k', rfl, h1, h2, h3⟩ | ⟨rfl, _⟩
      · exact absurd h3 (hJ k' (by omega))
      · rfl
  rcases hfind with ⟨k, h1, h2, h3⟩ | h1
  · exact ⟨k, ⟨fun _ => ⟨_, gd_mem 0 h1, h3⟩, fun _ => by omega⟩, walk k (.inl ⟨k, rfl, h1, h2, h3⟩)⟩
  · refine ⟨-1, ⟨fun h => by omega, ?_⟩, walk (-1) (.inr ⟨rfl, h1⟩)⟩
    rintro ⟨w, hw', hz⟩
    obtain ⟨j, hj, rfl⟩ := mem_gd 0 hw'
    exact absurd hz (h1 j hj)
theorem c59 {v : Value} {ws : List Nat} {i ch : Nat} {a : Arr} (s : WS h v ws) (hi : h[i]? = some (.arr a)) (hc : a.cells[0]? = some (.int .u64 (ch : Int))) (hw : ∀ w ∈ ws, w < 2 ^ 64) (hch : ch < 2 ^ 64) :
    Runs Try.prog 59 [v, .func (.func 60) #[] #[.pointer (some ⟨i, 0, none⟩)]] h (.bool (decide (∃ w ∈ ws, w &&& ch = 0))) h := by
  obtain ⟨n, hn, hr⟩ := c77 s hi hc hw hch
  refine DetP.runs (w59 ?_)
  unfold n59
  (with_reducible repeat first|refine mv_i ?_|refine cnd_t ?_|refine cnd_f ?_|refine gd_tt ?_|refine gd_ff ?_|refine gd_tf ?_|refine gd_ft ?_|refine gd_u ?_|refine pick_t ?_|refine pick_f ?_|refine not_t ?_|refine not_f ?_|refine nil_i ?_|refine ret1 ?_|refine ret2 ?_|refine ret0 ?_|refine ret3 ?_|refine ex2_0 ?_|refine ex2_1 ?_|refine ex3_0 ?_|refine ex3_1 ?_|refine ex3_2 ?_)
  refine call_r hr ?_
  refine geq_b ?_
  (with_reducible repeat first|refine mv_i ?_|refine cnd_t ?_|refine cnd_f ?_|refine gd_tt ?_|refine gd_ff ?_|refine gd_tf ?_|refine gd_ft ?_|refine gd_u ?_|refine pick_t ?_|refine pick_f ?_|refine not_t ?_|refine not_f ?_|refine nil_i ?_|refine ret1 ?_|refine ret2 ?_|refine ret0 ?_|refine ret3 ?_|refine ex2_0 ?_|refine ex2_1 ?_|refine ex3_0 ?_|refine ex3_1 ?_|refine ex3_2 ?_)
  exact ⟨by congr 1; simp only [decide_eq_decide]; exact hn, rfl⟩
theorem c39 {v : Value} {xss : List (List Int)} {ch : List Int} (s : WS h v (xss.map bitsOf)) (ht : ∀ xs ∈ xss, Tests xs) (hc : Tests ch) :
    Runs Try.prog 39 [v, .int .u64 (bitsOf ch : Nat)] h (.bool (isChoice xss ch)) h := by
  refine DetP.forget rfl ?_
  refine w39 ?_
  unfold n39
  rw [box71]
  refine ok_i rfl ?_
  (with_reducible repeat first|refine mv_i ?_|refine cnd_t ?_|refine cnd_f ?_|refine gd_tt ?_|refine gd_ff ?_|refine gd_tf ?_|refine gd_ft ?_|refine gd_u ?_|refine pick_t ?_|refine pick_f ?_|refine not_t ?_|refine not_f ?_|refine nil_i ?_|refine ret1 ?_|refine ret2 ?_|refine ret0 ?_|refine ret3 ?_|refine ex2_0 ?_|refine ex2_1 ?_|refine ex3_0 ?_|refine ex3_1 ?_|refine ex3_2 ?_)
  refine call_r (c59 (s.mono (Sub.of_pre (pre_new _ _ _))) (newArr_get _ _ _) rfl ?_ hc.lt) ?_
  · intro w hw
    obtain ⟨xs, hx, rfl⟩ := List.mem_map.mp hw
    exact (ht xs hx).lt
  · refine not_i ?_
    (with_reducible repeat first|refine mv_i ?_|refine cnd_t ?_|refine cnd_f ?_|refine gd_tt ?_|refine gd_ff ?_|refine gd_tf ?_|refine gd_ft ?_|refine gd_u ?_|refine pick_t ?_|refine pick_f ?_|refine not_t ?_|refine not_f ?_|refine nil_i ?_|refine ret1 ?_|refine ret2 ?_|refine ret0 ?_|refine ret3 ?_|refine ex2_0 ?_|refine ex2_1 ?_|refine ex3_0 ?_|refine ex3_1 ?_|refine ex3_2 ?_)
    refine ⟨?_, pre_new _ _ _⟩
    congr 1
    have key : ∀ xs ∈ xss, (bitsOf xs &&& bitsOf ch = 0 ↔ hits xs ch = false) := by
      intro xs hx
      have := bits_apart (nonneg (ht xs hx)) (nonneg hc)
      have e0 : (((bitsOf xs &&& bitsOf ch : Nat) : Int) = 0) ↔ (bitsOf xs &&& bitsOf ch = 0) := by omega
      rw [← e0, this]
      unfold hits
      rw [List.any_eq_false]
      constructor
      · intro h x hx; simpa using h x hx
      · intro h x hx; simpa using h x hx
    cases hi : isChoice xss ch with
    | true =>
      unfold isChoice at hi
      rw [List.all_eq_true] at hi
      have : ¬ ∃ w ∈ xss.map bitsOf, w &&& bitsOf ch = 0 := by
        rintro ⟨w, hw, hz⟩
        obtain ⟨xs, hx, rfl⟩ := List.mem_map.mp hw
        have := (key xs hx).mp hz
        rw [hi xs hx] at this; cases this
      rw [decide_eq_false this]; rfl
    | false =>
      unfold isChoice at hi
      rw [List.all_eq_false] at hi
      obtain ⟨xs, hx, hn⟩ := hi
      have : ∃ w ∈ xss.map bitsOf, w &&& bitsOf ch = 0 := ⟨_, List.mem_map_of_mem hx, (key xs hx).mpr (by simpa using hn)⟩
      simp only [decide_eq_true this]
      rfl
end Go.Proofs.Ytkgdclcmfnhbmaa
