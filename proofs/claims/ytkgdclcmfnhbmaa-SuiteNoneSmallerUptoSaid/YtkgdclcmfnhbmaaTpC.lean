import Derived.Test.YtkgdclcmfnhbmaaTpB
set_option linter.unusedSimpArgs false
set_option linter.unusedVariables false
set_option maxRecDepth 100000
namespace Go.Proofs.Ytkgdclcmfnhbmaa
open Go.AM
variable {h h' h0 : Heap}

theorem hit_iff {row ch : List Int} (hr : Tests row) (hc : Tests ch) : ((bitsOf row &&& bitsOf ch : Nat) : Int) = 0 ↔ hits row ch = false := by
  rw [bits_apart (nonneg hr) (nonneg hc)]
  unfold hits
  rw [List.any_eq_false]
  constructor
  · intro h x hx; simpa using h x hx
  · intro h x hx; simpa using h x hx
theorem Tests.snoc {ch : List Int} {x : Int} (hc : Tests ch) (hx : 0 ≤ x ∧ x ≤ 11) : Tests (ch ++ [x]) := by
  intro y hy
  rcases List.mem_append.mp hy with hy | hy
  · exact hc y hy
  · rw [List.mem_singleton.mp hy]; exact hx
def C54 (xss : List (List Int)) (b : Nat) : Prop := ∀ (h0 h : Heap) (rv ov : Value) (ch out : List Int), WS h0 rv (xss.map bitsOf) → Own 1 h0 h ov out.length (out.map (.int .i64)) → Tests ch → OpenT xss ch b →
    out.length + (prvL xss b ch).length ≤ 2 ^ 40 → DetP Try.prog 54 [rv, .int .u64 (bitsOf ch : Nat), .int .i64 (b : Int), ov] h fun v h' => Own 1 h0 h' v (out ++ prvL xss b ch).length ((out ++ prvL xss b ch).map (.int .i64))
def accP (xss : List (List Int)) (b : Nat) (ch row : List Int) (k : Nat) : List Int := match b with | 0 => [] | b' + 1 => (row.take k).flatMap fun x => prvL xss b' (ch ++ [x])
theorem c54step {xss : List (List Int)} (ok : TabOK xss) (b : Nat) (hb : b ≤ 2 ^ 40) (ih : ∀ b', b = b' + 1 → C54 xss b') : C54 xss b := by
  intro h0 h rv ov ch out sw ow hc ho hlen
  have few := ok.few
  have swh := sw.mono (Sub.of_pre ow.pre)
  refine w54 ?_
  unfold n54
  (with_reducible repeat first|refine mv_i ?_|refine cnd_t ?_|refine cnd_f ?_|refine gd_tt ?_|refine gd_ff ?_|refine gd_tf ?_|refine gd_ft ?_|refine gd_u ?_|refine pick_t ?_|refine pick_f ?_|refine not_t ?_|refine not_f ?_|refine nil_i ?_|refine ret1 ?_|refine ret2 ?_|refine ret0 ?_|refine ret3 ?_|refine ex2_0 ?_|refine ex2_1 ?_|refine ex3_0 ?_|refine ex3_1 ?_|refine ex3_2 ?_)
  refine lenw_i t65 swh ?_
  rw [List.length_map]
  (with_reducible repeat first|refine mv_i ?_|refine cnd_t ?_|refine cnd_f ?_|refine gd_tt ?_|refine gd_ff ?_|refine gd_tf ?_|refine gd_ft ?_|refine gd_u ?_|refine pick_t ?_|refine pick_f ?_|refine not_t ?_|refine not_f ?_|refine nil_i ?_|refine ret1 ?_|refine ret2 ?_|refine ret0 ?_|refine ret3 ?_|refine ex2_0 ?_|refine ex2_1 ?_|refine ex3_0 ?_|refine ex3_1 ?_|refine ex3_2 ?_)
  refine loop2 xss.length (fun k v h2 => h = h2 ∧ v = .int .i64 (pickTo xss ch k)) ⟨rfl, rfl⟩ ?_
  rintro k _ _ _ hk ⟨rfl, rfl⟩
  (with_reducible repeat first|refine mv_i ?_|refine cnd_t ?_|refine cnd_f ?_|refine gd_tt ?_|refine gd_ff ?_|refine gd_tf ?_|refine gd_ft ?_|refine gd_u ?_|refine pick_t ?_|refine pick_f ?_|refine not_t ?_|refine not_f ?_|refine nil_i ?_|refine ret1 ?_|refine ret2 ?_|refine ret0 ?_|refine ret3 ?_|refine ex2_0 ?_|refine ex2_1 ?_|refine ex3_0 ?_|refine ex3_1 ?_|refine ex3_2 ?_)
  refine lss_i (fun hlt => ?_) (fun hge => ?_)
  · have hk2 : k < xss.length := by omega
    have hrt := ok.tests _ (gd_mem [] hk2)
    (with_reducible repeat first|refine mv_i ?_|refine cnd_t ?_|refine cnd_f ?_|refine gd_tt ?_|refine gd_ff ?_|refine gd_tf ?_|refine gd_ft ?_|refine gd_u ?_|refine pick_t ?_|refine pick_f ?_|refine not_t ?_|refine not_f ?_|refine nil_i ?_|refine ret1 ?_|refine ret2 ?_|refine ret0 ?_|refine ret3 ?_|refine ex2_0 ?_|refine ex2_1 ?_|refine ex3_0 ?_|refine ex3_1 ?_|refine ex3_2 ?_)
    refine seq_J (fun xs h2 => xs = [.int .i64 (pickTo xss ch (k + 1))] ∧ h = h2) ?_ ?_
    · rintro _ _ ⟨rfl, rfl⟩ _
      (with_reducible repeat first|refine mv_i ?_|refine cnd_t ?_|refine cnd_f ?_|refine gd_tt ?_|refine gd_ff ?_|refine gd_tf ?_|refine gd_ft ?_|refine gd_u ?_|refine pick_t ?_|refine pick_f ?_|refine not_t ?_|refine not_f ?_|refine nil_i ?_|refine ret1 ?_|refine ret2 ?_|refine ret0 ?_|refine ret3 ?_|refine ex2_0 ?_|refine ex2_1 ?_|refine ex3_0 ?_|refine ex3_1 ?_|refine ex3_2 ?_)
      refine inc_i (by omega) ?_
      (with_reducible repeat first|refine mv_i ?_|refine cnd_t ?_|refine cnd_f ?_|refine gd_tt ?_|refine gd_ff ?_|refine gd_tf ?_|refine gd_ft ?_|refine gd_u ?_|refine pick_t ?_|refine pick_f ?_|refine not_t ?_|refine not_f ?_|refine nil_i ?_|refine ret1 ?_|refine ret2 ?_|refine ret0 ?_|refine ret3 ?_|refine ex2_0 ?_|refine ex2_1 ?_|refine ex3_0 ?_|refine ex3_1 ?_|refine ex3_2 ?_)
      exact next2 hk2 ⟨rfl, rfl⟩
    · intro k' hk'
      have yes : pickB xss ch (pickTo xss ch k) k = true → k' [.int .i64 (k : Int)] h := fun e => hk' _ _ ⟨by simp only [pickTo]; rw [if_pos e], rfl⟩
      have no : pickB xss ch (pickTo xss ch k) k = false → k' [.int .i64 (pickTo xss ch k)] h := fun e => hk' _ _ ⟨by simp only [pickTo]; rw [if_neg (by rw [e]; simp)], rfl⟩
      (with_reducible repeat first|refine mv_i ?_|refine cnd_t ?_|refine cnd_f ?_|refine gd_tt ?_|refine gd_ff ?_|refine gd_tf ?_|refine gd_ft ?_|refine gd_u ?_|refine pick_t ?_|refine pick_f ?_|refine not_t ?_|refine not_f ?_|refine nil_i ?_|refine ret1 ?_|refine ret2 ?_|refine ret0 ?_|refine ret3 ?_|refine ex2_0 ?_|refine ex2_1 ?_|refine ex3_0 ?_|refine ex3_1 ?_|refine ex3_2 ?_)
      refine idxw_i (k := k) t65 swh (by rw [List.length_map]; omega) ?_
      refine ldw_i (k := k) t65 r71 swh (by rw [List.length_map]; omega) ?_
      rw [ws_gd hk2]
      (with_reducible repeat first|refine mv_i ?_|refine cnd_t ?_|refine cnd_f ?_|refine gd_tt ?_|refine gd_ff ?_|refine gd_tf ?_|refine gd_ft ?_|refine gd_u ?_|refine pick_t ?_|refine pick_f ?_|refine not_t ?_|refine not_f ?_|refine nil_i ?_|refine ret1 ?_|refine ret2 ?_|refine ret0 ?_|refine ret3 ?_|refine ex2_0 ?_|refine ex2_1 ?_|refine ex3_0 ?_|refine ex3_1 ?_|refine ex3_2 ?_)
      refine and_i hrt.lt hc.lt ?_
      refine eql_i (fun hz => ?_) (fun hz => ?_)
      · have hh := (hit_iff hrt hc).mp hz
        (with_reducible repeat first|refine mv_i ?_|refine cnd_t ?_|refine cnd_f ?_|refine gd_tt ?_|refine gd_ff ?_|refine gd_tf ?_|refine gd_ft ?_|refine gd_u ?_|refine pick_t ?_|refine pick_f ?_|refine not_t ?_|refine not_f ?_|refine nil_i ?_|refine ret1 ?_|refine ret2 ?_|refine ret0 ?_|refine ret3 ?_|refine ex2_0 ?_|refine ex2_1 ?_|refine ex3_0 ?_|refine ex3_1 ?_|refine ex3_2 ?_)
        refine eql_i (fun hm => ?_) (fun hm => ?_)
        · (with_reducible repeat first|refine mv_i ?_|refine cnd_t ?_|refine cnd_f ?_|refine gd_tt ?_|refine gd_ff ?_|refine gd_tf ?_|refine gd_ft ?_|refine gd_u ?_|refine pick_t ?_|refine pick_f ?_|refine not_t ?_|refine not_f ?_|refine nil_i ?_|refine ret1 ?_|refine ret2 ?_|refine ret0 ?_|refine ret3 ?_|refine ex2_0 ?_|refine ex2_1 ?_|refine ex3_0 ?_|refine ex3_1 ?_|refine ex3_2 ?_)
          exact yes (by unfold pickB; rw [hh, hm]; rfl)
        · have hp : Picked xss ch k (pickTo xss ch k) := by
            rcases pickTo_spec xss ch k with ⟨e, _⟩ | h
            · exact absurd e hm
            · exact h
          obtain ⟨q, hq⟩ : ∃ q : Nat, pickTo xss ch k = (q : Int) := ⟨(pickTo xss ch k).toNat, (Int.toNat_of_nonneg hp.ge).symm⟩
          have hqk := hp.lt
          have erow : rowAtN xss (pickTo xss ch k) = xss.getD q [] := by unfold rowAtN; rw [hq, Int.toNat_natCast]
          have hqx : q < xss.length := by omega
          have hqt := ok.tests _ (gd_mem [] hqx)
          (with_reducible repeat first|refine mv_i ?_|refine cnd_t ?_|refine cnd_f ?_|refine gd_tt ?_|refine gd_ff ?_|refine gd_tf ?_|refine gd_ft ?_|refine gd_u ?_|refine pick_t ?_|refine pick_f ?_|refine not_t ?_|refine not_f ?_|refine nil_i ?_|refine ret1 ?_|refine ret2 ?_|refine ret0 ?_|refine ret3 ?_|refine ex2_0 ?_|refine ex2_1 ?_|refine ex3_0 ?_|refine ex3_1 ?_|refine ex3_2 ?_)
          refine calld_r (c53 (tests_lt12 hrt)) ⟨⟨[], by simp⟩, ?_⟩
          (with_reducible repeat first|refine mv_i ?_|refine cnd_t ?_|refine cnd_f ?_|refine gd_tt ?_|refine gd_ff ?_|refine gd_tf ?_|refine gd_ft ?_|refine gd_u ?_|refine pick_t ?_|refine pick_f ?_|refine not_t ?_|refine not_f ?_|refine nil_i ?_|refine ret1 ?_|refine ret2 ?_|refine ret0 ?_|refine ret3 ?_|refine ex2_0 ?_|refine ex2_1 ?_|refine ex3_0 ?_|refine ex3_1 ?_|refine ex3_2 ?_)
          rw [hq]
          refine idxw_i (k := q) t65 swh (by rw [List.length_map]; omega) ?_
          (with_reducible repeat first|refine mv_i ?_|refine cnd_t ?_|refine cnd_f ?_|refine gd_tt ?_|refine gd_ff ?_|refine gd_tf ?_|refine gd_ft ?_|refine gd_u ?_|refine pick_t ?_|refine pick_f ?_|refine not_t ?_|refine not_f ?_|refine nil_i ?_|refine ret1 ?_|refine ret2 ?_|refine ret0 ?_|refine ret3 ?_|refine ex2_0 ?_|refine ex2_1 ?_|refine ex3_0 ?_|refine ex3_1 ?_|refine ex3_2 ?_)
          refine ldw_i (k := q) t65 r71 swh (by rw [List.length_map]; omega) ?_
          rw [ws_gd hqx]
          refine ⟨trivial, ?_⟩
          (with_reducible repeat first|refine mv_i ?_|refine cnd_t ?_|refine cnd_f ?_|refine gd_tt ?_|refine gd_ff ?_|refine gd_tf ?_|refine gd_ft ?_|refine gd_u ?_|refine pick_t ?_|refine pick_f ?_|refine not_t ?_|refine not_f ?_|refine nil_i ?_|refine ret1 ?_|refine ret2 ?_|refine ret0 ?_|refine ret3 ?_|refine ex2_0 ?_|refine ex2_1 ?_|refine ex3_0 ?_|refine ex3_1 ?_|refine ex3_2 ?_)
          refine calld_r (c53 (tests_lt12 hqt)) ⟨⟨[], by simp⟩, ?_⟩
          (with_reducible repeat first|refine mv_i ?_|refine cnd_t ?_|refine cnd_f ?_|refine gd_tt ?_|refine gd_ff ?_|refine gd_tf ?_|refine gd_ft ?_|refine gd_u ?_|refine pick_t ?_|refine pick_f ?_|refine not_t ?_|refine not_f ?_|refine nil_i ?_|refine ret1 ?_|refine ret2 ?_|refine ret0 ?_|refine ret3 ?_|refine ex2_0 ?_|refine ex2_1 ?_|refine ex3_0 ?_|refine ex3_1 ?_|refine ex3_2 ?_)
          refine lss_i (fun hl => ?_) (fun hl => ?_)
          · (with_reducible repeat first|refine mv_i ?_|refine cnd_t ?_|refine cnd_f ?_|refine gd_tt ?_|refine gd_ff ?_|refine gd_tf ?_|refine gd_ft ?_|refine gd_u ?_|refine pick_t ?_|refine pick_f ?_|refine not_t ?_|refine not_f ?_|refine nil_i ?_|refine ret1 ?_|refine ret2 ?_|refine ret0 ?_|refine ret3 ?_|refine ex2_0 ?_|refine ex2_1 ?_|refine ex3_0 ?_|refine ex3_1 ?_|refine ex3_2 ?_)
            exact yes (by unfold pickB; rw [hh, erow, decide_eq_true (show ones (bitsOf (xss.getD k [])) < ones (bitsOf (xss.getD q [])) by omega)]; simp)
          · (with_reducible repeat first|refine mv_i ?_|refine cnd_t ?_|refine cnd_f ?_|refine gd_tt ?_|refine gd_ff ?_|refine gd_tf ?_|refine gd_ft ?_|refine gd_u ?_|refine pick_t ?_|refine pick_f ?_|refine not_t ?_|refine not_f ?_|refine nil_i ?_|refine ret1 ?_|refine ret2 ?_|refine ret0 ?_|refine ret3 ?_|refine ex2_0 ?_|refine ex2_1 ?_|refine ex3_0 ?_|refine ex3_1 ?_|refine ex3_2 ?_)
            rw [← hq]
            exact no (by unfold pickB; rw [hh, erow, decide_eq_false (show ¬ ones (bitsOf (xss.getD k [])) < ones (bitsOf (xss.getD q [])) by omega), decide_eq_false hm]; rfl)
      · have hh : hits (xss.getD k []) ch = true := by
          cases e : hits (xss.getD k []) ch with
          | true => rfl
          | false => exact absurd ((hit_iff hrt hc).mpr e) hz
        (with_reducible repeat first|refine mv_i ?_|refine cnd_t ?_|refine cnd_f ?_|refine gd_tt ?_|refine gd_ff ?_|refine gd_tf ?_|refine gd_ft ?_|refine gd_u ?_|refine pick_t ?_|refine pick_f ?_|refine not_t ?_|refine not_f ?_|refine nil_i ?_|refine ret1 ?_|refine ret2 ?_|refine ret0 ?_|refine ret3 ?_|refine ex2_0 ?_|refine ex2_1 ?_|refine ex3_0 ?_|refine ex3_1 ?_|refine ex3_2 ?_)
        exact no (by unfold pickB; rw [hh]; rfl)
  · have ek : k = xss.length := by omega
    subst ek
    have hp := ho.picked
    have epn : pickTo xss ch xss.length = pickN xss ch := rfl
    rw [epn]
    obtain ⟨q, hq⟩ : ∃ q : Nat, pickN xss ch = (q : Int) := ⟨(pickN xss ch).toNat, (Int.toNat_of_nonneg hp.ge).symm⟩
    have hqk := hp.lt
    have erow : rowAtN xss (pickN xss ch) = xss.getD q [] := by unfold rowAtN; rw [hq, Int.toNat_natCast]
    have hqx : q < xss.length := by omega
    have hqt := ok.tests _ (gd_mem [] hqx)
    have hqa := ok.asc _ (gd_mem [] hqx)
    have hsplit : prvL xss b ch = (q : Int) :: accP xss b ch (xss.getD q []) (xss.getD q []).length := by
      cases b with
      | zero => simp only [prvL, accP, hq]
      | succ b' => simp only [prvL, accP, erow]; rw [hq, List.take_of_length_le (Nat.le_refl _)]
    generalize hrow : xss.getD q [] = row at *
    (with_reducible repeat first|refine mv_i ?_|refine cnd_t ?_|refine cnd_f ?_|refine gd_tt ?_|refine gd_ff ?_|refine gd_tf ?_|refine gd_ft ?_|refine gd_u ?_|refine pick_t ?_|refine pick_f ?_|refine not_t ?_|refine not_f ?_|refine nil_i ?_|refine ret1 ?_|refine ret2 ?_|refine ret0 ?_|refine ret3 ?_|refine ex2_0 ?_|refine ex2_1 ?_|refine ex3_0 ?_|refine ex3_1 ?_|refine ex3_2 ?_)
    rw [hq]
    refine ok_i (bs23_1 _ _) ?_
    obtain ⟨o1, _⟩ := ow.ext (pre_new h [.int .i64 (q : Int)] 1)
    have hpl : (prvL xss b ch).length = (accP xss b ch row row.length).length + 1 := by rw [hsplit]; rfl
    refine app_i t23 o1 (Seg.new (n := 1) 2 (by simp) (by omega)) (by simp [Value.oneCell']) (by omega) ⟨by omega, by omega⟩ fun v' h1 o2 _ => ?_
    have sw1 := sw.mono (Sub.of_pre o2.pre)
    (with_reducible repeat first|refine mv_i ?_|refine cnd_t ?_|refine cnd_f ?_|refine gd_tt ?_|refine gd_ff ?_|refine gd_tf ?_|refine gd_ft ?_|refine gd_u ?_|refine pick_t ?_|refine pick_f ?_|refine not_t ?_|refine not_f ?_|refine nil_i ?_|refine ret1 ?_|refine ret2 ?_|refine ret0 ?_|refine ret3 ?_|refine ex2_0 ?_|refine ex2_1 ?_|refine ex3_0 ?_|refine ex3_1 ?_|refine ex3_2 ?_)
    refine idxw_i (k := q) t65 sw1 (by rw [List.length_map]; omega) ?_
    refine ldw_i (k := q) t65 r71 sw1 (by rw [List.length_map]; omega) ?_
    rw [ws_gd hqx, hrow]
    (with_reducible repeat first|refine mv_i ?_|refine cnd_t ?_|refine cnd_f ?_|refine gd_tt ?_|refine gd_ff ?_|refine gd_tf ?_|refine gd_ft ?_|refine gd_u ?_|refine pick_t ?_|refine pick_f ?_|refine not_t ?_|refine not_f ?_|refine nil_i ?_|refine ret1 ?_|refine ret2 ?_|refine ret0 ?_|refine ret3 ?_|refine ex2_0 ?_|refine ex2_1 ?_|refine ex3_0 ?_|refine ex3_1 ?_|refine ex3_2 ?_)
    have hacc : ∀ k, k ≤ row.length → (accP xss b ch row k).length ≤ (accP xss b ch row row.length).length := by
      intro k hk
      cases b with
      | zero => simp [accP]
      | succ b' =>
        simp only [accP, List.length_flatMap]
        have : row.take row.length = row.take k ++ row.drop k := by rw [List.take_of_length_le (Nat.le_refl _), List.take_append_drop]
        rw [this, List.map_append, List.sum_append]
        omega
    refine ⟨fun vs h3 => ∃ (k : Nat) (v : Value), vs = [v, .int .u64 (bitsOf (row.drop k) : Nat)] ∧ k ≤ row.length ∧ (b = 0 → k = 0) ∧ Own 1 h0 h3 v (out ++ [(q : Int)] ++ accP xss b ch row k).length ((out ++ [(q : Int)] ++ accP xss b ch row k).map (.int .i64)),
      fun vs _ => match vs with | [_, .int _ w] => w.toNat | _ => 0, ⟨0, v', rfl, by omega, fun _ => rfl, ?_⟩, ?_⟩
    · have e0 : accP xss b ch row 0 = [] := by cases b <;> simp [accP]
      rw [e0, List.append_nil, List.length_append, List.map_append]
      exact o2
    rintro h3 _ _ _ ⟨k, v, e, hk, hb0, o3⟩
    cases e
    rename Value => v
    have fin : k = row.length ∨ b = 0 → Own 1 h0 h3 v (out ++ prvL xss b ch).length ((out ++ prvL xss b ch).map (.int .i64)) := by
      intro hor
      have : out ++ [(q : Int)] ++ accP xss b ch row k = out ++ prvL xss b ch := by
        rw [hsplit, List.append_assoc]
        congr 1
        rcases hor with rfl | rfl
        · rfl
        · simp [accP]
      rw [← this]; exact o3
    (with_reducible repeat first|refine mv_i ?_|refine cnd_t ?_|refine cnd_f ?_|refine gd_tt ?_|refine gd_ff ?_|refine gd_tf ?_|refine gd_ft ?_|refine gd_u ?_|refine pick_t ?_|refine pick_f ?_|refine not_t ?_|refine not_f ?_|refine nil_i ?_|refine ret1 ?_|refine ret2 ?_|refine ret0 ?_|refine ret3 ?_|refine ex2_0 ?_|refine ex2_1 ?_|refine ex3_0 ?_|refine ex3_1 ?_|refine ex3_2 ?_)
    refine gtr_i (fun hpos => ?_) (fun hpos => ?_)
    · obtain ⟨b', rfl⟩ : ∃ b', b = b' + 1 := ⟨b - 1, by omega⟩
      (with_reducible repeat first|refine mv_i ?_|refine cnd_t ?_|refine cnd_f ?_|refine gd_tt ?_|refine gd_ff ?_|refine gd_tf ?_|refine gd_ft ?_|refine gd_u ?_|refine pick_t ?_|refine pick_f ?_|refine not_t ?_|refine not_f ?_|refine nil_i ?_|refine ret1 ?_|refine ret2 ?_|refine ret0 ?_|refine ret3 ?_|refine ex2_0 ?_|refine ex2_1 ?_|refine ex3_0 ?_|refine ex3_1 ?_|refine ex3_2 ?_)
      refine neq_i (fun hz0 => ?_) (fun hz0 => ?_)
      · have hkl : k = row.length := by
          apply Classical.byContradiction
          intro hne
          have hlt : k < row.length := by omega
          have hd := drop_cons hlt
          rw [hd] at hz0
          have hnn : ∀ y ∈ row.getD k 0 :: row.drop (k + 1), 0 ≤ y := fun y hy => by rw [← hd] at hy; exact nonneg hqt y (List.mem_of_mem_drop hy)
          have := (low_bits hnn (hqa k hlt)).1
          have hz1 : bitsOf (row.getD k 0 :: row.drop (k + 1)) = 0 := by omega
          rw [hz1] at this
          simp at this
        (with_reducible repeat first|refine mv_i ?_|refine cnd_t ?_|refine cnd_f ?_|refine gd_tt ?_|refine gd_ff ?_|refine gd_tf ?_|refine gd_ft ?_|refine gd_u ?_|refine pick_t ?_|refine pick_f ?_|refine not_t ?_|refine not_f ?_|refine nil_i ?_|refine ret1 ?_|refine ret2 ?_|refine ret0 ?_|refine ret3 ?_|refine ex2_0 ?_|refine ex2_1 ?_|refine ex3_0 ?_|refine ex3_1 ?_|refine ex3_2 ?_)
        exact fin (.inl hkl)
      · have hlt : k < row.length := by
          apply Classical.byContradiction
          intro hge
          rw [List.drop_of_length_le (by omega)] at hz0
          exact hz0 rfl
        have hd := drop_cons hlt
        have hnn : ∀ y ∈ row.getD k 0 :: row.drop (k + 1), 0 ≤ y := fun y hy => by rw [← hd] at hy; exact nonneg hqt y (List.mem_of_mem_drop hy)
        have hxt := hqt _ (gd_mem 0 hlt)
        have hwlt : bitsOf (row.drop k) < 2 ^ 64 := Tests.lt fun x hx => hqt x (List.mem_of_mem_drop hx)
        have hwpos : 0 < bitsOf (row.drop k) := by omega
        have hct := hc.snoc hxt
        have hlow := low_bits hnn (hqa k hlt)
        have hneg : bitsOf (row.drop k) &&& (2 ^ 64 - bitsOf (row.drop k)) = 2 ^ (row.getD k 0).toNat := by
          rw [hd] at hwlt ⊢
          exact low_and_neg hwlt hlow.1 hlow.2
        have hnext : bitsOf (row.drop k) &&& (bitsOf (row.drop k) - 1) = bitsOf (row.drop (k + 1)) := by
          rw [hd]; exact bits_next hnn (hqa k hlt)
        have hsucc : accP xss (b' + 1) ch row (k + 1) = accP xss (b' + 1) ch row k ++ prvL xss b' (ch ++ [row.getD k 0]) := by
          simp only [accP]
          rw [take_gd 0 hlt, List.flatMap_append]
          simp
        have hl1 := hacc (k + 1) (by omega)
        rw [hsucc, List.length_append] at hl1
        (with_reducible repeat first|refine mv_i ?_|refine cnd_t ?_|refine cnd_f ?_|refine gd_tt ?_|refine gd_ff ?_|refine gd_tf ?_|refine gd_ft ?_|refine gd_u ?_|refine pick_t ?_|refine pick_f ?_|refine not_t ?_|refine not_f ?_|refine nil_i ?_|refine ret1 ?_|refine ret2 ?_|refine ret0 ?_|refine ret3 ?_|refine ex2_0 ?_|refine ex2_1 ?_|refine ex3_0 ?_|refine ex3_1 ?_|refine ex3_2 ?_)
        refine neg_i hwpos hwlt ?_
        refine and_i hwlt (by omega) ?_
        rw [hneg]
        refine or_i hc.lt (Nat.pow_lt_pow_right (by omega) (by omega)) ?_
        rw [← bitsOf_snoc]
        (with_reducible repeat first|refine mv_i ?_|refine cnd_t ?_|refine cnd_f ?_|refine gd_tt ?_|refine gd_ff ?_|refine gd_tf ?_|refine gd_ft ?_|refine gd_u ?_|refine pick_t ?_|refine pick_f ?_|refine not_t ?_|refine not_f ?_|refine nil_i ?_|refine ret1 ?_|refine ret2 ?_|refine ret0 ?_|refine ret3 ?_|refine ex2_0 ?_|refine ex2_1 ?_|refine ex3_0 ?_|refine ex3_1 ?_|refine ex3_2 ?_)
        refine sub_i ⟨by omega, by omega⟩ ?_
        have e1 : ((b' + 1 : Nat) : Int) - 1 = (b' : Int) := by omega
        rw [e1]
        (with_reducible repeat first|refine mv_i ?_|refine cnd_t ?_|refine cnd_f ?_|refine gd_tt ?_|refine gd_ff ?_|refine gd_tf ?_|refine gd_ft ?_|refine gd_u ?_|refine pick_t ?_|refine pick_f ?_|refine not_t ?_|refine not_f ?_|refine nil_i ?_|refine ret1 ?_|refine ret2 ?_|refine ret0 ?_|refine ret3 ?_|refine ex2_0 ?_|refine ex2_1 ?_|refine ex3_0 ?_|refine ex3_1 ?_|refine ex3_2 ?_)
        refine call_i (ih b' rfl h0 h3 rv v (ch ++ [row.getD k 0]) _ sw o3 hct (ho.step hxt) (by simp only [List.length_append, List.length_singleton]; omega)) ?_
        rintro v2 h4 o4
        (with_reducible repeat first|refine mv_i ?_|refine cnd_t ?_|refine cnd_f ?_|refine gd_tt ?_|refine gd_ff ?_|refine gd_tf ?_|refine gd_ft ?_|refine gd_u ?_|refine pick_t ?_|refine pick_f ?_|refine not_t ?_|refine not_f ?_|refine nil_i ?_|refine ret1 ?_|refine ret2 ?_|refine ret0 ?_|refine ret3 ?_|refine ex2_0 ?_|refine ex2_1 ?_|refine ex3_0 ?_|refine ex3_1 ?_|refine ex3_2 ?_)
        refine dec_i hwpos hwlt ?_
        refine and_i hwlt (by omega) ?_
        rw [hnext]
        (with_reducible repeat first|refine mv_i ?_|refine cnd_t ?_|refine cnd_f ?_|refine gd_tt ?_|refine gd_ff ?_|refine gd_tf ?_|refine gd_ft ?_|refine gd_u ?_|refine pick_t ?_|refine pick_f ?_|refine not_t ?_|refine not_f ?_|refine nil_i ?_|refine ret1 ?_|refine ret2 ?_|refine ret0 ?_|refine ret3 ?_|refine ex2_0 ?_|refine ex2_1 ?_|refine ex3_0 ?_|refine ex3_1 ?_|refine ex3_2 ?_)
        refine ⟨⟨k + 1, v2, rfl, by omega, fun h => by omega, ?_⟩, ?_⟩
        · rw [hsucc, ← List.append_assoc]; exact o4
        · have hdec : bitsOf (row.drop (k + 1)) ≤ bitsOf (row.drop k) - 1 := by rw [← hnext]; exact Nat.and_le_right
          simp only [Int.toNat_natCast]
          omega
    · (with_reducible repeat first|refine mv_i ?_|refine cnd_t ?_|refine cnd_f ?_|refine gd_tt ?_|refine gd_ff ?_|refine gd_tf ?_|refine gd_ft ?_|refine gd_u ?_|refine pick_t ?_|refine pick_f ?_|refine not_t ?_|refine not_f ?_|refine nil_i ?_|refine ret1 ?_|refine ret2 ?_|refine ret0 ?_|refine ret3 ?_|refine ex2_0 ?_|refine ex2_1 ?_|refine ex3_0 ?_|refine ex3_1 ?_|refine ex3_2 ?_)
      exact fin (.inr (by omega))
theorem c54 {xss : List (List Int)} (ok : TabOK xss) : ∀ (b : Nat), b ≤ 2 ^ 40 → C54 xss b
  | 0, hb => c54step ok 0 hb fun b' e => by omega
  | b + 1, hb => c54step ok (b + 1) hb fun b' e => by
    obtain rfl : b' = b := by omega
    exact c54 ok b' (by omega)
end Go.Proofs.Ytkgdclcmfnhbmaa
