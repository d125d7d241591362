import Derived.Test.YtkgdclcmfnhbmaaSpM
set_option linter.unusedSimpArgs false
set_option linter.unusedVariables false
set_option maxRecDepth 100000
namespace Go.Proofs.Ytkgdclcmfnhbmaa
open Go.AM
variable {h h' h0 : Heap}

theorem fa80_0 (i : Nat) : aFieldAddr Try.prog 80 (.pointer (some ⟨i, 0, none⟩)) 0 = some (.pointer (some ⟨i, 0, none⟩)) := by kernel_rfl
theorem fa80_1 (i : Nat) : aFieldAddr Try.prog 80 (.pointer (some ⟨i, 0, none⟩)) 1 = some (.pointer (some ⟨i, 1, none⟩)) := by kernel_rfl
theorem fa80_2 (i : Nat) : aFieldAddr Try.prog 80 (.pointer (some ⟨i, 0, none⟩)) 2 = some (.pointer (some ⟨i, 2, none⟩)) := by kernel_rfl
theorem r4 : isPlain Try.prog 4 = true := by kernel_rfl
theorem s3 : szOf Try.prog 3 = some 1 := by kernel_rfl
theorem s4 : szOf Try.prog 4 = some 1 := by kernel_rfl
/-- One more number behind a copied list. -/
theorem own_snoc {ch : List Int} {x : Int} {K : Value → Heap → Prop} (hl : ch.length ≤ 2 ^ 40)
    (hK : ∀ v' h', Sub h h' → IntS h' v' (ch ++ [x]) → K v' h') :
    okK (aAppend Try.prog 23 23 (ownV h ch) (.slice (some ⟨(ownH h ch).length, 0, none⟩) 1 2) (newArr (ownH h ch) [.int .i64 x] 1)) K := by
  have hx : Seg 1 (newArr (ownH h ch) [.int .i64 x] 1) (.slice (some ⟨(ownH h ch).length, 0, none⟩) 1 2) 1 [.int .i64 x] := Seg.new (n := 1) 2 (by simp) (by omega)
  have hp : h <+: newArr (ownH h ch) [.int .i64 x] 1 := (ownH_pre h ch).trans (pre_new _ _ _)
  by_cases h0 : ch.length = 0
  · have hc : ch = [] := List.length_eq_zero_iff.mp h0
    subst hc
    have e := own_app t23 h.length hx (by simp [Value.oneCell']) ⟨by omega, by omega⟩
    rw [if_neg (by omega)] at e
    have ev : ownV h [] = .slice (some ⟨h.length, 0, none⟩) 0 1 := by simp [ownV]
    rw [ev]
    refine ok_i e (hK _ _ (Sub.of_pre (hp.trans (pre_new _ _ _))) ?_)
    exact Seg.new (n := 1) 0 (by simp) (by simp)
  · have o : Own 1 h (newArr (ownH h ch) [.int .i64 x] 1) (ownV h ch) ch.length (ch.map (.int .i64)) := by
      refine ⟨⟨by simp, by omega⟩, hp, .inr ⟨h.length + 1, by unfold ownV; rw [if_neg h0], by omega, ?_⟩⟩
      refine (Sub.of_pre (pre_new _ _ _)).2 _ _ ?_
      unfold ownH
      rw [if_neg h0]
      have := newArr_get (newArr h [] 1) (ch.map (.int .i64)) 1
      rwa [newArr_length] at this
    refine app_i t23 o hx (by simp [Value.oneCell']) (by omega) ⟨by omega, by omega⟩ fun v' h' o' _ => hK v' h' (Sub.of_pre o'.pre) ?_
    have := o'.seg
    unfold IntS
    simpa using this

def Rk (i : Nat) (h : Heap) (pv : Value) (at_ : Nat) (bad : Bool) : Prop := h[i]? = some (.arr ⟨[pv, .int .i64 (at_ : Int), .bool bad], 3, false⟩)
theorem Rk.lt {i : Nat} {pv : Value} {a : Nat} {b : Bool} (c : Rk i h pv a b) : i < h.length := (List.getElem?_eq_some_iff.mp c).1
def Res43 (xss : List (List Int)) (b : Nat) (ch pf : List Int) (at0 at_ : Nat) (bad : Bool) : Prop :=
  match rdL xss b ch (pf.drop at0) with | none => bad = true | some rest => bad = false ∧ at_ ≤ pf.length ∧ pf.drop at_ = rest
def Read43 (xss : List (List Int)) (b : Nat) (ch pf : List Int) (at0 : Nat) (i : Nat) (h : Heap) (pv v : Value) (h' : Heap) : Prop :=
  KeptB i h h' ∧ ∃ at_ bad, Rk i h' pv at_ bad ∧ Res43 xss b ch pf at0 at_ bad
def C43 (xss : List (List Int)) (b : Nat) : Prop := ∀ (h : Heap) (i : Nat) (pv tv cv : Value) (ch pf : List Int) (at0 : Nat), Rk i h pv at0 false → RowsS h tv xss → IntS h pv pf → IntS h cv ch → at0 ≤ pf.length → ch.length + b ≤ 2 ^ 40 →
    DetP Try.prog 43 [.pointer (some ⟨i, 0, none⟩), tv, cv, .int .i64 (b : Int)] h (Read43 xss b ch pf at0 i h pv)
theorem bad_end {xss : List (List Int)} {b : Nat} {ch pf : List Int} {at0 i : Nat} {pv : Value} (rk : Rk i h pv at0 false) (hn : rdL xss b ch (pf.drop at0) = none) :
    okK ((aStore Try.prog 4 (.pointer (some ⟨i, 2, none⟩)) (.bool true) h).map (undef, ·)) fun _ h' => retV [] (Read43 xss b ch pf at0 i h pv) h' := by
  refine st_i s4 rk rfl (by simp) rfl rfl ?_
  refine ret0 ?_
  refine ⟨KeptB.set _ _ _, at0, true, ?_, ?_⟩
  · unfold Rk; simp [rk.lt]
  · unfold Res43; rw [hn]
theorem c43step {xss : List (List Int)} (hf : Few xss) (b : Nat) (hb : b ≤ 2 ^ 40) (ih : ∀ b', b = b' + 1 → C43 xss b') : C43 xss b := by
  intro h i pv tv cv ch pf at0 rk st sp sc hat hcb
  have ltp := sp.lt
  have ltt := st.lt
  refine w43 ?_
  unfold n43
  (with_reducible repeat first|refine mv_i ?_|refine cnd_t ?_|refine cnd_f ?_|refine gd_tt ?_|refine gd_ff ?_|refine gd_tf ?_|refine gd_ft ?_|refine gd_u ?_|refine pick_t ?_|refine pick_f ?_|refine not_t ?_|refine not_f ?_|refine nil_i ?_|refine ret1 ?_|refine ret2 ?_|refine ret0 ?_|refine ret3 ?_|refine ex2_0 ?_|refine ex2_1 ?_|refine ex3_0 ?_|refine ex3_1 ?_|refine ex3_2 ?_)
  refine vk_i (fa80_2 _) ?_
  refine ldc_i r4 rk rfl ?_
  refine ⟨trivial, ?_⟩
  (with_reducible repeat first|refine mv_i ?_|refine cnd_t ?_|refine cnd_f ?_|refine gd_tt ?_|refine gd_ff ?_|refine gd_tf ?_|refine gd_ft ?_|refine gd_u ?_|refine pick_t ?_|refine pick_f ?_|refine not_t ?_|refine not_f ?_|refine nil_i ?_|refine ret1 ?_|refine ret2 ?_|refine ret0 ?_|refine ret3 ?_|refine ex2_0 ?_|refine ex2_1 ?_|refine ex3_0 ?_|refine ex3_1 ?_|refine ex3_2 ?_)
  refine vk_i (fa80_1 _) ?_
  (with_reducible repeat first|refine mv_i ?_|refine cnd_t ?_|refine cnd_f ?_|refine gd_tt ?_|refine gd_ff ?_|refine gd_tf ?_|refine gd_ft ?_|refine gd_u ?_|refine pick_t ?_|refine pick_f ?_|refine not_t ?_|refine not_f ?_|refine nil_i ?_|refine ret1 ?_|refine ret2 ?_|refine ret0 ?_|refine ret3 ?_|refine ex2_0 ?_|refine ex2_1 ?_|refine ex3_0 ?_|refine ex3_1 ?_|refine ex3_2 ?_)
  refine ldc_i r3 rk rfl ?_
  refine ⟨trivial, ?_⟩
  (with_reducible repeat first|refine mv_i ?_|refine cnd_t ?_|refine cnd_f ?_|refine gd_tt ?_|refine gd_ff ?_|refine gd_tf ?_|refine gd_ft ?_|refine gd_u ?_|refine pick_t ?_|refine pick_f ?_|refine not_t ?_|refine not_f ?_|refine nil_i ?_|refine ret1 ?_|refine ret2 ?_|refine ret0 ?_|refine ret3 ?_|refine ex2_0 ?_|refine ex2_1 ?_|refine ex3_0 ?_|refine ex3_1 ?_|refine ex3_2 ?_)
  refine vk_i (fa80_0 _) ?_
  (with_reducible repeat first|refine mv_i ?_|refine cnd_t ?_|refine cnd_f ?_|refine gd_tt ?_|refine gd_ff ?_|refine gd_tf ?_|refine gd_ft ?_|refine gd_u ?_|refine pick_t ?_|refine pick_f ?_|refine not_t ?_|refine not_f ?_|refine nil_i ?_|refine ret1 ?_|refine ret2 ?_|refine ret0 ?_|refine ret3 ?_|refine ex2_0 ?_|refine ex2_1 ?_|refine ex3_0 ?_|refine ex3_1 ?_|refine ex3_2 ?_)
  refine ldc_i r23 rk rfl ?_
  refine ⟨seg_vb sp, ?_⟩
  (with_reducible repeat first|refine mv_i ?_|refine cnd_t ?_|refine cnd_f ?_|refine gd_tt ?_|refine gd_ff ?_|refine gd_tf ?_|refine gd_ft ?_|refine gd_u ?_|refine pick_t ?_|refine pick_f ?_|refine not_t ?_|refine not_f ?_|refine nil_i ?_|refine ret1 ?_|refine ret2 ?_|refine ret0 ?_|refine ret3 ?_|refine ex2_0 ?_|refine ex2_1 ?_|refine ex3_0 ?_|refine ex3_1 ?_|refine ex3_2 ?_)
  refine leni_i t23 sp ?_
  (with_reducible repeat first|refine mv_i ?_|refine cnd_t ?_|refine cnd_f ?_|refine gd_tt ?_|refine gd_ff ?_|refine gd_tf ?_|refine gd_ft ?_|refine gd_u ?_|refine pick_t ?_|refine pick_f ?_|refine not_t ?_|refine not_f ?_|refine nil_i ?_|refine ret1 ?_|refine ret2 ?_|refine ret0 ?_|refine ret3 ?_|refine ex2_0 ?_|refine ex2_1 ?_|refine ex3_0 ?_|refine ex3_1 ?_|refine ex3_2 ?_)
  refine geq_i (fun hge => ?_) (fun hlt => ?_)
  · (with_reducible repeat first|refine mv_i ?_|refine cnd_t ?_|refine cnd_f ?_|refine gd_tt ?_|refine gd_ff ?_|refine gd_tf ?_|refine gd_ft ?_|refine gd_u ?_|refine pick_t ?_|refine pick_f ?_|refine not_t ?_|refine not_f ?_|refine nil_i ?_|refine ret1 ?_|refine ret2 ?_|refine ret0 ?_|refine ret3 ?_|refine ex2_0 ?_|refine ex2_1 ?_|refine ex3_0 ?_|refine ex3_1 ?_|refine ex3_2 ?_)
    refine vk_i (fa80_2 _) ?_
    refine bad_end rk ?_
    rw [List.drop_of_length_le (by omega)]
    cases b <;> rfl
  · have hlt' : at0 < pf.length := by omega
    have hd := drop_cons hlt'
    (with_reducible repeat first|refine mv_i ?_|refine cnd_t ?_|refine cnd_f ?_|refine gd_tt ?_|refine gd_ff ?_|refine gd_tf ?_|refine gd_ft ?_|refine gd_u ?_|refine pick_t ?_|refine pick_f ?_|refine not_t ?_|refine not_f ?_|refine nil_i ?_|refine ret1 ?_|refine ret2 ?_|refine ret0 ?_|refine ret3 ?_|refine ex2_0 ?_|refine ex2_1 ?_|refine ex3_0 ?_|refine ex3_1 ?_|refine ex3_2 ?_)
    refine vk_i (fa80_0 _) ?_
    (with_reducible repeat first|refine mv_i ?_|refine cnd_t ?_|refine cnd_f ?_|refine gd_tt ?_|refine gd_ff ?_|refine gd_tf ?_|refine gd_ft ?_|refine gd_u ?_|refine pick_t ?_|refine pick_f ?_|refine not_t ?_|refine not_f ?_|refine nil_i ?_|refine ret1 ?_|refine ret2 ?_|refine ret0 ?_|refine ret3 ?_|refine ex2_0 ?_|refine ex2_1 ?_|refine ex3_0 ?_|refine ex3_1 ?_|refine ex3_2 ?_)
    refine ldc_i r23 rk rfl ?_
    refine ⟨seg_vb sp, ?_⟩
    (with_reducible repeat first|refine mv_i ?_|refine cnd_t ?_|refine cnd_f ?_|refine gd_tt ?_|refine gd_ff ?_|refine gd_tf ?_|refine gd_ft ?_|refine gd_u ?_|refine pick_t ?_|refine pick_f ?_|refine not_t ?_|refine not_f ?_|refine nil_i ?_|refine ret1 ?_|refine ret2 ?_|refine ret0 ?_|refine ret3 ?_|refine ex2_0 ?_|refine ex2_1 ?_|refine ex3_0 ?_|refine ex3_1 ?_|refine ex3_2 ?_)
    refine vk_i (fa80_1 _) ?_
    (with_reducible repeat first|refine mv_i ?_|refine cnd_t ?_|refine cnd_f ?_|refine gd_tt ?_|refine gd_ff ?_|refine gd_tf ?_|refine gd_ft ?_|refine gd_u ?_|refine pick_t ?_|refine pick_f ?_|refine not_t ?_|refine not_f ?_|refine nil_i ?_|refine ret1 ?_|refine ret2 ?_|refine ret0 ?_|refine ret3 ?_|refine ex2_0 ?_|refine ex2_1 ?_|refine ex3_0 ?_|refine ex3_1 ?_|refine ex3_2 ?_)
    refine ldc_i r3 rk rfl ?_
    refine ⟨trivial, ?_⟩
    (with_reducible repeat first|refine mv_i ?_|refine cnd_t ?_|refine cnd_f ?_|refine gd_tt ?_|refine gd_ff ?_|refine gd_tf ?_|refine gd_ft ?_|refine gd_u ?_|refine pick_t ?_|refine pick_f ?_|refine not_t ?_|refine not_f ?_|refine nil_i ?_|refine ret1 ?_|refine ret2 ?_|refine ret0 ?_|refine ret3 ?_|refine ex2_0 ?_|refine ex2_1 ?_|refine ex3_0 ?_|refine ex3_1 ?_|refine ex3_2 ?_)
    refine idxi_i (k := at0) t23 sp hlt' ?_
    (with_reducible repeat first|refine mv_i ?_|refine cnd_t ?_|refine cnd_f ?_|refine gd_tt ?_|refine gd_ff ?_|refine gd_tf ?_|refine gd_ft ?_|refine gd_u ?_|refine pick_t ?_|refine pick_f ?_|refine not_t ?_|refine not_f ?_|refine nil_i ?_|refine ret1 ?_|refine ret2 ?_|refine ret0 ?_|refine ret3 ?_|refine ex2_0 ?_|refine ex2_1 ?_|refine ex3_0 ?_|refine ex3_1 ?_|refine ex3_2 ?_)
    refine ldi_i (k := at0) t23 r3 sp hlt' ?_
    refine ⟨trivial, ?_⟩
    (with_reducible repeat first|refine mv_i ?_|refine cnd_t ?_|refine cnd_f ?_|refine gd_tt ?_|refine gd_ff ?_|refine gd_tf ?_|refine gd_ft ?_|refine gd_u ?_|refine pick_t ?_|refine pick_f ?_|refine not_t ?_|refine not_f ?_|refine nil_i ?_|refine ret1 ?_|refine ret2 ?_|refine ret0 ?_|refine ret3 ?_|refine ex2_0 ?_|refine ex2_1 ?_|refine ex3_0 ?_|refine ex3_1 ?_|refine ex3_2 ?_)
    refine lenr_i t22 st ?_
    (with_reducible repeat first|refine mv_i ?_|refine cnd_t ?_|refine cnd_f ?_|refine gd_tt ?_|refine gd_ff ?_|refine gd_tf ?_|refine gd_ft ?_|refine gd_u ?_|refine pick_t ?_|refine pick_f ?_|refine not_t ?_|refine not_f ?_|refine nil_i ?_|refine ret1 ?_|refine ret2 ?_|refine ret0 ?_|refine ret3 ?_|refine ex2_0 ?_|refine ex2_1 ?_|refine ex3_0 ?_|refine ex3_1 ?_|refine ex3_2 ?_)
    refine sub_i ⟨by omega, by omega⟩ ?_
    (with_reducible repeat first|refine mv_i ?_|refine cnd_t ?_|refine cnd_f ?_|refine gd_tt ?_|refine gd_ff ?_|refine gd_tf ?_|refine gd_ft ?_|refine gd_u ?_|refine pick_t ?_|refine pick_f ?_|refine not_t ?_|refine not_f ?_|refine nil_i ?_|refine ret1 ?_|refine ret2 ?_|refine ret0 ?_|refine ret3 ?_|refine ex2_0 ?_|refine ex2_1 ?_|refine ex3_0 ?_|refine ex3_1 ?_|refine ex3_2 ?_)
    refine calld_r (c61 _ _ _) ⟨⟨[], by simp⟩, ?_⟩
    generalize hp : pf.getD at0 0 = p at hd
    cases hr : inR p 0 ((xss.length : Int) - 1) with
    | false =>
      (with_reducible repeat first|refine mv_i ?_|refine cnd_t ?_|refine cnd_f ?_|refine gd_tt ?_|refine gd_ff ?_|refine gd_tf ?_|refine gd_ft ?_|refine gd_u ?_|refine pick_t ?_|refine pick_f ?_|refine not_t ?_|refine not_f ?_|refine nil_i ?_|refine ret1 ?_|refine ret2 ?_|refine ret0 ?_|refine ret3 ?_|refine ex2_0 ?_|refine ex2_1 ?_|refine ex3_0 ?_|refine ex3_1 ?_|refine ex3_2 ?_)
      refine vk_i (fa80_2 _) ?_
      refine bad_end rk ?_
      rw [hd, rd_bad (by unfold badAt; rw [hr]; rfl)]
    | true =>
      have hpr : 0 ≤ p ∧ p ≤ (xss.length : Int) - 1 := by simpa [inR] using hr
      obtain ⟨q, rfl⟩ : ∃ q : Nat, p = (q : Int) := ⟨p.toNat, (Int.toNat_of_nonneg hpr.1).symm⟩
      have hq : q < xss.length := by omega
      (with_reducible repeat first|refine mv_i ?_|refine cnd_t ?_|refine cnd_f ?_|refine gd_tt ?_|refine gd_ff ?_|refine gd_tf ?_|refine gd_ft ?_|refine gd_u ?_|refine pick_t ?_|refine pick_f ?_|refine not_t ?_|refine not_f ?_|refine nil_i ?_|refine ret1 ?_|refine ret2 ?_|refine ret0 ?_|refine ret3 ?_|refine ex2_0 ?_|refine ex2_1 ?_|refine ex3_0 ?_|refine ex3_1 ?_|refine ex3_2 ?_)
      refine vk_i (fa80_0 _) ?_
      (with_reducible repeat first|refine mv_i ?_|refine cnd_t ?_|refine cnd_f ?_|refine gd_tt ?_|refine gd_ff ?_|refine gd_tf ?_|refine gd_ft ?_|refine gd_u ?_|refine pick_t ?_|refine pick_f ?_|refine not_t ?_|refine not_f ?_|refine nil_i ?_|refine ret1 ?_|refine ret2 ?_|refine ret0 ?_|refine ret3 ?_|refine ex2_0 ?_|refine ex2_1 ?_|refine ex3_0 ?_|refine ex3_1 ?_|refine ex3_2 ?_)
      refine ldc_i r23 rk rfl ?_
      refine ⟨seg_vb sp, ?_⟩
      (with_reducible repeat first|refine mv_i ?_|refine cnd_t ?_|refine cnd_f ?_|refine gd_tt ?_|refine gd_ff ?_|refine gd_tf ?_|refine gd_ft ?_|refine gd_u ?_|refine pick_t ?_|refine pick_f ?_|refine not_t ?_|refine not_f ?_|refine nil_i ?_|refine ret1 ?_|refine ret2 ?_|refine ret0 ?_|refine ret3 ?_|refine ex2_0 ?_|refine ex2_1 ?_|refine ex3_0 ?_|refine ex3_1 ?_|refine ex3_2 ?_)
      refine vk_i (fa80_1 _) ?_
      (with_reducible repeat first|refine mv_i ?_|refine cnd_t ?_|refine cnd_f ?_|refine gd_tt ?_|refine gd_ff ?_|refine gd_tf ?_|refine gd_ft ?_|refine gd_u ?_|refine pick_t ?_|refine pick_f ?_|refine not_t ?_|refine not_f ?_|refine nil_i ?_|refine ret1 ?_|refine ret2 ?_|refine ret0 ?_|refine ret3 ?_|refine ex2_0 ?_|refine ex2_1 ?_|refine ex3_0 ?_|refine ex3_1 ?_|refine ex3_2 ?_)
      refine ldc_i r3 rk rfl ?_
      refine ⟨trivial, ?_⟩
      (with_reducible repeat first|refine mv_i ?_|refine cnd_t ?_|refine cnd_f ?_|refine gd_tt ?_|refine gd_ff ?_|refine gd_tf ?_|refine gd_ft ?_|refine gd_u ?_|refine pick_t ?_|refine pick_f ?_|refine not_t ?_|refine not_f ?_|refine nil_i ?_|refine ret1 ?_|refine ret2 ?_|refine ret0 ?_|refine ret3 ?_|refine ex2_0 ?_|refine ex2_1 ?_|refine ex3_0 ?_|refine ex3_1 ?_|refine ex3_2 ?_)
      refine idxi_i (k := at0) t23 sp hlt' ?_
      (with_reducible repeat first|refine mv_i ?_|refine cnd_t ?_|refine cnd_f ?_|refine gd_tt ?_|refine gd_ff ?_|refine gd_tf ?_|refine gd_ft ?_|refine gd_u ?_|refine pick_t ?_|refine pick_f ?_|refine not_t ?_|refine not_f ?_|refine nil_i ?_|refine ret1 ?_|refine ret2 ?_|refine ret0 ?_|refine ret3 ?_|refine ex2_0 ?_|refine ex2_1 ?_|refine ex3_0 ?_|refine ex3_1 ?_|refine ex3_2 ?_)
      refine ldi_i (k := at0) t23 r3 sp hlt' ?_
      refine ⟨trivial, ?_⟩
      rw [hp]
      (with_reducible repeat first|refine mv_i ?_|refine cnd_t ?_|refine cnd_f ?_|refine gd_tt ?_|refine gd_ff ?_|refine gd_tf ?_|refine gd_ft ?_|refine gd_u ?_|refine pick_t ?_|refine pick_f ?_|refine not_t ?_|refine not_f ?_|refine nil_i ?_|refine ret1 ?_|refine ret2 ?_|refine ret0 ?_|refine ret3 ?_|refine ex2_0 ?_|refine ex2_1 ?_|refine ex3_0 ?_|refine ex3_1 ?_|refine ex3_2 ?_)
      refine idxr_i (k := q) t22 st hq ?_
      (with_reducible repeat first|refine mv_i ?_|refine cnd_t ?_|refine cnd_f ?_|refine gd_tt ?_|refine gd_ff ?_|refine gd_tf ?_|refine gd_ft ?_|refine gd_u ?_|refine pick_t ?_|refine pick_f ?_|refine not_t ?_|refine not_f ?_|refine nil_i ?_|refine ret1 ?_|refine ret2 ?_|refine ret0 ?_|refine ret3 ?_|refine ex2_0 ?_|refine ex2_1 ?_|refine ex3_0 ?_|refine ex3_1 ?_|refine ex3_2 ?_)
      refine ldr_i (k := q) t22 r23 st hq fun r hrow => ?_
      refine ⟨seg_vb hrow, ?_⟩
      (with_reducible repeat first|refine mv_i ?_|refine cnd_t ?_|refine cnd_f ?_|refine gd_tt ?_|refine gd_ff ?_|refine gd_tf ?_|refine gd_ft ?_|refine gd_u ?_|refine pick_t ?_|refine pick_f ?_|refine not_t ?_|refine not_f ?_|refine nil_i ?_|refine ret1 ?_|refine ret2 ?_|refine ret0 ?_|refine ret3 ?_|refine ex2_0 ?_|refine ex2_1 ?_|refine ex3_0 ?_|refine ex3_1 ?_|refine ex3_2 ?_)
      refine calld_r (c52 hrow sc) ⟨⟨[], by simp⟩, ?_⟩
      cases hh : hits (xss.getD q []) ch with
      | true =>
        (with_reducible repeat first|refine mv_i ?_|refine cnd_t ?_|refine cnd_f ?_|refine gd_tt ?_|refine gd_ff ?_|refine gd_tf ?_|refine gd_ft ?_|refine gd_u ?_|refine pick_t ?_|refine pick_f ?_|refine not_t ?_|refine not_f ?_|refine nil_i ?_|refine ret1 ?_|refine ret2 ?_|refine ret0 ?_|refine ret3 ?_|refine ex2_0 ?_|refine ex2_1 ?_|refine ex3_0 ?_|refine ex3_1 ?_|refine ex3_2 ?_)
        refine vk_i (fa80_2 _) ?_
        refine bad_end rk ?_
        rw [hd, rd_bad (by unfold badAt; rw [Int.toNat_natCast, hh]; simp)]
      | false =>
        have hgood : badAt xss ch (q : Int) = false := by unfold badAt; rw [hr, Int.toNat_natCast, hh]; rfl
        (with_reducible repeat first|refine mv_i ?_|refine cnd_t ?_|refine cnd_f ?_|refine gd_tt ?_|refine gd_ff ?_|refine gd_tf ?_|refine gd_ft ?_|refine gd_u ?_|refine pick_t ?_|refine pick_f ?_|refine not_t ?_|refine not_f ?_|refine nil_i ?_|refine ret1 ?_|refine ret2 ?_|refine ret0 ?_|refine ret3 ?_|refine ex2_0 ?_|refine ex2_1 ?_|refine ex3_0 ?_|refine ex3_1 ?_|refine ex3_2 ?_)
        refine vk_i (fa80_0 _) ?_
        refine ldc_i r23 rk rfl ?_
        refine ⟨seg_vb sp, ?_⟩
        (with_reducible repeat first|refine mv_i ?_|refine cnd_t ?_|refine cnd_f ?_|refine gd_tt ?_|refine gd_ff ?_|refine gd_tf ?_|refine gd_ft ?_|refine gd_u ?_|refine pick_t ?_|refine pick_f ?_|refine not_t ?_|refine not_f ?_|refine nil_i ?_|refine ret1 ?_|refine ret2 ?_|refine ret0 ?_|refine ret3 ?_|refine ex2_0 ?_|refine ex2_1 ?_|refine ex3_0 ?_|refine ex3_1 ?_|refine ex3_2 ?_)
        refine vk_i (fa80_1 _) ?_
        refine ldc_i r3 rk rfl ?_
        refine ⟨trivial, ?_⟩
        refine idxi_i (k := at0) t23 sp hlt' ?_
        refine ldi_i (k := at0) t23 r3 sp hlt' ?_
        refine ⟨trivial, ?_⟩
        rw [hp]
        refine idxr_i (k := q) t22 st hq ?_
        refine ldr_i (k := q) t22 r23 st hq fun rv hrv => ?_
        refine ⟨seg_vb hrv, ?_⟩
        have ltr := hrv.lt
        (with_reducible repeat first|refine mv_i ?_|refine cnd_t ?_|refine cnd_f ?_|refine gd_tt ?_|refine gd_ff ?_|refine gd_tf ?_|refine gd_ft ?_|refine gd_u ?_|refine pick_t ?_|refine pick_f ?_|refine not_t ?_|refine not_f ?_|refine nil_i ?_|refine ret1 ?_|refine ret2 ?_|refine ret0 ?_|refine ret3 ?_|refine ex2_0 ?_|refine ex2_1 ?_|refine ex3_0 ?_|refine ex3_1 ?_|refine ex3_2 ?_)
        refine vk_i (fa80_1 _) ?_
        refine ldc_i r3 rk rfl ?_
        refine inc_i (by omega) ?_
        (with_reducible repeat first|refine mv_i ?_|refine cnd_t ?_|refine cnd_f ?_|refine gd_tt ?_|refine gd_ff ?_|refine gd_tf ?_|refine gd_ft ?_|refine gd_u ?_|refine pick_t ?_|refine pick_f ?_|refine not_t ?_|refine not_f ?_|refine nil_i ?_|refine ret1 ?_|refine ret2 ?_|refine ret0 ?_|refine ret3 ?_|refine ex2_0 ?_|refine ex2_1 ?_|refine ex3_0 ?_|refine ex3_1 ?_|refine ex3_2 ?_)
        refine vk_i (fa80_1 _) ?_
        refine st_i s3 rk rfl (by simp) rfl rfl ?_
        have hkp := KeptB.set i h (.arr { (⟨[pv, .int .i64 (at0 : Int), .bool false], 3, false⟩ : Arr) with cells := [pv, .int .i64 (at0 : Int), .bool false].set 1 (.int .i64 ((at0 + 1 : Nat) : Int)) })
        have hrk : Rk i (h.set i (.arr { (⟨[pv, .int .i64 (at0 : Int), .bool false], 3, false⟩ : Arr) with cells := [pv, .int .i64 (at0 : Int), .bool false].set 1 (.int .i64 ((at0 + 1 : Nat) : Int)) })) pv (at0 + 1) false := by
          unfold Rk; simp [rk.lt]
        generalize (h.set i (.arr { (⟨[pv, .int .i64 (at0 : Int), .bool false], 3, false⟩ : Arr) with cells := [pv, .int .i64 (at0 : Int), .bool false].set 1 (.int .i64 ((at0 + 1 : Nat) : Int)) })) = h2 at hkp hrk ⊢
        (with_reducible repeat first|refine mv_i ?_|refine cnd_t ?_|refine cnd_f ?_|refine gd_tt ?_|refine gd_ff ?_|refine gd_tf ?_|refine gd_ft ?_|refine gd_u ?_|refine pick_t ?_|refine pick_f ?_|refine not_t ?_|refine not_f ?_|refine nil_i ?_|refine ret1 ?_|refine ret2 ?_|refine ret0 ?_|refine ret3 ?_|refine ex2_0 ?_|refine ex2_1 ?_|refine ex3_0 ?_|refine ex3_1 ?_|refine ex3_2 ?_)
        refine loop1 (xss.getD q []).length (fun k h3 => KeptB i h h3 ∧ ∃ at2 bad2, Rk i h3 pv at2 bad2 ∧ ((b = 0 ∧ at2 = at0 + 1 ∧ bad2 = false) ∨ ∃ b', b = b' + 1 ∧
          match rdTo xss b' ch (xss.getD q []) k (pf.drop (at0 + 1)) with | none => bad2 = true | some rest => bad2 = false ∧ at2 ≤ pf.length ∧ pf.drop at2 = rest)) ⟨hkp, at0 + 1, false, hrk, ?_⟩ ?_
        · cases b with
          | zero => exact .inl ⟨rfl, rfl, rfl⟩
          | succ b' => exact .inr ⟨b', rfl, rfl, by omega, rfl⟩
        rintro k h3 _ hk ⟨kp3, at2, bad2, rk3, hst⟩
        have srow := hrv.keep kp3 rk (by simp)
        have endd : ∀ (hend : (b = 0 ∧ bad2 = false ∧ at2 = at0 + 1) ∨ ∃ b', b = b' + 1 ∧ ((bad2 = true ∧ rdTo xss b' ch (xss.getD q []) k (pf.drop (at0 + 1)) = none) ∨ (k = (xss.getD q []).length ∧ bad2 = false ∧ rdTo xss b' ch (xss.getD q []) k (pf.drop (at0 + 1)) = some (pf.drop at2) ∧ at2 ≤ pf.length))),
            Read43 xss b ch pf at0 i h pv (.tuple #[]) h3 := by
          intro hend
          refine ⟨kp3, at2, bad2, rk3, ?_⟩
          unfold Res43
          rw [hd]
          rcases hend with ⟨rfl, rfl, rfl⟩ | ⟨b', rfl, ⟨rfl, hn⟩ | ⟨hkl, rfl, hs, hle⟩⟩
          · have : rdL xss 0 ch ((q : Int) :: pf.drop (at0 + 1)) = some (pf.drop (at0 + 1)) := by simp [rdL, hgood]
            rw [this]
            exact ⟨rfl, by omega, rfl⟩
          · have : rdL xss (b' + 1) ch ((q : Int) :: pf.drop (at0 + 1)) = none := by
              simp only [rdL, hgood, Int.toNat_natCast]
              simpa using rdTo_none hn
            rw [this]
          · have : rdL xss (b' + 1) ch ((q : Int) :: pf.drop (at0 + 1)) = some (pf.drop at2) := by
              simp only [rdL, hgood, Int.toNat_natCast]
              unfold rdTo at hs
              rw [hkl, List.take_of_length_le (Nat.le_refl _)] at hs
              simpa using hs
            rw [this]
            exact ⟨rfl, hle, rfl⟩
        (with_reducible repeat first|refine mv_i ?_|refine cnd_t ?_|refine cnd_f ?_|refine gd_tt ?_|refine gd_ff ?_|refine gd_tf ?_|refine gd_ft ?_|refine gd_u ?_|refine pick_t ?_|refine pick_f ?_|refine not_t ?_|refine not_f ?_|refine nil_i ?_|refine ret1 ?_|refine ret2 ?_|refine ret0 ?_|refine ret3 ?_|refine ex2_0 ?_|refine ex2_1 ?_|refine ex3_0 ?_|refine ex3_1 ?_|refine ex3_2 ?_)
        refine leni_i t23 srow ?_
        refine lss_i (fun hkl => ?_) (fun hkl => ?_)
        · (with_reducible repeat first|refine mv_i ?_|refine cnd_t ?_|refine cnd_f ?_|refine gd_tt ?_|refine gd_ff ?_|refine gd_tf ?_|refine gd_ft ?_|refine gd_u ?_|refine pick_t ?_|refine pick_f ?_|refine not_t ?_|refine not_f ?_|refine nil_i ?_|refine ret1 ?_|refine ret2 ?_|refine ret0 ?_|refine ret3 ?_|refine ex2_0 ?_|refine ex2_1 ?_|refine ex3_0 ?_|refine ex3_1 ?_|refine ex3_2 ?_)
          refine gtr_i (fun hpos => ?_) (fun hpos => ?_)
          · obtain ⟨b', rfl, hto⟩ : ∃ b', b = b' + 1 ∧ match rdTo xss b' ch (xss.getD q []) k (pf.drop (at0 + 1)) with | none => bad2 = true | some rest => bad2 = false ∧ at2 ≤ pf.length ∧ pf.drop at2 = rest := by
              rcases hst with ⟨rfl, _⟩ | h
              · omega
              · exact h
            (with_reducible repeat first|refine mv_i ?_|refine cnd_t ?_|refine cnd_f ?_|refine gd_tt ?_|refine gd_ff ?_|refine gd_tf ?_|refine gd_ft ?_|refine gd_u ?_|refine pick_t ?_|refine pick_f ?_|refine not_t ?_|refine not_f ?_|refine nil_i ?_|refine ret1 ?_|refine ret2 ?_|refine ret0 ?_|refine ret3 ?_|refine ex2_0 ?_|refine ex2_1 ?_|refine ex3_0 ?_|refine ex3_1 ?_|refine ex3_2 ?_)
            refine vk_i (fa80_2 _) ?_
            (with_reducible repeat first|refine mv_i ?_|refine cnd_t ?_|refine cnd_f ?_|refine gd_tt ?_|refine gd_ff ?_|refine gd_tf ?_|refine gd_ft ?_|refine gd_u ?_|refine pick_t ?_|refine pick_f ?_|refine not_t ?_|refine not_f ?_|refine nil_i ?_|refine ret1 ?_|refine ret2 ?_|refine ret0 ?_|refine ret3 ?_|refine ex2_0 ?_|refine ex2_1 ?_|refine ex3_0 ?_|refine ex3_1 ?_|refine ex3_2 ?_)
            refine ldc_i r4 rk3 rfl ?_
            cases bad2 with
            | true =>
              (with_reducible repeat first|refine mv_i ?_|refine cnd_t ?_|refine cnd_f ?_|refine gd_tt ?_|refine gd_ff ?_|refine gd_tf ?_|refine gd_ft ?_|refine gd_u ?_|refine pick_t ?_|refine pick_f ?_|refine not_t ?_|refine not_f ?_|refine nil_i ?_|refine ret1 ?_|refine ret2 ?_|refine ret0 ?_|refine ret3 ?_|refine ex2_0 ?_|refine ex2_1 ?_|refine ex3_0 ?_|refine ex3_1 ?_|refine ex3_2 ?_)
              refine endd (.inr ⟨b', rfl, .inl ⟨rfl, ?_⟩⟩)
              split at hto
              · assumption
              · exact absurd hto.1 (by simp)
            | false =>
              have hto2 : rdTo xss b' ch (xss.getD q []) k (pf.drop (at0 + 1)) = some (pf.drop at2) ∧ at2 ≤ pf.length := by
                split at hto
                · cases hto
                · rename_i rest hrest
                  rw [hrest, hto.2.2]; exact ⟨rfl, hto.2.1⟩
              have hsucc := rdTo_succ (xss := xss) (b := b') (ch := ch) (pf := pf.drop (at0 + 1)) (show k < (xss.getD q []).length by omega)
              rw [hto2.1] at hsucc
              have sc3 := sc.keep kp3 rk (by simp)
              obtain ⟨new, enew⟩ := ownH_pre h3 ch
              have srow4 := srow.mono (Sub.of_pre (ownH_pre h3 ch))
              (with_reducible repeat first|refine mv_i ?_|refine cnd_t ?_|refine cnd_f ?_|refine gd_tt ?_|refine gd_ff ?_|refine gd_tf ?_|refine gd_ft ?_|refine gd_u ?_|refine pick_t ?_|refine pick_f ?_|refine not_t ?_|refine not_f ?_|refine nil_i ?_|refine ret1 ?_|refine ret2 ?_|refine ret0 ?_|refine ret3 ?_|refine ex2_0 ?_|refine ex2_1 ?_|refine ex3_0 ?_|refine ex3_1 ?_|refine ex3_2 ?_)
              refine calld_r (c13 sc3 (by omega)) ⟨⟨new, enew.symm⟩, ?_⟩
              (with_reducible repeat first|refine mv_i ?_|refine cnd_t ?_|refine cnd_f ?_|refine gd_tt ?_|refine gd_ff ?_|refine gd_tf ?_|refine gd_ft ?_|refine gd_u ?_|refine pick_t ?_|refine pick_f ?_|refine not_t ?_|refine not_f ?_|refine nil_i ?_|refine ret1 ?_|refine ret2 ?_|refine ret0 ?_|refine ret3 ?_|refine ex2_0 ?_|refine ex2_1 ?_|refine ex3_0 ?_|refine ex3_1 ?_|refine ex3_2 ?_)
              refine idxi_i (k := k) t23 srow4 (by omega) ?_
              refine ldi_i (k := k) t23 r3 srow4 (by omega) ?_
              refine ⟨trivial, ?_⟩
              refine ok_i (bs23_1 _ _) ?_
              refine own_snoc (by omega) fun v' h5 sb5 sv5 => ?_
              refine ⟨trivial, ?_⟩
              (with_reducible repeat first|refine mv_i ?_|refine cnd_t ?_|refine cnd_f ?_|refine gd_tt ?_|refine gd_ff ?_|refine gd_tf ?_|refine gd_ft ?_|refine gd_u ?_|refine pick_t ?_|refine pick_f ?_|refine not_t ?_|refine not_f ?_|refine nil_i ?_|refine ret1 ?_|refine ret2 ?_|refine ret0 ?_|refine ret3 ?_|refine ex2_0 ?_|refine ex2_1 ?_|refine ex3_0 ?_|refine ex3_1 ?_|refine ex3_2 ?_)
              refine sub_i ⟨by omega, by omega⟩ ?_
              have e1 : ((b' + 1 : Nat) : Int) - 1 = (b' : Int) := by omega
              rw [e1]
              have rk5 : Rk i h5 pv at2 false := sb5.2 _ _ rk3
              refine call_i (ih b' rfl h5 i pv tv v' _ pf at2 rk5 ((st.keep kp3 rk (by simp)).mono sb5) ((sp.keep kp3 rk (by simp)).mono sb5) sv5 hto2.2 (by simp; omega)) ?_
              rintro _ h6 ⟨kp6, at3, bad3, rk6, hres⟩
              (with_reducible repeat first|refine mv_i ?_|refine cnd_t ?_|refine cnd_f ?_|refine gd_tt ?_|refine gd_ff ?_|refine gd_tf ?_|refine gd_ft ?_|refine gd_u ?_|refine pick_t ?_|refine pick_f ?_|refine not_t ?_|refine not_f ?_|refine nil_i ?_|refine ret1 ?_|refine ret2 ?_|refine ret0 ?_|refine ret3 ?_|refine ex2_0 ?_|refine ex2_1 ?_|refine ex3_0 ?_|refine ex3_1 ?_|refine ex3_2 ?_)
              refine inc_i (by omega) ?_
              (with_reducible repeat first|refine mv_i ?_|refine cnd_t ?_|refine cnd_f ?_|refine gd_tt ?_|refine gd_ff ?_|refine gd_tf ?_|refine gd_ft ?_|refine gd_u ?_|refine pick_t ?_|refine pick_f ?_|refine not_t ?_|refine not_f ?_|refine nil_i ?_|refine ret1 ?_|refine ret2 ?_|refine ret0 ?_|refine ret3 ?_|refine ex2_0 ?_|refine ex2_1 ?_|refine ex3_0 ?_|refine ex3_1 ?_|refine ex3_2 ?_)
              refine next1 (by omega) ⟨(kp3.trans sb5.kept).trans kp6, at3, bad3, rk6, .inr ⟨b', rfl, ?_⟩⟩
              unfold Res43 at hres
              rw [hsucc]
              simpa using hres
          · (with_reducible repeat first|refine mv_i ?_|refine cnd_t ?_|refine cnd_f ?_|refine gd_tt ?_|refine gd_ff ?_|refine gd_tf ?_|refine gd_ft ?_|refine gd_u ?_|refine pick_t ?_|refine pick_f ?_|refine not_t ?_|refine not_f ?_|refine nil_i ?_|refine ret1 ?_|refine ret2 ?_|refine ret0 ?_|refine ret3 ?_|refine ex2_0 ?_|refine ex2_1 ?_|refine ex3_0 ?_|refine ex3_1 ?_|refine ex3_2 ?_)
            refine endd (.inl ?_)
            rcases hst with ⟨h1, h2, h3⟩ | ⟨b', rfl, _⟩
            · exact ⟨h1, h3, h2⟩
            · omega
        · have hkk : k = (xss.getD q []).length := by omega
          (with_reducible repeat first|refine mv_i ?_|refine cnd_t ?_|refine cnd_f ?_|refine gd_tt ?_|refine gd_ff ?_|refine gd_tf ?_|refine gd_ft ?_|refine gd_u ?_|refine pick_t ?_|refine pick_f ?_|refine not_t ?_|refine not_f ?_|refine nil_i ?_|refine ret1 ?_|refine ret2 ?_|refine ret0 ?_|refine ret3 ?_|refine ex2_0 ?_|refine ex2_1 ?_|refine ex3_0 ?_|refine ex3_1 ?_|refine ex3_2 ?_)
          refine endd ?_
          rcases hst with ⟨h1, h2, h3⟩ | ⟨b', rfl, hto⟩
          · exact .inl ⟨h1, h3, h2⟩
          · refine .inr ⟨b', rfl, ?_⟩
            split at hto
            · rename_i hn; exact .inl ⟨hto, hn⟩
            · rename_i rest hs; exact .inr ⟨hkk, hto.1, by rw [hs, hto.2.2], hto.2.1⟩
theorem c43 {xss : List (List Int)} (hf : Few xss) : ∀ (b : Nat), b ≤ 2 ^ 40 → C43 xss b
  | 0, hb => c43step hf 0 hb fun b' e => by omega
  | b + 1, hb => c43step hf (b + 1) hb fun b' e => by
    obtain rfl : b' = b := by omega
    exact c43 hf b' (by omega)
end Go.Proofs.Ytkgdclcmfnhbmaa
