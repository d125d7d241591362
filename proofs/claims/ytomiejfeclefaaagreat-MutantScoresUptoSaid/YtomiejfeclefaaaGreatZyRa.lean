/-
  The law MutantScores of chapter 41 returns true for all arguments whose bulk is at most the bound of the statement, and they read as they did.
  Conditions: those of the given statement MutantScoresUptoSaid (arguments of bulk at most 1048576), no other.
-/
import Derived.Test.YtomiejfeclefaaaGreatPd
set_option linter.unusedSimpArgs false
set_option linter.unusedVariables false
namespace Go.Proofs.YtomiejfeclefaaaGreat
open Go.AM
open Go.ChangeShapes Go.WideShapes Go.ChangeAt Go.RowKit
namespace mutantScores
set_option maxRecDepth 100000 in
theorem contract (H : Type) (enc : TypeId × Value → H) (W : World) (base : Nat) (args : Array Value) (ds gs : List (DataW H)) (before : List MemPlace)
    (hval : ∀ (j : Nat) t v, Tryz.f3.params[j]? = some t → args[j]? = some v → Value.okWide Tryz.prog W .any base t v)
    (hW : DataW.Whole enc Tryz.prog Tryz.f3.params.toList Rows.mutantScoresSpec.vars false W args.toList ds gs before) (hk : Rows.uptoSmall H (ds ++ gs) = true) :
    Calls Tryz.prog 3 args W fun e W' => ∃ v, e = .returned v ∧ Rows.mutantScoresSpec.post enc Tryz.prog Tryz.f3 false true false false W args v W' := by
  have hW' := hW
  obtain ⟨p, q, hA, hV, _, _, _⟩ := hW'
  obtain ⟨rfl, rfl⟩ := trodVars_none hV
  have hp : Tryz.f3.params = #[24, 25, 26] := Tryz.params3
  have hlen := (trodAll_length hA).2
  rw [hp] at hlen
  obtain ⟨d0, d1, d2, rfl⟩ : ∃ d0 d1 d2, ds = [d0, d1, d2] := by
    match ds, hlen with
    | [d0, d1, d2], _ => exact ⟨d0, d1, d2, rfl⟩
  have hb := bulks.bound hk
  simp only [List.append_nil, Rows.uptoBulkAll, Nat.add_zero] at hb
  refine law_calls (tb := 4) (m := 8) laid ?_ (by kernel_rfl) rfl (by kernel_rfl) Tryz.underlying4 hval hW ⟨rfl, rfl, rfl⟩ ?_
  · rw [hp]
    intro t ht
    have ht' : t = 24 ∨ t = 25 ∨ t = 26 := by simpa using ht
    rcases ht' with rfl | rfl | rfl <;> exact ⟨by kernel_rfl, of_decide_eq_true (by kernel_rfl)⟩
  · intro h vs hl hr
    rw [hp] at hl hr
    obtain ⟨cs0, e0, r0⟩ := hr 0 24 d0 rfl rfl
    obtain ⟨cs1, e1, r1⟩ := hr 1 25 d1 rfl rfl
    obtain ⟨cs2, e2, r2⟩ := hr 2 26 d2 rfl rfl
    obtain ⟨x0, x1, x2, rfl⟩ : ∃ x0 x1 x2, vs = [x0, x1, x2] := by
      match vs, hl with
      | [x0, x1, x2], _ => exact ⟨x0, x1, x2, rfl⟩
    obtain rfl : x0 = absV Tryz.prog 24 cs0 := by simpa using e0
    obtain rfl : x1 = absV Tryz.prog 25 cs1 := by simpa using e1
    obtain rfl : x2 = absV Tryz.prog 26 cs2 := by simpa using e2
    have h0 := mac_le d0
    have h1 := dl_le (dlist dMut) d1
    have h2 := dl_le (dlist dint) d2
    obtain ⟨o, l, c, e1, s1⟩ := ARd_muts r1 (by omega)
    have e2 : absV Tryz.prog 25 cs1 = .slice o l c := by
      rw [e1]; simp [absV, Tryz.underlying25]
    rw [e2]
    obtain ⟨o', l', c', e1', s1'⟩ := ARd_words r2 (by omega)
    have e2' : absV Tryz.prog 26 cs2 = .slice o' l' c' := by
      rw [e1']; simp [absV, Tryz.underlying26]
    rw [e2']
    exact c1003 (ARd_mac r0 (by omega)) s1 s1' (by omega) (by omega) (fun l hl => by have := muts_le l hl; omega) (by omega) fun l hl => by have := words_le l hl; omega

set_option maxRecDepth 100000 in
theorem lifted (os : Os) (started : os.Started) (H : Type) (enc : TypeId × Value → H) (F : Stop.Interp) :
    ReturnsInHanded {} Tryz.checked os 3 .any ((Rows.OpenSpec.upto Rows.mutantScoresSpec).pre6 enc Tryz.prog Tryz.f3 Rows.mutantScoresUptoRow.domain false) (((Rows.OpenSpec.upto Rows.mutantScoresSpec).at F).post enc Tryz.prog Tryz.f3 false true false false) := by
  refine returnsInHanded_of_cond (C := Tryz.checked) (s := Rows.OpenSpec.upto Rows.mutantScoresSpec) (k := Rows.uptoSmall) rfl own started (by kernel_rfl) Tryz.func3
    (OpenSpec.witness (enc := enc) (C := Tryz.checked) (s := Rows.OpenSpec.upto Rows.mutantScoresSpec) (k := Rows.uptoSmall) rfl false ⟨#[], #[.agg #[.int .i64 0, .int .i64 0, .int .i64 0, .int .i64 0, .slice none 0 0], .slice none 0 0, .slice none 0 0], []⟩ 8 (by kernel_rfl) (by kernel_rfl) (by kernel_rfl)
      (x := ([.agg [.lit (.int .i64 0), .lit (.int .i64 0), .lit (.int .i64 0), .lit (.int .i64 0), .nil], .nil, .nil], [], [])) (by kernel_rfl) rfl (by kernel_rfl)) ?_
  intro W base args ds gs before hval hW _ hk _
  exact contract H enc W base args ds gs before hval hW hk

theorem over : Rows.mutantScoresUptoRow.holds Tryz.pinned (Rows.OpenSpec.upto Rows.mutantScoresSpec) :=
  OpenClaim.holds_of_cond 3 Tryz.f3 rfl rfl rfl rfl rfl rfl rfl ⟨rfl, rfl, rfl, rfl, rfl⟩ rfl rfl rfl rfl rfl (by kernel_rfl) Tryz.func3 (by kernel_rfl)
    (of_decide_eq_true (by kernel_rfl)) (by unfold Func.isWrapper; first | (rw [if_pos (by decide +kernel)]; kernel_rfl) | (rw [if_neg (by decide +kernel)]; exact ⟨rfl, rfl⟩))
    (fun os started H enc _ F => lifted os started H enc F)
theorem proved : Rows.MutantScoresUptoSaid := over
end mutantScores
end Go.Proofs.YtomiejfeclefaaaGreat
