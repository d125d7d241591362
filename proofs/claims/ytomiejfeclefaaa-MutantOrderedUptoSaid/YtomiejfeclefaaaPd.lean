import Derived.Test.YtomiejfeclefaaaAmW
import Derived.Test.YtomiejfeclefaaaProg
import Derived.KernelRfl
import Derived.Test.YtomiejfeclefaaaPc
import Derived.Test.YtomiejfeclefaaaAnM
set_option linter.unusedVariables false
set_option maxRecDepth 100000
namespace Go.Proofs.Ytomiejfeclefaaa
open Go.AM

/-! ### examiner/mutant.StandsFor: function 38 -/
def n38 (a0 a1 a2 : Value) (h : Heap) (R : Value → Heap → Prop) : Prop :=
  okK (some (aBox Try.prog 24 a0 h)) fun v3 h =>
  mvK (Value.slice none 0 0) h fun v6 h =>
  mvK (Value.int IntKind.i64 0) h fun v7 h =>
  vK (aLoad Try.prog 24 v3 h) h fun v23 h =>
  mvK a1 h fun v24 h =>
  mvK a2 h fun v25 h =>
  okK (aBuildSlice Try.prog 51 2 [(0, v24), (1, v25)] h) fun v26 h =>
  cK Try.prog 47 [v23, v26] h fun v27 h =>
  mvK v27 h fun v8 h =>
  mvK v8 h fun v28 h =>
  vK (aBin Try.prog BinOp.neq 28 v28 (Value.int IntKind.i64 0)) h fun v29 h =>
  cnd v29 (
   mvK v8 h fun v30 h =>
   mvK (Value.slice none 0 0) h fun v6_1 h =>
   mvK v30 h fun v7_1 h =>
   retV [some v6_1, some v7_1] R h) (
   vK (aLoad Try.prog 24 v3 h) h fun v31 g =>
   VB h.length v31 ∧ (let h := g
    mvK a1 h fun v32 h =>
    cKD Try.prog 50 [v31, v32] h fun v33 g =>
    (∃ new, g = h ++ new) ∧ (let h := g
     vK (aLoad Try.prog 24 v3 h) h fun v34 g =>
     VB h.length v34 ∧ (let h := g
      mvK a2 h fun v35 h =>
      cKD Try.prog 50 [v34, v35] h fun v36 g =>
      (∃ new, g = h ++ new) ∧ (let h := g
       okK (aAlloc Try.prog 24 h) fun v9 h =>
       okK (aAlloc Try.prog 24 h) fun v10 h =>
       okK ((aStore Try.prog 24 v9 v33 h).map (undef, ·)) fun _ h =>
       (True) ∧ (
        okK ((aStore Try.prog 24 v10 v36 h).map (undef, ·)) fun _ h =>
        (True) ∧ (
         vK (aLoad Try.prog 24 v3 h) h fun v38 h =>
         vK (aLoad Try.prog 24 v9 h) h fun v39 h =>
         cK Try.prog 64 [v38, v39] h fun v40 h =>
         mvK v40 h fun v37 h =>
         vK (aExtract v37 0) h fun v41 h =>
         vK (aExtract v37 1) h fun v42 h =>
         mvK v41 h fun v11 h =>
         mvK v42 h fun v12 h =>
         mvK v12 h fun v43 h =>
         vK (aBin Try.prog BinOp.neq 28 v43 (Value.int IntKind.i64 0)) h fun v44 h =>
         cnd v44 (
          mvK (Value.slice none 0 0) h fun v6_2 h =>
          mvK (Value.int IntKind.i64 23) h fun v7_2 h =>
          retV [some v6_2, some v7_2] R h) (
          vK (aFieldAddr Try.prog 24 v3 3) h fun v45 h =>
          vK (aLoad Try.prog 3 v45 h) h fun v46 h =>
          vK (aFieldAddr Try.prog 24 v9 3) h fun v47 h =>
          vK (aLoad Try.prog 3 v47 h) h fun v48 h =>
          vK (aFieldAddr Try.prog 24 v10 3) h fun v49 h =>
          vK (aLoad Try.prog 3 v49 h) h fun v50 h =>
          vK (aBuild Try.prog 107 [(0, v46), (1, v48), (2, v50)]) h fun v51 h =>
          okK (aBuildSlice Try.prog 108 1 [(0, v51)] h) fun v52 h =>
          okK (aBuildSlice Try.prog 109 1 [(0, (Value.slice none 0 0))] h) fun v53 h =>
          mvK v52 h fun v13 h =>
          mvK v53 h fun v14 h =>
          okK (some (.map (some h.length), newMap h)) fun v54 h =>
          mvK v13 h fun v55 h =>
          vK (aIndexAddr Try.prog 108 v55 (Value.int IntKind.i64 0)) h fun v56 h =>
          vK (aLoad Try.prog 107 v56 h) h fun v57 h =>
          okK ((aMapUpd Try.prog 110 v54 v57 (Value.bool true) h).map (undef, ·)) fun _ h =>
          mvK v54 h fun v58 h =>
          mvK v58 h fun v15 h =>
          mvK (Value.int IntKind.i64 0) h fun v16 h =>
          ∃ (I11 : List Value → Heap → Prop) (μ11 : List Value → Heap → Nat), I11 [v13, v14, v16] h ∧
          ∀ (h11 : Heap) (j11 : Tmps) (v13_1 : Value) (v14_1 : Value) (v16_1 : Value), I11 [v13_1, v14_1, v16_1] h11 → (let h := h11
           mvK v16_1 h fun v59 h =>
           mvK v13_1 h fun v60 h =>
           vK (aLen Try.prog 108 v60) h fun v61 h =>
           vK (aBin Try.prog BinOp.lss 3 v59 v61) h fun v62 h =>
           cnd v62 (
            mvK v13_1 h fun v65 h =>
            mvK v16_1 h fun v66 h =>
            vK (aIndexAddr Try.prog 108 v65 v66) h fun v67 h =>
            vK (aLoad Try.prog 107 v67 h) h fun v68 h =>
            okK (aAlloc Try.prog 107 h) fun v17 h =>
            okK ((aStore Try.prog 107 v17 v68 h).map (undef, ·)) fun _ h =>
            vK (aFieldAddr Try.prog 107 v17 3) h fun v69 h =>
            vK (aLoad Try.prog 4 v69 h) h fun v70 h =>
            cnd v70 (
             mvK v14_1 h fun v71 h =>
             mvK v16_1 h fun v72 h =>
             vK (aIndexAddr Try.prog 109 v71 v72) h fun v73 h =>
             vK (aLoad Try.prog 53 v73 h) h fun v74 h =>
             mvK v74 h fun v6_3 h =>
             mvK (Value.int IntKind.i64 29) h fun v7_3 h =>
             retV [some v6_3, some v7_3] R h) (
             vK (aFieldAddr Try.prog 24 v3 1) h fun v75 h =>
             vK (aLoad Try.prog 3 v75 h) h fun v76 h =>
             mvK (Value.int IntKind.i64 0) h fun v77 h =>
             ∃ (I17 : List Value → Heap → Prop) (μ17 : List Value → Heap → Nat), I17 [v13_1, v14_1, v77] h ∧
             ∀ (h17 : Heap) (j17 : Tmps) (v13_2 : Value) (v14_2 : Value) (v77_1 : Value), I17 [v13_2, v14_2, v77_1] h17 → (let h := h17
              vK (aBin Try.prog BinOp.lss 3 v77_1 v76) h fun v78 h =>
              cnd v78 (
               seqK (fun k0 =>
                mvK v77_1 h fun v79 h =>
                mvK v79 h fun v18 h =>
                vK (aLoad Try.prog 24 v3 h) h fun v80 g =>
                VB h.length v80 ∧ (let h := g
                 vK (aFieldAddr Try.prog 107 v17 0) h fun v81 h =>
                 vK (aLoad Try.prog 3 v81 h) h fun v82 g =>
                 VB h.length v82 ∧ (let h := g
                  mvK v18 h fun v83 h =>
                  cKD Try.prog 52 [v80, v82, v83] h fun v84 g =>
                  (∃ new, g = h ++ new) ∧ (let h := g
                   vK (aLoad Try.prog 24 v9 h) h fun v85 g =>
                   VB h.length v85 ∧ (let h := g
                    vK (aFieldAddr Try.prog 107 v17 1) h fun v86 h =>
                    vK (aLoad Try.prog 3 v86 h) h fun v87 g =>
                    VB h.length v87 ∧ (let h := g
                     mvK v18 h fun v88 h =>
                     cKD Try.prog 52 [v85, v87, v88] h fun v89 g =>
                     (∃ new, g = h ++ new) ∧ (let h := g
                      vK (aLoad Try.prog 24 v10 h) h fun v90 g =>
                      VB h.length v90 ∧ (let h := g
                       vK (aFieldAddr Try.prog 107 v17 2) h fun v91 h =>
                       vK (aLoad Try.prog 3 v91 h) h fun v92 g =>
                       VB h.length v92 ∧ (let h := g
                        mvK v18 h fun v93 h =>
                        cKD Try.prog 52 [v90, v92, v93] h fun v94 g =>
                        (∃ new, g = h ++ new) ∧ (let h := g
                         okK (aAlloc Try.prog 82 h) fun v19 h =>
                         okK (aAlloc Try.prog 82 h) fun v20 h =>
                         okK (aAlloc Try.prog 82 h) fun v21 h =>
                         okK ((aStore Try.prog 82 v19 v84 h).map (undef, ·)) fun _ h =>
                         (True) ∧ (
                          okK ((aStore Try.prog 82 v20 v89 h).map (undef, ·)) fun _ h =>
                          (True) ∧ (
                           okK ((aStore Try.prog 82 v21 v94 h).map (undef, ·)) fun _ h =>
                           (True) ∧ (
                            vK (aFieldAddr Try.prog 82 v19 3) h fun v95 h =>
                            vK (aLoad Try.prog 3 v95 h) h fun v96 h =>
                            vK (aFieldAddr Try.prog 82 v20 3) h fun v97 h =>
                            vK (aLoad Try.prog 3 v97 h) h fun v98 h =>
                            vK (aFieldAddr Try.prog 82 v21 3) h fun v99 h =>
                            vK (aLoad Try.prog 3 v99 h) h fun v100 h =>
                            vK (aFieldAddr Try.prog 82 v19 2) h fun v101 h =>
                            vK (aLoad Try.prog 3 v101 h) h fun v102 h =>
                            vK (aFieldAddr Try.prog 82 v20 2) h fun v103 h =>
                            vK (aLoad Try.prog 3 v103 h) h fun v104 h =>
                            vK (aBin Try.prog BinOp.neq 3 v102 v104) h fun v105 h =>
                            vK (aBuild Try.prog 107 [(0, v96), (1, v98), (2, v100), (3, v105)]) h fun v106 h =>
                            okK (aAlloc Try.prog 107 h) fun v22 h =>
                            okK ((aStore Try.prog 107 v22 v106 h).map (undef, ·)) fun _ h =>
                            vK (aFieldAddr Try.prog 82 v19 2) h fun v107 h =>
                            vK (aLoad Try.prog 3 v107 h) h fun v108 h =>
                            vK (aFieldAddr Try.prog 82 v21 2) h fun v109 h =>
                            vK (aLoad Try.prog 3 v109 h) h fun v110 h =>
                            vK (aBin Try.prog BinOp.neq 3 v108 v110) h fun v111 h =>
                            mvK v111 h fun v112 h =>
                            gdK v112 false (fun k1 =>
                             mvK v15 h fun v113 h =>
                             k1 v113 h) (fun v113_1 h =>
                             gdK v112 false (fun k2 =>
                              vK (aLoad Try.prog 107 v22 h) h fun v114 h =>
                              k2 v114 h) (fun v114_1 h =>
                              gdK v112 false (fun k3 =>
                               vK (aLookup Try.prog 110 v113_1 v114_1 false h) h fun v115 h =>
                               k3 v115 h) (fun v115_1 h =>
                               vK (pickV v112 (Value.bool true) v115_1) h fun v116 h =>
                               cnd v116 (
                                k0 [v13_2, v14_2] h) (
                                mvK v15 h fun v117 h =>
                                vK (aLoad Try.prog 107 v22 h) h fun v118 h =>
                                okK ((aMapUpd Try.prog 110 v117 v118 (Value.bool true) h).map (undef, ·)) fun _ h =>
                                mvK v13_2 h fun v119 h =>
                                vK (aLoad Try.prog 107 v22 h) h fun v120 g =>
                                VB h.length v120 ∧ (let h := g
                                 okK (aBuildSlice Try.prog 108 1 [(0, v120)] h) fun v121 h =>
                                 okK (aAppend Try.prog 108 108 v119 v121 h) fun v122 h =>
                                 (True) ∧ (
                                  mvK v14_2 h fun v123 h =>
                                  mvK v14_2 h fun v124 h =>
                                  mvK v16_1 h fun v125 h =>
                                  vK (aIndexAddr Try.prog 109 v124 v125) h fun v126 h =>
                                  vK (aLoad Try.prog 53 v126 h) h fun v127 g =>
                                  VB h.length v127 ∧ (let h := g
                                   cKD Try.prog 69 [v127] h fun v128 g =>
                                   (∃ new, g = h ++ new) ∧ (let h := g
                                    mvK v18 h fun v129 h =>
                                    okK (aBuildSlice Try.prog 53 1 [(0, v129)] h) fun v130 h =>
                                    okK (aAppend Try.prog 53 53 v128 v130 h) fun v131 h =>
                                    (True) ∧ (
                                     okK (aBuildSlice Try.prog 109 1 [(0, v131)] h) fun v132 h =>
                                     okK (aAppend Try.prog 109 109 v123 v132 h) fun v133 h =>
                                     (True) ∧ (
                                      mvK v122 h fun v13_3 h =>
                                      mvK v133 h fun v14_3 h =>
                                      k0 [v13_3, v14_3] h)))))))) h) h) h))))))))))))) fun x0 h => ∀ jx0 : Tmps,
                let v13_4 : Value := nth x0 0
                let v14_4 : Value := nth x0 1
                vK (aBin Try.prog BinOp.add 3 v77_1 (Value.int IntKind.i64 1)) h fun v134 h =>
                mvK v134 h fun v77_2 h =>
                I17 [v13_4, v14_4, v77_2] h ∧ μ17 [v13_4, v14_4, v77_2] h < μ17 [v13_2, v14_2, v77_1] h17) (
               mvK v16_1 h fun v63 h =>
               vK (aBin Try.prog BinOp.add 3 v63 (Value.int IntKind.i64 1)) h fun v64 h =>
               mvK v64 h fun v16_2 h =>
               I11 [v13_2, v14_2, v16_2] h ∧ μ11 [v13_2, v14_2, v16_2] h < μ11 [v13_1, v14_1, v16_1] h11)))) (
            mvK (Value.slice none 0 0) h fun v6_4 h =>
            mvK (Value.int IntKind.i64 0) h fun v7_4 h =>
            retV [some v6_4, some v7_4] R h))))))))))
def lv38 (q : Nat) : List Nat := bif Nat.beq q 22 then [43556142965880123323311373290514035990720, 13, 14, 16] else bif Nat.beq q 34 then [43556142965880123172196222299437692379136, 13, 14, 77] else bif Nat.beq q 49 then [21778071482940061057193065068318586331136, 13, 14] else []
theorem ok38 : lkOK Try.prog lv38 Try.f38 3 (Try.f38.body.getD .skip) 38 = true := by kernel_rfl
theorem e38 (a0 a1 a2 : Value) (h : Heap) (R : Value → Heap → Prop) : n38 a0 a1 a2 h R = wpK Try.prog lv38 (Try.f38.body.getD .skip) (endK Try.prog [.tmp 6, .tmp 7] R) (argT [a0, a1, a2]) h := by kernel_rfl
theorem w38 {a0 a1 a2 : Value} {h : Heap} {R : Value → Heap → Prop} (hn : n38 a0 a1 a2 h R) : DetP Try.prog 38 [a0, a1, a2] h R :=
  DetP.of_code (rs := [.tmp 6, .tmp 7]) (n := 3) Try.func38 (by kernel_rfl) (by kernel_rfl) lv38 ok38 rfl ((e38 a0 a1 a2 h R) ▸ hn)

end Go.Proofs.Ytomiejfeclefaaa

set_option linter.unusedSimpArgs false
set_option linter.unusedVariables false
set_option linter.unnecessarySimpa false
set_option maxRecDepth 100000
set_option maxHeartbeats 4000000
namespace Go.Proofs.Ytomiejfeclefaaa
open Go.AM
variable {h g : Heap}
theorem bd107_012 (a1 : Int) (a2 : Int) (a3 : Int) : aBuild Try.prog 107 [(0, (.int .i64 a1)), (1, (.int .i64 a2)), (2, (.int .i64 a3))] = some (fv (⟨a1, a2, a3, false⟩ : Pl)) := by kernel_rfl
theorem bd107_0123 (a1 : Int) (a2 : Int) (a3 : Int) (b4 : Bool) : aBuild Try.prog 107 [(0, (.int .i64 a1)), (1, (.int .i64 a2)), (2, (.int .i64 a3)), (3, (.bool b4))] = some (fv (⟨a1, a2, a3, b4⟩ : Pl)) := by kernel_rfl
theorem bd113_012 (a1 : Int) (a2 : Int) (a3 : Int) : aBuild Try.prog 113 [(0, (.int .i64 a1)), (1, (.int .i64 a2)), (2, (.int .i64 a3))] = some (.agg #[(.int .i64 a1), (.int .i64 a2), (.int .i64 a3), (.bool false), (.slice none 0 0)]) := by kernel_rfl
theorem bd113_01234 (a1 : Int) (a2 : Int) (a3 : Int) (b4 : Bool) (o5 : Option Addr) (no5 co5 : Nat) : aBuild Try.prog 113 [(0, (.int .i64 a1)), (1, (.int .i64 a2)), (2, (.int .i64 a3)), (3, (.bool b4)), (4, (.slice o5 no5 co5))] = some (.agg #[(.int .i64 a1), (.int .i64 a2), (.int .i64 a3), (.bool b4), (.slice o5 no5 co5)]) := by kernel_rfl
theorem bs51_2 (o1 : Option Addr) (no1 co1 : Nat) (o2 : Option Addr) (no2 co2 : Nat) (h : Heap) : aBuildSlice Try.prog 51 2 [(0, (.slice o1 no1 co1)), (1, (.slice o2 no2 co2))] h = some (.slice (some ⟨h.length, 0, none⟩) 2 3, newArr h [(.slice o1 no1 co1), (.slice o2 no2 co2)] 1) := by kernel_rfl
theorem bs108_1 (x1 : Pl) (h : Heap) : aBuildSlice Try.prog 108 1 [(0, (fv x1))] h = some (.slice (some ⟨h.length, 0, none⟩) 1 2, newArr h (flat [x1]) 4) := by kernel_rfl
theorem bs114_1 (a1 : Int) (a2 : Int) (a3 : Int) (b4 : Bool) (o5 : Option Addr) (no5 co5 : Nat) (h : Heap) : aBuildSlice Try.prog 114 1 [(0, (.agg #[(.int .i64 a1), (.int .i64 a2), (.int .i64 a3), (.bool b4), (.slice o5 no5 co5)]))] h = some (.slice (some ⟨h.length, 0, none⟩) 1 2, newArr h [(.int .i64 a1), (.int .i64 a2), (.int .i64 a3), (.bool b4), (.slice o5 no5 co5)] 5) := by kernel_rfl
/-! ### triples with words -/
structure TX where
  get : T3
instance : Rep TX := ⟨5, fun _ cs p => ∃ v, cs = [.int .i64 p.get.x, .int .i64 p.get.a, .int .i64 p.get.b, .bool false, v] ∧ v.oneCell' = true, by rintro h cs a ⟨v, rfl, _⟩; rfl, fun _ e => e, by rintro h cs a ⟨v, rfl, e⟩; simp only [List.all_cons, e]; rfl⟩
theorem len_t {K : Value → Heap → Prop} {h1 : Heap} {x : Value} {t e sz by_ : Nat} {ps : List T3} [T : SlT Try.prog t e sz by_] (s : L h1 x (ps.map TX.mk)) (hk : K (.int .i64 (ps.length : Int)) h) : vK (aLen Try.prog t x) h K :=
  len_g s (by rw [List.length_map]; exact hk)
theorem idx_tx {K : Value → Heap → Prop} {h1 : Heap} {x : Value} {t e sz by_ k : Nat} {ps : List T3} [T : SlT Try.prog t e sz by_] (s : L h1 x (ps.map TX.mk)) (hz : sz = 5) (hk : k < ps.length)
    (hK : ∀ p v, Pt h1 p [.int .i64 (gt ps k).x, .int .i64 (gt ps k).a, .int .i64 (gt ps k).b, .bool false, v] 0 → K p h) : vK (aIndexAddr Try.prog t x (.int .i64 (k : Int))) h K := by
  refine idx_n hz s (by rw [List.length_map]; exact hk) fun p cs hp hr => ?_
  obtain ⟨v, rfl, _⟩ := hr
  rw [List.getElem_map] at hp
  rw [gt_at hk] at hp
  exact hK p v hp
end Go.Proofs.Ytomiejfeclefaaa

set_option linter.unusedSimpArgs false
set_option linter.unusedVariables false
set_option linter.unnecessarySimpa false
set_option maxRecDepth 100000
set_option maxHeartbeats 4000000
namespace Go.Proofs.Ytomiejfeclefaaa
open Go.AM
variable {h g : Heap}
def plOK (p : Pl) : Prop := ((0 ≤ p.x ∧ p.x ≤ 100) ∧ (0 ≤ p.a ∧ p.a ≤ 100) ∧ (0 ≤ p.b ∧ p.b ≤ 100))
theorem key107 (p : Pl) (hp : plOK p) : keyF Try.prog 107 (fv p) = true := by
  obtain ⟨⟨x1, x2⟩, ⟨a1, a2⟩, b1, b2⟩ := hp
  have e0 : Try.prog.plainKey 107 = false := by kernel_rfl
  have e1 : flatK (fv p) = true := by kernel_rfl
  have e2 : (Try.prog.keyType 107 && (fv p).formed Try.prog 107) = true := by kernel_rfl
  have t3 : Try.prog.underlying 3 = some (.int .i64) := by kernel_rfl
  have t4 : Try.prog.underlying 4 = some .bool := by kernel_rfl
  have c3 : Try.prog.cellsOf 3 = 1 := by kernel_rfl
  have c4 : Try.prog.cellsOf 4 = 1 := by kernel_rfl
  have c107 : Try.prog.cellsOf 107 = 4 := by kernel_rfl
  obtain ⟨N, hN⟩ : ∃ N, Try.prog.types.size + 1 = N + 2 := ⟨Try.prog.types.size - 1, by
    have h1 : (Try.prog.types.size == 0) = false := by kernel_rfl
    have : Try.prog.types.size ≠ 0 := ne_of_beq_false h1
    omega⟩
  unfold keyF
  rw [e0, e1]
  simp only [Bool.true_and, Bool.false_eq_true, if_false]
  unfold keyOf
  rw [Try.underlying107]
  simp only
  rw [if_pos e2, hN]
  have : Try.prog.keyLits (N + 2) 107 (fv p).cells.toList = some [.int .i64 p.x, .int .i64 p.a, .int .i64 p.b, .bool p.d] := by
    show Try.prog.keyLits (N + 1 + 1) 107 [.int .i64 p.x, .int .i64 p.a, .int .i64 p.b, .bool p.d] = _
    unfold Program.keyLits
    simp only [Try.underlying107, c107, c3, c4]
    rw [if_pos ⟨rfl, by kernel_rfl⟩]
    simp [List.mapM_cons, lit_i t3 (wf_i (n := p.x) (by omega) (by omega)), lit_i t3 (wf_i (n := p.a) (by omega) (by omega)), lit_i t3 (wf_i (n := p.b) (by omega) (by omega)), lit_b t4, c3, c4]
  rw [this]; rfl
instance : MapT Try.prog 110 Pl (fun p => fv p) (.bool false) plOK := ⟨⟨107, 4, by kernel_rfl, by kernel_rfl, by kernel_rfl, by kernel_rfl, key107⟩, fun a => by kernel_rfl, fun a b e => by
  obtain ⟨a1, a2, a3, a4⟩ := a
  obtain ⟨b1, b2, b3, b4⟩ := b
  have h1 : (#[Value.int .i64 a1, .int .i64 a2, .int .i64 a3, .bool a4] : Array Value) = #[.int .i64 b1, .int .i64 b2, .int .i64 b3, .bool b4] := Value.agg.inj e
  simp at h1
  simp [h1]⟩
theorem plOK_of {x : Mach} (hN : x.states ≤ 12) {p : Pl} (h : in3 x p.t3) : plOK p := by
  obtain ⟨⟨q1, q2⟩, ⟨q3, q4⟩, q5, q6⟩ := h
  change 0 ≤ p.x at q1
  change p.x ≤ x.states - 1 at q2
  change 0 ≤ p.a at q3
  change p.a ≤ x.states - 1 at q4
  change 0 ≤ p.b at q5
  change p.b ≤ x.states - 1 at q6
  exact ⟨⟨q1, by omega⟩, ⟨q3, by omega⟩, q5, by omega⟩
theorem c52s {v : Value} {x : Mach} (s : MacV g v x) (h0 : (chkM x).2 = 0) (hl : (x.steps.length : Int) = x.states * x.inputs) {q w : Int} (hq : 0 ≤ q ∧ q ≤ x.states - 1) (hw : 0 ≤ w ∧ w ≤ x.inputs - 1) :
    Runs Try.prog 52 [v, .int .i64 q, .int .i64 w] g (fv (stO x q w)) g := c52 s h0 hl hq hw
noncomputable def bE (x : Mach) (l l2 : List Mut) : Int := if bothE x l ≠ 0 then bothE x l else (mutE x l2).2
theorem all2 (x : Mach) (l l2 : List Mut) : (if errM x ≠ 0 then errM x else allE x [l, l2]) = bE x l l2 := by
  unfold bE bothE allE allE allE
  by_cases h : (mutE x l).2 = 0 <;> by_cases h1 : errM x = 0 <;> by_cases h2 : (mutE x l2).2 = 0 <;> simp [h, h1, h2]
theorem bE_ok {x : Mach} {l l2 : List Mut} (h : bE x l l2 = 0) : bothE x l = 0 ∧ bothE x l2 = 0 := by
  unfold bE at h
  split at h
  · contradiction
  · rename_i h1
    have h1 : bothE x l = 0 := by simpa using h1
    obtain ⟨e1, _⟩ := bothE_ok h1
    exact ⟨h1, by rw [bothE, if_neg (by simpa using e1)]; exact h⟩
def stdE (x y z : Mach) : Int := if difE x y ⟨x.start, y.start⟩ ≠ 0 then 23 else if (rsrch x y z ⟨x.start, y.start, z.start⟩).fnd = none then 0 else 29
def stdW (x y z : Mach) : List Int := if difE x y ⟨x.start, y.start⟩ ≠ 0 then [] else (rsrch x y z ⟨x.start, y.start, z.start⟩).fnd.getD []
theorem c38 {v y u : Value} {x : Mach} {l l2 : List Mut} (s : MacV g v x) (t : L g y l) (r : L g u l2) (hE : bE x l l2 = 0) :
    DetP Try.prog 38 [v, y, u] g fun v' h' => g <+: h' ∧ ∃ b n q, v' = .tuple #[.slice b n q, .int .i64 (stdE x (mutd x l) (mutd x l2))] ∧ L h' (.slice b n q) (stdW x (mutd x l) (mutd x l2)) := by
  refine DetP.freeze ?_
  obtain ⟨tv, rfl, s⟩ := s
  obtain ⟨b0, q0, rfl, _⟩ := s.shape
  obtain ⟨bt, qt, rfl, _⟩ := t.shape
  obtain ⟨br, qr, rfl, _⟩ := r.shape
  obtain ⟨hB, hB2⟩ := bE_ok hE
  obtain ⟨Py, hy0⟩ := par_x hB
  obtain ⟨Pz, hz0⟩ := par_x hB2
  obtain ⟨e1, e2⟩ := bothE_ok hB
  obtain ⟨_, e4⟩ := bothE_ok hB2
  obtain ⟨m1, m2⟩ := mutE_ok e2
  obtain ⟨m3, m4⟩ := mutE_ok e4
  have hsm := small e1
  have hN := (errM_ok e1).2.2.2
  have m := Mem.start g
  refine w38 ?_
  unfold n38
  have C := fun {h : Heap} {v y : Value} (s : MacV h v x) (t : L h y l) => c50 (g := h) s t (by omega) m2
  have D := fun {h : Heap} {v y : Value} (s : MacV h v x) (t : L h y l2) => c50 (g := h) s t (by omega) m4
  have E1 := all2 x l l2
  rw [hE] at E1
  obtain ⟨ym, hy⟩ : ∃ ym, ym = mutd x l := ⟨_, rfl⟩
  obtain ⟨zm, hz⟩ : ∃ zm, zm = mutd x l2 := ⟨_, rfl⟩
  rw [← hy] at Py hy0 C
  rw [← hz] at Pz hz0 D
  rw [← hy, ← hz]
  have P : Tri x ym zm := ⟨Py, Pz⟩
  have h0 : in3 x ⟨x.start, ym.start, zm.start⟩ := ⟨hy0.1, hy0.2, hz0.2⟩
  have F := fun {h : Heap} {v w : Value} (s : MacV h v x) (t : MacV h w ym) => c64 (g := h) s t Py hy0
  unfold stdE stdW
  generalize difE x ym ⟨x.start, ym.start⟩ = de at F ⊢
  generalize difW x ym ⟨x.start, ym.start⟩ = dw at F
  clear hy hz hB hB2 e1 e2 e4 m1 m2 m3 m4 hE
  refine box_a m fun ix h1 zx p1 m => ?_
  ((with_reducible (refine mv_i ?_; refine mv_i ?_)); (refine ldwA ?_); (with_reducible (refine mv_i ?_; refine mv_i ?_)); (refine bs_g (bs51_2 _ _ _ _ _ _ _) (by assumption) fun i h p m => ?_))
  refine call_r (Runs.lent (c47 (ls := [l, l2]) ⟨_, rfl, s.lent⟩ (lent2 m (by infer_instance) t r rfl))) ?_
  rw [E1]
  ((with_reducible (refine mv_i ?_; refine mv_i ?_; refine neq_h (by first | assumption | decide) ?_; refine cnd_f ?_)); (refine ldwA ?_); (refine vb_mac (by assumption) ?_); (with_reducible (refine mv_i ?_)))
  refine calld_d (C ⟨_, rfl, s.up⟩ t.up) m fun v2 h2 p1 p2 m ⟨b2, q2, n2, e2, hn2, s2⟩ => ?_
  subst e2
  subst hn2
  refine new_p p1 ?_
  ((refine ldwA ?_); (refine vb_mac (by assumption) ?_); (with_reducible (refine mv_i ?_)))
  refine calld_d (D ⟨_, rfl, s.up⟩ r.up) m fun v2 h2 p1 p2 m ⟨b3, q3, n3, e2, hn2, s3⟩ => ?_
  subst e2
  subst hn2
  refine new_p p1 ?_
  refine alloc_z m fun iy h3 zy p3 m => ?_
  refine alloc_z m fun iz h4 zz p4 m => ?_
  ((refine st_w (by assumption) (by infer_instance) (by with_unfolding_all rfl) (by with_unfolding_all rfl) (by first | rfl | exact flat_ones (Flat.flat _)) (by infer_instance) fun h p m => ?_); (with_reducible (refine ⟨trivial, ?_⟩)); (refine st_w (by assumption) (by infer_instance) (by with_unfolding_all rfl) (by with_unfolding_all rfl) (by first | rfl | exact flat_ones (Flat.flat _)) (by infer_instance) fun h p m => ?_); (with_reducible (refine ⟨trivial, ?_⟩)); (refine ldwA ?_); (refine ldwA ?_))
  refine call_d (F ⟨_, rfl, s.up⟩ ⟨_, rfl, s2.up⟩) m fun v3 h3 p3 p4 m ⟨b4, n4, q4, e3, s4⟩ => ?_
  subst e3
  ((with_reducible (refine mv_i ?_; refine ex2_0 ?_; refine ex2_1 ?_; refine mv_i ?_; refine mv_i ?_; refine mv_i ?_; refine neq_i (fun hc => ?_) (fun hc => ?_); refine cnd_f ?_; refine fao ?_)); (refine ldoA ?_); (with_reducible (refine fao ?_)); (refine ldoA ?_); (with_reducible (refine fao ?_)); (refine ldoA ?_); (refine vk_i (bd107_012 _ _ _) ?_); (refine bs_g (bs108_1 _ _) (by assumption) fun i h p m => ?_); (refine bs_g (bs51_1 _ _ _ _) (by assumption) fun i h p m => ?_); (with_reducible (refine mv_i ?_; refine mv_i ?_)); (rotate_left); (with_reducible (refine cnd_t ?_; refine mv_i ?_; refine mv_i ?_; refine ret2 ?_)); (rotate_left))
  · have hde := hc
    have hipy : ym.inputs = x.inputs := P.xy.ip
    have hsty : ym.states = x.states := P.xy.st
    have hipz : zm.inputs = x.inputs := P.xz.ip
    have hstz : zm.states = x.states := P.xz.st
    obtain ⟨⟨a1, a2⟩, ⟨a3, a4⟩, _⟩ := (chk_ok P.xy.cx).1
    have LX := P.xy.lx
    have CX := P.xy.cx
    have hPL : ∀ {R : RS} {k : Nat} {ps : List Pl} {ws : List (List Int)}, Sim x R k ps ws → ∀ p ∈ ps, plOK p := fun S p hp => by
      obtain ⟨⟨q1, q2⟩, ⟨q3, q4⟩, q5, q6⟩ := S.inp p hp
      change 0 ≤ p.x at q1
      change p.x ≤ x.states - 1 at q2
      change 0 ≤ p.a at q3
      change p.a ≤ x.states - 1 at q4
      change 0 ≤ p.b at q5
      change p.b ≤ x.states - 1 at q6
      exact ⟨⟨q1, by omega⟩, ⟨q3, by omega⟩, q5, by omega⟩
    have S0 : Sim x (rbfs x ym zm ⟨x.start, ym.start, zm.start⟩ 0) 0 [T3.pl ⟨x.start, ym.start, zm.start⟩ false] [[]] := ⟨by simp, by intro p hp; rw [List.mem_singleton] at hp; subst hp; exact h0, rfl, .inl ⟨rfl, rfl, rfl⟩⟩
    refine mk_m (enc := fun p : Pl => fv p) m fun im h p m => ?_
    ((with_reducible (refine mv_i ?_)))
    refine idxon (by decide) ?_
    ((refine ldwA ?_))
    refine mup_s (ks := []) m List.nodup_nil (by simp) (T3.pl ⟨x.start, ym.start, zm.start⟩ false) (hPL S0 _ (by simp)) (by simp) rfl fun h p m => ?_
    ((with_reducible (refine mv_i ?_; refine mv_i ?_; refine mv_i ?_)))
    obtain ⟨hx, rfl⟩ : ∃ q, q = h := ⟨h, rfl⟩
    refine loop3 3456 (fun k a b h => ∃ ps ws o1 o2 vs W, Sim x (rbfs x ym zm ⟨x.start, ym.start, zm.start⟩ k) k ps ws ∧ (∀ w ∈ ws, w.length ≤ k) ∧ IsSl a (some o1) ps.length ∧ IsSl b (some o2) ps.length ∧ LL vs W ws ∧ Prec hx h ∧ Mem ⟨g, [(im, .map (setE (fun p : Pl => fv p) ps))]⟩ h (⟨some o1, flat ps, 4⟩ :: ⟨some o2, vs, 1⟩ :: ⟨some iz, [.int .i64 zm.states, .int .i64 zm.inputs, .int .i64 zm.outputs, .int .i64 zm.start, .slice b3 zm.steps.length q3], zz⟩ :: ⟨some iy, [.int .i64 ym.states, .int .i64 ym.inputs, .int .i64 ym.outputs, .int .i64 ym.start, .slice b2 ym.steps.length q2], zy⟩ :: ⟨some ix, [.int .i64 x.states, .int .i64 x.inputs, .int .i64 x.outputs, .int .i64 x.start, .slice b0 x.steps.length q0], zx⟩ :: rowsW W ws)) ?_ ?_
    · refine ⟨_, _, _, _, [.slice none 0 0], [none], S0, by simp, IsSl.some1, IsSl.some1, ⟨rfl, rfl, fun j hj => ?_⟩, ⟨Stab.refl _⟩, ?_⟩
      · have : j = 0 := by simp at hj; exact hj
        subst this; exact IsSl.nil
      · have m := m.perm (List.Perm.swap _ _ _)
        have m := m.sub (.cons_cons _ (.cons_cons _ (.cons_cons _ (.cons_cons _ (.cons _ (List.Sublist.refl _))))))
        exact (m.nil 1).perm (List.perm_append_singleton (⟨none, [], 1⟩ : E) [_, _, _, _, _]).symm
    rintro k a b h5 _ hk ⟨ps, ws, o1, o2, vs, W, hS0, hwl, hs1, hs2, hll, p5, m⟩
    have few := hS0.few hN
    have hpl := hPL hS0
    have lw := hS0.len
    have hlive := hS0.live
    have hof := fun q => rsrch_of (k := k) hk q P h0 hN
    have hrow := @rb_row x ym zm ⟨x.start, ym.start, zm.start⟩ k
    generalize hS : rbfs x ym zm ⟨x.start, ym.start, zm.start⟩ k = S at *
    ((with_reducible (refine mv_i ?_; refine mv_i ?_; refine len_o (by assumption) ?_; refine lss_i (fun hc => ?_) (fun hc => ?_); refine cnd_t ?_; refine mv_i ?_; refine mv_i ?_)); (refine idx_o (by assumption) (by omega) ?_); (refine ldw_d (by assumption) (by infer_instance) (by with_unfolding_all rfl) (by omega) ?_); (with_reducible (refine alloc_z (by assumption) fun i h z p m => ?_)); (refine st_w (by assumption) (by infer_instance) (by with_unfolding_all rfl) (by with_unfolding_all rfl) (by first | rfl | exact flat_ones (Flat.flat _)) (by infer_instance) fun h p m => ?_); (with_reducible (refine fao ?_)); (refine ldoA ?_); (with_reducible (refine cnd_b (fun hb => ?_) (fun hb => ?_); refine mv_i ?_; refine mv_i ?_)); (refine idx_o (by assumption) (by omega) ?_); (rotate_left); (with_reducible (refine fao ?_)); (refine ldoA ?_); (with_reducible (refine mv_i ?_)); (rotate_left); (with_reducible (refine cnd_f ?_; refine mv_i ?_; refine mv_i ?_; refine ret2 ?_)); (rotate_left))
    · have hkl : k < ps.length := by omega
      have hfd := hS0.hit hkl hb
      have e := hof (.inl (by rw [hfd]; simp))
      obtain ⟨vk, hvk, hvs⟩ := hll.at (j := k) (by omega)
      refine ldo m (k := 2) (q := ⟨rfl⟩) (by rw [Nat.mul_one]; exact hvk) ?_
      ((with_reducible (refine mv_i ?_; refine mv_i ?_; refine ret2 ?_)))
      obtain ⟨c1, c2, rfl⟩ : ∃ a c, vk = .slice a (ws.getD k []).length c := by
        cases hw : W.getD k none with
        | none => rw [hw] at hvs; exact ⟨none, 0, by rw [hvs.1, hvs.2]⟩
        | some i => rw [hw] at hvs; obtain ⟨c, e, _⟩ := hvs; exact ⟨_, c, e⟩
      refine ⟨m.mdrop.pre, c1, (ws.getD k []).length, c2, ?_, ?_⟩
      · rw [if_neg (by simpa using hde), if_neg (by rw [e, hfd]; simp)]
      · rw [if_neg (by simpa using hde), e, hfd]
        exact IsSl.ro (o := W.getD k none) hvs m (k := k + 6) (by show (rowsW W ws)[k]? = _; exact rowsW_get hll (by omega)) (by have := hwl _ (gd_mem [] (show k < ws.length by omega)); omega)
    · have hkl : k < ps.length := by omega
      have hnd : (gt ps k).d = false := by cases hd : (gt ps k).d <;> simp_all
      obtain ⟨⟨r1, r2⟩, ⟨r3, r4⟩, r5, r6⟩ := hS0.inp _ (gd_mem Df.d hkl)
      change 0 ≤ (gt ps k).x at r1
      change (gt ps k).x ≤ x.states - 1 at r2
      change 0 ≤ (gt ps k).a at r3
      change (gt ps k).a ≤ x.states - 1 at r4
      change 0 ≤ (gt ps k).b at r5
      change (gt ps k).b ≤ x.states - 1 at r6
      obtain ⟨pk, hpk⟩ : ∃ pk, gt ps k = pk := ⟨_, rfl⟩
      rw [hpk] at r1 r2 r3 r4 r5 r6 hnd m
      obtain ⟨ip, rfl⟩ : ∃ q, q = i := ⟨i, rfl⟩
      obtain ⟨zp, rfl⟩ : ∃ q, q = z := ⟨z, rfl⟩
      have hrow := hrow (hlive hkl)
      clear hlive hof few lw hpl
      refine loop3 x.inputs.toNat (fun n a b h => ∃ ps ws o1 o2 vs W, Sim x (rrow x ym zm k S n) k ps ws ∧ k < ps.length ∧ gt ps k = pk ∧ (ws.getD k []).length ≤ k ∧ (∀ w ∈ ws, w.length ≤ k + 1) ∧ IsSl a (some o1) ps.length ∧ IsSl b (some o2) ps.length ∧ LL vs W ws ∧ Prec hx h ∧ Mem ⟨g, [(im, .map (setE (fun p : Pl => fv p) ps))]⟩ h (⟨some o1, flat ps, 4⟩ :: ⟨some o2, vs, 1⟩ :: ⟨some ip, Flat.cells pk, zp⟩ :: ⟨some iz, [.int .i64 zm.states, .int .i64 zm.inputs, .int .i64 zm.outputs, .int .i64 zm.start, .slice b3 zm.steps.length q3], zz⟩ :: ⟨some iy, [.int .i64 ym.states, .int .i64 ym.inputs, .int .i64 ym.outputs, .int .i64 ym.start, .slice b2 ym.steps.length q2], zy⟩ :: ⟨some ix, [.int .i64 x.states, .int .i64 x.inputs, .int .i64 x.outputs, .int .i64 x.start, .slice b0 x.steps.length q0], zx⟩ :: rowsW W ws)) ⟨ps, ws, o1, o2, vs, W, hS0, hkl, hpk, hwl _ (gd_mem [] (show k < ws.length by rw [hS0.len]; exact hkl)), fun w hw => by have := hwl w hw; omega, hs1, hs2, hll, ⟨Stb.st⟩, m.perm ((List.Perm.swap _ _ _).trans (List.Perm.cons _ (List.Perm.swap _ _ _)))⟩ ?_
      clear hS0 hwl hs1 hs2 hll hkl hpk m
      rintro n a b h6 _ hn ⟨ps, ws, o1, o2, vs, W, hS1, hkl, hpk, hwk, hwl, hs1, hs2, hll, p6, m⟩
      have hst := fun hn => hS1.step P hkl (by rw [hpk]; exact hnd) (n := n) hn
      have few := hS1.few hN
      have hpl := hPL hS1
      have lw := hS1.len
      rw [hpk] at hst
      generalize hQ : rrow x ym zm k S n = Q at *
      ((with_reducible (refine lss_i (fun hc => ?_) (fun hc => ?_); refine cnd_t ?_)); (rotate_left); (with_reducible (refine cnd_f ?_; refine mv_i ?_; refine inc_i (by omega) ?_; refine mv_i ?_)); (rotate_left))
      · have hst := hst (by omega)
        refine seq_J (fun xs h => ∃ a b, xs = [a, b] ∧ ∃ ps ws o1 o2 vs W, Sim x (rst x ym zm k n Q) k ps ws ∧ k < ps.length ∧ gt ps k = pk ∧ (ws.getD k []).length ≤ k ∧ (∀ w ∈ ws, w.length ≤ k + 1) ∧ IsSl a (some o1) ps.length ∧ IsSl b (some o2) ps.length ∧ LL vs W ws ∧ Prec hx h ∧ Mem ⟨g, [(im, .map (setE (fun p : Pl => fv p) ps))]⟩ h (⟨some o1, flat ps, 4⟩ :: ⟨some o2, vs, 1⟩ :: ⟨some ip, Flat.cells pk, zp⟩ :: ⟨some iz, [.int .i64 zm.states, .int .i64 zm.inputs, .int .i64 zm.outputs, .int .i64 zm.start, .slice b3 zm.steps.length q3], zz⟩ :: ⟨some iy, [.int .i64 ym.states, .int .i64 ym.inputs, .int .i64 ym.outputs, .int .i64 ym.start, .slice b2 ym.steps.length q2], zy⟩ :: ⟨some ix, [.int .i64 x.states, .int .i64 x.inputs, .int .i64 x.outputs, .int .i64 x.start, .slice b0 x.steps.length q0], zx⟩ :: rowsW W ws)) ?_ ?_
        · rintro _ h7 ⟨a7, b7, rfl, rest⟩
          (((with_reducible refine fun (_ : Tmps) => ?_); (try dsimp only [nth])); (with_reducible (refine inc_i (by omega) ?_; refine mv_i ?_)))
          refine next3 (by omega) ?_
          show ∃ ps ws o1 o2 vs W, Sim x (rst x ym zm k n (rrow x ym zm k S n)) k ps ws ∧ k < ps.length ∧ gt ps k = pk ∧ (ws.getD k []).length ≤ k ∧ (∀ w ∈ ws, w.length ≤ k + 1) ∧ IsSl a7 (some o1) ps.length ∧ IsSl b7 (some o2) ps.length ∧ LL vs W ws ∧ Prec hx h7 ∧ Mem ⟨g, [(im, .map (setE (fun p : Pl => fv p) ps))]⟩ h7 (⟨some o1, flat ps, 4⟩ :: ⟨some o2, vs, 1⟩ :: ⟨some ip, Flat.cells pk, zp⟩ :: ⟨some iz, [.int .i64 zm.states, .int .i64 zm.inputs, .int .i64 zm.outputs, .int .i64 zm.start, .slice b3 zm.steps.length q3], zz⟩ :: ⟨some iy, [.int .i64 ym.states, .int .i64 ym.inputs, .int .i64 ym.outputs, .int .i64 ym.start, .slice b2 ym.steps.length q2], zy⟩ :: ⟨some ix, [.int .i64 x.states, .int .i64 x.inputs, .int .i64 x.outputs, .int .i64 x.start, .slice b0 x.steps.length q0], zx⟩ :: rowsW W ws)
          rw [hQ]; exact rest
        · intro k' hk'
          obtain ⟨vk, hvk, hvs⟩ := hll.at (j := k) (by omega)
          ((with_reducible (refine mv_i ?_; refine mv_i ?_)); (refine ldwA ?_); (refine vb_mac (by assumption) ?_); (with_reducible (refine fao ?_)); (refine ldoA ?_); (refine vbA ?_); (with_reducible (refine mv_i ?_)))
          refine calld_r (c52s ⟨_, rfl, s.up⟩ CX LX ⟨r1, r2⟩ ⟨by omega, by omega⟩) ?_
          ((with_reducible (refine new_n ?_)); (refine ldwA ?_); (refine vb_mac (by assumption) ?_); (with_reducible (refine fao ?_)); (refine ldoA ?_); (refine vbA ?_); (with_reducible (refine mv_i ?_)))
          refine calld_r (c52s (x := ym) ⟨_, rfl, s2.up⟩ P.xy.cy P.xy.ly ⟨r3, by omega⟩ ⟨by omega, by omega⟩) ?_
          ((with_reducible (refine new_n ?_)); (refine ldwA ?_); (refine vb_mac (by assumption) ?_); (with_reducible (refine fao ?_)); (refine ldoA ?_); (refine vbA ?_); (with_reducible (refine mv_i ?_)))
          refine calld_r (c52s (x := zm) ⟨_, rfl, s3.up⟩ P.xz.cy P.xz.ly ⟨r5, by omega⟩ ⟨by omega, by omega⟩) ?_
          ((with_reducible (refine new_n ?_; refine alloc_z (by assumption) fun i h z p m => ?_; refine alloc_z (by assumption) fun i h z p m => ?_; refine alloc_z (by assumption) fun i h z p m => ?_)); (refine st_w (by assumption) (by infer_instance) (by with_unfolding_all rfl) (by with_unfolding_all rfl) (by first | rfl | exact flat_ones (Flat.flat _)) (by infer_instance) fun h p m => ?_); (with_reducible (refine ⟨trivial, ?_⟩)); (refine st_w (by assumption) (by infer_instance) (by with_unfolding_all rfl) (by with_unfolding_all rfl) (by first | rfl | exact flat_ones (Flat.flat _)) (by infer_instance) fun h p m => ?_); (with_reducible (refine ⟨trivial, ?_⟩)); (refine st_w (by assumption) (by infer_instance) (by with_unfolding_all rfl) (by with_unfolding_all rfl) (by first | rfl | exact flat_ones (Flat.flat _)) (by infer_instance) fun h p m => ?_); (with_reducible (refine ⟨trivial, ?_⟩; refine fao ?_)); (refine ldoA ?_); (with_reducible (refine fao ?_)); (refine ldoA ?_); (with_reducible (refine fao ?_)); (refine ldoA ?_); (with_reducible (refine fao ?_)); (refine ldoA ?_); (with_reducible (refine fao ?_)); (refine ldoA ?_); (with_reducible (refine neq_i (fun hc => ?_) (fun hc => ?_))); (refine vk_i (bd107_0123 _ _ _ _) ?_); (with_reducible (refine alloc_z (by assumption) fun i h z p m => ?_)); (refine st_w (by assumption) (by infer_instance) (by with_unfolding_all rfl) (by with_unfolding_all rfl) (by first | rfl | exact flat_ones (Flat.flat _)) (by infer_instance) fun h p m => ?_); (with_reducible (refine fao ?_)); (refine ldoA ?_); (with_reducible (refine fao ?_)); (refine ldoA ?_); (with_reducible (refine neq_i (fun hc => ?_) (fun hc => ?_); refine mv_i ?_; refine gd_ff ?_; refine mv_i ?_; refine gd_ff ?_)); (refine ldwA ?_); (with_reducible (refine gd_ff ?_)); (rotate_left); (with_reducible (refine mv_i ?_; refine gd_tf ?_; refine gd_tf ?_; refine gd_tf ?_; refine pick_t ?_; refine cnd_t ?_)); (rotate_left); (refine vk_i (bd107_0123 _ _ _ _) ?_); (with_reducible (refine alloc_z (by assumption) fun i h z p m => ?_)); (refine st_w (by assumption) (by infer_instance) (by with_unfolding_all rfl) (by with_unfolding_all rfl) (by first | rfl | exact flat_ones (Flat.flat _)) (by infer_instance) fun h p m => ?_); (with_reducible (refine fao ?_)); (refine ldoA ?_); (with_reducible (refine fao ?_)); (refine ldoA ?_); (with_reducible (refine neq_i (fun hc => ?_) (fun hc => ?_); refine mv_i ?_; refine gd_ff ?_; refine mv_i ?_; refine gd_ff ?_)); (refine ldwA ?_); (with_reducible (refine gd_ff ?_)); (rotate_left); (with_reducible (refine mv_i ?_; refine gd_tf ?_; refine gd_tf ?_; refine gd_tf ?_; refine pick_t ?_; refine cnd_t ?_)); (rotate_left))
          · have hok : okz x zm pk.t3 n := by assumption
            have hkil : kil x ym pk.t3 n = false := by show (!decide ((stO x pk.x (n : Int)).out = (stO ym pk.a (n : Int)).out)) = false; rw [decide_eq_true (by assumption)]; rfl
            rw [hkil] at hst
            have hin := hS1.inp _ (gd_mem Df.d hkl)
            change in3 x (gt ps k).t3 at hin
            rw [hpk] at hin
            have htg : in3 x (tg3 x ym zm pk.t3 n) := P.tgt hin (by omega)
            refine look_s m (List.mem_singleton.mpr rfl) hS1.nd hpl _ (plOK_of hN (p := (tg3 x ym zm pk.t3 n).pl _) htg) rfl ?_
            ((with_reducible (refine pick_f ?_; refine cnd_d (fun hb => ?_) (fun hb => ?_))); (rotate_left); (with_reducible (refine mv_i ?_)); (refine ldwA ?_); (rotate_left))
            · exact hk' _ _ ⟨a, b, rfl, ps, ws, o1, o2, vs, W, hst.2.1 hok hb, hkl, hpk, hwk, hwl, hs1, hs2, hll, ⟨Stb.st⟩, m.tail.tail.tail.tail⟩
            · refine mup_s m hS1.nd hpl _ (plOK_of hN (p := (tg3 x ym zm pk.t3 n).pl _) htg) hb rfl fun h p m => ?_
              ((with_reducible (refine mv_i ?_)); (refine ldwA ?_); (with_reducible (refine vb_f ?_)); (refine bs_g (bs108_1 _ _) (by assumption) fun i h p m => ?_))
              refine app_snoc (k2 := 0) (j := 0) m hs1 (by infer_instance) ⟨rfl⟩ rfl ⟨by omega, by omega⟩ fun i3 h9 p9 m => ?_
              simp only [List.set_cons_succ, List.set_cons_zero] at m
              ((with_reducible (refine ⟨trivial, ?_⟩; refine mv_i ?_; refine mv_i ?_; refine mv_i ?_)); (refine idx_o (by assumption) (by omega) ?_))
              refine ldo m (k := 6) (q := ⟨rfl⟩) (by rw [Nat.mul_one]; exact hvk) ?_
              refine IsSl.vb (k := k + 11) hvs m ⟨by show (rowsW W ws)[k]? = _; exact rowsW_get hll (by omega)⟩ ?_
              refine calld_d (c69 (k := k + 11) m ⟨by show (rowsW W ws)[k]? = _; exact rowsW_get hll (by omega)⟩ hvs (by omega)) m fun v7 h7 p7 p7' _ ⟨o', hv, hnn⟩ => ?_
              have m := hnn _ _ m
              refine new_p p7 ?_
              ((with_reducible (refine mv_i ?_)); (refine bs_g (bs53_1 _ _) (by assumption) fun i h p m => ?_))
              refine app_snoc (a := (n : Int)) (k2 := 0) (j := 0) m hv (by infer_instance) ⟨rfl⟩ rfl ⟨by omega, by omega⟩ fun i2 h8 p8 m => ?_
              simp only [List.set_cons_succ, List.set_cons_zero] at m
              ((with_reducible (refine ⟨trivial, ?_⟩)); (refine bs_g (bs51_1 _ _ _ _) (by assumption) fun i h p m => ?_))
              refine app_o m hs2 (by infer_instance) (by rw [Nat.mul_one, ← lw]; exact hll.1) (src_own m (q := (⟨rfl⟩ : Ent _ _ 0 _ _)) (n := 1) rfl (by decide) (by decide) rfl) ⟨by omega, by omega⟩ fun i4 h10 p10 m => ?_
              simp only [List.set_cons_succ, List.set_cons_zero] at m
              ((with_reducible (refine ⟨trivial, ?_⟩; refine mv_i ?_; refine mv_i ?_)))
              have hpg : (pget ws k n).length = (ws.getD k []).length + 1 := by simp [pget]
              refine hk' _ _ ⟨_, _, rfl, _, ws ++ [pget ws k n], i3, i4, vs ++ [.slice (some ⟨i2, 0, none⟩) ((ws.getD k []).length + 1) 0], W ++ [some i2], hst.2.2 hok hb, by simp; omega, by rw [gt_pre (List.prefix_append _ _) hkl]; exact hpk, ?_, ?_, by rw [List.length_append]; exact IsSl.some0, by rw [List.length_append]; exact IsSl.some0, hll.add (by rw [hpg]; exact IsSl.some0), ⟨Stb.st⟩, ?_⟩
              · have : (ws ++ [pget ws k n]).getD k [] = ws.getD k [] := by simp [List.getD, List.getElem?_append_left (show k < ws.length by omega)]
                rw [this]; exact hwk
              · intro w hw
                rcases List.mem_append.mp hw with hw | hw
                · exact hwl w hw
                · rw [List.mem_singleton] at hw; subst hw; omega
              · rw [rowsW_add hll]
                exact (m.tail.tail.sub (.cons_cons _ (.cons _ (.cons _ (.cons _ (.cons _ (.cons _ (List.Sublist.refl _)))))))).perm (List.perm_append_singleton _ (_ :: _ :: _ :: _ :: _ :: _ :: rowsW W ws)).symm
          · have hno : ¬ okz x zm pk.t3 n := by assumption
            exact hk' _ _ ⟨a, b, rfl, ps, ws, o1, o2, vs, W, hst.1 hno, hkl, hpk, hwk, hwl, hs1, hs2, hll, ⟨Stb.st⟩, m.tail.tail.tail.tail⟩
          · have hok : okz x zm pk.t3 n := by assumption
            have hkil : kil x ym pk.t3 n = true := by show (!decide ((stO x pk.x (n : Int)).out = (stO ym pk.a (n : Int)).out)) = true; rw [decide_eq_false (by assumption)]; rfl
            rw [hkil] at hst
            have hin := hS1.inp _ (gd_mem Df.d hkl)
            change in3 x (gt ps k).t3 at hin
            rw [hpk] at hin
            have htg : in3 x (tg3 x ym zm pk.t3 n) := P.tgt hin (by omega)
            refine look_s m (List.mem_singleton.mpr rfl) hS1.nd hpl _ (plOK_of hN (p := (tg3 x ym zm pk.t3 n).pl _) htg) rfl ?_
            ((with_reducible (refine pick_f ?_; refine cnd_d (fun hb => ?_) (fun hb => ?_))); (rotate_left); (with_reducible (refine mv_i ?_)); (refine ldwA ?_); (rotate_left))
            · exact hk' _ _ ⟨a, b, rfl, ps, ws, o1, o2, vs, W, hst.2.1 hok hb, hkl, hpk, hwk, hwl, hs1, hs2, hll, ⟨Stb.st⟩, m.tail.tail.tail.tail⟩
            · refine mup_s m hS1.nd hpl _ (plOK_of hN (p := (tg3 x ym zm pk.t3 n).pl _) htg) hb rfl fun h p m => ?_
              ((with_reducible (refine mv_i ?_)); (refine ldwA ?_); (with_reducible (refine vb_f ?_)); (refine bs_g (bs108_1 _ _) (by assumption) fun i h p m => ?_))
              refine app_snoc (k2 := 0) (j := 0) m hs1 (by infer_instance) ⟨rfl⟩ rfl ⟨by omega, by omega⟩ fun i3 h9 p9 m => ?_
              simp only [List.set_cons_succ, List.set_cons_zero] at m
              ((with_reducible (refine ⟨trivial, ?_⟩; refine mv_i ?_; refine mv_i ?_; refine mv_i ?_)); (refine idx_o (by assumption) (by omega) ?_))
              refine ldo m (k := 6) (q := ⟨rfl⟩) (by rw [Nat.mul_one]; exact hvk) ?_
              refine IsSl.vb (k := k + 11) hvs m ⟨by show (rowsW W ws)[k]? = _; exact rowsW_get hll (by omega)⟩ ?_
              refine calld_d (c69 (k := k + 11) m ⟨by show (rowsW W ws)[k]? = _; exact rowsW_get hll (by omega)⟩ hvs (by omega)) m fun v7 h7 p7 p7' _ ⟨o', hv, hnn⟩ => ?_
              have m := hnn _ _ m
              refine new_p p7 ?_
              ((with_reducible (refine mv_i ?_)); (refine bs_g (bs53_1 _ _) (by assumption) fun i h p m => ?_))
              refine app_snoc (a := (n : Int)) (k2 := 0) (j := 0) m hv (by infer_instance) ⟨rfl⟩ rfl ⟨by omega, by omega⟩ fun i2 h8 p8 m => ?_
              simp only [List.set_cons_succ, List.set_cons_zero] at m
              ((with_reducible (refine ⟨trivial, ?_⟩)); (refine bs_g (bs51_1 _ _ _ _) (by assumption) fun i h p m => ?_))
              refine app_o m hs2 (by infer_instance) (by rw [Nat.mul_one, ← lw]; exact hll.1) (src_own m (q := (⟨rfl⟩ : Ent _ _ 0 _ _)) (n := 1) rfl (by decide) (by decide) rfl) ⟨by omega, by omega⟩ fun i4 h10 p10 m => ?_
              simp only [List.set_cons_succ, List.set_cons_zero] at m
              ((with_reducible (refine ⟨trivial, ?_⟩; refine mv_i ?_; refine mv_i ?_)))
              have hpg : (pget ws k n).length = (ws.getD k []).length + 1 := by simp [pget]
              refine hk' _ _ ⟨_, _, rfl, _, ws ++ [pget ws k n], i3, i4, vs ++ [.slice (some ⟨i2, 0, none⟩) ((ws.getD k []).length + 1) 0], W ++ [some i2], hst.2.2 hok hb, by simp; omega, by rw [gt_pre (List.prefix_append _ _) hkl]; exact hpk, ?_, ?_, by rw [List.length_append]; exact IsSl.some0, by rw [List.length_append]; exact IsSl.some0, hll.add (by rw [hpg]; exact IsSl.some0), ⟨Stb.st⟩, ?_⟩
              · have : (ws ++ [pget ws k n]).getD k [] = ws.getD k [] := by simp [List.getD, List.getElem?_append_left (show k < ws.length by omega)]
                rw [this]; exact hwk
              · intro w hw
                rcases List.mem_append.mp hw with hw | hw
                · exact hwl w hw
                · rw [List.mem_singleton] at hw; subst hw; omega
              · rw [rowsW_add hll]
                exact (m.tail.tail.sub (.cons_cons _ (.cons _ (.cons _ (.cons _ (.cons _ (.cons _ (List.Sublist.refl _)))))))).perm (List.perm_append_singleton _ (_ :: _ :: _ :: _ :: _ :: _ :: rowsW W ws)).symm
          · have hno : ¬ okz x zm pk.t3 n := by assumption
            exact hk' _ _ ⟨a, b, rfl, ps, ws, o1, o2, vs, W, hst.1 hno, hkl, hpk, hwk, hwl, hs1, hs2, hll, ⟨Stb.st⟩, m.tail.tail.tail.tail⟩
      · have e := hrow
        rw [show x.inputs.toNat = n by omega, hQ] at e
        refine next3 (by omega) ?_
        show ∃ ps ws o1 o2 vs W, Sim x (rbfs x ym zm ⟨x.start, ym.start, zm.start⟩ (k + 1)) (k + 1) ps ws ∧ (∀ w ∈ ws, w.length ≤ k + 1) ∧ IsSl a (some o1) ps.length ∧ IsSl b (some o2) ps.length ∧ LL vs W ws ∧ Prec hx _ ∧ Mem ⟨g, [(im, .map (setE (fun p : Pl => fv p) ps))]⟩ _ (⟨some o1, flat ps, 4⟩ :: ⟨some o2, vs, 1⟩ :: ⟨some iz, [.int .i64 zm.states, .int .i64 zm.inputs, .int .i64 zm.outputs, .int .i64 zm.start, .slice b3 zm.steps.length q3], zz⟩ :: ⟨some iy, [.int .i64 ym.states, .int .i64 ym.inputs, .int .i64 ym.outputs, .int .i64 ym.start, .slice b2 ym.steps.length q2], zy⟩ :: ⟨some ix, [.int .i64 x.states, .int .i64 x.inputs, .int .i64 x.outputs, .int .i64 x.start, .slice b0 x.steps.length q0], zx⟩ :: rowsW W ws)
        rw [e]
        refine ⟨ps, ws, o1, o2, vs, W, hS1.next (by rw [hpk]; exact hnd), hwl, hs1, hs2, hll, ⟨Stb.st⟩, m.sub (.cons_cons _ (.cons_cons _ (.cons _ (List.Sublist.refl _))))⟩
    · have e := hS0.stop (by omega)
      have e2 := hof (.inr e.2)
      refine ⟨m.mdrop.pre, none, 0, 0, ?_, ?_⟩
      · rw [if_neg (by simpa using hde), if_pos (by rw [e2, e.1])]
      · rw [if_neg (by simpa using hde), e2, e.1]; exact L.nil _
  · refine ⟨m.pre, none, 0, 0, by rw [if_pos hc], by rw [if_pos hc]; exact L.nil _⟩
end Go.Proofs.Ytomiejfeclefaaa

/- Standing for: what the law on it says. -/
set_option linter.unusedSimpArgs false
set_option linter.unusedVariables false
set_option linter.unnecessarySimpa false
namespace Go.Proofs.Ytomiejfeclefaaa
open Go.AM
variable {h g : Heap} {x y z u : Mach}
theorem std0 {x y z : Mach} : stdE x y z = 0 ↔ (srch x y ⟨x.start, y.start⟩).fnd ≠ none ∧ (rsrch x y z ⟨x.start, y.start, z.start⟩).fnd = none := by
  unfold stdE difE
  by_cases h1 : (srch x y ⟨x.start, y.start⟩).fnd = none <;> by_cases h2 : (rsrch x y z ⟨x.start, y.start, z.start⟩).fnd = none <;> simp [h1, h2]
def ok3 (x y : Mach) : Prop := Par x y ∧ inP x ⟨x.start, y.start⟩
theorem ok3.tri (a : ok3 x y) (b : ok3 x z) : Tri x y z ∧ in3 x ⟨x.start, y.start, z.start⟩ := ⟨⟨a.1, b.1⟩, a.2.1, a.2.2, b.2.2⟩
/-- For itself. -/
theorem std_self (a : ok3 x y) (hN : x.states ≤ 12) : stdE x y y = 0 ∨ stdE x y y = 23 := by
  obtain ⟨T, h0⟩ := a.tri a
  have h1 : (rsrch x y y ⟨x.start, y.start, y.start⟩).fnd = none := by
    cases hf : (rsrch x y y ⟨x.start, y.start, y.start⟩).fnd with
    | none => rfl
    | some w =>
      obtain ⟨_, h2, h3⟩ := rs_some T h0 hf
      exact absurd h3 h2
  unfold stdE
  rw [h1]
  by_cases h2 : difE x y ⟨x.start, y.start⟩ = 0 <;> simp [h2]
theorem std_kill (a : ok3 x y) (b : ok3 x z) (hN : x.states ≤ 12) (h : stdE x y z = 0) {w : List Int} (hw : inW x w) (hk : ans x x.start w ≠ ans y y.start w) : ans x x.start w ≠ ans z z.start w := by
  obtain ⟨T, h0⟩ := a.tri b
  intro e
  exact hk (rs_none T h0 hN (std0.mp h).2 w hw e)
theorem std_trans (a : ok3 x y) (b : ok3 x z) (c : ok3 x u) (hN : x.states ≤ 12) (h1 : stdE x y z = 0) (h2 : stdE x z u = 0) : stdE x y u = 0 := by
  obtain ⟨T, h0⟩ := a.tri c
  refine std0.mpr ⟨(std0.mp h1).1, ?_⟩
  cases hf : (rsrch x y u ⟨x.start, y.start, u.start⟩).fnd with
  | none => rfl
  | some w =>
    obtain ⟨h3, h4, h5⟩ := rs_some T h0 hf
    exact absurd h5 (std_kill b c hN h2 h3 (std_kill a b hN h1 h3 h4))
/-! ### an exchange done twice -/
def swp (l : List Stp) (p q : Nat) : List Stp := setTo (setTo l p (gt l q).to) q (gt l p).to
theorem swp_len (l : List Stp) (p q : Nat) : (swp l p q).length = l.length := by simp [swp, setTo]
theorem set_at {l : List Stp} {k j : Nat} {v : Int} (hk : k < l.length) : gt (setTo l k v) j = { gt l j with to := if k = j then v else (gt l j).to } := by
  unfold setTo
  rw [gst hk]
  by_cases e : k = j
  · subst e; rw [if_pos rfl, if_pos rfl]
  · rw [if_neg e, if_neg e]
theorem swp_at {l : List Stp} {p q j : Nat} (hp : p < l.length) (hq : q < l.length) : gt (swp l p q) j = { gt l j with to := if q = j then (gt l p).to else if p = j then (gt l q).to else (gt l j).to } := by
  unfold swp
  rw [set_at (by simpa [setTo] using hq), set_at hp]
theorem swp_twice {l : List Stp} {p q : Nat} (hp : p < l.length) (hq : q < l.length) : swp (swp l p q) p q = l := by
  have key : ∀ j, gt (swp (swp l p q) p q) j = gt l j := by
    intro j
    rw [swp_at (by rw [swp_len]; exact hp) (by rw [swp_len]; exact hq), swp_at hp hq, swp_at hp hq, swp_at hp hq]
    by_cases e1 : q = j
    · subst e1
      by_cases e2 : p = q
      · subst e2; simp
      · have e3 : ¬ q = p := fun e => e2 e.symm
        simp [e2, e3]
    · by_cases e2 : p = j
      · subst e2; simp [e1]
      · simp [e1, e2]
  exact List.ext_getElem (by rw [swp_len, swp_len]) fun j h1 h2 => by rw [gt_at h1, gt_at h2]; exact key j
theorem twice {m : Mut} (hk : m.kind = 3) (hr : rightS x m) : mutd (mutd x [m]) [m] = x := by
  have n0 : ¬ m.kind = 0 := by omega
  have n1 : ¬ m.kind = 1 := by omega
  have n2 : ¬ m.kind = 2 := by omega
  rw [rightS, if_neg n0, if_neg n1, if_neg n2] at hr
  obtain ⟨⟨r1, r2⟩, r3, r4⟩ := hr
  have e2 : ∀ c : Mach, mutd c [m] = { c with steps := swp c.steps m.step.toNat m.to.toNat } := by
    intro c
    show ap1 c c m = _
    rw [ap1, if_neg n0, if_neg n1, if_neg n2]; rfl
  rw [e2, e2]
  simp only
  rw [swp_twice (by omega) (by omega)]
theorem mutE_one {l : List Mut} (h : (mutE x l).2 = 0) {k : Nat} (hk : k < l.length) : (mutE x [gt l k]).2 = 0 := by
  have h2 : muE x l k = 0 := by
    unfold mutE at h
    split at h
    · cases h
    · exact firstErr_zero h k hk
  obtain ⟨q1, q2, q3, _⟩ := muE_ok h2
  have e : muE x [gt l k] 0 = 0 := by
    have hg : gt [gt l k] 0 = gt l k := rfl
    unfold muE
    rw [hg, if_neg (by simpa using q1), if_neg (by simpa using q2), if_neg, if_neg]
    · unfold agn; simp [idxOf]
    · unfold ordS
      rw [hg]
      intro q
      exact q ⟨.inl rfl, q3.2⟩
  unfold mutE
  rw [if_neg (by simp), firstErr_no fun j hj => by have : j = 0 := by simp at hj; exact hj
                                                   subst this; exact e]
theorem errM_alk {x y : Mach} (h : errM x = 0) (a : Alk x y) : errM y = 0 := by
  obtain ⟨e3, e4, e5, e6⟩ := errM_ok h
  have c := a.chk e3
  unfold errM
  rw [if_neg (by simpa using c), if_neg (by rw [a.st]; omega), if_pos]
  rw [opn_iff c, a.ln, a.st, a.ip]; exact e5
theorem mutE_alk {x y : Mach} (a : Alk x y) (l : List Mut) : mutE y l = mutE x l := by
  have e : muE y l = muE x l := by
    funext k
    unfold muE
    have : rightS y (gt l k) ↔ rightS x (gt l k) := by unfold rightS; rw [a.ln, a.ot, a.st]
    simp only [this]
  unfold mutE
  rw [e]
/-- What the law's last loop sees. -/
theorem one_at {l : List Mut} (hE : errM x = 0) (hM : (mutE x l).2 = 0) {k : Nat} (hk : k < l.length) (h3 : (gt l k).kind = 3) :
    bothE x [gt l k] = 0 ∧ mutC x [gt l k] = mutd x [gt l k] ∧ errM (mutd x [gt l k]) = 0 ∧ bothE (mutd x [gt l k]) [gt l k] = 0 ∧ mutC (mutd x [gt l k]) [gt l k] = x := by
  have e0 := (errM_ok hE).1
  have e1 := mutE_one hM hk
  have b1 : bothE x [gt l k] = 0 := by rw [bothE, if_neg (by simpa using hE)]; exact e1
  have A := mutd_alk e0 e1
  have e2 := errM_alk hE A
  have b2 : bothE (mutd x [gt l k]) [gt l k] = 0 := by rw [bothE, if_neg (by simpa using e2), mutE_alk A]; exact e1
  refine ⟨b1, by rw [mutC, if_neg (by simpa using b1)], e2, b2, ?_⟩
  rw [mutC, if_neg (by simpa using b2)]
  exact twice h3 ((mutE_ok hM).2 k hk).2
end Go.Proofs.Ytomiejfeclefaaa

set_option linter.unusedSimpArgs false
set_option linter.unusedVariables false
set_option linter.unnecessarySimpa false
set_option maxRecDepth 100000
set_option maxHeartbeats 4000000
namespace Go.Proofs.Ytomiejfeclefaaa
open Go.AM
variable {h g : Heap}
instance : ArT Try.prog 74 3 := ⟨27, by kernel_rfl, by kernel_rfl⟩
theorem lent3 {l : List E} {i k c : Nat} {y z u : Value} {xs ys zs : List Mut} {h1 h2 h3 h : Heap} {h0 : Base} (m : Mem h0 h l) (q : Ent l i k [y, z, u] 1) [S : Stb h1 h] [S2 : Stb h2 h] [S3 : Stb h3 h] (s : L h1 y xs) (t : L h2 z ys) (r : L h3 u zs) (hc : c = 4) : L (frz 0 h) (.slice (some ⟨i, 0, none⟩) 3 c) [xs, ys, zs] := by
  subst hc
  exact ⟨[[y], [z], [u]], rfl, m.lent0 (n := 3) q.ok rfl (by decide) (by decide), fun k h1 h2 => by
    have : k = 0 ∨ k = 1 ∨ k = 2 := by simp at h1; omega
    rcases this with rfl | rfl | rfl
    · exact ⟨y, rfl, s.lent⟩
    · exact ⟨z, rfl, t.lent⟩
    · exact ⟨u, rfl, r.lent⟩⟩
theorem main_of_loop {X : Heap → Prop} {Q : Prop} (G : Heap → Prop) (main : (∀ h, X h → G h) → Q) (loop : ∀ h, X h → G h) : Q := main loop
theorem es74 : eszOf Try.prog 74 3 = 1 := by kernel_rfl
theorem c10 {v y0 y1 y2 u : Value} {x : Mach} {l0 l1 l2 : List Mut} {w : List Int} (s : MacV g v x) (t0 : L g y0 l0) (t1 : L g y1 l1) (t2 : L g y2 l2) (r : L g u w) (hb0 : x.steps.length ≤ 1048576) : DetP Try.prog 10 [v, .agg #[y0, y1, y2], u] g fun v' _ => v' = .bool true := by
  obtain ⟨tv, rfl, s⟩ := s
  obtain ⟨b0, q0, rfl, _⟩ := s.shape
  obtain ⟨bt0, qt0, rfl, _⟩ := t0.shape
  obtain ⟨bt1, qt1, rfl, _⟩ := t1.shape
  obtain ⟨bt2, qt2, rfl, _⟩ := t2.shape
  have m := Mem.start g
  refine w10 ?_
  unfold n10
  refine box_a m fun i3 h1 z3 p1 m => ?_
  refine box_g m fun i4 h2 p2 m => ?_
  have m : Mem g h2 [⟨some i4, [.slice bt0 l0.length qt0, .slice bt1 l1.length qt1, .slice bt2 l2.length qt2], 1⟩, ⟨some i3, [.int .i64 x.states, .int .i64 x.inputs, .int .i64 x.outputs, .int .i64 x.start, .slice b0 x.steps.length q0], z3⟩] := by
    have e := es74
    rw [show (Value.agg #[.slice bt0 l0.length qt0, .slice bt1 l1.length qt1, .slice bt2 l2.length qt2]).cells.size = 3 from rfl, e] at m
    exact m
  ((with_reducible (refine mv_i ?_)); (refine call_r c11 ?_); (with_reducible (refine not_t ?_; refine cnd_f ?_)); (refine ldwA ?_); (refine vb_mac (by assumption) ?_))
  refine arr_all Try.underlying74 (by kernel_rfl) m (by infer_instance) (by decide) (by simp) ?_
  refine vb_sl m (by infer_instance) ?_
  refine calld_r (Runs.lent (c25 (ls := [l0, l1, l2]) ⟨_, rfl, s.lent⟩ (lent3 m (by infer_instance) t0 t1 t2 rfl))) ?_
  by_cases hL : listE x [l0, l1, l2] = 0
  · obtain ⟨hE, _, hM⟩ := listE_ok hL
    have hM0 := hM l0 (by simp)
    have hM1 := hM l1 (by simp)
    have hM2 := hM l2 (by simp)
    have hB0 : bothE x l0 = 0 := by rw [bothE, if_neg (by simpa using hE)]; exact hM0
    have hB1 : bothE x l1 = 0 := by rw [bothE, if_neg (by simpa using hE)]; exact hM1
    have hB2 : bothE x l2 = 0 := by rw [bothE, if_neg (by simpa using hE)]; exact hM2
    obtain ⟨hl0, _⟩ := mutE_ok hM0
    obtain ⟨hl1, _⟩ := mutE_ok hM1
    obtain ⟨hl2, _⟩ := mutE_ok hM2
    obtain ⟨hx0, ⟨⟨a1, a2⟩, ⟨a3, a4⟩, _⟩, _, hN⟩ := errM_ok hE
    have C36 := fun {h : Heap} {z : Value} (r : L h z w) => c36 (g := h) r x.inputs 60 ⟨by omega, a4⟩
    rw [hL]
    have bb : ∀ {l l' : List Mut}, bothE x l = 0 → (mutE x l').2 = 0 → bE x l l' = 0 := fun h1 h2 => by unfold bE; rw [if_neg (by simpa using h1)]; exact h2
    by_cases hW : wordE w x.inputs 60 = 0
    · obtain ⟨hw1, hw2⟩ := wordE_ok hW
      rw [hW] at C36
      have A0 : ok3 x (mutd x l0) := par_x hB0
      have A1 : ok3 x (mutd x l1) := par_x hB1
      have A2 : ok3 x (mutd x l2) := par_x hB2
      have F1 := std_self A0 hN
      have F2 := fun q1 q2 => std_trans A0 A1 A2 hN q1 q2
      have F3 : stdE x (mutd x l0) (mutd x l1) = 0 → (!decide (ans x x.start w = ans (mutd x l0) (mutd x l0).start w)) = true → (!decide (ans x x.start w = ans (mutd x l1) (mutd x l1).start w)) = true := fun q1 q2 => by
        have q3 : ans x x.start w ≠ ans (mutd x l0) (mutd x l0).start w := by simpa using q2
        have q4 := std_kill A0 A1 hN q1 hw1 q3
        simpa using q4
      have C00 := fun {h : Heap} {v y u : Value} (s : MacV h v x) (t : L h y l0) (r : L h u l0) => c38 (g := h) s t r (bb hB0 hM0)
      have C01 := fun {h : Heap} {v y u : Value} (s : MacV h v x) (t : L h y l0) (r : L h u l1) => c38 (g := h) s t r (bb hB0 hM1)
      have C12 := fun {h : Heap} {v y u : Value} (s : MacV h v x) (t : L h y l1) (r : L h u l2) => c38 (g := h) s t r (bb hB1 hM2)
      have C02 := fun {h : Heap} {v y u : Value} (s : MacV h v x) (t : L h y l0) (r : L h u l2) => c38 (g := h) s t r (bb hB0 hM2)
      have K0 := fun {h : Heap} {v y z : Value} (s : MacV h v x) (t : L h y l0) (r : L h z w) => c37 (g := h) s t r hB0 hw1 (by omega)
      have K1 := fun {h : Heap} {v y z : Value} (s : MacV h v x) (t : L h y l1) (r : L h z w) => c37 (g := h) s t r hB1 hw1 (by omega)
      have ONE := fun {k : Nat} (hk : k < l0.length) (h3 : (gt l0 k).kind = 3) => one_at hE hM0 hk h3
      generalize stdW x (mutd x l0) (mutd x l0) = w00 at C00
      generalize stdW x (mutd x l0) (mutd x l1) = w01 at C01
      generalize stdW x (mutd x l1) (mutd x l2) = w12 at C12
      generalize stdW x (mutd x l0) (mutd x l2) = w02 at C02
      generalize stdE x (mutd x l0) (mutd x l0) = e00 at C00 F1
      generalize stdE x (mutd x l0) (mutd x l1) = e01 at C01 F2 F3
      generalize stdE x (mutd x l1) (mutd x l2) = e12 at C12 F2
      generalize stdE x (mutd x l0) (mutd x l2) = e02 at C02 F2
      generalize (!decide (ans x x.start w = ans (mutd x l0) (mutd x l0).start w)) = k0 at K0 F3
      generalize (!decide (ans x x.start w = ans (mutd x l1) (mutd x l1).start w)) = k1 at K1 F3
      clear A0 A1 A2 hB0 hB1 hB2 hM0 hM1 hM2 hM bb hw1 hW hL
      refine' main_of_loop (X := fun h => Prec g h ∧ Mem g h [⟨some i4, [.slice bt0 l0.length qt0, .slice bt1 l1.length qt1, .slice bt2 l2.length qt2], 1⟩, ⟨some i3, [.int .i64 x.states, .int .i64 x.inputs, .int .i64 x.outputs, .int .i64 x.start, .slice b0 x.steps.length q0], z3⟩]) _ ?main ?loop
      case main =>
        intro LOOP
        ((with_reducible (refine new_n ?_; refine neq_h (by first | assumption | decide) ?_; refine mv_i ?_; refine gd_ff ?_; refine fao ?_; refine gd_ff ?_)); (refine ldoA ?_); (refine vbA ?_); (with_reducible (refine gd_ff ?_; refine gtr_i (fun hc => ?_) (fun hc => ?_); refine pick_f ?_; refine mv_i ?_; refine gd_tf ?_; refine gd_tf ?_; refine gd_tf ?_; refine pick_t ?_; refine mv_i ?_; refine gd_tf ?_; refine gd_tf ?_; refine gd_tf ?_; refine gd_tf ?_; refine gd_tf ?_; refine pick_t ?_; refine cnd_t ?_; refine mv_i ?_; refine ret1 ?_)); (rotate_left); (with_reducible (refine pick_f ?_; refine mv_i ?_; refine gd_ff ?_; refine fao ?_; refine gd_ff ?_)); (refine ldoA ?_); (refine vbA ?_); (with_reducible (refine gd_ff ?_; refine gtr_i (fun hc => ?_) (fun hc => ?_); refine pick_f ?_; refine mv_i ?_; refine gd_tf ?_; refine gd_tf ?_; refine gd_tf ?_; refine gd_tf ?_; refine gd_tf ?_; refine pick_t ?_; refine cnd_t ?_; refine mv_i ?_; refine ret1 ?_)); (rotate_left); (with_reducible (refine pick_f ?_; refine mv_i ?_; refine gd_ff ?_; refine mv_i ?_; refine gd_ff ?_; refine fao ?_; refine gd_ff ?_)); (refine ldoA ?_); (refine vbA ?_); (with_reducible (refine gd_ff ?_)); (rotate_left))
        rotate_left
        all_goals first | rfl | skip
        refine calld_r (C36 r.up) ?_
        ((with_reducible (refine new_n ?_; refine gd_ff ?_; refine neq_h (by first | assumption | decide) ?_; refine pick_f ?_; refine cnd_f ?_)); (refine ldwA ?_); (refine vb_mac (by assumption) ?_))
        refine calld_d (c14 ⟨_, rfl, s.up⟩ hb0) m fun v1 h1 p1 p2 m ⟨ba1, qa1, n1, e1, hn1, s1⟩ => ?_
        subst e1
        refine new_p p1 ?_
        ((refine ia_o (by omega) (by omega) ?_); (refine ldoA ?_); (with_reducible (refine vb_l (by assumption) ?_)))
        refine calld_d (c17 t0.up (by omega)) m fun v2 h2 p3 p4 m ⟨ba2, qa2, n2, e2, hn2, s2⟩ => ?_
        subst e2
        refine new_p p3 ?_
        ((refine ia_o (by omega) (by omega) ?_); (refine ldoA ?_); (with_reducible (refine vb_l (by assumption) ?_)))
        refine calld_d (c17 t0.up (by omega)) m fun v3 h3 p5 p6 m ⟨ba3, qa3, n3, e3, hn3, s3⟩ => ?_
        subst e3
        refine new_p p5 ?_
        skip
        refine calld_d (C00 ⟨_, rfl, s1.up⟩ s2.up s3.up) m fun v4 h4 p7 p8 m ⟨ba4, na4, qa4, e4, s4⟩ => ?_
        subst e4
        refine new_p p7 ?_
        ((with_reducible (refine mv_i ?_; refine ex2_0 ?_; refine ex2_1 ?_; refine mv_i ?_; refine mv_i ?_)); (refine ldwA ?_); (refine vb_mac (by assumption) ?_))
        refine calld_d (c14 ⟨_, rfl, s.up⟩ hb0) m fun v1 h1 p1 p2 m ⟨bb1, qb1, n1, e1, hn1, s1⟩ => ?_
        subst e1
        refine new_p p1 ?_
        ((refine ia_o (by omega) (by omega) ?_); (refine ldoA ?_); (with_reducible (refine vb_l (by assumption) ?_)))
        refine calld_d (c17 t0.up (by omega)) m fun v2 h2 p3 p4 m ⟨bb2, qb2, n2, e2, hn2, s2⟩ => ?_
        subst e2
        refine new_p p3 ?_
        ((refine ia_o (by omega) (by omega) ?_); (refine ldoA ?_); (with_reducible (refine vb_l (by assumption) ?_)))
        refine calld_d (c17 t1.up (by omega)) m fun v3 h3 p5 p6 m ⟨bb3, qb3, n3, e3, hn3, s3⟩ => ?_
        subst e3
        refine new_p p5 ?_
        skip
        refine calld_d (C01 ⟨_, rfl, s1.up⟩ s2.up s3.up) m fun v4 h4 p7 p8 m ⟨bb4, nb4, qb4, e4, s4⟩ => ?_
        subst e4
        refine new_p p7 ?_
        ((with_reducible (refine mv_i ?_; refine ex2_0 ?_; refine ex2_1 ?_; refine mv_i ?_; refine mv_i ?_)); (refine ldwA ?_); (refine vb_mac (by assumption) ?_))
        refine calld_d (c14 ⟨_, rfl, s.up⟩ hb0) m fun v1 h1 p1 p2 m ⟨bc1, qc1, n1, e1, hn1, s1⟩ => ?_
        subst e1
        refine new_p p1 ?_
        ((refine ia_o (by omega) (by omega) ?_); (refine ldoA ?_); (with_reducible (refine vb_l (by assumption) ?_)))
        refine calld_d (c17 t1.up (by omega)) m fun v2 h2 p3 p4 m ⟨bc2, qc2, n2, e2, hn2, s2⟩ => ?_
        subst e2
        refine new_p p3 ?_
        ((refine ia_o (by omega) (by omega) ?_); (refine ldoA ?_); (with_reducible (refine vb_l (by assumption) ?_)))
        refine calld_d (c17 t2.up (by omega)) m fun v3 h3 p5 p6 m ⟨bc3, qc3, n3, e3, hn3, s3⟩ => ?_
        subst e3
        refine new_p p5 ?_
        skip
        refine calld_d (C12 ⟨_, rfl, s1.up⟩ s2.up s3.up) m fun v4 h4 p7 p8 m ⟨bc4, nc4, qc4, e4, s4⟩ => ?_
        subst e4
        refine new_p p7 ?_
        ((with_reducible (refine mv_i ?_; refine ex2_0 ?_; refine ex2_1 ?_; refine mv_i ?_; refine mv_i ?_)); (refine ldwA ?_); (refine vb_mac (by assumption) ?_))
        refine calld_d (c14 ⟨_, rfl, s.up⟩ hb0) m fun v1 h1 p1 p2 m ⟨bd1, qd1, n1, e1, hn1, s1⟩ => ?_
        subst e1
        refine new_p p1 ?_
        ((refine ia_o (by omega) (by omega) ?_); (refine ldoA ?_); (with_reducible (refine vb_l (by assumption) ?_)))
        refine calld_d (c17 t0.up (by omega)) m fun v2 h2 p3 p4 m ⟨bd2, qd2, n2, e2, hn2, s2⟩ => ?_
        subst e2
        refine new_p p3 ?_
        ((refine ia_o (by omega) (by omega) ?_); (refine ldoA ?_); (with_reducible (refine vb_l (by assumption) ?_)))
        refine calld_d (c17 t2.up (by omega)) m fun v3 h3 p5 p6 m ⟨bd3, qd3, n3, e3, hn3, s3⟩ => ?_
        subst e3
        refine new_p p5 ?_
        skip
        refine calld_d (C02 ⟨_, rfl, s1.up⟩ s2.up s3.up) m fun v4 h4 p7 p8 m ⟨bd4, nd4, qd4, e4, s4⟩ => ?_
        subst e4
        refine new_p p7 ?_
        ((with_reducible (refine mv_i ?_; refine ex2_0 ?_; refine ex2_1 ?_; refine mv_i ?_; refine mv_i ?_; refine mv_i ?_; refine neq_i (fun hc => ?_) (fun hc => ?_); refine mv_i ?_; refine gd_ft ?_; refine gd_ft ?_; refine pick_f ?_; refine mv_i ?_; refine gd_ff ?_; refine mv_i ?_; refine gd_ff ?_; refine eql_i (fun hc => ?_) (fun hc => ?_); refine gd_ff ?_; refine mv_i ?_; refine gd_tt ?_; refine mv_i ?_; refine gd_tt ?_; refine eql_i (fun hc => ?_) (fun hc => ?_); refine gd_ff ?_; refine pick_t ?_; refine gd_ff ?_; refine mv_i ?_; refine gd_tt ?_; refine mv_i ?_; refine gd_tt ?_; refine neq_i (fun hc => ?_) (fun hc => ?_); refine gd_ff ?_; refine pick_t ?_; refine pick_f ?_; refine cnd_f ?_; refine mv_i ?_; refine eql_h (by first | assumption | decide) ?_; refine mv_i ?_; refine gd_tt ?_)); (refine ldwA ?_); (with_reducible (refine gd_tt ?_)); (refine ia_o (by omega) (by omega) ?_); (with_reducible (refine gd_tt ?_)); (refine ldoA ?_); (with_reducible (refine gd_tt ?_; refine mv_i ?_; refine gd_tt ?_)); (rotate_left); (with_reducible (refine gd_ff ?_; refine pick_t ?_; refine pick_f ?_; refine cnd_t ?_; refine mv_i ?_; refine ret1 ?_)); (rotate_left); (with_reducible (refine gd_ff ?_; refine pick_t ?_; refine gd_ff ?_; refine mv_i ?_; refine gd_ft ?_; refine gd_ft ?_; refine gd_ff ?_; refine pick_f ?_; refine pick_f ?_; refine cnd_f ?_; refine mv_i ?_; refine eql_h (by first | assumption | decide) ?_; refine mv_i ?_; refine gd_tt ?_)); (refine ldwA ?_); (with_reducible (refine gd_tt ?_)); (refine ia_o (by omega) (by omega) ?_); (with_reducible (refine gd_tt ?_)); (refine ldoA ?_); (with_reducible (refine gd_tt ?_; refine mv_i ?_; refine gd_tt ?_)); (rotate_left); (with_reducible (refine gd_ff ?_; refine mv_i ?_; refine gd_ft ?_; refine gd_ft ?_; refine gd_ff ?_; refine pick_f ?_; refine gd_ff ?_; refine mv_i ?_; refine gd_ft ?_; refine gd_ft ?_; refine gd_ff ?_; refine pick_f ?_; refine pick_f ?_; refine cnd_f ?_; refine mv_i ?_; refine eql_n (by first | assumption | decide) ?_; refine mv_i ?_; refine gd_ft ?_; refine gd_ft ?_; refine gd_ft ?_; refine gd_ft ?_; refine gd_ft ?_; refine pick_f ?_; refine mv_i ?_; refine gd_ft ?_; refine gd_ft ?_; refine gd_ft ?_; refine gd_ft ?_; refine gd_ft ?_; refine gd_ft ?_; refine pick_f ?_; refine cnd_f ?_; refine mv_i ?_)); (rotate_left); (with_reducible (refine mv_i ?_; refine gd_tt ?_; refine mv_i ?_; refine gd_tt ?_; refine neq_i (fun hc => ?_) (fun hc => ?_); refine pick_t ?_; refine mv_i ?_; refine gd_ff ?_; refine mv_i ?_; refine gd_ff ?_; refine eql_i (fun hc => ?_) (fun hc => ?_); refine gd_ff ?_; refine mv_i ?_; refine gd_tt ?_; refine mv_i ?_; refine gd_tt ?_; refine eql_i (fun hc => ?_) (fun hc => ?_); refine gd_ff ?_; refine pick_t ?_; refine gd_ff ?_; refine mv_i ?_; refine gd_tt ?_; refine mv_i ?_; refine gd_tt ?_; refine neq_i (fun hc => ?_) (fun hc => ?_); refine gd_ff ?_; refine pick_t ?_; refine pick_f ?_; refine cnd_f ?_; refine mv_i ?_; refine eql_h (by first | assumption | decide) ?_; refine mv_i ?_; refine gd_tt ?_)); (refine ldwA ?_); (with_reducible (refine gd_tt ?_)); (refine ia_o (by omega) (by omega) ?_); (with_reducible (refine gd_tt ?_)); (refine ldoA ?_); (with_reducible (refine gd_tt ?_; refine mv_i ?_; refine gd_tt ?_)); (rotate_left); (with_reducible (refine gd_ff ?_; refine pick_t ?_; refine pick_f ?_; refine cnd_t ?_; refine mv_i ?_; refine ret1 ?_)); (rotate_left); (with_reducible (refine gd_ff ?_; refine pick_t ?_; refine gd_ff ?_; refine mv_i ?_; refine gd_ft ?_; refine gd_ft ?_; refine gd_ff ?_; refine pick_f ?_; refine pick_f ?_; refine cnd_f ?_; refine mv_i ?_; refine eql_h (by first | assumption | decide) ?_; refine mv_i ?_; refine gd_tt ?_)); (refine ldwA ?_); (with_reducible (refine gd_tt ?_)); (refine ia_o (by omega) (by omega) ?_); (with_reducible (refine gd_tt ?_)); (refine ldoA ?_); (with_reducible (refine gd_tt ?_; refine mv_i ?_; refine gd_tt ?_)); (rotate_left); (with_reducible (refine gd_ff ?_; refine mv_i ?_; refine gd_ft ?_; refine gd_ft ?_; refine gd_ff ?_; refine pick_f ?_; refine gd_ff ?_; refine mv_i ?_; refine gd_ft ?_; refine gd_ft ?_; refine gd_ff ?_; refine pick_f ?_; refine pick_f ?_; refine cnd_f ?_; refine mv_i ?_; refine eql_n (by first | assumption | decide) ?_; refine mv_i ?_; refine gd_ft ?_; refine gd_ft ?_; refine gd_ft ?_; refine gd_ft ?_; refine gd_ft ?_; refine pick_f ?_; refine mv_i ?_; refine gd_ft ?_; refine gd_ft ?_; refine gd_ft ?_; refine gd_ft ?_; refine gd_ft ?_; refine gd_ft ?_; refine pick_f ?_; refine cnd_f ?_; refine mv_i ?_)); (rotate_left); (with_reducible (refine pick_t ?_; refine mv_i ?_; refine gd_tf ?_; refine gd_tf ?_; refine gd_tf ?_; refine gd_u ?_; refine gd_u ?_; refine gd_tf ?_; refine gd_tf ?_; refine gd_u ?_; refine gd_u ?_; refine gd_tf ?_; refine pick_t ?_; refine cnd_t ?_; refine mv_i ?_; refine ret1 ?_)); (rotate_left))
        · refine call_r (K0 ⟨_, rfl, s.up⟩ t0.up r.up) ?_
          ((with_reducible (refine pick_t ?_; refine mv_i ?_; refine gd_st (fun hb => ?_) (fun hb => ?_))); (refine ldwA ?_); (with_reducible (refine gd_ht (by assumption) ?_)); (refine ia_o (by omega) (by omega) ?_); (with_reducible (refine gd_ht (by assumption) ?_)); (refine ldoA ?_); (with_reducible (refine gd_ht (by assumption) ?_; refine mv_i ?_; refine gd_ht (by assumption) ?_)); (rotate_left); (with_reducible (refine gd_nt (by assumption) ?_; refine gd_nt (by assumption) ?_; refine gd_nt (by assumption) ?_; refine gd_nt (by assumption) ?_; refine gd_nt (by assumption) ?_; refine pick_n (by assumption) ?_; refine cnd_f ?_; refine mv_i ?_)); (rotate_left))
          · refine call_r (K1 ⟨_, rfl, s.up⟩ t1.up r.up) ?_
            ((with_reducible (refine gd_ht (by assumption) ?_; refine not_s (fun hb => ?_) (fun hb => ?_); refine pick_h (by assumption) ?_; refine cnd_f ?_; refine mv_i ?_)); (rotate_left); (with_reducible (refine pick_h (by assumption) ?_; refine cnd_t ?_; refine mv_i ?_; refine ret1 ?_)); (rotate_left))
            · exact LOOP _ ⟨⟨Stb.st⟩, m⟩
            · exact absurd (F3 (by assumption) (by assumption)) (by simp_all)
          · exact LOOP _ ⟨⟨Stb.st⟩, m⟩
        · exact absurd (F2 (by assumption) (by assumption)) (by assumption)
        · refine call_r (K0 ⟨_, rfl, s.up⟩ t0.up r.up) ?_
          ((with_reducible (refine pick_t ?_; refine mv_i ?_; refine gd_st (fun hb => ?_) (fun hb => ?_))); (refine ldwA ?_); (with_reducible (refine gd_ht (by assumption) ?_)); (refine ia_o (by omega) (by omega) ?_); (with_reducible (refine gd_ht (by assumption) ?_)); (refine ldoA ?_); (with_reducible (refine gd_ht (by assumption) ?_; refine mv_i ?_; refine gd_ht (by assumption) ?_)); (rotate_left); (with_reducible (refine gd_nt (by assumption) ?_; refine gd_nt (by assumption) ?_; refine gd_nt (by assumption) ?_; refine gd_nt (by assumption) ?_; refine gd_nt (by assumption) ?_; refine pick_n (by assumption) ?_; refine cnd_f ?_; refine mv_i ?_)); (rotate_left))
          · refine call_r (K1 ⟨_, rfl, s.up⟩ t1.up r.up) ?_
            ((with_reducible (refine gd_ht (by assumption) ?_; refine not_s (fun hb => ?_) (fun hb => ?_); refine pick_h (by assumption) ?_; refine cnd_f ?_; refine mv_i ?_)); (rotate_left); (with_reducible (refine pick_h (by assumption) ?_; refine cnd_t ?_; refine mv_i ?_; refine ret1 ?_)); (rotate_left))
            · exact LOOP _ ⟨⟨Stb.st⟩, m⟩
            · exact absurd (F3 (by assumption) (by assumption)) (by simp_all)
          · exact LOOP _ ⟨⟨Stb.st⟩, m⟩
        · exact LOOP _ ⟨⟨Stb.st⟩, m⟩
        · refine call_r (K0 ⟨_, rfl, s.up⟩ t0.up r.up) ?_
          ((with_reducible (refine pick_t ?_; refine mv_i ?_; refine gd_st (fun hb => ?_) (fun hb => ?_))); (refine ldwA ?_); (with_reducible (refine gd_ht (by assumption) ?_)); (refine ia_o (by omega) (by omega) ?_); (with_reducible (refine gd_ht (by assumption) ?_)); (refine ldoA ?_); (with_reducible (refine gd_ht (by assumption) ?_; refine mv_i ?_; refine gd_ht (by assumption) ?_)); (rotate_left); (with_reducible (refine gd_nt (by assumption) ?_; refine gd_nt (by assumption) ?_; refine gd_nt (by assumption) ?_; refine gd_nt (by assumption) ?_; refine gd_nt (by assumption) ?_; refine pick_n (by assumption) ?_; refine cnd_f ?_; refine mv_i ?_)); (rotate_left))
          · refine call_r (K1 ⟨_, rfl, s.up⟩ t1.up r.up) ?_
            ((with_reducible (refine gd_ht (by assumption) ?_; refine not_s (fun hb => ?_) (fun hb => ?_); refine pick_h (by assumption) ?_; refine cnd_f ?_; refine mv_i ?_)); (rotate_left); (with_reducible (refine pick_h (by assumption) ?_; refine cnd_t ?_; refine mv_i ?_; refine ret1 ?_)); (rotate_left))
            · exact LOOP _ ⟨⟨Stb.st⟩, m⟩
            · exact absurd (F3 (by assumption) (by assumption)) (by simp_all)
          · exact LOOP _ ⟨⟨Stb.st⟩, m⟩
        · exact absurd (F2 (by assumption) (by assumption)) (by assumption)
        · refine call_r (K0 ⟨_, rfl, s.up⟩ t0.up r.up) ?_
          ((with_reducible (refine pick_t ?_; refine mv_i ?_; refine gd_st (fun hb => ?_) (fun hb => ?_))); (refine ldwA ?_); (with_reducible (refine gd_ht (by assumption) ?_)); (refine ia_o (by omega) (by omega) ?_); (with_reducible (refine gd_ht (by assumption) ?_)); (refine ldoA ?_); (with_reducible (refine gd_ht (by assumption) ?_; refine mv_i ?_; refine gd_ht (by assumption) ?_)); (rotate_left); (with_reducible (refine gd_nt (by assumption) ?_; refine gd_nt (by assumption) ?_; refine gd_nt (by assumption) ?_; refine gd_nt (by assumption) ?_; refine gd_nt (by assumption) ?_; refine pick_n (by assumption) ?_; refine cnd_f ?_; refine mv_i ?_)); (rotate_left))
          · refine call_r (K1 ⟨_, rfl, s.up⟩ t1.up r.up) ?_
            ((with_reducible (refine gd_ht (by assumption) ?_; refine not_s (fun hb => ?_) (fun hb => ?_); refine pick_h (by assumption) ?_; refine cnd_f ?_; refine mv_i ?_)); (rotate_left); (with_reducible (refine pick_h (by assumption) ?_; refine cnd_t ?_; refine mv_i ?_; refine ret1 ?_)); (rotate_left))
            · exact LOOP _ ⟨⟨Stb.st⟩, m⟩
            · exact absurd (F3 (by assumption) (by assumption)) (by simp_all)
          · exact LOOP _ ⟨⟨Stb.st⟩, m⟩
        · exact LOOP _ ⟨⟨Stb.st⟩, m⟩
        · rcases F1 with e | e <;> contradiction
      case loop =>
        rintro h ⟨p, m⟩
        clear C36 C00 C01 C12 C02 K0 K1 F1 F2 F3
        have lt0 := t0.lt
        refine loop1 l0.length (fun k h2 => Prec g h2 ∧ Mem g h2 [⟨some i4, [.slice bt0 l0.length qt0, .slice bt1 l1.length qt1, .slice bt2 l2.length qt2], 1⟩, ⟨some i3, [.int .i64 x.states, .int .i64 x.inputs, .int .i64 x.outputs, .int .i64 x.start, .slice b0 x.steps.length q0], z3⟩]) ⟨p, m⟩ ?_
        rintro k h2 _ hk ⟨p2, m⟩
        ((with_reducible (refine mv_i ?_)); (refine ia_o (by omega) (by omega) ?_); (refine ldoA ?_); (with_reducible (refine len_g (by assumption) ?_; refine lss_i (fun hc => ?_) (fun hc => ?_); refine cnd_t ?_)); (rotate_left); (with_reducible (refine cnd_f ?_; refine mv_i ?_; refine ret1 ?_)); (rotate_left))
        · have hkl : k < l0.length := by omega
          refine seq_J (fun xs h => xs = [] ∧ Prec g h ∧ Mem g h [⟨some i4, [.slice bt0 l0.length qt0, .slice bt1 l1.length qt1, .slice bt2 l2.length qt2], 1⟩, ⟨some i3, [.int .i64 x.states, .int .i64 x.inputs, .int .i64 x.outputs, .int .i64 x.start, .slice b0 x.steps.length q0], z3⟩]) ?_ ?_
          · rintro _ h7 ⟨rfl, rest⟩
            (((with_reducible refine fun (_ : Tmps) => ?_); (try dsimp only [nth])); (with_reducible (refine mv_i ?_; refine inc_i (by omega) ?_; refine mv_i ?_)))
            exact next1 (by omega) rest
          · intro k' hk'
            have ONE := ONE hkl
            ((refine ia_o (by omega) (by omega) ?_); (refine ldoA ?_); (with_reducible (refine mv_i ?_)); (refine idxA fun p hp => ?_); (with_reducible (refine fa_g (by assumption) fun p hp => ?_)); (refine ldgA ?_); (with_reducible (refine neq_i (fun hc => ?_) (fun hc => ?_); refine cnd_f ?_)); (refine ldwA ?_); (refine vb_mac (by assumption) ?_); (rotate_left); (with_reducible (refine cnd_t ?_)); (rotate_left))
            · obtain ⟨f1, f2, f3, f4, f5⟩ := ONE (by assumption)
              have C22 := fun {h : Heap} {v y : Value} (s : MacV h v x) (t : L h y [gt l0 k]) => c22 (g := h) s t
              have D22 := fun {h : Heap} {v y : Value} (s : MacV h v (mutd x [gt l0 k])) (t : L h y [gt l0 k]) => c22 (g := h) s t
              rw [f1, f2] at C22
              rw [f4, f5] at D22
              generalize mutd x [gt l0 k] = ym at C22 D22 f3
              refine calld_d (c14 ⟨_, rfl, s.up⟩ hb0) m fun v1 h1 p1 p2 m ⟨b1, q1, n1, e1, hn1, s1⟩ => ?_
              subst e1
              refine new_p p1 ?_
              ((refine ia_o (by omega) (by omega) ?_); (refine ldoA ?_); (with_reducible (refine vb_l (by assumption) ?_; refine mv_i ?_; refine mv_i ?_; refine inc_i (by omega) ?_)))
              refine one_g (k := k) t0 rfl hkl rfl fun y ys => ?_
              ((with_reducible (refine vb_l (by assumption) ?_)))
              refine calld_d (C22 ⟨_, rfl, s1.up⟩ ys.up) m fun v3 h3 p5 p6 m ⟨b3, q3, n3, e3, hn3, s3⟩ => ?_
              subst e3
              refine new_p p5 ?_
              ((with_reducible (refine mv_i ?_; refine ex2_0 ?_; refine ex2_1 ?_; refine alloc_z (by assumption) fun i h z p m => ?_)); (refine st_w (by assumption) (by infer_instance) (by with_unfolding_all rfl) (by with_unfolding_all rfl) (by first | rfl | exact flat_ones (Flat.flat _)) (by infer_instance) fun h p m => ?_); (with_reducible (refine ⟨trivial, ?_⟩; refine mv_i ?_; refine mv_i ?_; refine neq_h (by first | assumption | decide) ?_; refine mv_i ?_; refine gd_ff ?_)); (refine ldwA ?_); (with_reducible (refine gd_ff ?_)); (refine call_r (c12 ⟨_, by with_unfolding_all rfl, L.up (by assumption)⟩) ?_); (with_reducible (refine gd_ff ?_; refine neq_h (by first | assumption | decide) ?_; refine pick_f ?_; refine cnd_f ?_)); (refine ldwA ?_); (refine vb_mac (by assumption) ?_); (refine ia_o (by omega) (by omega) ?_); (refine ldoA ?_); (with_reducible (refine vb_l (by assumption) ?_; refine mv_i ?_; refine mv_i ?_; refine inc_i (by omega) ?_)))
              refine one_g (k := k) t0 rfl hkl rfl fun y ys => ?_
              ((with_reducible (refine vb_l (by assumption) ?_)))
              refine calld_d (D22 ⟨_, rfl, s3.up⟩ ys.up) m fun v4 h4 p7 p8 m ⟨b4, q4, n4, e4, hn4, s4⟩ => ?_
              subst e4
              refine new_p p7 ?_
              ((with_reducible (refine mv_i ?_; refine ex2_0 ?_; refine ex2_1 ?_; refine alloc_z (by assumption) fun i h z p m => ?_)); (refine st_w (by assumption) (by infer_instance) (by with_unfolding_all rfl) (by with_unfolding_all rfl) (by first | rfl | exact flat_ones (Flat.flat _)) (by infer_instance) fun h p m => ?_); (with_reducible (refine ⟨trivial, ?_⟩; refine mv_i ?_; refine mv_i ?_; refine neq_h (by first | assumption | decide) ?_; refine mv_i ?_; refine gd_ff ?_)); (refine ldwA ?_); (with_reducible (refine gd_ff ?_)); (refine ldwA ?_); (with_reducible (refine gd_ff ?_)))
              refine call_r (c23 (a := x) (b := x) ⟨_, rfl, s4.up⟩ ⟨_, rfl, s.up⟩) ?_
              rw [decide_eq_true rfl]
              ((with_reducible (refine gd_ff ?_; refine not_t ?_; refine pick_f ?_; refine cnd_f ?_)))
              exact hk' _ _ ⟨rfl, ⟨Stb.st⟩, m.sub (by simp)⟩
            · exact hk' _ _ ⟨rfl, ⟨Stb.st⟩, m⟩
        · rfl
    · generalize wordE w x.inputs 60 = we at C36 hW
      ((with_reducible (refine new_n ?_; refine neq_h (by first | assumption | decide) ?_; refine mv_i ?_; refine gd_ff ?_; refine fao ?_; refine gd_ff ?_)); (refine ldoA ?_); (refine vbA ?_); (with_reducible (refine gd_ff ?_; refine gtr_i (fun hc => ?_) (fun hc => ?_); refine pick_f ?_; refine mv_i ?_; refine gd_tf ?_; refine gd_tf ?_; refine gd_tf ?_; refine pick_t ?_; refine mv_i ?_; refine gd_tf ?_; refine gd_tf ?_; refine gd_tf ?_; refine gd_tf ?_; refine gd_tf ?_; refine pick_t ?_; refine cnd_t ?_; refine mv_i ?_; refine ret1 ?_)); (rotate_left); (with_reducible (refine pick_f ?_; refine mv_i ?_; refine gd_ff ?_; refine fao ?_; refine gd_ff ?_)); (refine ldoA ?_); (refine vbA ?_); (with_reducible (refine gd_ff ?_; refine gtr_i (fun hc => ?_) (fun hc => ?_); refine pick_f ?_; refine mv_i ?_; refine gd_tf ?_; refine gd_tf ?_; refine gd_tf ?_; refine gd_tf ?_; refine gd_tf ?_; refine pick_t ?_; refine cnd_t ?_; refine mv_i ?_; refine ret1 ?_)); (rotate_left); (with_reducible (refine pick_f ?_; refine mv_i ?_; refine gd_ff ?_; refine mv_i ?_; refine gd_ff ?_; refine fao ?_; refine gd_ff ?_)); (refine ldoA ?_); (refine vbA ?_); (with_reducible (refine gd_ff ?_)); (rotate_left))
      all_goals first | rfl | (refine calld_r (C36 r.up) ?_; (repeat' (first|((with_reducible refine is_callf 48 ?_); refine call_r (c48 _ _ _) ?_)|((with_reducible refine is_calldf 48 ?_); refine calld_r (c48 _ _ _) ?_)|((with_reducible refine is_callf 53 ?_); refine call_r (c53 _ _ _) ?_)|((with_reducible refine is_calldf 53 ?_); refine calld_r (c53 _ _ _) ?_)|((with_reducible refine is_callf 96 ?_); refine call_r (c96 _ _ _) ?_)|((with_reducible refine is_calldf 96 ?_); refine calld_r (c96 _ _ _) ?_)|((with_reducible refine is_callf 72 ?_); refine call_r c72t ?_)|((with_reducible refine is_calldf 72 ?_); refine calld_r c72t ?_)|((with_reducible refine is_callf 72 ?_); refine call_r c72f ?_)|((with_reducible refine is_calldf 72 ?_); refine calld_r c72f ?_)|((with_reducible refine is_callf 72 ?_); refine call_r (c72 _) ?_)|((with_reducible refine is_calldf 72 ?_); refine calld_r (c72 _) ?_)|((with_reducible refine is_callf 77 ?_); refine call_r (c77 _ _) ?_)|((with_reducible refine is_calldf 77 ?_); refine calld_r (c77 _ _) ?_)|((with_reducible refine is_callf 91 ?_); refine call_r (c91 _ _) ?_)|((with_reducible refine is_calldf 91 ?_); refine calld_r (c91 _ _) ?_)|((with_reducible refine is_callf 107 ?_); refine call_r (c107 _) ?_)|((with_reducible refine is_calldf 107 ?_); refine calld_r (c107 _) ?_)|((with_reducible refine is_callf 81 ?_); refine call_r (c81 _ _) ?_)|((with_reducible refine is_calldf 81 ?_); refine calld_r (c81 _ _) ?_)|((with_reducible refine is_callf 76 ?_); refine call_r (c76 (own_ints (xs := [_, _, _]) (by assumption) (q := by infer_instance) rfl rfl (by decide))) ?_)|((with_reducible refine is_calldf 76 ?_); refine calld_r (c76 (own_ints (xs := [_, _, _]) (by assumption) (q := by infer_instance) rfl rfl (by decide))) ?_)|((with_reducible refine is_callf 80 ?_); refine call_r (c80 (own_ints (xs := [_, _, _]) (by assumption) (q := by infer_instance) rfl rfl (by decide))) ?_)|((with_reducible refine is_calldf 80 ?_); refine calld_r (c80 (own_ints (xs := [_, _, _]) (by assumption) (q := by infer_instance) rfl rfl (by decide))) ?_)|((with_reducible refine is_callf 80 ?_); refine call_r (c80 (own_ints (xs := [_, _]) (by assumption) (q := by infer_instance) rfl rfl (by decide))) ?_)|((with_reducible refine is_calldf 80 ?_); refine calld_r (c80 (own_ints (xs := [_, _]) (by assumption) (q := by infer_instance) rfl rfl (by decide))) ?_)|((with_reducible refine is_callf 46 ?_); refine call_r (c46 _ _) ?_)|((with_reducible refine is_calldf 46 ?_); refine calld_r (c46 _ _) ?_)|((with_reducible refine is_callf 49 ?_); refine call_r (c49 _ _) ?_)|((with_reducible refine is_calldf 49 ?_); refine calld_r (c49 _ _) ?_)|((with_reducible refine is_callf 54 ?_); refine call_r (c54 (own_ints (xs := [_, _]) (by assumption) (q := by infer_instance) rfl rfl (by decide)) (own_ints (xs := [_, _]) (by assumption) (q := by infer_instance) rfl rfl (by decide))) ?_)|((with_reducible refine is_calldf 54 ?_); refine calld_r (c54 (own_ints (xs := [_, _]) (by assumption) (q := by infer_instance) rfl rfl (by decide)) (own_ints (xs := [_, _]) (by assumption) (q := by infer_instance) rfl rfl (by decide))) ?_)|((with_reducible refine is_callf 74 ?_); refine call_r (c74 ⟨_, by with_unfolding_all rfl, L.up (by assumption)⟩ _ _) ?_)|((with_reducible refine is_calldf 74 ?_); refine calld_r (c74 ⟨_, by with_unfolding_all rfl, L.up (by assumption)⟩ _ _) ?_)|((with_reducible refine is_callf 73 ?_); refine call_r (c73 ⟨_, by with_unfolding_all rfl, L.up (by assumption)⟩) ?_)|((with_reducible refine is_callf 75 ?_); refine call_r (c75 ⟨_, by with_unfolding_all rfl, L.up (by assumption)⟩) ?_)|((with_reducible refine is_calldf 59 ?_); refine calld_d (c59 _) (by assumption) fun v h p1 p m s1 => ?_)|((with_reducible refine is_calldf 54 ?_); refine calld_r (c54 (L.ints (L.up (by assumption))) (L.ints (L.up (by assumption)))) ?_)|((with_reducible refine is_callf 60 ?_); refine call_r (c60 _ _) ?_)|((with_reducible refine is_calldf 60 ?_); refine calld_r (c60 _ _) ?_)|((with_reducible refine is_callf 12 ?_); refine call_r (c12 ⟨_, by with_unfolding_all rfl, L.up (by assumption)⟩) ?_)|((with_reducible refine is_callf 43 ?_); refine call_r (c43 ⟨_, by with_unfolding_all rfl, L.up (by assumption)⟩) ?_)|((with_reducible refine is_callf 11 ?_); refine call_r c11 ?_)|((with_reducible refine is_rl1 ?_); first|(refine rt_w1 (by assumption) (by infer_instance) (by with_unfolding_all rfl) ?_)|(refine rt_11 (by assumption) (by infer_instance) (by with_unfolding_all rfl) ?_))|((with_reducible refine is_rl2 ?_); first|(refine rt_w2 (by assumption) (by infer_instance) (by with_unfolding_all rfl) ?_)|(refine rt_12 (by assumption) (by infer_instance) (by with_unfolding_all rfl) ?_))|((with_reducible refine is_vk ?_); first|(with_reducible refine not_dh (by assumption) ?_)|(with_reducible refine not_dn (by assumption) ?_)|(with_reducible refine not_d (fun hb => ?_) (fun hb => ?_))|(with_reducible refine pick_dh (by assumption) ?_)|(with_reducible refine pick_dn (by assumption) ?_)|(with_reducible refine pick_d (fun hb => ?_) (fun hb => ?_))|(refine len_x (by assumption) ?_)|(with_reducible refine pnn_g (by assumption) ?_)|(refine len_t (by assumption) ?_)|(with_reducible refine len_o (by assumption) ?_)|(with_reducible refine nil_i ?_)|(with_reducible refine ex2_0 ?_)|(with_reducible refine ex2_1 ?_)|(with_reducible refine ex3_0 ?_)|(with_reducible refine ex3_1 ?_)|(with_reducible refine ex3_2 ?_)|(with_reducible refine pick_t ?_)|(with_reducible refine pick_f ?_)|(with_reducible refine not_t ?_)|(with_reducible refine not_f ?_)|(with_reducible refine pick_h (by assumption) ?_)|(with_reducible refine pick_n (by assumption) ?_)|(with_reducible refine not_h (by assumption) ?_)|(with_reducible refine not_n (by assumption) ?_)|(with_reducible refine not_s (fun hb => ?_) (fun hb => ?_))|(with_reducible refine pick_s (fun hb => ?_) (fun hb => ?_))|(with_reducible refine len_g (by assumption) ?_)|(with_reducible refine slen_i ?_)|(with_reducible refine len_s ?_)|(refine fld_g (by with_unfolding_all rfl) ?_)|(with_reducible refine leni_t (by assumption) ?_))|((with_reducible refine is_gd ?_); first|(with_reducible refine gd_dht (by assumption) ?_)|(with_reducible refine gd_dnt (by assumption) ?_)|(with_reducible refine gd_dhf (by assumption) ?_)|(with_reducible refine gd_dnf (by assumption) ?_)|(with_reducible refine gd_dt (fun hb => ?_) (fun hb => ?_))|(with_reducible refine gd_df (fun hb => ?_) (fun hb => ?_))|(with_reducible refine gd_tt ?_)|(with_reducible refine gd_ff ?_)|(with_reducible refine gd_tf ?_)|(with_reducible refine gd_ft ?_)|(with_reducible refine gd_u ?_)|(with_reducible refine gd_ht (by assumption) ?_)|(with_reducible refine gd_hf (by assumption) ?_)|(with_reducible refine gd_nt (by assumption) ?_)|(with_reducible refine gd_nf (by assumption) ?_)|(with_reducible refine gd_st (fun hb => ?_) (fun hb => ?_))|(with_reducible refine gd_sf (fun hb => ?_) (fun hb => ?_)))|((with_reducible refine is_cnd ?_); first|(with_reducible refine cnd_dh (by assumption) ?_)|(with_reducible refine cnd_dn (by assumption) ?_)|(with_reducible refine cnd_d (fun hb => ?_) (fun hb => ?_))|(with_reducible refine cnd_t ?_)|(with_reducible refine cnd_f ?_)|(with_reducible refine cnd_h (by assumption) ?_)|(with_reducible refine cnd_n (by assumption) ?_)|(with_reducible refine cnd_b (fun hb => ?_) (fun hb => ?_)))|((with_reducible refine is_bin ?_); first|(with_reducible refine sub_a (by assumption) (by decide) (by decide) ?_)|(with_reducible refine snil_i (fun hn => ?_) (fun hn => ?_))|(with_reducible refine prq_i (fun hc => ?_) (fun hc => ?_))|(refine mul_j (by omega) (by omega) ?_)|(with_reducible refine stne_i (fun hc => ?_) (fun hc => ?_))|(with_reducible refine pnil_g ptr135 (by assumption) ?_)|(with_reducible refine eql_h (by first | assumption | decide) ?_)|(with_reducible refine eql_n (by first | assumption | decide) ?_)|(with_reducible refine neq_h (by first | assumption | decide) ?_)|(with_reducible refine neq_n (by first | assumption | decide) ?_)|(with_reducible refine lss_i (fun hc => ?_) (fun hc => ?_))|(with_reducible refine leq_i (fun hc => ?_) (fun hc => ?_))|(with_reducible refine gtr_i (fun hc => ?_) (fun hc => ?_))|(with_reducible refine geq_i (fun hc => ?_) (fun hc => ?_))|(with_reducible refine eql_i (fun hc => ?_) (fun hc => ?_))|(with_reducible refine neq_i (fun hc => ?_) (fun hc => ?_))|(with_reducible refine seq_s (fun hc => ?_) (fun hc => ?_))|(with_reducible refine sne_s (fun hc => ?_) (fun hc => ?_))|(with_reducible refine sls_i ?_)|(with_reducible refine inc_i (by omega) ?_)|(with_reducible refine sub_j (by omega) (by omega) ?_)|(with_reducible refine add_j (by omega) (by omega) ?_))|((with_reducible refine is_six ?_); first|(with_reducible refine sidx_0 (by omega) ?_))|((with_reducible refine is_idx ?_); first|(refine ia_g (by assumption) (by omega) (by omega) fun p hp => ?_)|(refine ia_o (by omega) (by omega) ?_)|(refine idx_x (by assumption) (by with_unfolding_all rfl) (by omega) fun p w hp => ?_)|(refine idx_tab (by assumption) (by with_unfolding_all rfl) (by omega) (by omega) (by omega) fun p w hp hr => ?_)|(refine idx_row (by assumption) (by with_unfolding_all rfl) (by omega) (by omega) fun p w hp hq => ?_)|(refine idx_tx (by assumption) (by with_unfolding_all rfl) (by omega) fun p w hp => ?_)|(refine idxA fun p hp => ?_)|(refine idx_dp (by assumption) (by with_unfolding_all rfl) (by omega) (by omega) fun p hp => ?_)|(refine idx_dz (by assumption) (by with_unfolding_all rfl) (by omega) (by omega) fun p hp => ?_)|(refine idx_f (by assumption) (by with_unfolding_all rfl) (by omega) fun p hp => ?_)|(refine idx_fz (by assumption) (by with_unfolding_all rfl) (by omega) (by omega) fun p hp => ?_)|(refine idxi_t (by assumption) (by omega) ?_)|(refine idx_o (by assumption) (by omega) ?_)|(refine idx_oz (by assumption) (by omega) (by omega) ?_))|((with_reducible refine is_fa ?_); first|(with_reducible refine fa_g (by assumption) fun p hp => ?_)|(with_reducible refine fao_e ?_)|(with_reducible refine fao ?_))|((with_reducible refine is_ldo ?_); first|(refine ldoA ?_)|(refine ldwA ?_)|(refine ldor (by assumption) (q := by infer_instance) (by with_unfolding_all rfl) (by with_unfolding_all exact Nat.le_refl _) ?_)|(refine ldf_d (by assumption) (by infer_instance) (by with_unfolding_all rfl) (by omega) (by with_unfolding_all exact Nat.le_of_ble_eq_true rfl) (by with_unfolding_all rfl) ?_)|(refine ldw_d (by assumption) (by infer_instance) (by with_unfolding_all rfl) (by omega) ?_))|((with_reducible refine is_ld ?_); first|(refine ldgA ?_)|(refine ldr_w (by assumption) (by with_unfolding_all rfl) ?_)|(refine ldr_g (by assumption) (by with_unfolding_all rfl) (by with_unfolding_all exact Nat.le_refl _) ?_)|(refine ldi_t (by assumption) (by omega) ?_))|((with_reducible refine is_box ?_); first|(with_reducible refine box_a (by assumption) fun i h z p m => ?_)|(refine box_1 (by assumption) (by with_unfolding_all rfl) fun i h z p m => ?_))|((with_reducible refine is_ok ?_); first|(with_reducible refine alloc_z (by assumption) fun i h z p m => ?_))|((with_reducible refine is_st ?_); first|(refine sto (by assumption) (q := by infer_instance) (by with_unfolding_all exact Nat.le_of_ble_eq_true rfl) rfl rfl (u := by infer_instance) fun h p m => ?_)|(refine st_w (by assumption) (by infer_instance) (by with_unfolding_all rfl) (by with_unfolding_all rfl) (by first | rfl | exact flat_ones (Flat.flat _)) (by infer_instance) fun h p m => ?_)|(refine stw_o (by assumption) (by infer_instance) (by with_unfolding_all rfl) (by omega) (by infer_instance) fun h p m => ?_))|((with_reducible refine is_new ?_); first|(with_reducible refine new_n ?_)|(with_reducible refine new_p (by assumption) ?_))|((with_reducible refine is_pd ?_); first|(refine pd_p (by assumption) (by with_unfolding_all rfl) ?_)|(refine pd_c (by assumption) (by infer_instance) (by with_unfolding_all rfl) ?_)|(refine pd_o (by assumption) (by infer_instance) (by with_unfolding_all rfl) ?_))|((with_reducible refine is_vb ?_); first|(refine vb_mac (by assumption) ?_)|(with_reducible refine vb_pt (by assumption) ?_)|(with_reducible refine vb_f ?_)|(refine vbA ?_)|(with_reducible refine vb_l (by assumption) ?_)|(refine vb_as rfl (by assumption) ?_)|(refine vb_ao rfl (by assumption) (by assumption) (by infer_instance) ?_)|(refine IsSl.vb (by assumption) (by assumption) (by infer_instance) ?_))|((with_reducible refine is_tru ?_); first|(with_reducible refine ⟨trivial, ?_⟩))|((with_reducible refine is_ret ?_); first|(with_reducible refine ret1 ?_)|(with_reducible refine ret2 ?_)|(with_reducible refine ret3 ?_)|(with_reducible refine ret0 ?_))|((with_reducible refine is_bld ?_); first|(refine vk_i (bd24_z) ?_)|(refine vk_i (bd77_01 _ _) ?_)|(refine vk_i (bd104_01 _ _) ?_)|(refine vk_i (bd104_012 _ _ _ _ _) ?_)|(refine vk_i (bd107_012 _ _ _) ?_)|(refine vk_i (bd107_0123 _ _ _ _) ?_)|(refine vk_i (bd113_012 _ _ _) ?_)|(refine vk_i (bd113_01234 _ _ _ _ _ _ _) ?_))|((with_reducible refine is_bsl ?_); first|(refine bs_g (bs36_0 _) (by assumption) fun i h p m => ?_)|(refine bs_g (bs22_0 _) (by assumption) fun i h p m => ?_)|(refine bs_g (bs51_1 _ _ _ _) (by assumption) fun i h p m => ?_)|(refine bs_g (bs27_0 _) (by assumption) fun i h p m => ?_)|(refine bs_g (bs53_2 _ _ _) (by assumption) fun i h p m => ?_)|(refine bs_g (bs141_3 _ _ _ _) (by assumption) fun i h p m => ?_)|(refine bs_g (bs53_3 _ _ _ _) (by assumption) fun i h p m => ?_)|(refine bs_g (bs53_1 _ _) (by assumption) fun i h p m => ?_)|(refine bs_g (bs97_1 _ _ _ _ _ _ _ _) (by assumption) fun i h p m => ?_)|(refine bs_g (bs109_1 _ _ _ _) (by assumption) fun i h p m => ?_)|(refine bs_g (bs63_1 _ _ _ _ _ _) (by assumption) fun i h p m => ?_)|(refine bs_g (bs53_0 _) (by assumption) fun i h p m => ?_)|(refine bs_g (bs27_1 _ _) (by assumption) fun i h p m => ?_)|(refine bs_g (bs36_1 _ _) (by assumption) fun i h p m => ?_)|(refine bs_g (bs51_2 _ _ _ _ _ _ _) (by assumption) fun i h p m => ?_)|(refine bs_g (bs108_1 _ _) (by assumption) fun i h p m => ?_)|(refine bs_g (bs114_1 _ _ _ _ _ _ _ _) (by assumption) fun i h p m => ?_))|(with_reducible refine mv_i ?_)|(with_reducible refine seq_i ?_)|((with_reducible refine fun (_ : Tmps) => ?_); (try dsimp only [nth])))); first | rfl | (exfalso; contradiction))
  · generalize listE x [l0, l1, l2] = le at hL
    ((with_reducible (refine new_n ?_; refine neq_n (by first | assumption | decide) ?_; refine mv_i ?_; refine gd_tf ?_; refine gd_tf ?_; refine gd_tf ?_; refine pick_t ?_; refine mv_i ?_; refine gd_tf ?_; refine gd_tf ?_; refine gd_tf ?_; refine pick_t ?_; refine mv_i ?_; refine gd_tf ?_; refine gd_tf ?_; refine gd_tf ?_; refine gd_tf ?_; refine gd_tf ?_; refine pick_t ?_; refine cnd_t ?_; refine mv_i ?_; refine ret1 ?_)))
    all_goals first | rfl | (exfalso; contradiction)
end Go.Proofs.Ytomiejfeclefaaa

/- The arguments of the law on standing for: three mutants in an array. -/
set_option linter.unusedSimpArgs false
set_option linter.unusedVariables false
set_option maxRecDepth 100000
namespace Go.Proofs.Ytomiejfeclefaaa
open Go.AM
open Go.ChangeShapes Go.WideShapes Go.ChangeAt Go.RowKit
theorem ARd_three {H : Type} {h : Heap} {cs : List Value} {d : DataW H} (q : ARd Try.prog h 74 cs d) (hb : Rows.uptoBulk d ≤ 1048576) :
    ∃ (y0 y1 y2 : Value) (l0 l1 l2 : List Mut), absV Try.prog 74 cs = .agg #[y0, y1, y2] ∧ L h y0 l0 ∧ L h y1 l1 ∧ L h y2 l2 := by
  obtain ⟨parts, rfl, hl, hp, hf⟩ := q.elems Try.underlying74
  have hl : cs.length = 3 := hl
  obtain ⟨a, b, c, rfl⟩ : ∃ a b c, parts = [a, b, c] := by
    match parts, hp with
    | [a, b, c], _ => exact ⟨a, b, c, rfl⟩
  have ha := dl_le dMut a
  have hb' := dl_le dMut b
  have hc := dl_le dMut c
  simp only [Rows.uptoBulk, Rows.uptoBulkAll] at hb
  obtain ⟨o1, n1, c1, e1, s1⟩ := ARd.list dMut (hf 0 a rfl) Try.underlying27 (by kernel_rfl) (fun cs d r => ARd_mut r) (by omega)
  obtain ⟨o2, n2, c2, e2, s2⟩ := ARd.list dMut (hf 1 b rfl) Try.underlying27 (by kernel_rfl) (fun cs d r => ARd_mut r) (by omega)
  obtain ⟨o3, n3, c3, e3, s3⟩ := ARd.list dMut (hf 2 c rfl) Try.underlying27 (by kernel_rfl) (fun cs d r => ARd_mut r) (by omega)
  have k1 : (cs.drop 0).take 1 = [.slice o1 n1 c1] := e1
  have k2 : (cs.drop 1).take 1 = [.slice o2 n2 c2] := e2
  have k3 : (cs.drop 2).take 1 = [.slice o3 n3 c3] := e3
  refine ⟨_, _, _, _, _, _, ?_, s1, s2, s3⟩
  have ecs : cs = [.slice o1 n1 c1, .slice o2 n2 c2, .slice o3 n3 c3] := by
    match cs, hl with
    | [x, y, z], _ => simp at k1 k2 k3; rw [k1, k2, k3]
  rw [ecs]
  simp [absV, Try.underlying74]
end Go.Proofs.Ytomiejfeclefaaa
