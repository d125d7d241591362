import Derived.Test.YtomiejfeclefaaaGreatAmX
import Derived.Test.YtomiejfeclefaaaGreatProg
import Derived.KernelRfl
import Derived.Test.YtomiejfeclefaaaGreatAmW
import Derived.Test.YtomiejfeclefaaaGreatAnS
set_option linter.unusedSimpArgs false
set_option linter.unusedVariables false
set_option maxRecDepth 100000
namespace Go.Proofs.YtomiejfeclefaaaGreat
open Go.AM
variable {h h' h0 : Heap}
/-! ### awake: a closed call, by evaluation -/
def isTrue : Option (Value × Heap) → Bool | some (.bool true, _) => true | _ => false
def aw : List Nat := [5, 17, 19, 18, 48, 49, 50, 51, 53, 54, 55, 26, 56, 57, 84, 52, 82, 23, 65, 83, 78, 38, 39, 68, 85, 113, 114, 115, 116, 91, 105, 106, 107, 108, 109, 110, 111, 112, 103, 104, 79, 127, 128, 67, 129, 130, 131, 124, 120, 121, 125, 126, 90, 134, 133]
theorem aw_ok : aw.all (fOK Tryz.prog) = true := by kernel_rfl
theorem aw_ev : isTrue (evF Tryz.prog aw 400 60 5 [] []) = true := by kernel_rfl
theorem c11 : Runs Tryz.prog 5 [] h (.bool true) h := by
  have := aw_ev
  unfold isTrue at this
  split at this
  · rename_i hr he
    exact Runs.closed rfl (evF_ok (fun f hf => List.all_eq_true.mp aw_ok f hf) _ _ _ _ _ _ he)
  · cases this
end Go.Proofs.YtomiejfeclefaaaGreat

set_option linter.unusedVariables false
set_option maxRecDepth 100000
namespace Go.Proofs.YtomiejfeclefaaaGreat
open Go.AM

/-! ### examiner/examinerlaw41.MutantScores: function 3 -/
def n1003 (a0 a1 a2 : Value) (h : Heap) (R : Value → Heap → Prop) : Prop :=
  okK (some (aBox Tryz.prog 24 a0 h)) fun v3 h =>
  mvK (Value.bool false) h fun v6 h =>
  cK Tryz.prog 5 [] h fun v11 h =>
  vK (aUn UnOp.not v11) h fun v12 h =>
  cnd v12 (
   mvK (Value.bool false) h fun v6_1 h =>
   retV [some v6_1] R h) (
   vK (aLoad Tryz.prog 24 v3 h) h fun v13 h =>
   mvK a1 h fun v14 h =>
   cK Tryz.prog 6 [v13, v14] h fun v15 h =>
   mvK v15 h fun v7 h =>
   mvK v7 h fun v16 h =>
   vK (aBin Tryz.prog BinOp.eql 3 v16 (Value.int IntKind.i64 0)) h fun v17 h =>
   mvK v17 h fun v18 h =>
   gdK v18 true (fun k0 =>
    vK (aLoad Tryz.prog 24 v3 h) h fun v19 h =>
    k0 v19 h) (fun v19_1 h =>
    gdK v18 true (fun k1 =>
     cK Tryz.prog 7 [v19_1] h fun v20 h =>
     k1 v20 h) (fun v20_1 h =>
     gdK v18 true (fun k2 =>
      vK (aUn UnOp.not v20_1) h fun v21 h =>
      k2 v21 h) (fun v21_1 h =>
      gdK v18 true (fun k3 =>
       mvK v21_1 h fun v22 h =>
       k3 v22 h) (fun v22_1 h =>
       gdK v22_1 false (fun k4 =>
        mvK a1 h fun v23 h =>
        k4 v23 h) (fun v23_1 h =>
        gdK v22_1 false (fun k5 =>
         vK (aLen Tryz.prog 25 v23_1) h fun v24 h =>
         k5 v24 h) (fun v24_1 h =>
         gdK v22_1 false (fun k6 =>
          vK (aBin Tryz.prog BinOp.gtr 3 v24_1 (Value.int IntKind.i64 8)) h fun v25 h =>
          k6 v25 h) (fun v25_1 h =>
          gdK v18 true (fun k7 =>
           vK (pickV v22_1 (Value.bool true) v25_1) h fun v26 h =>
           k7 v26 h) (fun v26_1 h =>
           gdK v18 true (fun k8 =>
            mvK v26_1 h fun v27 h =>
            k8 v27 h) (fun v27_1 h =>
            gdK v27_1 false (fun k9 =>
             mvK a2 h fun v28 h =>
             k9 v28 h) (fun v28_1 h =>
             gdK v27_1 false (fun k10 =>
              vK (aLen Tryz.prog 26 v28_1) h fun v29 h =>
              k10 v29 h) (fun v29_1 h =>
              gdK v27_1 false (fun k11 =>
               vK (aBin Tryz.prog BinOp.gtr 3 v29_1 (Value.int IntKind.i64 20)) h fun v30 h =>
               k11 v30 h) (fun v30_1 h =>
               gdK v27_1 false (fun k12 =>
                mvK v30_1 h fun v31 h =>
                k12 v31 h) (fun v31_1 h =>
                gdK v31_1 true (fun k13 =>
                 mvK a2 h fun v32 h =>
                 k13 v32 h) (fun v32_1 h =>
                 gdK v31_1 true (fun k14 =>
                  vK (aLen Tryz.prog 26 v32_1) h fun v33 h =>
                  k14 v33 h) (fun v33_1 h =>
                  gdK v31_1 true (fun k15 =>
                   vK (aBin Tryz.prog BinOp.leq 3 v33_1 (Value.int IntKind.i64 2000)) h fun v34 h =>
                   k15 v34 h) (fun v34_1 h =>
                   gdK v27_1 false (fun k16 =>
                    vK (pickV v31_1 v34_1 (Value.bool false)) h fun v35 h =>
                    k16 v35 h) (fun v35_1 h =>
                    gdK v18 true (fun k17 =>
                     vK (pickV v27_1 (Value.bool true) v35_1) h fun v36 h =>
                     k17 v36 h) (fun v36_1 h =>
                     vK (pickV v18 v36_1 (Value.bool false)) h fun v37 h =>
                     cnd v37 (
                      mvK (Value.bool true) h fun v6_2 h =>
                      retV [some v6_2] R h) (
                      seqK (fun k18 =>
                       mvK v7 h fun v38 h =>
                       vK (aBin Tryz.prog BinOp.eql 3 v38 (Value.int IntKind.i64 0)) h fun v39 h =>
                       cnd v39 (
                        mvK a2 h fun v40 h =>
                        vK (aFieldAddr Tryz.prog 24 v3 1) h fun v41 h =>
                        vK (aLoad Tryz.prog 3 v41 h) h fun v42 h =>
                        cK Tryz.prog 8 [v40, v42] h fun v43 h =>
                        mvK v43 h fun v7_1 h =>
                        k18 [v7_1] h) (
                        k18 [v7] h)) fun x18 h => ∀ jx18 : Tmps,
                       let v7_2 : Value := nth x18 0
                       vK (aLoad Tryz.prog 24 v3 h) h fun v45 h =>
                       cK Tryz.prog 10 [v45] h fun v46 h =>
                       mvK a1 h fun v47 h =>
                       cK Tryz.prog 11 [v47] h fun v48 h =>
                       mvK a2 h fun v49 h =>
                       cK Tryz.prog 12 [v49] h fun v50 h =>
                       cK Tryz.prog 9 [v46, v48, v50] h fun v51 h =>
                       mvK v51 h fun v44 h =>
                       vK (aExtract v44 0) h fun v52 h =>
                       vK (aExtract v44 1) h fun v53 h =>
                       okK (aAlloc Tryz.prog 33 h) fun v8 h =>
                       okK ((aStore Tryz.prog 33 v8 v52 h).map (undef, ·)) fun _ h =>
                       mvK v53 h fun v9 h =>
                       mvK v7_2 h fun v54 h =>
                       vK (aBin Tryz.prog BinOp.neq 3 v54 (Value.int IntKind.i64 0)) h fun v55 h =>
                       cnd v55 (
                        mvK v9 h fun v56 h =>
                        mvK v7_2 h fun v57 h =>
                        vK (aBin Tryz.prog BinOp.eql 3 v56 v57) h fun v58 h =>
                        mvK v58 h fun v59 h =>
                        gdK v59 true (fun k19 =>
                         vK (aFieldAddr Tryz.prog 33 v8 0) h fun v60 h =>
                         k19 v60 h) (fun v60_1 h =>
                         gdK v59 true (fun k20 =>
                          vK (aLoad Tryz.prog 3 v60_1 h) h fun v61 h =>
                          k20 v61 h) (fun v61_1 h =>
                          gdK v59 true (fun k21 =>
                           vK (aBin Tryz.prog BinOp.eql 3 v61_1 (Value.int IntKind.i64 0)) h fun v62 h =>
                           k21 v62 h) (fun v62_1 h =>
                           vK (pickV v59 v62_1 (Value.bool false)) h fun v63 h =>
                           mvK v63 h fun v64 h =>
                           gdK v64 true (fun k22 =>
                            vK (aFieldAddr Tryz.prog 33 v8 1) h fun v65 h =>
                            k22 v65 h) (fun v65_1 h =>
                            gdK v64 true (fun k23 =>
                             vK (aLoad Tryz.prog 3 v65_1 h) h fun v66 h =>
                             k23 v66 h) (fun v66_1 h =>
                             gdK v64 true (fun k24 =>
                              vK (aBin Tryz.prog BinOp.eql 3 v66_1 (Value.int IntKind.i64 0)) h fun v67 h =>
                              k24 v67 h) (fun v67_1 h =>
                              vK (pickV v64 v67_1 (Value.bool false)) h fun v68 h =>
                              mvK v68 h fun v69 h =>
                              gdK v69 true (fun k25 =>
                               vK (aFieldAddr Tryz.prog 33 v8 2) h fun v70 h =>
                               k25 v70 h) (fun v70_1 h =>
                               gdK v69 true (fun k26 =>
                                vK (aLoad Tryz.prog 31 v70_1 h) h fun v71 h =>
                                k26 v71 h) (fun v71_1 h =>
                                gdK v69 true (fun k27 =>
                                 vK (aLen Tryz.prog 31 v71_1) h fun v72 h =>
                                 k27 v72 h) (fun v72_1 h =>
                                 gdK v69 true (fun k28 =>
                                  vK (aBin Tryz.prog BinOp.eql 3 v72_1 (Value.int IntKind.i64 0)) h fun v73 h =>
                                  k28 v73 h) (fun v73_1 h =>
                                  vK (pickV v69 v73_1 (Value.bool false)) h fun v74 h =>
                                  mvK v74 h fun v6_3 h =>
                                  retV [some v6_3] R h) h) h) h) h) h) h) h) h) h) h) (
                        vK (aLoad Tryz.prog 24 v3 h) h fun v75 h =>
                        mvK a1 h fun v76 h =>
                        mvK a2 h fun v77 h =>
                        cK Tryz.prog 13 [v75, v76, v77] h fun v78 h =>
                        okK (aAlloc Tryz.prog 33 h) fun v10 h =>
                        okK ((aStore Tryz.prog 33 v10 v78 h).map (undef, ·)) fun _ h =>
                        mvK v9 h fun v79 h =>
                        vK (aBin Tryz.prog BinOp.eql 34 v79 (Value.int IntKind.i64 0)) h fun v80 h =>
                        mvK v80 h fun v81 h =>
                        gdK v81 true (fun k29 =>
                         vK (aFieldAddr Tryz.prog 33 v8 0) h fun v82 h =>
                         k29 v82 h) (fun v82_1 h =>
                         gdK v81 true (fun k30 =>
                          vK (aLoad Tryz.prog 3 v82_1 h) h fun v83 h =>
                          k30 v83 h) (fun v83_1 h =>
                          gdK v81 true (fun k31 =>
                           vK (aFieldAddr Tryz.prog 33 v10 0) h fun v84 h =>
                           k31 v84 h) (fun v84_1 h =>
                           gdK v81 true (fun k32 =>
                            vK (aLoad Tryz.prog 3 v84_1 h) h fun v85 h =>
                            k32 v85 h) (fun v85_1 h =>
                            gdK v81 true (fun k33 =>
                             vK (aBin Tryz.prog BinOp.eql 3 v83_1 v85_1) h fun v86 h =>
                             k33 v86 h) (fun v86_1 h =>
                             vK (pickV v81 v86_1 (Value.bool false)) h fun v87 h =>
                             mvK v87 h fun v88 h =>
                             gdK v88 true (fun k34 =>
                              vK (aFieldAddr Tryz.prog 33 v8 1) h fun v89 h =>
                              k34 v89 h) (fun v89_1 h =>
                              gdK v88 true (fun k35 =>
                               vK (aLoad Tryz.prog 3 v89_1 h) h fun v90 h =>
                               k35 v90 h) (fun v90_1 h =>
                               gdK v88 true (fun k36 =>
                                vK (aFieldAddr Tryz.prog 33 v10 1) h fun v91 h =>
                                k36 v91 h) (fun v91_1 h =>
                                gdK v88 true (fun k37 =>
                                 vK (aLoad Tryz.prog 3 v91_1 h) h fun v92 h =>
                                 k37 v92 h) (fun v92_1 h =>
                                 gdK v88 true (fun k38 =>
                                  vK (aBin Tryz.prog BinOp.eql 3 v90_1 v92_1) h fun v93 h =>
                                  k38 v93 h) (fun v93_1 h =>
                                  vK (pickV v88 v93_1 (Value.bool false)) h fun v94 h =>
                                  mvK v94 h fun v95 h =>
                                  gdK v95 true (fun k39 =>
                                   vK (aFieldAddr Tryz.prog 33 v8 2) h fun v96 h =>
                                   k39 v96 h) (fun v96_1 h =>
                                   gdK v95 true (fun k40 =>
                                    vK (aLoad Tryz.prog 31 v96_1 h) h fun v97 h =>
                                    k40 v97 h) (fun v97_1 h =>
                                    gdK v95 true (fun k41 =>
                                     vK (aFieldAddr Tryz.prog 33 v10 2) h fun v98 h =>
                                     k41 v98 h) (fun v98_1 h =>
                                     gdK v95 true (fun k42 =>
                                      vK (aLoad Tryz.prog 31 v98_1 h) h fun v99 h =>
                                      k42 v99 h) (fun v99_1 h =>
                                      gdK v95 true (fun k43 =>
                                       cK Tryz.prog 14 [v97_1, v99_1] h fun v100 h =>
                                       k43 v100 h) (fun v100_1 h =>
                                       vK (pickV v95 v100_1 (Value.bool false)) h fun v101 h =>
                                       mvK v101 h fun v6_4 h =>
                                       retV [some v6_4] R h) h) h) h) h) h) h) h) h) h) h) h) h) h) h) h))) h) h) h) h) h) h) h) h) h) h) h) h) h) h) h) h) h) h)
def lv1003 (q : Nat) : List Nat := bif Nat.beq q 17 then [17317308137600, 7] else []
theorem ok1003 : lkOK Tryz.prog lv1003 Tryz.f3 3 (Tryz.f3.body.getD .skip) 3 = true := by kernel_rfl
theorem e1003 (a0 a1 a2 : Value) (h : Heap) (R : Value → Heap → Prop) : n1003 a0 a1 a2 h R = wpK Tryz.prog lv1003 (Tryz.f3.body.getD .skip) (endK Tryz.prog [.tmp 6] R) (argT [a0, a1, a2]) h := by kernel_rfl
theorem w1003 {a0 a1 a2 : Value} {h : Heap} {R : Value → Heap → Prop} (hn : n1003 a0 a1 a2 h R) : DetP Tryz.prog 3 [a0, a1, a2] h R :=
  DetP.of_code (rs := [.tmp 6]) (n := 3) Tryz.func3 (by kernel_rfl) (by kernel_rfl) lv1003 ok1003 rfl ((e1003 a0 a1 a2 h R) ▸ hn)

/-! ### examiner/examinerlaw41.MutantSuites: function 4 -/
/-! ### examiner/examinerref40.SuiteErr: function 8 -/
def n1008 (a0 a1 : Value) (h : Heap) (R : Value → Heap → Prop) : Prop :=
  mvK (Value.int IntKind.i64 0) h fun v4 h =>
  mvK a0 h fun v7 h =>
  vK (aLen Tryz.prog 26 v7) h fun v8 h =>
  vK (aBin Tryz.prog BinOp.gtr 3 v8 (Value.int IntKind.i64 2000)) h fun v9 h =>
  cnd v9 (
   mvK (Value.int IntKind.i64 2) h fun v4_1 h =>
   retV [some v4_1] R h) (
   mvK (Value.int IntKind.i64 0) h fun v5 h =>
   ∃ (I4 : List Value → Heap → Prop) (μ4 : List Value → Heap → Nat), I4 [v5] h ∧
   ∀ (h4 : Heap) (j4 : Tmps) (v5_1 : Value), I4 [v5_1] h4 → (let h := h4
    mvK v5_1 h fun v10 h =>
    mvK a0 h fun v11 h =>
    vK (aLen Tryz.prog 26 v11) h fun v12 h =>
    vK (aBin Tryz.prog BinOp.lss 3 v10 v12) h fun v13 h =>
    cnd v13 (
     mvK a0 h fun v16 h =>
     mvK v5_1 h fun v17 h =>
     vK (aIndexAddr Tryz.prog 26 v16 v17) h fun v18 h =>
     vK (aLoad Tryz.prog 31 v18 h) h fun v19 h =>
     mvK a1 h fun v20 h =>
     cK Tryz.prog 22 [v19, v20, (Value.int IntKind.i64 60)] h fun v21 h =>
     mvK v21 h fun v6 h =>
     mvK v6 h fun v22 h =>
     vK (aBin Tryz.prog BinOp.neq 3 v22 (Value.int IntKind.i64 0)) h fun v23 h =>
     cnd v23 (
      mvK v6 h fun v24 h =>
      mvK v24 h fun v4_2 h =>
      retV [some v4_2] R h) (
      mvK v5_1 h fun v14 h =>
      vK (aBin Tryz.prog BinOp.add 3 v14 (Value.int IntKind.i64 1)) h fun v15 h =>
      mvK v15 h fun v5_2 h =>
      I4 [v5_2] h ∧ μ4 [v5_2] h < μ4 [v5_1] h4)) (
     mvK (Value.int IntKind.i64 0) h fun v4_3 h =>
     retV [some v4_3] R h)))
def lv1008 (q : Nat) : List Nat := bif Nat.beq q 8 then [33553520, 5] else []
theorem ok1008 : lkOK Tryz.prog lv1008 Tryz.f8 2 (Tryz.f8.body.getD .skip) 8 = true := by kernel_rfl
theorem e1008 (a0 a1 : Value) (h : Heap) (R : Value → Heap → Prop) : n1008 a0 a1 h R = wpK Tryz.prog lv1008 (Tryz.f8.body.getD .skip) (endK Tryz.prog [.tmp 4] R) (argT [a0, a1]) h := by kernel_rfl
theorem w1008 {a0 a1 : Value} {h : Heap} {R : Value → Heap → Prop} (hn : n1008 a0 a1 h R) : DetP Tryz.prog 8 [a0, a1] h R :=
  DetP.of_code (rs := [.tmp 4]) (n := 2) Tryz.func8 (by kernel_rfl) (by kernel_rfl) lv1008 ok1008 rfl ((e1008 a0 a1 h R) ▸ hn)

/-! ### examiner/mutant.ScoreOf: function 9 -/
def n1009 (a0 a1 a2 : Value) (h : Heap) (R : Value → Heap → Prop) : Prop :=
  okK (some (aBox Tryz.prog 24 a0 h)) fun v3 h =>
  okK (aAlloc Tryz.prog 33 h) fun v6 h =>
  mvK (Value.int IntKind.i64 0) h fun v7 h =>
  vK (aLoad Tryz.prog 24 v3 h) h fun v16 h =>
  mvK a1 h fun v17 h =>
  cK Tryz.prog 24 [v16, v17] h fun v18 h =>
  okK (aBuildSlice Tryz.prog 100 1 [(0, v18)] h) fun v19 h =>
  cK Tryz.prog 23 [v19] h fun v20 h =>
  mvK v20 h fun v8 h =>
  mvK v8 h fun v21 h =>
  vK (aBin Tryz.prog BinOp.neq 34 v21 (Value.int IntKind.i64 0)) h fun v22 h =>
  cnd v22 (
   vK (aBuild Tryz.prog 33 []) h fun v23 h =>
   mvK v8 h fun v24 h =>
   okK ((aStore Tryz.prog 33 v6 v23 h).map (undef, ·)) fun _ h =>
   mvK v24 h fun v7_1 h =>
   retV [aLoad Tryz.prog 33 v6 h, some v7_1] R h) (
   vK (aLoad Tryz.prog 24 v3 h) h fun v25 h =>
   mvK a2 h fun v26 h =>
   cK Tryz.prog 25 [v25, v26] h fun v27 h =>
   mvK v27 h fun v9 h =>
   mvK v9 h fun v28 h =>
   vK (aBin Tryz.prog BinOp.neq 34 v28 (Value.int IntKind.i64 0)) h fun v29 h =>
   cnd v29 (
    vK (aBuild Tryz.prog 33 []) h fun v30 h =>
    mvK v9 h fun v31 h =>
    okK ((aStore Tryz.prog 33 v6 v30 h).map (undef, ·)) fun _ h =>
    mvK v31 h fun v7_2 h =>
    retV [aLoad Tryz.prog 33 v6 h, some v7_2] R h) (
    okK (aAlloc Tryz.prog 33 h) fun v10 h =>
    mvK a1 h fun v32 h =>
    vK (aLen Tryz.prog 25 v32) h fun v33 h =>
    mvK (Value.int IntKind.i64 0) h fun v34 h =>
    ∃ (I9 : List Value → Heap → Prop) (μ9 : List Value → Heap → Nat), I9 [v34] h ∧
    ∀ (h9 : Heap) (j9 : Tmps) (v34_1 : Value), I9 [v34_1] h9 → (let h := h9
     vK (aBin Tryz.prog BinOp.lss 3 v34_1 v33) h fun v35 h =>
     cnd v35 (
      seqK (fun k0 =>
       mvK v34_1 h fun v36 h =>
       vK (aIndexAddr Tryz.prog 25 v32 v34_1) h fun v37 h =>
       vK (aLoad Tryz.prog 47 v37 h) h fun v38 h =>
       mvK v36 h fun v11 h =>
       mvK v38 h fun v12 h =>
       vK (aLoad Tryz.prog 24 v3 h) h fun v39 h =>
       mvK v12 h fun v40 h =>
       cK Tryz.prog 26 [v39, v40] h fun v41 h =>
       okK (aAlloc Tryz.prog 24 h) fun v13 h =>
       okK ((aStore Tryz.prog 24 v13 v41 h).map (undef, ·)) fun _ h =>
       mvK a2 h fun v42 h =>
       mvK (Value.func (Fn.func 28) #[] #[v3, v13]) h fun v43 h =>
       cK Tryz.prog 27 [v42, v43] h fun v44 h =>
       cnd v44 (
        vK (aFieldAddr Tryz.prog 33 v10 0) h fun v45 h =>
        vK (aLoad Tryz.prog 3 v45 h) h fun v46 h =>
        vK (aBin Tryz.prog BinOp.add 3 v46 (Value.int IntKind.i64 1)) h fun v47 h =>
        vK (aFieldAddr Tryz.prog 33 v10 0) h fun v48 h =>
        okK ((aStore Tryz.prog 3 v48 v47 h).map (undef, ·)) fun _ h =>
        k0 [] h) (
        vK (aLoad Tryz.prog 24 v3 h) h fun v50 h =>
        vK (aLoad Tryz.prog 24 v13 h) h fun v51 h =>
        cK Tryz.prog 30 [v50, v51] h fun v52 h =>
        mvK v52 h fun v49 h =>
        vK (aExtract v49 0) h fun v53 h =>
        vK (aExtract v49 1) h fun v54 h =>
        mvK v53 h fun v14 h =>
        mvK v54 h fun v15 h =>
        mvK v15 h fun v55 h =>
        vK (aBin Tryz.prog BinOp.eql 34 v55 (Value.int IntKind.i64 23)) h fun v56 h =>
        cnd v56 (
         vK (aFieldAddr Tryz.prog 33 v10 1) h fun v57 h =>
         vK (aLoad Tryz.prog 3 v57 h) h fun v58 h =>
         vK (aBin Tryz.prog BinOp.add 3 v58 (Value.int IntKind.i64 1)) h fun v59 h =>
         vK (aFieldAddr Tryz.prog 33 v10 1) h fun v60 h =>
         okK ((aStore Tryz.prog 3 v60 v59 h).map (undef, ·)) fun _ h =>
         k0 [] h) (
         vK (aFieldAddr Tryz.prog 33 v10 2) h fun v61 h =>
         vK (aLoad Tryz.prog 31 v61 h) h fun v62 h =>
         mvK v11 h fun v63 h =>
         okK (aBuildSlice Tryz.prog 31 1 [(0, v63)] h) fun v64 h =>
         okK (aAppend Tryz.prog 31 31 v62 v64 h) fun v65 h =>
         vK (aFieldAddr Tryz.prog 33 v10 2) h fun v66 h =>
         okK ((aStore Tryz.prog 31 v66 v65 h).map (undef, ·)) fun _ h =>
         k0 [] h))) fun x0 h => ∀ jx0 : Tmps,
       vK (aBin Tryz.prog BinOp.add 3 v34_1 (Value.int IntKind.i64 1)) h fun v67 h =>
       mvK v67 h fun v34_2 h =>
       I9 [v34_2] h ∧ μ9 [v34_2] h < μ9 [v34_1] h9) (
      vK (aLoad Tryz.prog 33 v10 h) h fun v68 h =>
      okK ((aStore Tryz.prog 33 v6 v68 h).map (undef, ·)) fun _ h =>
      mvK (Value.int IntKind.i64 0) h fun v7_3 h =>
      retV [aLoad Tryz.prog 33 v6 h, some v7_3] R h))))
def lv1009 (q : Nat) : List Nat := bif Nat.beq q 18 then [295147905162173020160, 34] else bif Nat.beq q 37 then [147573952520956999680] else []
theorem ok1009 : lkOK Tryz.prog lv1009 Tryz.f9 3 (Tryz.f9.body.getD .skip) 9 = true := by kernel_rfl
theorem e1009 (a0 a1 a2 : Value) (h : Heap) (R : Value → Heap → Prop) : n1009 a0 a1 a2 h R = wpK Tryz.prog lv1009 (Tryz.f9.body.getD .skip) (endK Tryz.prog [.cell 6 33, .tmp 7] R) (argT [a0, a1, a2]) h := by kernel_rfl
theorem w1009 {a0 a1 a2 : Value} {h : Heap} {R : Value → Heap → Prop} (hn : n1009 a0 a1 a2 h R) : DetP Tryz.prog 9 [a0, a1, a2] h R :=
  DetP.of_code (rs := [.cell 6 33, .tmp 7]) (n := 3) Tryz.func9 (by kernel_rfl) (by kernel_rfl) lv1009 ok1009 rfl ((e1009 a0 a1 a2 h R) ▸ hn)

/-! ### examiner/examinerlaw40.Own: function 12 -/
def n1012 (a0 : Value) (h : Heap) (R : Value → Heap → Prop) : Prop :=
  mvK (Value.slice none 0 0) h fun v2 h =>
  mvK (Value.slice none 0 0) h fun v3 h =>
  mvK (Value.int IntKind.i64 0) h fun v4 h =>
  ∃ (I3 : List Value → Heap → Prop) (μ3 : List Value → Heap → Nat), I3 [v3, v4] h ∧
  ∀ (h3 : Heap) (j3 : Tmps) (v3_1 : Value) (v4_1 : Value), I3 [v3_1, v4_1] h3 → (let h := h3
   mvK v4_1 h fun v5 h =>
   mvK a0 h fun v6 h =>
   vK (aLen Tryz.prog 26 v6) h fun v7 h =>
   vK (aBin Tryz.prog BinOp.lss 3 v5 v7) h fun v8 h =>
   cnd v8 (
    mvK v3_1 h fun v11 h =>
    mvK a0 h fun v12 h =>
    mvK v4_1 h fun v13 h =>
    vK (aIndexAddr Tryz.prog 26 v12 v13) h fun v14 h =>
    vK (aLoad Tryz.prog 31 v14 h) h fun v15 h =>
    cK Tryz.prog 32 [v15] h fun v16 h =>
    okK (aBuildSlice Tryz.prog 26 1 [(0, v16)] h) fun v17 h =>
    okK (aAppend Tryz.prog 26 26 v11 v17 h) fun v18 h =>
    mvK v18 h fun v3_2 h =>
    mvK v4_1 h fun v9 h =>
    vK (aBin Tryz.prog BinOp.add 3 v9 (Value.int IntKind.i64 1)) h fun v10 h =>
    mvK v10 h fun v4_2 h =>
    I3 [v3_2, v4_2] h ∧ μ3 [v3_2, v4_2] h < μ3 [v3_1, v4_1] h3) (
    mvK v3_1 h fun v19 h =>
    mvK v19 h fun v2_1 h =>
    retV [some v2_1] R h))
def lv1012 (q : Nat) : List Nat := bif Nat.beq q 6 then [524280, 3, 4] else []
theorem ok1012 : lkOK Tryz.prog lv1012 Tryz.f12 1 (Tryz.f12.body.getD .skip) 12 = true := by kernel_rfl
theorem e1012 (a0 : Value) (h : Heap) (R : Value → Heap → Prop) : n1012 a0 h R = wpK Tryz.prog lv1012 (Tryz.f12.body.getD .skip) (endK Tryz.prog [.tmp 2] R) (argT [a0]) h := by kernel_rfl
theorem w1012 {a0 : Value} {h : Heap} {R : Value → Heap → Prop} (hn : n1012 a0 h R) : DetP Tryz.prog 12 [a0] h R :=
  DetP.of_code (rs := [.tmp 2]) (n := 1) Tryz.func12 (by kernel_rfl) (by kernel_rfl) lv1012 ok1012 rfl ((e1012 a0 h R) ▸ hn)

/-! ### examiner/examinerref41.Score: function 13 -/
def n1013 (a0 a1 a2 : Value) (h : Heap) (R : Value → Heap → Prop) : Prop :=
  okK (some (aBox Tryz.prog 24 a0 h)) fun v3 h =>
  okK (aAlloc Tryz.prog 33 h) fun v6 h =>
  okK (aAlloc Tryz.prog 33 h) fun v7 h =>
  mvK (Value.int IntKind.i64 0) h fun v8 h =>
  ∃ (I3 : List Value → Heap → Prop) (μ3 : List Value → Heap → Nat), I3 [v8] h ∧
  ∀ (h3 : Heap) (j3 : Tmps) (v8_1 : Value), I3 [v8_1] h3 → (let h := h3
   mvK v8_1 h fun v12 h =>
   mvK a1 h fun v13 h =>
   vK (aLen Tryz.prog 25 v13) h fun v14 h =>
   vK (aBin Tryz.prog BinOp.lss 3 v12 v14) h fun v15 h =>
   cnd v15 (
    seqK (fun k0 =>
     vK (aLoad Tryz.prog 24 v3 h) h fun v18 g =>
     VB h.length v18 ∧ (let h := g
      vK (aLoad Tryz.prog 24 v3 h) h fun v19 g =>
      VB h.length v19 ∧ (let h := g
       mvK a1 h fun v20 h =>
       mvK v8_1 h fun v21 h =>
       vK (aIndexAddr Tryz.prog 25 v20 v21) h fun v22 h =>
       vK (aLoad Tryz.prog 47 v22 h) h fun v23 g =>
       VB h.length v23 ∧ (let h := g
        cKD Tryz.prog 34 [v19, v23] h fun v24 g =>
        (∃ new, g = h ++ new) ∧ (let h := g
         mvK a2 h fun v25 h =>
         cKD Tryz.prog 33 [v18, v24, v25] h fun v26 g =>
         (∃ new, g = h ++ new) ∧ (let h := g
          mvK a2 h fun v27 h =>
          vK (aLen Tryz.prog 26 v27) h fun v28 h =>
          vK (aBin Tryz.prog BinOp.lss 3 v26 v28) h fun v29 h =>
          cnd v29 (
           vK (aFieldAddr Tryz.prog 33 v7 0) h fun v30 h =>
           vK (aLoad Tryz.prog 3 v30 h) h fun v31 h =>
           vK (aBin Tryz.prog BinOp.add 3 v31 (Value.int IntKind.i64 1)) h fun v32 h =>
           vK (aFieldAddr Tryz.prog 33 v7 0) h fun v33 h =>
           okK ((aStore Tryz.prog 3 v33 v32 h).map (undef, ·)) fun _ h =>
           k0 [] h) (
           vK (aLoad Tryz.prog 24 v3 h) h fun v35 g =>
           VB h.length v35 ∧ (let h := g
            mvK a1 h fun v36 h =>
            mvK v8_1 h fun v37 h =>
            vK (aIndexAddr Tryz.prog 25 v36 v37) h fun v38 h =>
            vK (aLoad Tryz.prog 47 v38 h) h fun v39 g =>
            VB h.length v39 ∧ (let h := g
             cKD Tryz.prog 35 [v35, v39] h fun v40 g =>
             (∃ new, g = h ++ new) ∧ (let h := g
              mvK v40 h fun v34 h =>
              vK (aExtract v34 0) h fun v41 h =>
              vK (aExtract v34 1) h fun v42 h =>
              vK (aExtract v34 2) h fun v43 h =>
              mvK v41 h fun v9 h =>
              mvK v42 h fun v10 h =>
              mvK v43 h fun v11 h =>
              mvK v10 h fun v44 h =>
              cnd v44 (
               vK (aFieldAddr Tryz.prog 33 v7 2) h fun v45 h =>
               vK (aLoad Tryz.prog 31 v45 h) h fun v46 h =>
               mvK v8_1 h fun v47 h =>
               okK (aBuildSlice Tryz.prog 31 1 [(0, v47)] h) fun v48 h =>
               okK (aAppend Tryz.prog 31 31 v46 v48 h) fun v49 h =>
               vK (aFieldAddr Tryz.prog 33 v7 2) h fun v50 h =>
               okK ((aStore Tryz.prog 31 v50 v49 h).map (undef, ·)) fun _ h =>
               k0 [] h) (
               vK (aFieldAddr Tryz.prog 33 v7 1) h fun v51 h =>
               vK (aLoad Tryz.prog 3 v51 h) h fun v52 h =>
               vK (aBin Tryz.prog BinOp.add 3 v52 (Value.int IntKind.i64 1)) h fun v53 h =>
               vK (aFieldAddr Tryz.prog 33 v7 1) h fun v54 h =>
               okK ((aStore Tryz.prog 3 v54 v53 h).map (undef, ·)) fun _ h =>
               k0 [] h))))))))))) fun x0 h => ∀ jx0 : Tmps,
     mvK v8_1 h fun v16 h =>
     vK (aBin Tryz.prog BinOp.add 3 v16 (Value.int IntKind.i64 1)) h fun v17 h =>
     mvK v17 h fun v8_2 h =>
     I3 [v8_2] h ∧ μ3 [v8_2] h < μ3 [v8_1] h3) (
    vK (aLoad Tryz.prog 33 v7 h) h fun v55 h =>
    okK ((aStore Tryz.prog 33 v6 v55 h).map (undef, ·)) fun _ h =>
    retV [aLoad Tryz.prog 33 v6 h] R h))
def lv1013 (q : Nat) : List Nat := bif Nat.beq q 6 then [36028797018963712, 8] else bif Nat.beq q 9 then [36028797018705408] else []
theorem ok1013 : lkOK Tryz.prog lv1013 Tryz.f13 3 (Tryz.f13.body.getD .skip) 13 = true := by kernel_rfl
theorem e1013 (a0 a1 a2 : Value) (h : Heap) (R : Value → Heap → Prop) : n1013 a0 a1 a2 h R = wpK Tryz.prog lv1013 (Tryz.f13.body.getD .skip) (endK Tryz.prog [.cell 6 33] R) (argT [a0, a1, a2]) h := by kernel_rfl
theorem w1013 {a0 a1 a2 : Value} {h : Heap} {R : Value → Heap → Prop} (hn : n1013 a0 a1 a2 h R) : DetP Tryz.prog 13 [a0, a1, a2] h R :=
  DetP.of_code (rs := [.cell 6 33]) (n := 3) Tryz.func13 (by kernel_rfl) (by kernel_rfl) lv1013 ok1013 rfl ((e1013 a0 a1 a2 h R) ▸ hn)

/-! ### examiner/mutant.SuiteFor: function 15 -/
/-! ### examiner/examinerref41.Suite: function 16 -/
/-! ### examiner/mutant.wordsErr: function 25 -/
def n1025 (a0 a1 : Value) (h : Heap) (R : Value → Heap → Prop) : Prop :=
  okK (some (aBox Tryz.prog 24 a0 h)) fun v2 h =>
  mvK (Value.int IntKind.i64 0) h fun v4 h =>
  mvK a1 h fun v9 h =>
  vK (aLen Tryz.prog 26 v9) h fun v10 h =>
  vK (aBin Tryz.prog BinOp.gtr 3 v10 (Value.int IntKind.i64 2000)) h fun v11 h =>
  cnd v11 (
   mvK (Value.int IntKind.i64 2) h fun v4_1 h =>
   retV [some v4_1] R h) (
   mvK a1 h fun v12 h =>
   vK (aLen Tryz.prog 26 v12) h fun v13 h =>
   mvK (Value.int IntKind.i64 0) h fun v14 h =>
   ∃ (I4 : List Value → Heap → Prop) (μ4 : List Value → Heap → Nat), I4 [v14] h ∧
   ∀ (h4 : Heap) (j4 : Tmps) (v14_1 : Value), I4 [v14_1] h4 → (let h := h4
    vK (aBin Tryz.prog BinOp.lss 3 v14_1 v13) h fun v15 h =>
    cnd v15 (
     vK (aIndexAddr Tryz.prog 26 v12 v14_1) h fun v16 h =>
     vK (aLoad Tryz.prog 31 v16 h) h fun v17 h =>
     mvK v17 h fun v6 h =>
     mvK (Value.func (Fn.func 66) #[] #[v2]) h fun v18 h =>
     mvK v18 h fun v7 h =>
     mvK v6 h fun v19 h =>
     vK (aLen Tryz.prog 31 v19) h fun v20 h =>
     vK (aBin Tryz.prog BinOp.leq 3 v20 (Value.int IntKind.i64 60)) h fun v21 h =>
     cK Tryz.prog 65 [v21, (Value.int IntKind.i64 2)] h fun v22 h =>
     mvK v6 h fun v23 h =>
     mvK v7 h fun v24 h =>
     cK Tryz.prog 67 [v23, v24] h fun v25 h =>
     vK (aUn UnOp.not v25) h fun v26 h =>
     cK Tryz.prog 65 [v26, (Value.int IntKind.i64 3)] h fun v27 h =>
     okK (aBuildSlice Tryz.prog 100 2 [(0, v22), (1, v27)] h) fun v28 h =>
     cK Tryz.prog 23 [v28] h fun v29 h =>
     mvK v29 h fun v8 h =>
     mvK v8 h fun v30 h =>
     vK (aBin Tryz.prog BinOp.neq 34 v30 (Value.int IntKind.i64 0)) h fun v31 h =>
     cnd v31 (
      mvK v8 h fun v32 h =>
      mvK v32 h fun v4_2 h =>
      retV [some v4_2] R h) (
      vK (aBin Tryz.prog BinOp.add 3 v14_1 (Value.int IntKind.i64 1)) h fun v33 h =>
      mvK v33 h fun v14_2 h =>
      I4 [v14_2] h ∧ μ4 [v14_2] h < μ4 [v14_1] h4)) (
     mvK (Value.int IntKind.i64 0) h fun v4_3 h =>
     retV [some v4_3] R h)))
def lv1025 (q : Nat) : List Nat := bif Nat.beq q 8 then [17179853264, 14] else []
theorem ok1025 : lkOK Tryz.prog lv1025 Tryz.f25 2 (Tryz.f25.body.getD .skip) 25 = true := by kernel_rfl
theorem e1025 (a0 a1 : Value) (h : Heap) (R : Value → Heap → Prop) : n1025 a0 a1 h R = wpK Tryz.prog lv1025 (Tryz.f25.body.getD .skip) (endK Tryz.prog [.tmp 4] R) (argT [a0, a1]) h := by kernel_rfl
theorem w1025 {a0 a1 : Value} {h : Heap} {R : Value → Heap → Prop} (hn : n1025 a0 a1 h R) : DetP Tryz.prog 25 [a0, a1] h R :=
  DetP.of_code (rs := [.tmp 4]) (n := 2) Tryz.func25 (by kernel_rfl) (by kernel_rfl) lv1025 ok1025 rfl ((e1025 a0 a1 h R) ▸ hn)

/-! ### slices.ContainsFunc[[][]int,[]int]: function 27 -/
def n1027 (a0 a1 : Value) (h : Heap) (R : Value → Heap → Prop) : Prop :=
  mvK (Value.bool false) h fun v4 h =>
  mvK a0 h fun v5 h =>
  mvK a1 h fun v6 h =>
  cK Tryz.prog 69 [v5, v6] h fun v7 h =>
  vK (aBin Tryz.prog BinOp.geq 3 v7 (Value.int IntKind.i64 0)) h fun v8 h =>
  mvK v8 h fun v4_1 h =>
  retV [some v4_1] R h
def lv1027 (q : Nat) : List Nat := []
theorem ok1027 : lkOK Tryz.prog lv1027 Tryz.f27 2 (Tryz.f27.body.getD .skip) 27 = true := by kernel_rfl
theorem e1027 (a0 a1 : Value) (h : Heap) (R : Value → Heap → Prop) : n1027 a0 a1 h R = wpK Tryz.prog lv1027 (Tryz.f27.body.getD .skip) (endK Tryz.prog [.tmp 4] R) (argT [a0, a1]) h := by kernel_rfl
theorem w1027 {a0 a1 : Value} {h : Heap} {R : Value → Heap → Prop} (hn : n1027 a0 a1 h R) : DetP Tryz.prog 27 [a0, a1] h R :=
  DetP.of_code (rs := [.tmp 4]) (n := 2) Tryz.func27 (by kernel_rfl) (by kernel_rfl) lv1027 ok1027 rfl ((e1027 a0 a1 h R) ▸ hn)

/-! ### examiner/mutant.ScoreOf$1: function 28 -/
def n1028 (a0 a1 a2 : Value) (h : Heap) (R : Value → Heap → Prop) : Prop :=
  mvK (Value.bool false) h fun v4 h =>
  vK (aLoad Tryz.prog 24 a1 h) h fun v5 h =>
  vK (aLoad Tryz.prog 24 a2 h) h fun v6 h =>
  mvK a0 h fun v7 h =>
  cK Tryz.prog 29 [v5, v6, v7] h fun v8 h =>
  mvK v8 h fun v4_1 h =>
  retV [some v4_1] R h
def lv1028 (q : Nat) : List Nat := []
theorem ok1028 : lkOK Tryz.prog lv1028 Tryz.f28 3 (Tryz.f28.body.getD .skip) 28 = true := by kernel_rfl
theorem e1028 (a0 a1 a2 : Value) (h : Heap) (R : Value → Heap → Prop) : n1028 a0 a1 a2 h R = wpK Tryz.prog lv1028 (Tryz.f28.body.getD .skip) (endK Tryz.prog [.tmp 4] R) (argT [a0, a1, a2]) h := by kernel_rfl
theorem w1028 {a0 a1 a2 : Value} {h : Heap} {R : Value → Heap → Prop} (hn : n1028 a0 a1 a2 h R) : DetP Tryz.prog 28 [a0, a1, a2] h R :=
  DetP.of_code (rs := [.tmp 4]) (n := 3) Tryz.func28 (by kernel_rfl) (by kernel_rfl) lv1028 ok1028 rfl ((e1028 a0 a1 a2 h R) ▸ hn)

/-! ### examiner/mutant.kills: function 29 -/
def n1029 (a0 a1 a2 : Value) (h : Heap) (R : Value → Heap → Prop) : Prop :=
  okK (some (aBox Tryz.prog 24 a0 h)) fun v3 h =>
  okK (some (aBox Tryz.prog 24 a1 h)) fun v4 h =>
  mvK (Value.bool false) h fun v6 h =>
  vK (aLoad Tryz.prog 24 v3 h) h fun v14 h =>
  vK (aFieldAddr Tryz.prog 24 v3 3) h fun v15 h =>
  vK (aLoad Tryz.prog 3 v15 h) h fun v16 h =>
  mvK a2 h fun v17 h =>
  cK Tryz.prog 70 [v14, v16, v17] h fun v18 h =>
  mvK v18 h fun v13 h =>
  vK (aExtract v13 0) h fun v19 h =>
  vK (aExtract v13 1) h fun v20 h =>
  vK (aExtract v13 2) h fun v21 h =>
  mvK v19 h fun v7 h =>
  mvK v20 h fun v8 h =>
  mvK v21 h fun v9 h =>
  vK (aLoad Tryz.prog 24 v4 h) h fun v23 h =>
  vK (aFieldAddr Tryz.prog 24 v4 3) h fun v24 h =>
  vK (aLoad Tryz.prog 3 v24 h) h fun v25 h =>
  mvK a2 h fun v26 h =>
  cK Tryz.prog 70 [v23, v25, v26] h fun v27 h =>
  mvK v27 h fun v22 h =>
  vK (aExtract v22 0) h fun v28 h =>
  vK (aExtract v22 1) h fun v29 h =>
  vK (aExtract v22 2) h fun v30 h =>
  mvK v28 h fun v10 h =>
  mvK v29 h fun v11 h =>
  mvK v30 h fun v12 h =>
  mvK v7 h fun v31 h =>
  mvK v10 h fun v32 h =>
  cK Tryz.prog 42 [v31, v32] h fun v33 h =>
  vK (aUn UnOp.not v33) h fun v34 h =>
  mvK v34 h fun v6_1 h =>
  retV [some v6_1] R h
def lv1029 (q : Nat) : List Nat := []
theorem ok1029 : lkOK Tryz.prog lv1029 Tryz.f29 3 (Tryz.f29.body.getD .skip) 29 = true := by kernel_rfl
theorem e1029 (a0 a1 a2 : Value) (h : Heap) (R : Value → Heap → Prop) : n1029 a0 a1 a2 h R = wpK Tryz.prog lv1029 (Tryz.f29.body.getD .skip) (endK Tryz.prog [.tmp 6] R) (argT [a0, a1, a2]) h := by kernel_rfl
theorem w1029 {a0 a1 a2 : Value} {h : Heap} {R : Value → Heap → Prop} (hn : n1029 a0 a1 a2 h R) : DetP Tryz.prog 29 [a0, a1, a2] h R :=
  DetP.of_code (rs := [.tmp 6]) (n := 3) Tryz.func29 (by kernel_rfl) (by kernel_rfl) lv1029 ok1029 rfl ((e1029 a0 a1 a2 h R) ▸ hn)

/-! ### examiner/examinerref40.Passes: function 33 -/
def n1033 (a0 a1 a2 : Value) (h : Heap) (R : Value → Heap → Prop) : Prop :=
  okK (some (aBox Tryz.prog 24 a0 h)) fun v3 h =>
  okK (some (aBox Tryz.prog 24 a1 h)) fun v4 h =>
  mvK (Value.int IntKind.i64 0) h fun v6 h =>
  mvK (Value.int IntKind.i64 0) h fun v7 h =>
  ∃ (I2 : List Value → Heap → Prop) (μ2 : List Value → Heap → Nat), I2 [v7] h ∧
  ∀ (h2 : Heap) (j2 : Tmps) (v7_1 : Value), I2 [v7_1] h2 → (let h := h2
   mvK v7_1 h fun v8 h =>
   mvK a2 h fun v9 h =>
   vK (aLen Tryz.prog 26 v9) h fun v10 h =>
   vK (aBin Tryz.prog BinOp.lss 3 v8 v10) h fun v11 h =>
   cnd v11 (
    vK (aLoad Tryz.prog 24 v3 h) h fun v14 g =>
    VB h.length v14 ∧ (let h := g
     vK (aLoad Tryz.prog 24 v4 h) h fun v15 g =>
     VB h.length v15 ∧ (let h := g
      mvK a2 h fun v16 h =>
      mvK v7_1 h fun v17 h =>
      vK (aIndexAddr Tryz.prog 26 v16 v17) h fun v18 h =>
      vK (aLoad Tryz.prog 31 v18 h) h fun v19 g =>
      VB h.length v19 ∧ (let h := g
       cK Tryz.prog 75 [v14, v15, v19] h fun v20 h =>
       cnd v20 (
        mvK v7_1 h fun v21 h =>
        mvK v21 h fun v6_1 h =>
        retV [some v6_1] R h) (
        mvK v7_1 h fun v12 h =>
        vK (aBin Tryz.prog BinOp.add 3 v12 (Value.int IntKind.i64 1)) h fun v13 h =>
        mvK v13 h fun v7_2 h =>
        I2 [v7_2] h ∧ μ2 [v7_2] h < μ2 [v7_1] h2))))) (
    mvK a2 h fun v22 h =>
    vK (aLen Tryz.prog 26 v22) h fun v23 h =>
    mvK v23 h fun v6_2 h =>
    retV [some v6_2] R h))
def lv1033 (q : Nat) : List Nat := bif Nat.beq q 4 then [4194240, 7] else []
theorem ok1033 : lkOK Tryz.prog lv1033 Tryz.f33 3 (Tryz.f33.body.getD .skip) 33 = true := by kernel_rfl
theorem e1033 (a0 a1 a2 : Value) (h : Heap) (R : Value → Heap → Prop) : n1033 a0 a1 a2 h R = wpK Tryz.prog lv1033 (Tryz.f33.body.getD .skip) (endK Tryz.prog [.tmp 6] R) (argT [a0, a1, a2]) h := by kernel_rfl
theorem w1033 {a0 a1 a2 : Value} {h : Heap} {R : Value → Heap → Prop} (hn : n1033 a0 a1 a2 h R) : DetP Tryz.prog 33 [a0, a1, a2] h R :=
  DetP.of_code (rs := [.tmp 6]) (n := 3) Tryz.func33 (by kernel_rfl) (by kernel_rfl) lv1033 ok1033 rfl ((e1033 a0 a1 a2 h R) ▸ hn)

/-! ### examiner/mutant.SuiteFor$1: function 37 -/
/-! ### slices.Compare[[]int,int]: function 40 -/
/-! ### slices.Equal[[]int,int]: function 42 -/
def n1042 (a0 a1 : Value) (h : Heap) (R : Value → Heap → Prop) : Prop :=
  mvK (Value.bool false) h fun v4 h =>
  mvK a0 h fun v6 h =>
  vK (aLen Tryz.prog 31 v6) h fun v7 h =>
  mvK a1 h fun v8 h =>
  vK (aLen Tryz.prog 31 v8) h fun v9 h =>
  vK (aBin Tryz.prog BinOp.neq 3 v7 v9) h fun v10 h =>
  cnd v10 (
   mvK (Value.bool false) h fun v4_1 h =>
   retV [some v4_1] R h) (
   mvK a0 h fun v11 h =>
   vK (aLen Tryz.prog 31 v11) h fun v12 h =>
   mvK (Value.int IntKind.i64 0) h fun v13 h =>
   ∃ (I4 : List Value → Heap → Prop) (μ4 : List Value → Heap → Nat), I4 [v13] h ∧
   ∀ (h4 : Heap) (j4 : Tmps) (v13_1 : Value), I4 [v13_1] h4 → (let h := h4
    vK (aBin Tryz.prog BinOp.lss 3 v13_1 v12) h fun v14 h =>
    cnd v14 (
     mvK v13_1 h fun v15 h =>
     mvK v15 h fun v5 h =>
     mvK a0 h fun v16 h =>
     mvK v5 h fun v17 h =>
     vK (aIndexAddr Tryz.prog 31 v16 v17) h fun v18 h =>
     vK (aLoad Tryz.prog 3 v18 h) h fun v19 g =>
     VB h.length v19 ∧ (let h := g
      mvK a1 h fun v20 h =>
      mvK v5 h fun v21 h =>
      vK (aIndexAddr Tryz.prog 31 v20 v21) h fun v22 h =>
      vK (aLoad Tryz.prog 3 v22 h) h fun v23 g =>
      VB h.length v23 ∧ (let h := g
       vK (aBin Tryz.prog BinOp.neq 3 v19 v23) h fun v24 h =>
       cnd v24 (
        mvK (Value.bool false) h fun v4_2 h =>
        retV [some v4_2] R h) (
        vK (aBin Tryz.prog BinOp.add 3 v13_1 (Value.int IntKind.i64 1)) h fun v25 h =>
        mvK v25 h fun v13_2 h =>
        I4 [v13_2] h ∧ μ4 [v13_2] h < μ4 [v13_1] h4)))) (
     mvK (Value.bool true) h fun v4_3 h =>
     retV [some v4_3] R h)))
def lv1042 (q : Nat) : List Nat := bif Nat.beq q 8 then [67100720, 13] else []
theorem ok1042 : lkOK Tryz.prog lv1042 Tryz.f42 2 (Tryz.f42.body.getD .skip) 42 = true := by kernel_rfl
theorem e1042 (a0 a1 : Value) (h : Heap) (R : Value → Heap → Prop) : n1042 a0 a1 h R = wpK Tryz.prog lv1042 (Tryz.f42.body.getD .skip) (endK Tryz.prog [.tmp 4] R) (argT [a0, a1]) h := by kernel_rfl
theorem w1042 {a0 a1 : Value} {h : Heap} {R : Value → Heap → Prop} (hn : n1042 a0 a1 h R) : DetP Tryz.prog 42 [a0, a1] h R :=
  DetP.of_code (rs := [.tmp 4]) (n := 2) Tryz.func42 (by kernel_rfl) (by kernel_rfl) lv1042 ok1042 rfl ((e1042 a0 a1 h R) ▸ hn)

/-! ### slices.Concat[[][]int,[]int]: function 43 -/
/-! ### examiner/mutant.SuiteFor$2: function 44 -/
/-! ### examiner/mutant.SuiteFor$2$1: function 45 -/
/-! ### slices.ContainsFunc[[]examiner/api.Machine,examiner/api.Machine]: function 46 -/
/-! ### examiner/examinerref40.Compare: function 47 -/
/-! ### examiner/mutant.wordsErr$1: function 66 -/
def n1066 (a0 a1 : Value) (h : Heap) (R : Value → Heap → Prop) : Prop :=
  mvK (Value.bool false) h fun v3 h =>
  mvK a0 h fun v4 h =>
  vK (aFieldAddr Tryz.prog 24 a1 1) h fun v5 h =>
  vK (aLoad Tryz.prog 3 v5 h) h fun v6 h =>
  vK (aBin Tryz.prog BinOp.sub 3 v6 (Value.int IntKind.i64 1)) h fun v7 h =>
  cK Tryz.prog 54 [v4, (Value.int IntKind.i64 0), v7] h fun v8 h =>
  vK (aUn UnOp.not v8) h fun v9 h =>
  mvK v9 h fun v3_1 h =>
  retV [some v3_1] R h
def lv1066 (q : Nat) : List Nat := []
theorem ok1066 : lkOK Tryz.prog lv1066 Tryz.f66 2 (Tryz.f66.body.getD .skip) 66 = true := by kernel_rfl
theorem e1066 (a0 a1 : Value) (h : Heap) (R : Value → Heap → Prop) : n1066 a0 a1 h R = wpK Tryz.prog lv1066 (Tryz.f66.body.getD .skip) (endK Tryz.prog [.tmp 3] R) (argT [a0, a1]) h := by kernel_rfl
theorem w1066 {a0 a1 : Value} {h : Heap} {R : Value → Heap → Prop} (hn : n1066 a0 a1 h R) : DetP Tryz.prog 66 [a0, a1] h R :=
  DetP.of_code (rs := [.tmp 3]) (n := 2) Tryz.func66 (by kernel_rfl) (by kernel_rfl) lv1066 ok1066 rfl ((e1066 a0 a1 h R) ▸ hn)

/-! ### slices.IndexFunc[[][]int,[]int]: function 69 -/
def n1069 (a0 a1 : Value) (h : Heap) (R : Value → Heap → Prop) : Prop :=
  mvK (Value.int IntKind.i64 0) h fun v4 h =>
  mvK a0 h fun v6 h =>
  vK (aLen Tryz.prog 26 v6) h fun v7 h =>
  mvK (Value.int IntKind.i64 0) h fun v8 h =>
  ∃ (I2 : List Value → Heap → Prop) (μ2 : List Value → Heap → Nat), I2 [v8] h ∧
  ∀ (h2 : Heap) (j2 : Tmps) (v8_1 : Value), I2 [v8_1] h2 → (let h := h2
   vK (aBin Tryz.prog BinOp.lss 3 v8_1 v7) h fun v9 h =>
   cnd v9 (
    mvK v8_1 h fun v10 h =>
    mvK v10 h fun v5 h =>
    mvK a1 h fun v11 h =>
    mvK a0 h fun v12 h =>
    mvK v5 h fun v13 h =>
    vK (aIndexAddr Tryz.prog 26 v12 v13) h fun v14 h =>
    vK (aLoad Tryz.prog 31 v14 h) h fun v15 h =>
    callK Tryz.prog (fnOf v11 [v15]) h fun v16 h =>
    cnd v16 (
     mvK v5 h fun v17 h =>
     mvK v17 h fun v4_1 h =>
     retV [some v4_1] R h) (
     vK (aBin Tryz.prog BinOp.add 3 v8_1 (Value.int IntKind.i64 1)) h fun v18 h =>
     mvK v18 h fun v8_2 h =>
     I2 [v8_2] h ∧ μ2 [v8_2] h < μ2 [v8_1] h2)) (
    mvK (Value.int IntKind.i64 (-1)) h fun v4_2 h =>
    retV [some v4_2] R h))
def lv1069 (q : Nat) : List Nat := bif Nat.beq q 4 then [524080, 8] else []
theorem ok1069 : lkOK Tryz.prog lv1069 Tryz.f69 2 (Tryz.f69.body.getD .skip) 69 = true := by kernel_rfl
theorem e1069 (a0 a1 : Value) (h : Heap) (R : Value → Heap → Prop) : n1069 a0 a1 h R = wpK Tryz.prog lv1069 (Tryz.f69.body.getD .skip) (endK Tryz.prog [.tmp 4] R) (argT [a0, a1]) h := by kernel_rfl
theorem w1069 {a0 a1 : Value} {h : Heap} {R : Value → Heap → Prop} (hn : n1069 a0 a1 h R) : DetP Tryz.prog 69 [a0, a1] h R :=
  DetP.of_code (rs := [.tmp 4]) (n := 2) Tryz.func69 (by kernel_rfl) (by kernel_rfl) lv1069 ok1069 rfl ((e1069 a0 a1 h R) ▸ hn)

/-! ### examiner/model.AnswerOf: function 70 -/
def n1070 (a0 a1 a2 : Value) (h : Heap) (R : Value → Heap → Prop) : Prop :=
  okK (some (aBox Tryz.prog 24 a0 h)) fun v3 h =>
  mvK (Value.slice none 0 0) h fun v6 h =>
  mvK (Value.slice none 0 0) h fun v7 h =>
  mvK (Value.int IntKind.i64 0) h fun v8 h =>
  vK (aLoad Tryz.prog 24 v3 h) h fun v16 g =>
  VB h.length v16 ∧ (let h := g
   cKD Tryz.prog 71 [v16] h fun v17 g =>
   (∃ new, g = h ++ new) ∧ (let h := g
    mvK a1 h fun v18 h =>
    vK (aFieldAddr Tryz.prog 24 v3 0) h fun v19 h =>
    vK (aLoad Tryz.prog 3 v19 h) h fun v20 g =>
    VB h.length v20 ∧ (let h := g
     vK (aBin Tryz.prog BinOp.sub 3 v20 (Value.int IntKind.i64 1)) h fun v21 h =>
     cKD Tryz.prog 91 [v18, (Value.int IntKind.i64 0), v21] h fun v22 g =>
     (∃ new, g = h ++ new) ∧ (let h := g
      cKD Tryz.prog 72 [v22, (Value.int IntKind.i64 3)] h fun v23 g =>
      (∃ new, g = h ++ new) ∧ (let h := g
       mvK a2 h fun v24 h =>
       vK (aFieldAddr Tryz.prog 24 v3 1) h fun v25 h =>
       vK (aLoad Tryz.prog 3 v25 h) h fun v26 g =>
       VB h.length v26 ∧ (let h := g
        cKD Tryz.prog 92 [v24, v26] h fun v27 g =>
        (∃ new, g = h ++ new) ∧ (let h := g
         okK (aBuildSlice Tryz.prog 100 3 [(0, v17), (1, v23), (2, v27)] h) fun v28 h =>
         cKD Tryz.prog 23 [v28] h fun v29 g =>
         (∃ new, g = h ++ new) ∧ (let h := g
          mvK v29 h fun v9 h =>
          mvK v9 h fun v30 h =>
          vK (aBin Tryz.prog BinOp.neq 34 v30 (Value.int IntKind.i64 0)) h fun v31 h =>
          cnd v31 (
           mvK v9 h fun v32 h =>
           mvK (Value.slice none 0 0) h fun v6_1 h =>
           mvK (Value.slice none 0 0) h fun v7_1 h =>
           mvK v32 h fun v8_1 h =>
           retV [some v6_1, some v7_1, some v8_1] R h) (
           vK (aLoad Tryz.prog 24 v3 h) h fun v33 h =>
           cK Tryz.prog 73 [v33] h fun v34 h =>
           mvK v34 h fun v10 h =>
           mvK (Value.slice none 0 0) h fun v11 h =>
           mvK (Value.slice none 0 0) h fun v12 h =>
           seqK (fun k0 =>
            mvK a2 h fun v35 h =>
            vK (aLen Tryz.prog 31 v35) h fun v36 h =>
            mvK (Value.int IntKind.i64 0) h fun v37 h =>
            ∃ (I7 : List Value → Heap → Prop) (μ7 : List Value → Heap → Nat), I7 [a1, v11, v12, v37] h ∧
            ∀ (h7 : Heap) (j7 : Tmps) (v1 : Value) (v11_1 : Value) (v12_1 : Value) (v37_1 : Value), I7 [v1, v11_1, v12_1, v37_1] h7 → (let h := h7
             vK (aBin Tryz.prog BinOp.lss 3 v37_1 v36) h fun v38 h =>
             cnd v38 (
              vK (aIndexAddr Tryz.prog 31 v35 v37_1) h fun v39 h =>
              vK (aLoad Tryz.prog 3 v39 h) h fun v40 h =>
              mvK v40 h fun v14 h =>
              mvK v10 h fun v41 h =>
              mvK v1 h fun v42 h =>
              vK (aIndexAddr Tryz.prog 109 v41 v42) h fun v43 h =>
              vK (aLoad Tryz.prog 112 v43 h) h fun v44 h =>
              mvK v14 h fun v45 h =>
              vK (aIndexAddr Tryz.prog 112 v44 v45) h fun v46 h =>
              vK (aLoad Tryz.prog 111 v46 h) h fun v47 h =>
              mvK v47 h fun v15 h =>
              mvK v15 h fun v48 h =>
              vK (aBin Tryz.prog BinOp.eql 111 v48 (Value.pointer none)) h fun v49 h =>
              cnd v49 (
               k0 [v11_1, v12_1] h) (
               mvK v15 h fun v50 h =>
               vK (nilV v50) h fun v51 h =>
               vK (aFieldAddr Tryz.prog 87 v51 3) h fun v52 h =>
               vK (aLoad Tryz.prog 3 v52 h) h fun v53 h =>
               mvK v53 h fun v1_1 h =>
               mvK v11_1 h fun v54 h =>
               mvK v15 h fun v55 h =>
               vK (nilV v55) h fun v56 h =>
               vK (aFieldAddr Tryz.prog 87 v56 2) h fun v57 h =>
               vK (aLoad Tryz.prog 3 v57 h) h fun v58 h =>
               okK (aBuildSlice Tryz.prog 31 1 [(0, v58)] h) fun v59 h =>
               okK (aAppend Tryz.prog 31 31 v54 v59 h) fun v60 h =>
               mvK v12_1 h fun v61 h =>
               mvK v1_1 h fun v62 h =>
               okK (aBuildSlice Tryz.prog 31 1 [(0, v62)] h) fun v63 h =>
               okK (aAppend Tryz.prog 31 31 v61 v63 h) fun v64 h =>
               mvK v60 h fun v11_2 h =>
               mvK v64 h fun v12_2 h =>
               vK (aBin Tryz.prog BinOp.add 3 v37_1 (Value.int IntKind.i64 1)) h fun v65 h =>
               mvK v65 h fun v37_2 h =>
               I7 [v1_1, v11_2, v12_2, v37_2] h ∧ μ7 [v1_1, v11_2, v12_2, v37_2] h < μ7 [v1, v11_1, v12_1, v37_1] h7)) (
              k0 [v11_1, v12_1] h))) fun x0 h => ∀ jx0 : Tmps,
            let v11_3 : Value := nth x0 0
            let v12_3 : Value := nth x0 1
            mvK v11_3 h fun v66 h =>
            mvK v12_3 h fun v67 h =>
            mvK v66 h fun v6_2 h =>
            mvK v67 h fun v7_2 h =>
            mvK (Value.int IntKind.i64 0) h fun v8_2 h =>
            retV [some v6_2, some v7_2, some v8_2] R h)))))))))
def lv1070 (q : Nat) : List Nat := bif Nat.beq q 14 then [73786976157399308290, 1, 11, 12, 37] else bif Nat.beq q 29 then [73786976260478523394, 11, 12] else []
theorem ok1070 : lkOK Tryz.prog lv1070 Tryz.f70 3 (Tryz.f70.body.getD .skip) 70 = true := by kernel_rfl
theorem e1070 (a0 a1 a2 : Value) (h : Heap) (R : Value → Heap → Prop) : n1070 a0 a1 a2 h R = wpK Tryz.prog lv1070 (Tryz.f70.body.getD .skip) (endK Tryz.prog [.tmp 6, .tmp 7, .tmp 8] R) (argT [a0, a1, a2]) h := by kernel_rfl
theorem w1070 {a0 a1 a2 : Value} {h : Heap} {R : Value → Heap → Prop} (hn : n1070 a0 a1 a2 h R) : DetP Tryz.prog 70 [a0, a1, a2] h R :=
  DetP.of_code (rs := [.tmp 6, .tmp 7, .tmp 8]) (n := 3) Tryz.func70 (by kernel_rfl) (by kernel_rfl) lv1070 ok1070 rfl ((e1070 a0 a1 a2 h R) ▸ hn)

-- UNSUPPORTED 80 "slices.Grow[[][]int,[]int]": Builtin.cap

/-! ### examiner/model.wordErr: function 92 -/
def n1092 (a0 a1 : Value) (h : Heap) (R : Value → Heap → Prop) : Prop :=
  okK (some (aBox Tryz.prog 3 a1 h)) fun v3 h =>
  mvK (Value.int IntKind.i64 0) h fun v4 h =>
  mvK (Value.func (Fn.func 117) #[] #[v3]) h fun v6 h =>
  mvK v6 h fun v5 h =>
  mvK a0 h fun v7 h =>
  vK (aLen Tryz.prog 31 v7) h fun v8 h =>
  vK (aBin Tryz.prog BinOp.gtr 3 v8 (Value.int IntKind.i64 60)) h fun v9 h =>
  cnd v9 (
   mvK (Value.int IntKind.i64 2) h fun v4_1 h =>
   retV [some v4_1] R h) (
   mvK a0 h fun v10 h =>
   mvK v5 h fun v11 h =>
   cK Tryz.prog 67 [v10, v11] h fun v12 h =>
   vK (aUn UnOp.not v12) h fun v13 h =>
   cK Tryz.prog 72 [v13, (Value.int IntKind.i64 3)] h fun v14 h =>
   mvK v14 h fun v4_2 h =>
   retV [some v4_2] R h)
def lv1092 (q : Nat) : List Nat := []
theorem ok1092 : lkOK Tryz.prog lv1092 Tryz.f92 2 (Tryz.f92.body.getD .skip) 92 = true := by kernel_rfl
theorem e1092 (a0 a1 : Value) (h : Heap) (R : Value → Heap → Prop) : n1092 a0 a1 h R = wpK Tryz.prog lv1092 (Tryz.f92.body.getD .skip) (endK Tryz.prog [.tmp 4] R) (argT [a0, a1]) h := by kernel_rfl
theorem w1092 {a0 a1 : Value} {h : Heap} {R : Value → Heap → Prop} (hn : n1092 a0 a1 h R) : DetP Tryz.prog 92 [a0, a1] h R :=
  DetP.of_code (rs := [.tmp 4]) (n := 2) Tryz.func92 (by kernel_rfl) (by kernel_rfl) lv1092 ok1092 rfl ((e1092 a0 a1 h R) ▸ hn)

/-! ### examiner/model.wordErr$1: function 117 -/
def n1117 (a0 a1 : Value) (h : Heap) (R : Value → Heap → Prop) : Prop :=
  mvK (Value.bool false) h fun v3 h =>
  mvK a0 h fun v4 h =>
  vK (aLoad Tryz.prog 3 a1 h) h fun v5 h =>
  vK (aBin Tryz.prog BinOp.sub 3 v5 (Value.int IntKind.i64 1)) h fun v6 h =>
  cK Tryz.prog 91 [v4, (Value.int IntKind.i64 0), v6] h fun v7 h =>
  vK (aUn UnOp.not v7) h fun v8 h =>
  mvK v8 h fun v3_1 h =>
  retV [some v3_1] R h
def lv1117 (q : Nat) : List Nat := []
theorem ok1117 : lkOK Tryz.prog lv1117 Tryz.f117 2 (Tryz.f117.body.getD .skip) 117 = true := by kernel_rfl
theorem e1117 (a0 a1 : Value) (h : Heap) (R : Value → Heap → Prop) : n1117 a0 a1 h R = wpK Tryz.prog lv1117 (Tryz.f117.body.getD .skip) (endK Tryz.prog [.tmp 3] R) (argT [a0, a1]) h := by kernel_rfl
theorem w1117 {a0 a1 : Value} {h : Heap} {R : Value → Heap → Prop} (hn : n1117 a0 a1 h R) : DetP Tryz.prog 117 [a0, a1] h R :=
  DetP.of_code (rs := [.tmp 3]) (n := 2) Tryz.func117 (by kernel_rfl) (by kernel_rfl) lv1117 ok1117 rfl ((e1117 a0 a1 h R) ▸ hn)

end Go.Proofs.YtomiejfeclefaaaGreat

set_option linter.unusedVariables false
set_option maxRecDepth 100000
namespace Go.Proofs.YtomiejfeclefaaaGreat
open Go.AM

/-! ### examiner/examinerref41.ListErr: function 6 -/
def n25 (a0 a1 : Value) (h : Heap) (R : Value → Heap → Prop) : Prop :=
  okK (some (aBox Tryz.prog 24 a0 h)) fun v2 h =>
  mvK (Value.int IntKind.i64 0) h fun v4 h =>
  vK (aLoad Tryz.prog 24 v2 h) h fun v9 h =>
  cK Tryz.prog 20 [v9] h fun v10 h =>
  mvK v10 h fun v5 h =>
  mvK v5 h fun v11 h =>
  vK (aBin Tryz.prog BinOp.neq 3 v11 (Value.int IntKind.i64 0)) h fun v12 h =>
  cnd v12 (
   mvK v5 h fun v13 h =>
   mvK v13 h fun v4_1 h =>
   retV [some v4_1] R h) (
   mvK a1 h fun v14 h =>
   vK (aLen Tryz.prog 25 v14) h fun v15 h =>
   vK (aBin Tryz.prog BinOp.gtr 3 v15 (Value.int IntKind.i64 40)) h fun v16 h =>
   cnd v16 (
    mvK (Value.int IntKind.i64 2) h fun v4_2 h =>
    retV [some v4_2] R h) (
    mvK (Value.int IntKind.i64 0) h fun v6 h =>
    ∃ (I7 : List Value → Heap → Prop) (μ7 : List Value → Heap → Nat), I7 [v6] h ∧
    ∀ (h7 : Heap) (j7 : Tmps) (v6_1 : Value), I7 [v6_1] h7 → (let h := h7
     mvK v6_1 h fun v17 h =>
     mvK a1 h fun v18 h =>
     vK (aLen Tryz.prog 25 v18) h fun v19 h =>
     vK (aBin Tryz.prog BinOp.lss 3 v17 v19) h fun v20 h =>
     cnd v20 (
      vK (aLoad Tryz.prog 24 v2 h) h fun v24 g =>
      VB h.length v24 ∧ (let h := g
       mvK a1 h fun v25 h =>
       mvK v6_1 h fun v26 h =>
       vK (aIndexAddr Tryz.prog 25 v25 v26) h fun v27 h =>
       vK (aLoad Tryz.prog 47 v27 h) h fun v28 g =>
       VB h.length v28 ∧ (let h := g
        cKD Tryz.prog 21 [v24, v28] h fun v29 g =>
        (∃ new, g = h ++ new) ∧ (let h := g
         mvK v29 h fun v23 h =>
         vK (aExtract v23 0) h fun v30 h =>
         vK (aExtract v23 1) h fun v31 h =>
         mvK v30 h fun v7 h =>
         mvK v31 h fun v8 h =>
         mvK v8 h fun v32 h =>
         vK (aBin Tryz.prog BinOp.neq 3 v32 (Value.int IntKind.i64 0)) h fun v33 h =>
         cnd v33 (
          mvK v8 h fun v34 h =>
          mvK v34 h fun v4_3 h =>
          retV [some v4_3] R h) (
          mvK v6_1 h fun v21 h =>
          vK (aBin Tryz.prog BinOp.add 3 v21 (Value.int IntKind.i64 1)) h fun v22 h =>
          mvK v22 h fun v6_2 h =>
          I7 [v6_2] h ∧ μ7 [v6_2] h < μ7 [v6_1] h7))))) (
      mvK (Value.int IntKind.i64 0) h fun v4_4 h =>
      retV [some v4_4] R h))))
def lv25 (q : Nat) : List Nat := bif Nat.beq q 14 then [34359607760, 6] else []
theorem ok25 : lkOK Tryz.prog lv25 Tryz.f6 2 (Tryz.f6.body.getD .skip) 6 = true := by kernel_rfl
theorem e25 (a0 a1 : Value) (h : Heap) (R : Value → Heap → Prop) : n25 a0 a1 h R = wpK Tryz.prog lv25 (Tryz.f6.body.getD .skip) (endK Tryz.prog [.tmp 4] R) (argT [a0, a1]) h := by kernel_rfl
theorem w25 {a0 a1 : Value} {h : Heap} {R : Value → Heap → Prop} (hn : n25 a0 a1 h R) : DetP Tryz.prog 6 [a0, a1] h R :=
  DetP.of_code (rs := [.tmp 4]) (n := 2) Tryz.func6 (by kernel_rfl) (by kernel_rfl) lv25 ok25 rfl ((e25 a0 a1 h R) ▸ hn)

/-! ### examiner/examinerlaw41.few: function 7 -/
def n26 (a0 : Value) (h : Heap) (R : Value → Heap → Prop) : Prop :=
  okK (some (aBox Tryz.prog 24 a0 h)) fun v1 h =>
  mvK (Value.bool false) h fun v2 h =>
  vK (aLoad Tryz.prog 24 v1 h) h fun v3 h =>
  cK Tryz.prog 20 [v3] h fun v4 h =>
  vK (aBin Tryz.prog BinOp.neq 3 v4 (Value.int IntKind.i64 0)) h fun v5 h =>
  mvK v5 h fun v6 h =>
  gdK v6 false (fun k0 =>
   vK (aFieldAddr Tryz.prog 24 v1 0) h fun v7 h =>
   k0 v7 h) (fun v7_1 h =>
   gdK v6 false (fun k1 =>
    vK (aLoad Tryz.prog 3 v7_1 h) h fun v8 h =>
    k1 v8 h) (fun v8_1 h =>
    gdK v6 false (fun k2 =>
     vK (aBin Tryz.prog BinOp.leq 3 v8_1 (Value.int IntKind.i64 6)) h fun v9 h =>
     k2 v9 h) (fun v9_1 h =>
     gdK v6 false (fun k3 =>
      mvK v9_1 h fun v10 h =>
      k3 v10 h) (fun v10_1 h =>
      gdK v10_1 true (fun k4 =>
       vK (aFieldAddr Tryz.prog 24 v1 1) h fun v11 h =>
       k4 v11 h) (fun v11_1 h =>
       gdK v10_1 true (fun k5 =>
        vK (aLoad Tryz.prog 3 v11_1 h) h fun v12 h =>
        k5 v12 h) (fun v12_1 h =>
        gdK v10_1 true (fun k6 =>
         vK (aBin Tryz.prog BinOp.leq 3 v12_1 (Value.int IntKind.i64 3)) h fun v13 h =>
         k6 v13 h) (fun v13_1 h =>
         gdK v6 false (fun k7 =>
          vK (pickV v10_1 v13_1 (Value.bool false)) h fun v14 h =>
          k7 v14 h) (fun v14_1 h =>
          vK (pickV v6 (Value.bool true) v14_1) h fun v15 h =>
          mvK v15 h fun v2_1 h =>
          retV [some v2_1] R h) h) h) h) h) h) h) h) h
def lv26 (q : Nat) : List Nat := []
theorem ok26 : lkOK Tryz.prog lv26 Tryz.f7 1 (Tryz.f7.body.getD .skip) 7 = true := by kernel_rfl
theorem e26 (a0 : Value) (h : Heap) (R : Value → Heap → Prop) : n26 a0 h R = wpK Tryz.prog lv26 (Tryz.f7.body.getD .skip) (endK Tryz.prog [.tmp 2] R) (argT [a0]) h := by kernel_rfl
theorem w26 {a0 : Value} {h : Heap} {R : Value → Heap → Prop} (hn : n26 a0 h R) : DetP Tryz.prog 7 [a0] h R :=
  DetP.of_code (rs := [.tmp 2]) (n := 1) Tryz.func7 (by kernel_rfl) (by kernel_rfl) lv26 ok26 rfl ((e26 a0 h R) ▸ hn)

/-! ### examiner/examinerref41.OwnList: function 11 -/
def n28 (a0 : Value) (h : Heap) (R : Value → Heap → Prop) : Prop :=
  mvK (Value.slice none 0 0) h fun v2 h =>
  mvK (Value.slice none 0 0) h fun v3 h =>
  mvK (Value.int IntKind.i64 0) h fun v4 h =>
  ∃ (I3 : List Value → Heap → Prop) (μ3 : List Value → Heap → Nat), I3 [v3, v4] h ∧
  ∀ (h3 : Heap) (j3 : Tmps) (v3_1 : Value) (v4_1 : Value), I3 [v3_1, v4_1] h3 → (let h := h3
   mvK v4_1 h fun v5 h =>
   mvK a0 h fun v6 h =>
   vK (aLen Tryz.prog 25 v6) h fun v7 h =>
   vK (aBin Tryz.prog BinOp.lss 3 v5 v7) h fun v8 h =>
   cnd v8 (
    mvK v3_1 h fun v11 h =>
    mvK a0 h fun v12 h =>
    mvK v4_1 h fun v13 h =>
    vK (aIndexAddr Tryz.prog 25 v12 v13) h fun v14 h =>
    vK (aLoad Tryz.prog 47 v14 h) h fun v15 h =>
    cK Tryz.prog 31 [v15] h fun v16 h =>
    okK (aBuildSlice Tryz.prog 25 1 [(0, v16)] h) fun v17 h =>
    okK (aAppend Tryz.prog 25 25 v11 v17 h) fun v18 h =>
    mvK v18 h fun v3_2 h =>
    mvK v4_1 h fun v9 h =>
    vK (aBin Tryz.prog BinOp.add 3 v9 (Value.int IntKind.i64 1)) h fun v10 h =>
    mvK v10 h fun v4_2 h =>
    I3 [v3_2, v4_2] h ∧ μ3 [v3_2, v4_2] h < μ3 [v3_1, v4_1] h3) (
    mvK v3_1 h fun v19 h =>
    mvK v19 h fun v2_1 h =>
    retV [some v2_1] R h))
def lv28 (q : Nat) : List Nat := bif Nat.beq q 6 then [524280, 3, 4] else []
theorem ok28 : lkOK Tryz.prog lv28 Tryz.f11 1 (Tryz.f11.body.getD .skip) 11 = true := by kernel_rfl
theorem e28 (a0 : Value) (h : Heap) (R : Value → Heap → Prop) : n28 a0 h R = wpK Tryz.prog lv28 (Tryz.f11.body.getD .skip) (endK Tryz.prog [.tmp 2] R) (argT [a0]) h := by kernel_rfl
theorem w28 {a0 : Value} {h : Heap} {R : Value → Heap → Prop} (hn : n28 a0 h R) : DetP Tryz.prog 11 [a0] h R :=
  DetP.of_code (rs := [.tmp 2]) (n := 1) Tryz.func11 (by kernel_rfl) (by kernel_rfl) lv28 ok28 rfl ((e28 a0 h R) ▸ hn)

/-! ### examiner/examinerbase.SameInts: function 14 -/
def n29 (a0 a1 : Value) (h : Heap) (R : Value → Heap → Prop) : Prop :=
  mvK (Value.bool false) h fun v4 h =>
  mvK a0 h fun v6 h =>
  vK (aLen Tryz.prog 31 v6) h fun v7 h =>
  mvK a1 h fun v8 h =>
  vK (aLen Tryz.prog 31 v8) h fun v9 h =>
  vK (aBin Tryz.prog BinOp.neq 3 v7 v9) h fun v10 h =>
  cnd v10 (
   mvK (Value.bool false) h fun v4_1 h =>
   retV [some v4_1] R h) (
   mvK (Value.int IntKind.i64 0) h fun v5 h =>
   ∃ (I4 : List Value → Heap → Prop) (μ4 : List Value → Heap → Nat), I4 [v5] h ∧
   ∀ (h4 : Heap) (j4 : Tmps) (v5_1 : Value), I4 [v5_1] h4 → (let h := h4
    mvK v5_1 h fun v11 h =>
    mvK a0 h fun v12 h =>
    vK (aLen Tryz.prog 31 v12) h fun v13 h =>
    vK (aBin Tryz.prog BinOp.lss 3 v11 v13) h fun v14 h =>
    cnd v14 (
     mvK a0 h fun v17 h =>
     mvK v5_1 h fun v18 h =>
     vK (aIndexAddr Tryz.prog 31 v17 v18) h fun v19 h =>
     vK (aLoad Tryz.prog 3 v19 h) h fun v20 g =>
     VB h.length v20 ∧ (let h := g
      mvK a1 h fun v21 h =>
      mvK v5_1 h fun v22 h =>
      vK (aIndexAddr Tryz.prog 31 v21 v22) h fun v23 h =>
      vK (aLoad Tryz.prog 3 v23 h) h fun v24 g =>
      VB h.length v24 ∧ (let h := g
       vK (aBin Tryz.prog BinOp.neq 3 v20 v24) h fun v25 h =>
       cnd v25 (
        mvK (Value.bool false) h fun v4_2 h =>
        retV [some v4_2] R h) (
        mvK v5_1 h fun v15 h =>
        vK (aBin Tryz.prog BinOp.add 3 v15 (Value.int IntKind.i64 1)) h fun v16 h =>
        mvK v16 h fun v5_2 h =>
        I4 [v5_2] h ∧ μ4 [v5_2] h < μ4 [v5_1] h4)))) (
     mvK (Value.bool true) h fun v4_3 h =>
     retV [some v4_3] R h)))
def lv29 (q : Nat) : List Nat := bif Nat.beq q 8 then [67106864, 5] else []
theorem ok29 : lkOK Tryz.prog lv29 Tryz.f14 2 (Tryz.f14.body.getD .skip) 14 = true := by kernel_rfl
theorem e29 (a0 a1 : Value) (h : Heap) (R : Value → Heap → Prop) : n29 a0 a1 h R = wpK Tryz.prog lv29 (Tryz.f14.body.getD .skip) (endK Tryz.prog [.tmp 4] R) (argT [a0, a1]) h := by kernel_rfl
theorem w29 {a0 a1 : Value} {h : Heap} {R : Value → Heap → Prop} (hn : n29 a0 a1 h R) : DetP Tryz.prog 14 [a0, a1] h R :=
  DetP.of_code (rs := [.tmp 4]) (n := 2) Tryz.func14 (by kernel_rfl) (by kernel_rfl) lv29 ok29 rfl ((e29 a0 a1 h R) ▸ hn)

/-! ### examiner/examinerref41.Kill: function 35 -/
def n33 (a0 a1 : Value) (h : Heap) (R : Value → Heap → Prop) : Prop :=
  okK (some (aBox Tryz.prog 24 a0 h)) fun v2 h =>
  mvK (Value.slice none 0 0) h fun v4 h =>
  mvK (Value.bool false) h fun v5 h =>
  mvK (Value.slice none 0 0) h fun v6 h =>
  vK (aLoad Tryz.prog 24 v2 h) h fun v8 h =>
  mvK a1 h fun v9 h =>
  cK Tryz.prog 34 [v8, v9] h fun v10 h =>
  okK (aAlloc Tryz.prog 24 h) fun v7 h =>
  okK ((aStore Tryz.prog 24 v7 v10 h).map (undef, ·)) fun _ h =>
  vK (aLoad Tryz.prog 24 v2 h) h fun v11 h =>
  vK (aLoad Tryz.prog 24 v7 h) h fun v12 h =>
  vK (aFieldAddr Tryz.prog 24 v2 3) h fun v13 h =>
  vK (aLoad Tryz.prog 3 v13 h) h fun v14 h =>
  vK (aFieldAddr Tryz.prog 24 v7 3) h fun v15 h =>
  vK (aLoad Tryz.prog 3 v15 h) h fun v16 h =>
  vK (aBuild Tryz.prog 115 [(0, v14), (1, v16)]) h fun v17 h =>
  cK Tryz.prog 76 [v11, v12, v17] h fun v18 h =>
  vK (aExtract v18 0) h fun v19 h =>
  vK (aExtract v18 1) h fun v20 h =>
  vK (aExtract v18 2) h fun v21 h =>
  mvK v19 h fun v4_1 h =>
  mvK v20 h fun v5_1 h =>
  mvK v21 h fun v6_1 h =>
  retV [some v4_1, some v5_1, some v6_1] R h
def lv33 (q : Nat) : List Nat := []
theorem ok33 : lkOK Tryz.prog lv33 Tryz.f35 2 (Tryz.f35.body.getD .skip) 35 = true := by kernel_rfl
theorem e33 (a0 a1 : Value) (h : Heap) (R : Value → Heap → Prop) : n33 a0 a1 h R = wpK Tryz.prog lv33 (Tryz.f35.body.getD .skip) (endK Tryz.prog [.tmp 4, .tmp 5, .tmp 6] R) (argT [a0, a1]) h := by kernel_rfl
theorem w33 {a0 a1 : Value} {h : Heap} {R : Value → Heap → Prop} (hn : n33 a0 a1 h R) : DetP Tryz.prog 35 [a0, a1] h R :=
  DetP.of_code (rs := [.tmp 4, .tmp 5, .tmp 6]) (n := 2) Tryz.func35 (by kernel_rfl) (by kernel_rfl) lv33 ok33 rfl ((e33 a0 a1 h R) ▸ hn)

/-! ### examiner/mutant.allErr: function 24 -/
def n61 (a0 a1 : Value) (h : Heap) (R : Value → Heap → Prop) : Prop :=
  okK (some (aBox Tryz.prog 24 a0 h)) fun v2 h =>
  mvK (Value.int IntKind.i64 0) h fun v4 h =>
  vK (aLoad Tryz.prog 24 v2 h) h fun v5 g =>
  VB h.length v5 ∧ (let h := g
   cKD Tryz.prog 48 [v5] h fun v6 g =>
   (∃ new, g = h ++ new) ∧ (let h := g
    mvK a1 h fun v7 h =>
    vK (aLen Tryz.prog 25 v7) h fun v8 h =>
    vK (aBin Tryz.prog BinOp.leq 3 v8 (Value.int IntKind.i64 40)) h fun v9 h =>
    cKD Tryz.prog 65 [v9, (Value.int IntKind.i64 2)] h fun v10 g =>
    (∃ new, g = h ++ new) ∧ (let h := g
     vK (aLoad Tryz.prog 24 v2 h) h fun v11 g =>
     VB h.length v11 ∧ (let h := g
      mvK a1 h fun v12 h =>
      cKD Tryz.prog 53 [v11, v12] h fun v13 g =>
      (∃ new, g = h ++ new) ∧ (let h := g
       okK (aBuildSlice Tryz.prog 100 3 [(0, v6), (1, v10), (2, v13)] h) fun v14 h =>
       cKD Tryz.prog 23 [v14] h fun v15 g =>
       (∃ new, g = h ++ new) ∧ (let h := g
        mvK v15 h fun v4_1 h =>
        retV [some v4_1] R h))))))
def lv61 (q : Nat) : List Nat := []
theorem ok61 : lkOK Tryz.prog lv61 Tryz.f24 2 (Tryz.f24.body.getD .skip) 24 = true := by kernel_rfl
theorem e61 (a0 a1 : Value) (h : Heap) (R : Value → Heap → Prop) : n61 a0 a1 h R = wpK Tryz.prog lv61 (Tryz.f24.body.getD .skip) (endK Tryz.prog [.tmp 4] R) (argT [a0, a1]) h := by kernel_rfl
theorem w61 {a0 a1 : Value} {h : Heap} {R : Value → Heap → Prop} (hn : n61 a0 a1 h R) : DetP Tryz.prog 24 [a0, a1] h R :=
  DetP.of_code (rs := [.tmp 4]) (n := 2) Tryz.func24 (by kernel_rfl) (by kernel_rfl) lv61 ok61 rfl ((e61 a0 a1 h R) ▸ hn)

/-! ### slices.IndexFunc[[]examiner/api.Machine,examiner/api.Machine]: function 81 -/
/-! ### examiner/model.Difference: function 30 -/
def n64 (a0 a1 : Value) (h : Heap) (R : Value → Heap → Prop) : Prop :=
  okK (some (aBox Tryz.prog 24 a0 h)) fun v2 h =>
  okK (some (aBox Tryz.prog 24 a1 h)) fun v3 h =>
  mvK (Value.slice none 0 0) h fun v4 h =>
  mvK (Value.int IntKind.i64 0) h fun v5 h =>
  vK (aLoad Tryz.prog 24 v2 h) h fun v18 g =>
  VB h.length v18 ∧ (let h := g
   cKD Tryz.prog 71 [v18] h fun v19 g =>
   (∃ new, g = h ++ new) ∧ (let h := g
    vK (aLoad Tryz.prog 24 v3 h) h fun v20 g =>
    VB h.length v20 ∧ (let h := g
     cKD Tryz.prog 71 [v20] h fun v21 g =>
     (∃ new, g = h ++ new) ∧ (let h := g
      vK (aFieldAddr Tryz.prog 24 v2 1) h fun v22 h =>
      vK (aLoad Tryz.prog 3 v22 h) h fun v23 g =>
      VB h.length v23 ∧ (let h := g
       vK (aFieldAddr Tryz.prog 24 v3 1) h fun v24 h =>
       vK (aLoad Tryz.prog 3 v24 h) h fun v25 g =>
       VB h.length v25 ∧ (let h := g
        vK (aBin Tryz.prog BinOp.eql 3 v23 v25) h fun v26 h =>
        cKD Tryz.prog 72 [v26, (Value.int IntKind.i64 6)] h fun v27 g =>
        (∃ new, g = h ++ new) ∧ (let h := g
         okK (aBuildSlice Tryz.prog 100 3 [(0, v19), (1, v21), (2, v27)] h) fun v28 h =>
         cKD Tryz.prog 23 [v28] h fun v29 g =>
         (∃ new, g = h ++ new) ∧ (let h := g
          mvK v29 h fun v6 h =>
          mvK v6 h fun v30 h =>
          vK (aBin Tryz.prog BinOp.neq 34 v30 (Value.int IntKind.i64 0)) h fun v31 h =>
          cnd v31 (
           mvK v6 h fun v32 h =>
           mvK (Value.slice none 0 0) h fun v4_1 h =>
           mvK v32 h fun v5_1 h =>
           retV [some v4_1, some v5_1] R h) (
           vK (aLoad Tryz.prog 24 v2 h) h fun v33 g =>
           VB h.length v33 ∧ (let h := g
            cKD Tryz.prog 73 [v33] h fun v34 g =>
            (∃ new, g = h ++ new) ∧ (let h := g
             vK (aLoad Tryz.prog 24 v3 h) h fun v35 g =>
             VB h.length v35 ∧ (let h := g
              cKD Tryz.prog 73 [v35] h fun v36 g =>
              (∃ new, g = h ++ new) ∧ (let h := g
               mvK v34 h fun v7 h =>
               mvK v36 h fun v8 h =>
               vK (aFieldAddr Tryz.prog 24 v2 3) h fun v37 h =>
               vK (aLoad Tryz.prog 3 v37 h) h fun v38 h =>
               vK (aFieldAddr Tryz.prog 24 v3 3) h fun v39 h =>
               vK (aLoad Tryz.prog 3 v39 h) h fun v40 h =>
               vK (aBuild Tryz.prog 55 [(0, v38), (1, v40)]) h fun v41 h =>
               okK (aBuildSlice Tryz.prog 56 1 [(0, v41)] h) fun v42 h =>
               okK (aBuildSlice Tryz.prog 26 1 [(0, (Value.slice none 0 0))] h) fun v43 h =>
               mvK v42 h fun v9 h =>
               mvK v43 h fun v10 h =>
               mvK (Value.int IntKind.i64 0) h fun v11 h =>
               ∃ (I7 : List Value → Heap → Prop) (μ7 : List Value → Heap → Nat), I7 [v9, v10, v11] h ∧
               ∀ (h7 : Heap) (j7 : Tmps) (v9_1 : Value) (v10_1 : Value) (v11_1 : Value), I7 [v9_1, v10_1, v11_1] h7 → (let h := h7
                mvK v11_1 h fun v44 h =>
                mvK v9_1 h fun v45 h =>
                vK (aLen Tryz.prog 56 v45) h fun v46 h =>
                vK (aBin Tryz.prog BinOp.lss 3 v44 v46) h fun v47 h =>
                cnd v47 (
                 mvK v9_1 h fun v50 h =>
                 mvK v11_1 h fun v51 h =>
                 vK (aIndexAddr Tryz.prog 56 v50 v51) h fun v52 h =>
                 vK (aLoad Tryz.prog 55 v52 h) h fun v53 h =>
                 okK (aAlloc Tryz.prog 55 h) fun v12 h =>
                 okK ((aStore Tryz.prog 55 v12 v53 h).map (undef, ·)) fun _ h =>
                 vK (aFieldAddr Tryz.prog 24 v2 1) h fun v54 h =>
                 vK (aLoad Tryz.prog 3 v54 h) h fun v55 h =>
                 mvK (Value.int IntKind.i64 0) h fun v56 h =>
                 ∃ (I11 : List Value → Heap → Prop) (μ11 : List Value → Heap → Nat), I11 [v9_1, v10_1, v56] h ∧
                 ∀ (h11 : Heap) (j11 : Tmps) (v9_2 : Value) (v10_2 : Value) (v56_1 : Value), I11 [v9_2, v10_2, v56_1] h11 → (let h := h11
                  vK (aBin Tryz.prog BinOp.lss 3 v56_1 v55) h fun v57 h =>
                  cnd v57 (
                   seqK (fun k0 =>
                    mvK v56_1 h fun v58 h =>
                    mvK v58 h fun v13 h =>
                    mvK v10_2 h fun v59 h =>
                    mvK v11_1 h fun v60 h =>
                    vK (aIndexAddr Tryz.prog 26 v59 v60) h fun v61 h =>
                    vK (aLoad Tryz.prog 31 v61 h) h fun v62 h =>
                    cK Tryz.prog 74 [v62] h fun v63 h =>
                    mvK v13 h fun v64 h =>
                    okK (aBuildSlice Tryz.prog 31 1 [(0, v64)] h) fun v65 h =>
                    okK (aAppend Tryz.prog 31 31 v63 v65 h) fun v66 h =>
                    mvK v66 h fun v14 h =>
                    mvK v7 h fun v67 h =>
                    vK (aIndexAddr Tryz.prog 55 v12 (Value.int IntKind.i64 0)) h fun v68 h =>
                    vK (aLoad Tryz.prog 3 v68 h) h fun v69 g =>
                    VB h.length v69 ∧ (let h := g
                     vK (aIndexAddr Tryz.prog 109 v67 v69) h fun v70 h =>
                     vK (aLoad Tryz.prog 112 v70 h) h fun v71 g =>
                     VB h.length v71 ∧ (let h := g
                      mvK v13 h fun v72 h =>
                      vK (aIndexAddr Tryz.prog 112 v71 v72) h fun v73 h =>
                      vK (aLoad Tryz.prog 111 v73 h) h fun v74 g =>
                      VB h.length v74 ∧ (let h := g
                       mvK v8 h fun v75 h =>
                       vK (aIndexAddr Tryz.prog 55 v12 (Value.int IntKind.i64 1)) h fun v76 h =>
                       vK (aLoad Tryz.prog 3 v76 h) h fun v77 g =>
                       VB h.length v77 ∧ (let h := g
                        vK (aIndexAddr Tryz.prog 109 v75 v77) h fun v78 h =>
                        vK (aLoad Tryz.prog 112 v78 h) h fun v79 g =>
                        VB h.length v79 ∧ (let h := g
                         mvK v13 h fun v80 h =>
                         vK (aIndexAddr Tryz.prog 112 v79 v80) h fun v81 h =>
                         vK (aLoad Tryz.prog 111 v81 h) h fun v82 g =>
                         VB h.length v82 ∧ (let h := g
                          mvK v74 h fun v15 h =>
                          mvK v82 h fun v16 h =>
                          mvK v15 h fun v83 h =>
                          vK (aBin Tryz.prog BinOp.eql 111 v83 (Value.pointer none)) h fun v84 h =>
                          mvK v84 h fun v85 h =>
                          gdK v85 true (fun k1 =>
                           mvK v16 h fun v86 h =>
                           k1 v86 h) (fun v86_1 h =>
                           gdK v85 true (fun k2 =>
                            vK (aBin Tryz.prog BinOp.eql 111 v86_1 (Value.pointer none)) h fun v87 h =>
                            k2 v87 h) (fun v87_1 h =>
                            vK (pickV v85 v87_1 (Value.bool false)) h fun v88 h =>
                            cnd v88 (
                             k0 [v9_2, v10_2] h) (
                             mvK v15 h fun v89 h =>
                             vK (aBin Tryz.prog BinOp.eql 111 v89 (Value.pointer none)) h fun v90 h =>
                             mvK v90 h fun v91 h =>
                             gdK v91 false (fun k3 =>
                              mvK v16 h fun v92 h =>
                              k3 v92 h) (fun v92_1 h =>
                              gdK v91 false (fun k4 =>
                               vK (aBin Tryz.prog BinOp.eql 111 v92_1 (Value.pointer none)) h fun v93 h =>
                               k4 v93 h) (fun v93_1 h =>
                               vK (pickV v91 (Value.bool true) v93_1) h fun v94 h =>
                               mvK v94 h fun v95 h =>
                               gdK v95 false (fun k5 =>
                                mvK v15 h fun v96 h =>
                                k5 v96 h) (fun v96_1 h =>
                                gdK v95 false (fun k6 =>
                                 vK (nilV v96_1) h fun v97 h =>
                                 k6 v97 h) (fun v97_1 h =>
                                 gdK v95 false (fun k7 =>
                                  vK (aFieldAddr Tryz.prog 87 v97_1 2) h fun v98 h =>
                                  k7 v98 h) (fun v98_1 h =>
                                  gdK v95 false (fun k8 =>
                                   vK (aLoad Tryz.prog 3 v98_1 h) h fun v99 g =>
                                   VB h.length v99 ∧ (let h := g
                                    k8 v99 h)) (fun v99_1 h =>
                                   gdK v95 false (fun k9 =>
                                    mvK v16 h fun v100 h =>
                                    k9 v100 h) (fun v100_1 h =>
                                    gdK v95 false (fun k10 =>
                                     vK (nilV v100_1) h fun v101 h =>
                                     k10 v101 h) (fun v101_1 h =>
                                     gdK v95 false (fun k11 =>
                                      vK (aFieldAddr Tryz.prog 87 v101_1 2) h fun v102 h =>
                                      k11 v102 h) (fun v102_1 h =>
                                      gdK v95 false (fun k12 =>
                                       vK (aLoad Tryz.prog 3 v102_1 h) h fun v103 g =>
                                       VB h.length v103 ∧ (let h := g
                                        k12 v103 h)) (fun v103_1 h =>
                                       gdK v95 false (fun k13 =>
                                        vK (aBin Tryz.prog BinOp.neq 3 v99_1 v103_1) h fun v104 h =>
                                        k13 v104 h) (fun v104_1 h =>
                                        vK (pickV v95 (Value.bool true) v104_1) h fun v105 h =>
                                        cnd v105 (
                                         mvK v14 h fun v106 h =>
                                         mvK v106 h fun v4_2 h =>
                                         mvK (Value.int IntKind.i64 0) h fun v5_2 h =>
                                         retV [some v4_2, some v5_2] R h) (
                                         mvK v15 h fun v107 h =>
                                         vK (nilV v107) h fun v108 h =>
                                         vK (aFieldAddr Tryz.prog 87 v108 3) h fun v109 h =>
                                         vK (aLoad Tryz.prog 3 v109 h) h fun v110 g =>
                                         VB h.length v110 ∧ (let h := g
                                          mvK v16 h fun v111 h =>
                                          vK (nilV v111) h fun v112 h =>
                                          vK (aFieldAddr Tryz.prog 87 v112 3) h fun v113 h =>
                                          vK (aLoad Tryz.prog 3 v113 h) h fun v114 g =>
                                          VB h.length v114 ∧ (let h := g
                                           vK (aBuild Tryz.prog 55 [(0, v110), (1, v114)]) h fun v115 h =>
                                           okK (aAlloc Tryz.prog 55 h) fun v17 h =>
                                           okK ((aStore Tryz.prog 55 v17 v115 h).map (undef, ·)) fun _ h =>
                                           (True) ∧ (
                                            mvK v9_2 h fun v116 h =>
                                            vK (aLoad Tryz.prog 55 v17 h) h fun v117 h =>
                                            cK Tryz.prog 56 [v116, v117] h fun v118 h =>
                                            vK (aUn UnOp.not v118) h fun v119 h =>
                                            cnd v119 (
                                             mvK v9_2 h fun v120 h =>
                                             vK (aLoad Tryz.prog 55 v17 h) h fun v121 h =>
                                             okK (aBuildSlice Tryz.prog 56 1 [(0, v121)] h) fun v122 h =>
                                             okK (aAppend Tryz.prog 56 56 v120 v122 h) fun v123 h =>
                                             mvK v10_2 h fun v124 h =>
                                             mvK v14 h fun v125 h =>
                                             okK (aBuildSlice Tryz.prog 26 1 [(0, v125)] h) fun v126 h =>
                                             okK (aAppend Tryz.prog 26 26 v124 v126 h) fun v127 h =>
                                             mvK v123 h fun v9_3 h =>
                                             mvK v127 h fun v10_3 h =>
                                             k0 [v9_3, v10_3] h) (
                                             k0 [v9_2, v10_2] h)))))) h) h) h) h) h) h) h) h) h) h) h)) h) h))))))) fun x0 h => ∀ jx0 : Tmps,
                    let v9_4 : Value := nth x0 0
                    let v10_4 : Value := nth x0 1
                    vK (aBin Tryz.prog BinOp.add 3 v56_1 (Value.int IntKind.i64 1)) h fun v128 h =>
                    mvK v128 h fun v56_2 h =>
                    I11 [v9_4, v10_4, v56_2] h ∧ μ11 [v9_4, v10_4, v56_2] h < μ11 [v9_2, v10_2, v56_1] h11) (
                   mvK v11_1 h fun v48 h =>
                   vK (aBin Tryz.prog BinOp.add 3 v48 (Value.int IntKind.i64 1)) h fun v49 h =>
                   mvK v49 h fun v11_2 h =>
                   I7 [v9_2, v10_2, v11_2] h ∧ μ7 [v9_2, v10_2, v11_2] h < μ7 [v9_1, v10_1, v11_1] h7))) (
                 mvK (Value.slice none 0 0) h fun v4_3 h =>
                 mvK (Value.int IntKind.i64 23) h fun v5_3 h =>
                 retV [some v4_3, some v5_3] R h)))))))))))))))
def lv64 (q : Nat) : List Nat := bif Nat.beq q 14 then [680564733841876926926749197271350640176, 9, 10, 11] else bif Nat.beq q 22 then [680564733841876926926677157269498750512, 9, 10, 56] else bif Nat.beq q 43 then [340282366920938463463086377055616755248, 9, 10] else []
theorem ok64 : lkOK Tryz.prog lv64 Tryz.f30 2 (Tryz.f30.body.getD .skip) 30 = true := by kernel_rfl
theorem e64 (a0 a1 : Value) (h : Heap) (R : Value → Heap → Prop) : n64 a0 a1 h R = wpK Tryz.prog lv64 (Tryz.f30.body.getD .skip) (endK Tryz.prog [.tmp 4, .tmp 5] R) (argT [a0, a1]) h := by kernel_rfl
theorem w64 {a0 a1 : Value} {h : Heap} {R : Value → Heap → Prop} (hn : n64 a0 a1 h R) : DetP Tryz.prog 30 [a0, a1] h R :=
  DetP.of_code (rs := [.tmp 4, .tmp 5]) (n := 2) Tryz.func30 (by kernel_rfl) (by kernel_rfl) lv64 ok64 rfl ((e64 a0 a1 h R) ▸ hn)

/-! ### examiner/examinerref37.Search: function 76 -/
def n67 (a0 a1 a2 : Value) (h : Heap) (R : Value → Heap → Prop) : Prop :=
  okK (some (aBox Tryz.prog 24 a0 h)) fun v3 h =>
  okK (some (aBox Tryz.prog 24 a1 h)) fun v4 h =>
  okK (some (aBox Tryz.prog 115 a2 h)) fun v5 h =>
  mvK (Value.slice none 0 0) h fun v6 h =>
  mvK (Value.bool false) h fun v7 h =>
  mvK (Value.slice none 0 0) h fun v8 h =>
  vK (aLoad Tryz.prog 115 v5 h) h fun v16 h =>
  okK (aBuildSlice Tryz.prog 73 1 [(0, v16)] h) fun v17 h =>
  mvK v17 h fun v9 h =>
  mvK (Value.int IntKind.i64 0) h fun v10 h =>
  ∃ (I3 : List Value → Heap → Prop) (μ3 : List Value → Heap → Nat), I3 [v9, v10] h ∧
  ∀ (h3 : Heap) (j3 : Tmps) (v9_1 : Value) (v10_1 : Value), I3 [v9_1, v10_1] h3 → (let h := h3
   mvK v10_1 h fun v18 h =>
   mvK v9_1 h fun v19 h =>
   vK (aLen Tryz.prog 73 v19) h fun v20 h =>
   vK (aBin Tryz.prog BinOp.lss 3 v18 v20) h fun v21 h =>
   cnd v21 (
    mvK (Value.int IntKind.i64 0) h fun v11 h =>
    ∃ (I6 : List Value → Heap → Prop) (μ6 : List Value → Heap → Nat), I6 [v9_1, v11] h ∧
    ∀ (h6 : Heap) (j6 : Tmps) (v9_2 : Value) (v11_1 : Value), I6 [v9_2, v11_1] h6 → (let h := h6
     mvK v11_1 h fun v24 h =>
     vK (aFieldAddr Tryz.prog 24 v3 1) h fun v25 h =>
     vK (aLoad Tryz.prog 3 v25 h) h fun v26 h =>
     vK (aBin Tryz.prog BinOp.lss 3 v24 v26) h fun v27 h =>
     cnd v27 (
      seqK (fun k0 =>
       mvK v9_2 h fun v30 h =>
       mvK v10_1 h fun v31 h =>
       vK (aIndexAddr Tryz.prog 73 v30 v31) h fun v32 h =>
       vK (aFieldAddr Tryz.prog 115 v32 2) h fun v33 h =>
       vK (aLoad Tryz.prog 31 v33 h) h fun v34 h =>
       cK Tryz.prog 32 [v34] h fun v35 h =>
       mvK v11_1 h fun v36 h =>
       okK (aBuildSlice Tryz.prog 31 1 [(0, v36)] h) fun v37 h =>
       okK (aAppend Tryz.prog 31 31 v35 v37 h) fun v38 h =>
       mvK v38 h fun v12 h =>
       vK (aLoad Tryz.prog 24 v3 h) h fun v39 g =>
       VB h.length v39 ∧ (let h := g
        mvK v9_2 h fun v40 h =>
        mvK v10_1 h fun v41 h =>
        vK (aIndexAddr Tryz.prog 73 v40 v41) h fun v42 h =>
        vK (aFieldAddr Tryz.prog 115 v42 0) h fun v43 h =>
        vK (aLoad Tryz.prog 3 v43 h) h fun v44 g =>
        VB h.length v44 ∧ (let h := g
         mvK v11_1 h fun v45 h =>
         cKD Tryz.prog 87 [v39, v44, v45] h fun v46 g =>
         (∃ new, g = h ++ new) ∧ (let h := g
          vK (aLoad Tryz.prog 24 v4 h) h fun v47 g =>
          VB h.length v47 ∧ (let h := g
           mvK v9_2 h fun v48 h =>
           mvK v10_1 h fun v49 h =>
           vK (aIndexAddr Tryz.prog 73 v48 v49) h fun v50 h =>
           vK (aFieldAddr Tryz.prog 115 v50 1) h fun v51 h =>
           vK (aLoad Tryz.prog 3 v51 h) h fun v52 g =>
           VB h.length v52 ∧ (let h := g
            mvK v11_1 h fun v53 h =>
            cKD Tryz.prog 87 [v47, v52, v53] h fun v54 g =>
            (∃ new, g = h ++ new) ∧ (let h := g
             mvK v46 h fun v13 h =>
             mvK v54 h fun v14 h =>
             mvK v13 h fun v55 h =>
             vK (aBin Tryz.prog BinOp.eql 3 v55 (Value.int IntKind.i64 (-1))) h fun v56 h =>
             mvK v56 h fun v57 h =>
             gdK v57 true (fun k1 =>
              mvK v14 h fun v58 h =>
              k1 v58 h) (fun v58_1 h =>
              gdK v57 true (fun k2 =>
               vK (aBin Tryz.prog BinOp.eql 3 v58_1 (Value.int IntKind.i64 (-1))) h fun v59 h =>
               k2 v59 h) (fun v59_1 h =>
               vK (pickV v57 v59_1 (Value.bool false)) h fun v60 h =>
               cnd v60 (
                k0 [v9_2] h) (
                mvK v13 h fun v61 h =>
                vK (aBin Tryz.prog BinOp.eql 3 v61 (Value.int IntKind.i64 (-1))) h fun v62 h =>
                mvK v62 h fun v63 h =>
                gdK v63 false (fun k3 =>
                 mvK v14 h fun v64 h =>
                 k3 v64 h) (fun v64_1 h =>
                 gdK v63 false (fun k4 =>
                  vK (aBin Tryz.prog BinOp.eql 3 v64_1 (Value.int IntKind.i64 (-1))) h fun v65 h =>
                  k4 v65 h) (fun v65_1 h =>
                  vK (pickV v63 (Value.bool true) v65_1) h fun v66 h =>
                  mvK v66 h fun v67 h =>
                  gdK v67 false (fun k5 =>
                   vK (aFieldAddr Tryz.prog 24 v3 4) h fun v68 h =>
                   k5 v68 h) (fun v68_1 h =>
                   gdK v67 false (fun k6 =>
                    vK (aLoad Tryz.prog 22 v68_1 h) h fun v69 g =>
                    VB h.length v69 ∧ (let h := g
                     k6 v69 h)) (fun v69_1 h =>
                    gdK v67 false (fun k7 =>
                     mvK v13 h fun v70 h =>
                     k7 v70 h) (fun v70_1 h =>
                     gdK v67 false (fun k8 =>
                      vK (aIndexAddr Tryz.prog 22 v69_1 v70_1) h fun v71 h =>
                      k8 v71 h) (fun v71_1 h =>
                      gdK v67 false (fun k9 =>
                       vK (aFieldAddr Tryz.prog 87 v71_1 2) h fun v72 h =>
                       k9 v72 h) (fun v72_1 h =>
                       gdK v67 false (fun k10 =>
                        vK (aLoad Tryz.prog 3 v72_1 h) h fun v73 g =>
                        VB h.length v73 ∧ (let h := g
                         k10 v73 h)) (fun v73_1 h =>
                        gdK v67 false (fun k11 =>
                         vK (aFieldAddr Tryz.prog 24 v4 4) h fun v74 h =>
                         k11 v74 h) (fun v74_1 h =>
                         gdK v67 false (fun k12 =>
                          vK (aLoad Tryz.prog 22 v74_1 h) h fun v75 g =>
                          VB h.length v75 ∧ (let h := g
                           k12 v75 h)) (fun v75_1 h =>
                          gdK v67 false (fun k13 =>
                           mvK v14 h fun v76 h =>
                           k13 v76 h) (fun v76_1 h =>
                           gdK v67 false (fun k14 =>
                            vK (aIndexAddr Tryz.prog 22 v75_1 v76_1) h fun v77 h =>
                            k14 v77 h) (fun v77_1 h =>
                            gdK v67 false (fun k15 =>
                             vK (aFieldAddr Tryz.prog 87 v77_1 2) h fun v78 h =>
                             k15 v78 h) (fun v78_1 h =>
                             gdK v67 false (fun k16 =>
                              vK (aLoad Tryz.prog 3 v78_1 h) h fun v79 g =>
                              VB h.length v79 ∧ (let h := g
                               k16 v79 h)) (fun v79_1 h =>
                              gdK v67 false (fun k17 =>
                               vK (aBin Tryz.prog BinOp.neq 3 v73_1 v79_1) h fun v80 h =>
                               k17 v80 h) (fun v80_1 h =>
                               vK (pickV v67 (Value.bool true) v80_1) h fun v81 h =>
                               cnd v81 (
                                mvK v12 h fun v82 h =>
                                mvK v9_2 h fun v83 h =>
                                mvK v82 h fun v6_1 h =>
                                mvK (Value.bool true) h fun v7_1 h =>
                                mvK v83 h fun v8_1 h =>
                                retV [some v6_1, some v7_1, some v8_1] R h) (
                                vK (aFieldAddr Tryz.prog 24 v3 4) h fun v84 h =>
                                vK (aLoad Tryz.prog 22 v84 h) h fun v85 g =>
                                VB h.length v85 ∧ (let h := g
                                 mvK v13 h fun v86 h =>
                                 vK (aIndexAddr Tryz.prog 22 v85 v86) h fun v87 h =>
                                 vK (aFieldAddr Tryz.prog 87 v87 3) h fun v88 h =>
                                 vK (aLoad Tryz.prog 3 v88 h) h fun v89 g =>
                                 VB h.length v89 ∧ (let h := g
                                  vK (aFieldAddr Tryz.prog 24 v4 4) h fun v90 h =>
                                  vK (aLoad Tryz.prog 22 v90 h) h fun v91 g =>
                                  VB h.length v91 ∧ (let h := g
                                   mvK v14 h fun v92 h =>
                                   vK (aIndexAddr Tryz.prog 22 v91 v92) h fun v93 h =>
                                   vK (aFieldAddr Tryz.prog 87 v93 3) h fun v94 h =>
                                   vK (aLoad Tryz.prog 3 v94 h) h fun v95 g =>
                                   VB h.length v95 ∧ (let h := g
                                    mvK v12 h fun v96 h =>
                                    vK (aBuild Tryz.prog 115 [(0, v89), (1, v95), (2, v96)]) h fun v97 h =>
                                    okK (aAlloc Tryz.prog 115 h) fun v15 h =>
                                    okK ((aStore Tryz.prog 115 v15 v97 h).map (undef, ·)) fun _ h =>
                                    (True) ∧ (
                                     mvK v9_2 h fun v98 h =>
                                     vK (aLoad Tryz.prog 115 v15 h) h fun v99 h =>
                                     cK Tryz.prog 94 [v98, v99] h fun v100 h =>
                                     vK (aUn UnOp.not v100) h fun v101 h =>
                                     cnd v101 (
                                      mvK v9_2 h fun v102 h =>
                                      vK (aLoad Tryz.prog 115 v15 h) h fun v103 h =>
                                      okK (aBuildSlice Tryz.prog 73 1 [(0, v103)] h) fun v104 h =>
                                      okK (aAppend Tryz.prog 73 73 v102 v104 h) fun v105 h =>
                                      mvK v105 h fun v9_3 h =>
                                      k0 [v9_3] h) (
                                      k0 [v9_2] h)))))))) h) h) h) h) h) h) h) h) h) h) h) h) h) h) h)) h) h))))))) fun x0 h => ∀ jx0 : Tmps,
       let v9_4 : Value := nth x0 0
       mvK v11_1 h fun v28 h =>
       vK (aBin Tryz.prog BinOp.add 3 v28 (Value.int IntKind.i64 1)) h fun v29 h =>
       mvK v29 h fun v11_2 h =>
       I6 [v9_4, v11_2] h ∧ μ6 [v9_4, v11_2] h < μ6 [v9_2, v11_1] h6) (
      mvK v10_1 h fun v22 h =>
      vK (aBin Tryz.prog BinOp.add 3 v22 (Value.int IntKind.i64 1)) h fun v23 h =>
      mvK v23 h fun v10_2 h =>
      I3 [v9_2, v10_2] h ∧ μ3 [v9_2, v10_2] h < μ3 [v9_1, v10_1] h3))) (
    mvK v9_1 h fun v106 h =>
    mvK (Value.slice none 0 0) h fun v6_2 h =>
    mvK (Value.bool false) h fun v7_2 h =>
    mvK v106 h fun v8_2 h =>
    retV [some v6_2, some v7_2, some v8_2] R h))
def lv67 (q : Nat) : List Nat := bif Nat.beq q 6 then [81129638414606681695789004947392, 9, 10] else bif Nat.beq q 12 then [81129638414606681695788988431296, 9, 11] else bif Nat.beq q 15 then [81129638414606681695787931464640, 9] else []
theorem ok67 : lkOK Tryz.prog lv67 Tryz.f76 3 (Tryz.f76.body.getD .skip) 76 = true := by kernel_rfl
theorem e67 (a0 a1 a2 : Value) (h : Heap) (R : Value → Heap → Prop) : n67 a0 a1 a2 h R = wpK Tryz.prog lv67 (Tryz.f76.body.getD .skip) (endK Tryz.prog [.tmp 6, .tmp 7, .tmp 8] R) (argT [a0, a1, a2]) h := by kernel_rfl
theorem w67 {a0 a1 a2 : Value} {h : Heap} {R : Value → Heap → Prop} (hn : n67 a0 a1 a2 h R) : DetP Tryz.prog 76 [a0, a1, a2] h R :=
  DetP.of_code (rs := [.tmp 6, .tmp 7, .tmp 8]) (n := 3) Tryz.func76 (by kernel_rfl) (by kernel_rfl) lv67 ok67 rfl ((e67 a0 a1 a2 h R) ▸ hn)

/-! ### slices.Clone[[]int,int]: function 74 -/
def n69 (a0 : Value) (h : Heap) (R : Value → Heap → Prop) : Prop :=
  mvK (Value.slice none 0 0) h fun v2 h =>
  mvK a0 h fun v3 h =>
  vK (aBin Tryz.prog BinOp.eql 31 v3 (Value.slice none 0 0)) h fun v4 h =>
  cnd v4 (
   mvK (Value.slice none 0 0) h fun v2_1 h =>
   retV [some v2_1] R h) (
   okK (aBuildSlice Tryz.prog 31 0 [] h) fun v5 h =>
   mvK a0 h fun v6 h =>
   okK (aAppend Tryz.prog 31 31 v5 v6 h) fun v7 h =>
   mvK v7 h fun v2_2 h =>
   retV [some v2_2] R h)
def lv69 (q : Nat) : List Nat := []
theorem ok69 : lkOK Tryz.prog lv69 Tryz.f74 1 (Tryz.f74.body.getD .skip) 74 = true := by kernel_rfl
theorem e69 (a0 : Value) (h : Heap) (R : Value → Heap → Prop) : n69 a0 h R = wpK Tryz.prog lv69 (Tryz.f74.body.getD .skip) (endK Tryz.prog [.tmp 2] R) (argT [a0]) h := by kernel_rfl
theorem w69 {a0 : Value} {h : Heap} {R : Value → Heap → Prop} (hn : n69 a0 h R) : DetP Tryz.prog 74 [a0] h R :=
  DetP.of_code (rs := [.tmp 2]) (n := 1) Tryz.func74 (by kernel_rfl) (by kernel_rfl) lv69 ok69 rfl ((e69 a0 h R) ▸ hn)

/-! ### examiner/examinerbase.OwnInts: function 32 -/
def n70 (a0 : Value) (h : Heap) (R : Value → Heap → Prop) : Prop :=
  mvK (Value.slice none 0 0) h fun v2 h =>
  okK (aBuildSlice Tryz.prog 31 0 [] h) fun v3 h =>
  mvK a0 h fun v4 h =>
  okK (aAppend Tryz.prog 31 31 v3 v4 h) fun v5 h =>
  mvK v5 h fun v2_1 h =>
  retV [some v2_1] R h
def lv70 (q : Nat) : List Nat := []
theorem ok70 : lkOK Tryz.prog lv70 Tryz.f32 1 (Tryz.f32.body.getD .skip) 32 = true := by kernel_rfl
theorem e70 (a0 : Value) (h : Heap) (R : Value → Heap → Prop) : n70 a0 h R = wpK Tryz.prog lv70 (Tryz.f32.body.getD .skip) (endK Tryz.prog [.tmp 2] R) (argT [a0]) h := by kernel_rfl
theorem w70 {a0 : Value} {h : Heap} {R : Value → Heap → Prop} (hn : n70 a0 h R) : DetP Tryz.prog 32 [a0] h R :=
  DetP.of_code (rs := [.tmp 2]) (n := 1) Tryz.func32 (by kernel_rfl) (by kernel_rfl) lv70 ok70 rfl ((e70 a0 h R) ▸ hn)

/-! ### examiner/examinerref37.met: function 94 -/
def n94 (a0 a1 : Value) (h : Heap) (R : Value → Heap → Prop) : Prop :=
  okK (some (aBox Tryz.prog 115 a1 h)) fun v3 h =>
  mvK (Value.bool false) h fun v4 h =>
  mvK (Value.int IntKind.i64 0) h fun v5 h =>
  ∃ (I2 : List Value → Heap → Prop) (μ2 : List Value → Heap → Nat), I2 [v5] h ∧
  ∀ (h2 : Heap) (j2 : Tmps) (v5_1 : Value), I2 [v5_1] h2 → (let h := h2
   mvK v5_1 h fun v6 h =>
   mvK a0 h fun v7 h =>
   vK (aLen Tryz.prog 73 v7) h fun v8 h =>
   vK (aBin Tryz.prog BinOp.lss 3 v6 v8) h fun v9 h =>
   cnd v9 (
    mvK a0 h fun v12 h =>
    mvK v5_1 h fun v13 h =>
    vK (aIndexAddr Tryz.prog 73 v12 v13) h fun v14 h =>
    vK (aFieldAddr Tryz.prog 115 v14 0) h fun v15 h =>
    vK (aLoad Tryz.prog 3 v15 h) h fun v16 g =>
    VB h.length v16 ∧ (let h := g
     vK (aFieldAddr Tryz.prog 115 v3 0) h fun v17 h =>
     vK (aLoad Tryz.prog 3 v17 h) h fun v18 g =>
     VB h.length v18 ∧ (let h := g
      vK (aBin Tryz.prog BinOp.eql 3 v16 v18) h fun v19 h =>
      mvK v19 h fun v20 h =>
      gdK v20 true (fun k0 =>
       mvK a0 h fun v21 h =>
       k0 v21 h) (fun v21_1 h =>
       gdK v20 true (fun k1 =>
        mvK v5_1 h fun v22 h =>
        k1 v22 h) (fun v22_1 h =>
        gdK v20 true (fun k2 =>
         vK (aIndexAddr Tryz.prog 73 v21_1 v22_1) h fun v23 h =>
         k2 v23 h) (fun v23_1 h =>
         gdK v20 true (fun k3 =>
          vK (aFieldAddr Tryz.prog 115 v23_1 1) h fun v24 h =>
          k3 v24 h) (fun v24_1 h =>
          gdK v20 true (fun k4 =>
           vK (aLoad Tryz.prog 3 v24_1 h) h fun v25 g =>
           VB h.length v25 ∧ (let h := g
            k4 v25 h)) (fun v25_1 h =>
           gdK v20 true (fun k5 =>
            vK (aFieldAddr Tryz.prog 115 v3 1) h fun v26 h =>
            k5 v26 h) (fun v26_1 h =>
            gdK v20 true (fun k6 =>
             vK (aLoad Tryz.prog 3 v26_1 h) h fun v27 g =>
             VB h.length v27 ∧ (let h := g
              k6 v27 h)) (fun v27_1 h =>
             gdK v20 true (fun k7 =>
              vK (aBin Tryz.prog BinOp.eql 3 v25_1 v27_1) h fun v28 h =>
              k7 v28 h) (fun v28_1 h =>
              vK (pickV v20 v28_1 (Value.bool false)) h fun v29 h =>
              cnd v29 (
               mvK (Value.bool true) h fun v4_1 h =>
               retV [some v4_1] R h) (
               mvK v5_1 h fun v10 h =>
               vK (aBin Tryz.prog BinOp.add 3 v10 (Value.int IntKind.i64 1)) h fun v11 h =>
               mvK v11 h fun v5_2 h =>
               I2 [v5_2] h ∧ μ2 [v5_2] h < μ2 [v5_1] h2)) h) h) h) h) h) h) h) h))) (
    mvK (Value.bool false) h fun v4_2 h =>
    retV [some v4_2] R h))
def lv94 (q : Nat) : List Nat := bif Nat.beq q 4 then [1073741808, 5] else []
theorem ok94 : lkOK Tryz.prog lv94 Tryz.f94 2 (Tryz.f94.body.getD .skip) 94 = true := by kernel_rfl
theorem e94 (a0 a1 : Value) (h : Heap) (R : Value → Heap → Prop) : n94 a0 a1 h R = wpK Tryz.prog lv94 (Tryz.f94.body.getD .skip) (endK Tryz.prog [.tmp 4] R) (argT [a0, a1]) h := by kernel_rfl
theorem w94 {a0 a1 : Value} {h : Heap} {R : Value → Heap → Prop} (hn : n94 a0 a1 h R) : DetP Tryz.prog 94 [a0, a1] h R :=
  DetP.of_code (rs := [.tmp 4]) (n := 2) Tryz.func94 (by kernel_rfl) (by kernel_rfl) lv94 ok94 rfl ((e94 a0 a1 h R) ▸ hn)

end Go.Proofs.YtomiejfeclefaaaGreat

set_option linter.unusedVariables false
set_option maxRecDepth 100000
namespace Go.Proofs.YtomiejfeclefaaaGreat
open Go.AM

/-! ### examiner/examinerref41.Err: function 20 -/
def n12 (a0 : Value) (h : Heap) (R : Value → Heap → Prop) : Prop :=
  okK (some (aBox Tryz.prog 24 a0 h)) fun v1 h =>
  mvK (Value.int IntKind.i64 0) h fun v2 h =>
  vK (aLoad Tryz.prog 24 v1 h) h fun v6 h =>
  cK Tryz.prog 58 [v6] h fun v7 h =>
  mvK v7 h fun v3 h =>
  mvK v3 h fun v8 h =>
  vK (aBin Tryz.prog BinOp.neq 3 v8 (Value.int IntKind.i64 0)) h fun v9 h =>
  cnd v9 (
   mvK v3 h fun v10 h =>
   mvK v10 h fun v2_1 h =>
   retV [some v2_1] R h) (
   vK (aFieldAddr Tryz.prog 24 v1 0) h fun v11 h =>
   vK (aLoad Tryz.prog 3 v11 h) h fun v12 h =>
   vK (aBin Tryz.prog BinOp.gtr 3 v12 (Value.int IntKind.i64 12)) h fun v13 h =>
   cnd v13 (
    mvK (Value.int IntKind.i64 2) h fun v2_2 h =>
    retV [some v2_2] R h) (
    vK (aLoad Tryz.prog 24 v1 h) h fun v15 h =>
    cK Tryz.prog 59 [v15] h fun v16 h =>
    mvK v16 h fun v14 h =>
    vK (aExtract v14 0) h fun v17 h =>
    vK (aExtract v14 1) h fun v18 h =>
    mvK v17 h fun v4 h =>
    mvK v18 h fun v5 h =>
    mvK v5 h fun v19 h =>
    mvK v19 h fun v2_3 h =>
    retV [some v2_3] R h))
def lv12 (q : Nat) : List Nat := []
theorem ok12 : lkOK Tryz.prog lv12 Tryz.f20 1 (Tryz.f20.body.getD .skip) 20 = true := by kernel_rfl
theorem e12 (a0 : Value) (h : Heap) (R : Value → Heap → Prop) : n12 a0 h R = wpK Tryz.prog lv12 (Tryz.f20.body.getD .skip) (endK Tryz.prog [.tmp 2] R) (argT [a0]) h := by kernel_rfl
theorem w12 {a0 : Value} {h : Heap} {R : Value → Heap → Prop} (hn : n12 a0 h R) : DetP Tryz.prog 20 [a0] h R :=
  DetP.of_code (rs := [.tmp 2]) (n := 1) Tryz.func20 (by kernel_rfl) (by kernel_rfl) lv12 ok12 rfl ((e12 a0 h R) ▸ hn)

/-! ### examiner/examinerref37.Own: function 10 -/
def n14 (a0 : Value) (h : Heap) (R : Value → Heap → Prop) : Prop :=
  okK (some (aBox Tryz.prog 24 a0 h)) fun v1 h =>
  okK (aAlloc Tryz.prog 24 h) fun v2 h =>
  okK (aBuildSlice Tryz.prog 22 0 [] h) fun v3 h =>
  vK (aFieldAddr Tryz.prog 24 v1 4) h fun v4 h =>
  vK (aLoad Tryz.prog 22 v4 h) h fun v5 h =>
  okK (aAppend Tryz.prog 22 22 v3 v5 h) fun v6 h =>
  vK (aFieldAddr Tryz.prog 24 v1 4) h fun v7 h =>
  okK ((aStore Tryz.prog 22 v7 v6 h).map (undef, ·)) fun _ h =>
  vK (aLoad Tryz.prog 24 v1 h) h fun v8 h =>
  okK ((aStore Tryz.prog 24 v2 v8 h).map (undef, ·)) fun _ h =>
  retV [aLoad Tryz.prog 24 v2 h] R h
def lv14 (q : Nat) : List Nat := []
theorem ok14 : lkOK Tryz.prog lv14 Tryz.f10 1 (Tryz.f10.body.getD .skip) 10 = true := by kernel_rfl
theorem e14 (a0 : Value) (h : Heap) (R : Value → Heap → Prop) : n14 a0 h R = wpK Tryz.prog lv14 (Tryz.f10.body.getD .skip) (endK Tryz.prog [.cell 2 24] R) (argT [a0]) h := by kernel_rfl
theorem w14 {a0 : Value} {h : Heap} {R : Value → Heap → Prop} (hn : n14 a0 h R) : DetP Tryz.prog 10 [a0] h R :=
  DetP.of_code (rs := [.cell 2 24]) (n := 1) Tryz.func10 (by kernel_rfl) (by kernel_rfl) lv14 ok14 rfl ((e14 a0 h R) ▸ hn)

/-! ### examiner/mutant.CheckRelation: function 19 -/
/-! ### examiner/examinerref41.Own: function 31 -/
def n17 (a0 : Value) (h : Heap) (R : Value → Heap → Prop) : Prop :=
  mvK (Value.slice none 0 0) h fun v2 h =>
  okK (aBuildSlice Tryz.prog 47 0 [] h) fun v3 h =>
  mvK a0 h fun v4 h =>
  okK (aAppend Tryz.prog 47 47 v3 v4 h) fun v5 h =>
  mvK v5 h fun v2_1 h =>
  retV [some v2_1] R h
def lv17 (q : Nat) : List Nat := []
theorem ok17 : lkOK Tryz.prog lv17 Tryz.f31 1 (Tryz.f31.body.getD .skip) 31 = true := by kernel_rfl
theorem e17 (a0 : Value) (h : Heap) (R : Value → Heap → Prop) : n17 a0 h R = wpK Tryz.prog lv17 (Tryz.f31.body.getD .skip) (endK Tryz.prog [.tmp 2] R) (argT [a0]) h := by kernel_rfl
theorem w17 {a0 : Value} {h : Heap} {R : Value → Heap → Prop} (hn : n17 a0 h R) : DetP Tryz.prog 31 [a0] h R :=
  DetP.of_code (rs := [.tmp 2]) (n := 1) Tryz.func31 (by kernel_rfl) (by kernel_rfl) lv17 ok17 rfl ((e17 a0 h R) ▸ hn)

/-! ### examiner/examinerref41.MutantErr: function 21 -/
def n21 (a0 a1 : Value) (h : Heap) (R : Value → Heap → Prop) : Prop :=
  okK (some (aBox Tryz.prog 24 a0 h)) fun v2 h =>
  mvK (Value.int IntKind.i64 0) h fun v4 h =>
  mvK (Value.int IntKind.i64 0) h fun v5 h =>
  mvK a1 h fun v9 h =>
  vK (aLen Tryz.prog 47 v9) h fun v10 h =>
  vK (aBin Tryz.prog BinOp.gtr 3 v10 (Value.int IntKind.i64 4)) h fun v11 h =>
  cnd v11 (
   mvK (Value.int IntKind.i64 0) h fun v4_1 h =>
   mvK (Value.int IntKind.i64 2) h fun v5_1 h =>
   retV [some v4_1, some v5_1] R h) (
   mvK (Value.int IntKind.i64 0) h fun v6 h =>
   ∃ (I4 : List Value → Heap → Prop) (μ4 : List Value → Heap → Nat), I4 [v6] h ∧
   ∀ (h4 : Heap) (j4 : Tmps) (v6_1 : Value), I4 [v6_1] h4 → (let h := h4
    mvK v6_1 h fun v12 h =>
    mvK a1 h fun v13 h =>
    vK (aLen Tryz.prog 47 v13) h fun v14 h =>
    vK (aBin Tryz.prog BinOp.lss 3 v12 v14) h fun v15 h =>
    cnd v15 (
     vK (aLoad Tryz.prog 24 v2 h) h fun v18 g =>
     VB h.length v18 ∧ (let h := g
      mvK a1 h fun v19 h =>
      mvK v6_1 h fun v20 h =>
      vK (aIndexAddr Tryz.prog 47 v19 v20) h fun v21 h =>
      vK (aLoad Tryz.prog 52 v21 h) h fun v22 g =>
      VB h.length v22 ∧ (let h := g
       cKD Tryz.prog 60 [v18, v22] h fun v23 g =>
       (∃ new, g = h ++ new) ∧ (let h := g
        mvK v23 h fun v7 h =>
        mvK v7 h fun v24 h =>
        vK (aBin Tryz.prog BinOp.neq 3 v24 (Value.int IntKind.i64 0)) h fun v25 h =>
        cnd v25 (
         mvK v6_1 h fun v26 h =>
         mvK v7 h fun v27 h =>
         mvK v26 h fun v4_2 h =>
         mvK v27 h fun v5_2 h =>
         retV [some v4_2, some v5_2] R h) (
         mvK v6_1 h fun v28 h =>
         vK (aBin Tryz.prog BinOp.gtr 3 v28 (Value.int IntKind.i64 0)) h fun v29 h =>
         mvK v29 h fun v30 h =>
         gdK v30 true (fun k0 =>
          mvK a1 h fun v31 h =>
          k0 v31 h) (fun v31_1 h =>
          gdK v30 true (fun k1 =>
           mvK v6_1 h fun v32 h =>
           k1 v32 h) (fun v32_1 h =>
           gdK v30 true (fun k2 =>
            vK (aBin Tryz.prog BinOp.sub 3 v32_1 (Value.int IntKind.i64 1)) h fun v33 h =>
            k2 v33 h) (fun v33_1 h =>
            gdK v30 true (fun k3 =>
             vK (aIndexAddr Tryz.prog 47 v31_1 v33_1) h fun v34 h =>
             k3 v34 h) (fun v34_1 h =>
             gdK v30 true (fun k4 =>
              vK (aLoad Tryz.prog 52 v34_1 h) h fun v35 g =>
              VB h.length v35 ∧ (let h := g
               k4 v35 h)) (fun v35_1 h =>
              gdK v30 true (fun k5 =>
               cKD Tryz.prog 62 [v35_1] h fun v36 g =>
               (∃ new, g = h ++ new) ∧ (let h := g
                k5 v36 h)) (fun v36_1 h =>
               gdK v30 true (fun k6 =>
                mvK a1 h fun v37 h =>
                k6 v37 h) (fun v37_1 h =>
                gdK v30 true (fun k7 =>
                 mvK v6_1 h fun v38 h =>
                 k7 v38 h) (fun v38_1 h =>
                 gdK v30 true (fun k8 =>
                  vK (aIndexAddr Tryz.prog 47 v37_1 v38_1) h fun v39 h =>
                  k8 v39 h) (fun v39_1 h =>
                  gdK v30 true (fun k9 =>
                   vK (aLoad Tryz.prog 52 v39_1 h) h fun v40 g =>
                   VB h.length v40 ∧ (let h := g
                    k9 v40 h)) (fun v40_1 h =>
                   gdK v30 true (fun k10 =>
                    cKD Tryz.prog 62 [v40_1] h fun v41 g =>
                    (∃ new, g = h ++ new) ∧ (let h := g
                     k10 v41 h)) (fun v41_1 h =>
                    gdK v30 true (fun k11 =>
                     cKD Tryz.prog 61 [v36_1, v41_1] h fun v42 g =>
                     (∃ new, g = h ++ new) ∧ (let h := g
                      k11 v42 h)) (fun v42_1 h =>
                     gdK v30 true (fun k12 =>
                      vK (aBin Tryz.prog BinOp.geq 3 v42_1 (Value.int IntKind.i64 0)) h fun v43 h =>
                      k12 v43 h) (fun v43_1 h =>
                      vK (pickV v30 v43_1 (Value.bool false)) h fun v44 h =>
                      mvK v44 h fun v45 h =>
                      gdK v45 false (fun k13 =>
                       mvK a1 h fun v46 h =>
                       k13 v46 h) (fun v46_1 h =>
                       gdK v45 false (fun k14 =>
                        mvK v6_1 h fun v47 h =>
                        k14 v47 h) (fun v47_1 h =>
                        gdK v45 false (fun k15 =>
                         vK (aIndexAddr Tryz.prog 47 v46_1 v47_1) h fun v48 h =>
                         k15 v48 h) (fun v48_1 h =>
                         gdK v45 false (fun k16 =>
                          vK (aFieldAddr Tryz.prog 52 v48_1 0) h fun v49 h =>
                          k16 v49 h) (fun v49_1 h =>
                          gdK v45 false (fun k17 =>
                           vK (aLoad Tryz.prog 3 v49_1 h) h fun v50 g =>
                           VB h.length v50 ∧ (let h := g
                            k17 v50 h)) (fun v50_1 h =>
                           gdK v45 false (fun k18 =>
                            vK (aBin Tryz.prog BinOp.eql 3 v50_1 (Value.int IntKind.i64 3)) h fun v51 h =>
                            k18 v51 h) (fun v51_1 h =>
                            gdK v45 false (fun k19 =>
                             mvK v51_1 h fun v52 h =>
                             k19 v52 h) (fun v52_1 h =>
                             gdK v52_1 true (fun k20 =>
                              mvK a1 h fun v53 h =>
                              k20 v53 h) (fun v53_1 h =>
                              gdK v52_1 true (fun k21 =>
                               mvK v6_1 h fun v54 h =>
                               k21 v54 h) (fun v54_1 h =>
                               gdK v52_1 true (fun k22 =>
                                vK (aIndexAddr Tryz.prog 47 v53_1 v54_1) h fun v55 h =>
                                k22 v55 h) (fun v55_1 h =>
                                gdK v52_1 true (fun k23 =>
                                 vK (aFieldAddr Tryz.prog 52 v55_1 2) h fun v56 h =>
                                 k23 v56 h) (fun v56_1 h =>
                                 gdK v52_1 true (fun k24 =>
                                  vK (aLoad Tryz.prog 3 v56_1 h) h fun v57 g =>
                                  VB h.length v57 ∧ (let h := g
                                   k24 v57 h)) (fun v57_1 h =>
                                  gdK v52_1 true (fun k25 =>
                                   mvK a1 h fun v58 h =>
                                   k25 v58 h) (fun v58_1 h =>
                                   gdK v52_1 true (fun k26 =>
                                    mvK v6_1 h fun v59 h =>
                                    k26 v59 h) (fun v59_1 h =>
                                    gdK v52_1 true (fun k27 =>
                                     vK (aIndexAddr Tryz.prog 47 v58_1 v59_1) h fun v60 h =>
                                     k27 v60 h) (fun v60_1 h =>
                                     gdK v52_1 true (fun k28 =>
                                      vK (aFieldAddr Tryz.prog 52 v60_1 1) h fun v61 h =>
                                      k28 v61 h) (fun v61_1 h =>
                                      gdK v52_1 true (fun k29 =>
                                       vK (aLoad Tryz.prog 3 v61_1 h) h fun v62 g =>
                                       VB h.length v62 ∧ (let h := g
                                        k29 v62 h)) (fun v62_1 h =>
                                       gdK v52_1 true (fun k30 =>
                                        vK (aBin Tryz.prog BinOp.leq 3 v57_1 v62_1) h fun v63 h =>
                                        k30 v63 h) (fun v63_1 h =>
                                        gdK v45 false (fun k31 =>
                                         vK (pickV v52_1 v63_1 (Value.bool false)) h fun v64 h =>
                                         k31 v64 h) (fun v64_1 h =>
                                         vK (pickV v45 (Value.bool true) v64_1) h fun v65 h =>
                                         cnd v65 (
                                          mvK v6_1 h fun v66 h =>
                                          mvK v66 h fun v4_3 h =>
                                          mvK (Value.int IntKind.i64 14) h fun v5_3 h =>
                                          retV [some v4_3, some v5_3] R h) (
                                          mvK (Value.int IntKind.i64 0) h fun v8 h =>
                                          ∃ (I12 : List Value → Heap → Prop) (μ12 : List Value → Heap → Nat), I12 [v8] h ∧
                                          ∀ (h12 : Heap) (j12 : Tmps) (v8_1 : Value), I12 [v8_1] h12 → (let h := h12
                                           mvK v8_1 h fun v67 h =>
                                           mvK v6_1 h fun v68 h =>
                                           vK (aBin Tryz.prog BinOp.lss 3 v67 v68) h fun v69 h =>
                                           cnd v69 (
                                            mvK a1 h fun v72 h =>
                                            mvK v8_1 h fun v73 h =>
                                            vK (aIndexAddr Tryz.prog 47 v72 v73) h fun v74 h =>
                                            vK (aLoad Tryz.prog 52 v74 h) h fun v75 g =>
                                            VB h.length v75 ∧ (let h := g
                                             mvK a1 h fun v76 h =>
                                             mvK v6_1 h fun v77 h =>
                                             vK (aIndexAddr Tryz.prog 47 v76 v77) h fun v78 h =>
                                             vK (aLoad Tryz.prog 52 v78 h) h fun v79 g =>
                                             VB h.length v79 ∧ (let h := g
                                              cK Tryz.prog 63 [v75, v79] h fun v80 h =>
                                              cnd v80 (
                                               mvK v6_1 h fun v81 h =>
                                               mvK v81 h fun v4_4 h =>
                                               mvK (Value.int IntKind.i64 13) h fun v5_4 h =>
                                               retV [some v4_4, some v5_4] R h) (
                                               mvK v8_1 h fun v70 h =>
                                               vK (aBin Tryz.prog BinOp.add 3 v70 (Value.int IntKind.i64 1)) h fun v71 h =>
                                               mvK v71 h fun v8_2 h =>
                                               I12 [v8_2] h ∧ μ12 [v8_2] h < μ12 [v8_1] h12)))) (
                                            mvK v6_1 h fun v16 h =>
                                            vK (aBin Tryz.prog BinOp.add 3 v16 (Value.int IntKind.i64 1)) h fun v17 h =>
                                            mvK v17 h fun v6_2 h =>
                                            I4 [v6_2] h ∧ μ4 [v6_2] h < μ4 [v6_1] h4)))) h) h) h) h) h) h) h) h) h) h) h) h) h) h) h) h) h) h) h) h) h) h) h) h) h) h) h) h) h) h) h) h))))) (
     mvK (Value.int IntKind.i64 0) h fun v4_5 h =>
     mvK (Value.int IntKind.i64 0) h fun v5_5 h =>
     retV [some v4_5, some v5_5] R h)))
def lv21 (q : Nat) : List Nat := bif Nat.beq q 8 then [4835703278458516698821104, 6] else bif Nat.beq q 24 then [4835555704505927022412080, 8] else []
theorem ok21 : lkOK Tryz.prog lv21 Tryz.f21 2 (Tryz.f21.body.getD .skip) 21 = true := by kernel_rfl
theorem e21 (a0 a1 : Value) (h : Heap) (R : Value → Heap → Prop) : n21 a0 a1 h R = wpK Tryz.prog lv21 (Tryz.f21.body.getD .skip) (endK Tryz.prog [.tmp 4, .tmp 5] R) (argT [a0, a1]) h := by kernel_rfl
theorem w21 {a0 a1 : Value} {h : Heap} {R : Value → Heap → Prop} (hn : n21 a0 a1 h R) : DetP Tryz.prog 21 [a0, a1] h R :=
  DetP.of_code (rs := [.tmp 4, .tmp 5]) (n := 2) Tryz.func21 (by kernel_rfl) (by kernel_rfl) lv21 ok21 rfl ((e21 a0 a1 h R) ▸ hn)

/-! ### examiner/examinerref41.Mutated: function 34 -/
def n24 (a0 a1 : Value) (h : Heap) (R : Value → Heap → Prop) : Prop :=
  okK (some (aBox Tryz.prog 24 a0 h)) fun v2 h =>
  okK (aAlloc Tryz.prog 24 h) fun v4 h =>
  vK (aLoad Tryz.prog 24 v2 h) h fun v7 h =>
  cK Tryz.prog 10 [v7] h fun v8 h =>
  okK (aAlloc Tryz.prog 24 h) fun v5 h =>
  okK ((aStore Tryz.prog 24 v5 v8 h).map (undef, ·)) fun _ h =>
  mvK (Value.int IntKind.i64 0) h fun v6 h =>
  ∃ (I3 : List Value → Heap → Prop) (μ3 : List Value → Heap → Nat), I3 [v6] h ∧
  ∀ (h3 : Heap) (j3 : Tmps) (v6_1 : Value), I3 [v6_1] h3 → (let h := h3
   mvK v6_1 h fun v9 h =>
   mvK a1 h fun v10 h =>
   vK (aLen Tryz.prog 47 v10) h fun v11 h =>
   vK (aBin Tryz.prog BinOp.lss 3 v9 v11) h fun v12 h =>
   cnd v12 (
    seqK (fun k0 =>
     seqK (fun k1 =>
      mvK a1 h fun v15 h =>
      mvK v6_1 h fun v16 h =>
      vK (aIndexAddr Tryz.prog 47 v15 v16) h fun v17 h =>
      vK (aFieldAddr Tryz.prog 52 v17 0) h fun v18 h =>
      vK (aLoad Tryz.prog 3 v18 h) h fun v19 h =>
      vK (aBin Tryz.prog BinOp.eql 3 v19 (Value.int IntKind.i64 0)) h fun v20 h =>
      cnd v20 (
       vK (aFieldAddr Tryz.prog 24 v5 4) h fun v21 h =>
       vK (aLoad Tryz.prog 22 v21 h) h fun v22 g =>
       VB h.length v22 ∧ (let h := g
        mvK a1 h fun v23 h =>
        mvK v6_1 h fun v24 h =>
        vK (aIndexAddr Tryz.prog 47 v23 v24) h fun v25 h =>
        vK (aFieldAddr Tryz.prog 52 v25 1) h fun v26 h =>
        vK (aLoad Tryz.prog 3 v26 h) h fun v27 g =>
        VB h.length v27 ∧ (let h := g
         mvK a1 h fun v28 h =>
         mvK v6_1 h fun v29 h =>
         vK (aIndexAddr Tryz.prog 47 v28 v29) h fun v30 h =>
         vK (aFieldAddr Tryz.prog 52 v30 2) h fun v31 h =>
         vK (aLoad Tryz.prog 3 v31 h) h fun v32 g =>
         VB h.length v32 ∧ (let h := g
          vK (aIndexAddr Tryz.prog 22 v22 v27) h fun v33 h =>
          vK (aFieldAddr Tryz.prog 87 v33 2) h fun v34 h =>
          okK ((aStore Tryz.prog 3 v34 v32 h).map (undef, ·)) fun _ h =>
          (True) ∧ (
           k1 [] h))))) (
       k1 [] h)) fun x1 h => ∀ jx1 : Tmps,
      seqK (fun k2 =>
       mvK a1 h fun v35 h =>
       mvK v6_1 h fun v36 h =>
       vK (aIndexAddr Tryz.prog 47 v35 v36) h fun v37 h =>
       vK (aFieldAddr Tryz.prog 52 v37 0) h fun v38 h =>
       vK (aLoad Tryz.prog 3 v38 h) h fun v39 h =>
       vK (aBin Tryz.prog BinOp.eql 3 v39 (Value.int IntKind.i64 1)) h fun v40 h =>
       cnd v40 (
        vK (aFieldAddr Tryz.prog 24 v5 4) h fun v41 h =>
        vK (aLoad Tryz.prog 22 v41 h) h fun v42 g =>
        VB h.length v42 ∧ (let h := g
         mvK a1 h fun v43 h =>
         mvK v6_1 h fun v44 h =>
         vK (aIndexAddr Tryz.prog 47 v43 v44) h fun v45 h =>
         vK (aFieldAddr Tryz.prog 52 v45 1) h fun v46 h =>
         vK (aLoad Tryz.prog 3 v46 h) h fun v47 g =>
         VB h.length v47 ∧ (let h := g
          mvK a1 h fun v48 h =>
          mvK v6_1 h fun v49 h =>
          vK (aIndexAddr Tryz.prog 47 v48 v49) h fun v50 h =>
          vK (aFieldAddr Tryz.prog 52 v50 2) h fun v51 h =>
          vK (aLoad Tryz.prog 3 v51 h) h fun v52 g =>
          VB h.length v52 ∧ (let h := g
           vK (aIndexAddr Tryz.prog 22 v42 v47) h fun v53 h =>
           vK (aFieldAddr Tryz.prog 87 v53 3) h fun v54 h =>
           okK ((aStore Tryz.prog 3 v54 v52 h).map (undef, ·)) fun _ h =>
           (True) ∧ (
            k2 [] h))))) (
        k2 [] h)) fun x2 h => ∀ jx2 : Tmps,
       seqK (fun k3 =>
        mvK a1 h fun v55 h =>
        mvK v6_1 h fun v56 h =>
        vK (aIndexAddr Tryz.prog 47 v55 v56) h fun v57 h =>
        vK (aFieldAddr Tryz.prog 52 v57 0) h fun v58 h =>
        vK (aLoad Tryz.prog 3 v58 h) h fun v59 h =>
        vK (aBin Tryz.prog BinOp.eql 3 v59 (Value.int IntKind.i64 2)) h fun v60 h =>
        cnd v60 (
         mvK a1 h fun v61 h =>
         mvK v6_1 h fun v62 h =>
         vK (aIndexAddr Tryz.prog 47 v61 v62) h fun v63 h =>
         vK (aFieldAddr Tryz.prog 52 v63 2) h fun v64 h =>
         vK (aLoad Tryz.prog 3 v64 h) h fun v65 h =>
         vK (aFieldAddr Tryz.prog 24 v5 3) h fun v66 h =>
         okK ((aStore Tryz.prog 3 v66 v65 h).map (undef, ·)) fun _ h =>
         k3 [] h) (
         k3 [] h)) fun x3 h => ∀ jx3 : Tmps,
        mvK a1 h fun v67 h =>
        mvK v6_1 h fun v68 h =>
        vK (aIndexAddr Tryz.prog 47 v67 v68) h fun v69 h =>
        vK (aFieldAddr Tryz.prog 52 v69 0) h fun v70 h =>
        vK (aLoad Tryz.prog 3 v70 h) h fun v71 h =>
        vK (aBin Tryz.prog BinOp.eql 3 v71 (Value.int IntKind.i64 3)) h fun v72 h =>
        cnd v72 (
         vK (aFieldAddr Tryz.prog 24 v5 4) h fun v73 h =>
         vK (aLoad Tryz.prog 22 v73 h) h fun v74 g =>
         VB h.length v74 ∧ (let h := g
          mvK a1 h fun v75 h =>
          mvK v6_1 h fun v76 h =>
          vK (aIndexAddr Tryz.prog 47 v75 v76) h fun v77 h =>
          vK (aFieldAddr Tryz.prog 52 v77 1) h fun v78 h =>
          vK (aLoad Tryz.prog 3 v78 h) h fun v79 g =>
          VB h.length v79 ∧ (let h := g
           vK (aFieldAddr Tryz.prog 24 v5 4) h fun v80 h =>
           vK (aLoad Tryz.prog 22 v80 h) h fun v81 g =>
           VB h.length v81 ∧ (let h := g
            mvK a1 h fun v82 h =>
            mvK v6_1 h fun v83 h =>
            vK (aIndexAddr Tryz.prog 47 v82 v83) h fun v84 h =>
            vK (aFieldAddr Tryz.prog 52 v84 2) h fun v85 h =>
            vK (aLoad Tryz.prog 3 v85 h) h fun v86 g =>
            VB h.length v86 ∧ (let h := g
             vK (aFieldAddr Tryz.prog 24 v2 4) h fun v87 h =>
             vK (aLoad Tryz.prog 22 v87 h) h fun v88 g =>
             VB h.length v88 ∧ (let h := g
              mvK a1 h fun v89 h =>
              mvK v6_1 h fun v90 h =>
              vK (aIndexAddr Tryz.prog 47 v89 v90) h fun v91 h =>
              vK (aFieldAddr Tryz.prog 52 v91 2) h fun v92 h =>
              vK (aLoad Tryz.prog 3 v92 h) h fun v93 g =>
              VB h.length v93 ∧ (let h := g
               vK (aIndexAddr Tryz.prog 22 v88 v93) h fun v94 h =>
               vK (aFieldAddr Tryz.prog 87 v94 3) h fun v95 h =>
               vK (aLoad Tryz.prog 3 v95 h) h fun v96 g =>
               VB h.length v96 ∧ (let h := g
                vK (aFieldAddr Tryz.prog 24 v2 4) h fun v97 h =>
                vK (aLoad Tryz.prog 22 v97 h) h fun v98 g =>
                VB h.length v98 ∧ (let h := g
                 mvK a1 h fun v99 h =>
                 mvK v6_1 h fun v100 h =>
                 vK (aIndexAddr Tryz.prog 47 v99 v100) h fun v101 h =>
                 vK (aFieldAddr Tryz.prog 52 v101 1) h fun v102 h =>
                 vK (aLoad Tryz.prog 3 v102 h) h fun v103 g =>
                 VB h.length v103 ∧ (let h := g
                  vK (aIndexAddr Tryz.prog 22 v98 v103) h fun v104 h =>
                  vK (aFieldAddr Tryz.prog 87 v104 3) h fun v105 h =>
                  vK (aLoad Tryz.prog 3 v105 h) h fun v106 g =>
                  VB h.length v106 ∧ (let h := g
                   vK (aIndexAddr Tryz.prog 22 v74 v79) h fun v107 h =>
                   vK (aFieldAddr Tryz.prog 87 v107 3) h fun v108 h =>
                   okK ((aStore Tryz.prog 3 v108 v96 h).map (undef, ·)) fun _ h =>
                   ((aLoad Tryz.prog 22 v80 h).map (·, h) = some (v81, h) ∧ True) ∧ (
                    vK (aIndexAddr Tryz.prog 22 v81 v86) h fun v109 h =>
                    vK (aFieldAddr Tryz.prog 87 v109 3) h fun v110 h =>
                    okK ((aStore Tryz.prog 3 v110 v106 h).map (undef, ·)) fun _ h =>
                    (True) ∧ (
                     k0 [] h))))))))))))) (
         k0 [] h)) fun x0 h => ∀ jx0 : Tmps,
     mvK v6_1 h fun v13 h =>
     vK (aBin Tryz.prog BinOp.add 3 v13 (Value.int IntKind.i64 1)) h fun v14 h =>
     mvK v14 h fun v6_2 h =>
     I3 [v6_2] h ∧ μ3 [v6_2] h < μ3 [v6_1] h3) (
    vK (aLoad Tryz.prog 24 v5 h) h fun v111 h =>
    okK ((aStore Tryz.prog 24 v4 v111 h).map (undef, ·)) fun _ h =>
    retV [aLoad Tryz.prog 24 v4 h] R h))
def lv24 (q : Nat) : List Nat := bif Nat.beq q 6 then [2596148429267413814265248164609600, 6] else bif Nat.beq q 9 then [2596148429267413814265248164577280] else bif Nat.beq q 15 then [34359705600] else bif Nat.beq q 19 then [36028762659225600] else bif Nat.beq q 23 then [147537923792657448960] else []
theorem ok24 : lkOK Tryz.prog lv24 Tryz.f34 2 (Tryz.f34.body.getD .skip) 34 = true := by kernel_rfl
theorem e24 (a0 a1 : Value) (h : Heap) (R : Value → Heap → Prop) : n24 a0 a1 h R = wpK Tryz.prog lv24 (Tryz.f34.body.getD .skip) (endK Tryz.prog [.cell 4 24] R) (argT [a0, a1]) h := by kernel_rfl
theorem w24 {a0 a1 : Value} {h : Heap} {R : Value → Heap → Prop} (hn : n24 a0 a1 h R) : DetP Tryz.prog 34 [a0, a1] h R :=
  DetP.of_code (rs := [.cell 4 24]) (n := 2) Tryz.func34 (by kernel_rfl) (by kernel_rfl) lv24 ok24 rfl ((e24 a0 a1 h R) ▸ hn)

/-! ### examiner/examinerref37.Err: function 58 -/
def n41 (a0 : Value) (h : Heap) (R : Value → Heap → Prop) : Prop :=
  okK (some (aBox Tryz.prog 24 a0 h)) fun v1 h =>
  mvK (Value.int IntKind.i64 0) h fun v2 h =>
  vK (aLoad Tryz.prog 24 v1 h) h fun v6 h =>
  cK Tryz.prog 86 [v6] h fun v7 h =>
  mvK v7 h fun v5 h =>
  vK (aExtract v5 0) h fun v8 h =>
  vK (aExtract v5 1) h fun v9 h =>
  mvK v8 h fun v3 h =>
  mvK v9 h fun v4 h =>
  mvK v4 h fun v10 h =>
  mvK v10 h fun v2_1 h =>
  retV [some v2_1] R h
def lv41 (q : Nat) : List Nat := []
theorem ok41 : lkOK Tryz.prog lv41 Tryz.f58 1 (Tryz.f58.body.getD .skip) 58 = true := by kernel_rfl
theorem e41 (a0 : Value) (h : Heap) (R : Value → Heap → Prop) : n41 a0 h R = wpK Tryz.prog lv41 (Tryz.f58.body.getD .skip) (endK Tryz.prog [.tmp 2] R) (argT [a0]) h := by kernel_rfl
theorem w41 {a0 : Value} {h : Heap} {R : Value → Heap → Prop} (hn : n41 a0 h R) : DetP Tryz.prog 58 [a0] h R :=
  DetP.of_code (rs := [.tmp 2]) (n := 1) Tryz.func58 (by kernel_rfl) (by kernel_rfl) lv41 ok41 rfl ((e41 a0 h R) ▸ hn)

/-! ### examiner/examinerref39.OpenErr: function 59 -/
def n42 (a0 : Value) (h : Heap) (R : Value → Heap → Prop) : Prop :=
  okK (some (aBox Tryz.prog 24 a0 h)) fun v1 h =>
  mvK (Value.int IntKind.i64 0) h fun v2 h =>
  mvK (Value.int IntKind.i64 0) h fun v3 h =>
  mvK (Value.int IntKind.i64 0) h fun v4 h =>
  ∃ (I2 : List Value → Heap → Prop) (μ2 : List Value → Heap → Nat), I2 [v4] h ∧
  ∀ (h2 : Heap) (j2 : Tmps) (v4_1 : Value), I2 [v4_1] h2 → (let h := h2
   mvK v4_1 h fun v6 h =>
   vK (aFieldAddr Tryz.prog 24 v1 0) h fun v7 h =>
   vK (aLoad Tryz.prog 3 v7 h) h fun v8 h =>
   vK (aBin Tryz.prog BinOp.lss 3 v6 v8) h fun v9 h =>
   cnd v9 (
    mvK (Value.int IntKind.i64 0) h fun v5 h =>
    ∃ (I5 : List Value → Heap → Prop) (μ5 : List Value → Heap → Nat), I5 [v5] h ∧
    ∀ (h5 : Heap) (j5 : Tmps) (v5_1 : Value), I5 [v5_1] h5 → (let h := h5
     mvK v5_1 h fun v12 h =>
     vK (aFieldAddr Tryz.prog 24 v1 1) h fun v13 h =>
     vK (aLoad Tryz.prog 3 v13 h) h fun v14 h =>
     vK (aBin Tryz.prog BinOp.lss 3 v12 v14) h fun v15 h =>
     cnd v15 (
      vK (aLoad Tryz.prog 24 v1 h) h fun v18 h =>
      mvK v4_1 h fun v19 h =>
      mvK v5_1 h fun v20 h =>
      cK Tryz.prog 87 [v18, v19, v20] h fun v21 h =>
      vK (aBin Tryz.prog BinOp.eql 3 v21 (Value.int IntKind.i64 (-1))) h fun v22 h =>
      cnd v22 (
       mvK v4_1 h fun v23 h =>
       mvK v23 h fun v2_1 h =>
       mvK (Value.int IntKind.i64 39) h fun v3_1 h =>
       retV [some v2_1, some v3_1] R h) (
       mvK v5_1 h fun v16 h =>
       vK (aBin Tryz.prog BinOp.add 3 v16 (Value.int IntKind.i64 1)) h fun v17 h =>
       mvK v17 h fun v5_2 h =>
       I5 [v5_2] h ∧ μ5 [v5_2] h < μ5 [v5_1] h5)) (
      mvK v4_1 h fun v10 h =>
      vK (aBin Tryz.prog BinOp.add 3 v10 (Value.int IntKind.i64 1)) h fun v11 h =>
      mvK v11 h fun v4_2 h =>
      I2 [v4_2] h ∧ μ2 [v4_2] h < μ2 [v4_1] h2))) (
    mvK (Value.int IntKind.i64 0) h fun v2_2 h =>
    mvK (Value.int IntKind.i64 0) h fun v3_2 h =>
    retV [some v2_2, some v3_2] R h))
def lv42 (q : Nat) : List Nat := bif Nat.beq q 4 then [16777212, 4] else bif Nat.beq q 10 then [16773164, 5] else []
theorem ok42 : lkOK Tryz.prog lv42 Tryz.f59 1 (Tryz.f59.body.getD .skip) 59 = true := by kernel_rfl
theorem e42 (a0 : Value) (h : Heap) (R : Value → Heap → Prop) : n42 a0 h R = wpK Tryz.prog lv42 (Tryz.f59.body.getD .skip) (endK Tryz.prog [.tmp 2, .tmp 3] R) (argT [a0]) h := by kernel_rfl
theorem w42 {a0 : Value} {h : Heap} {R : Value → Heap → Prop} (hn : n42 a0 h R) : DetP Tryz.prog 59 [a0] h R :=
  DetP.of_code (rs := [.tmp 2, .tmp 3]) (n := 1) Tryz.func59 (by kernel_rfl) (by kernel_rfl) lv42 ok42 rfl ((e42 a0 h R) ▸ hn)

/-! ### examiner/mutant.machineErr: function 48 -/
def n43 (a0 : Value) (h : Heap) (R : Value → Heap → Prop) : Prop :=
  okK (some (aBox Tryz.prog 24 a0 h)) fun v1 h =>
  mvK (Value.int IntKind.i64 0) h fun v2 h =>
  vK (aLoad Tryz.prog 24 v1 h) h fun v6 h =>
  cK Tryz.prog 82 [v6] h fun v7 h =>
  mvK v7 h fun v5 h =>
  vK (aExtract v5 0) h fun v8 h =>
  vK (aExtract v5 1) h fun v9 h =>
  mvK v8 h fun v3 h =>
  mvK v9 h fun v4 h =>
  mvK v4 h fun v10 h =>
  vK (aFieldAddr Tryz.prog 24 v1 0) h fun v11 h =>
  vK (aLoad Tryz.prog 3 v11 h) h fun v12 g =>
  VB h.length v12 ∧ (let h := g
   vK (aBin Tryz.prog BinOp.leq 3 v12 (Value.int IntKind.i64 12)) h fun v13 h =>
   cKD Tryz.prog 65 [v13, (Value.int IntKind.i64 2)] h fun v14 g =>
   (∃ new, g = h ++ new) ∧ (let h := g
    vK (aFieldAddr Tryz.prog 24 v1 4) h fun v15 h =>
    vK (aLoad Tryz.prog 22 v15 h) h fun v16 g =>
    VB h.length v16 ∧ (let h := g
     vK (aLen Tryz.prog 22 v16) h fun v17 h =>
     vK (aFieldAddr Tryz.prog 24 v1 0) h fun v18 h =>
     vK (aLoad Tryz.prog 3 v18 h) h fun v19 g =>
     VB h.length v19 ∧ (let h := g
      vK (aFieldAddr Tryz.prog 24 v1 1) h fun v20 h =>
      vK (aLoad Tryz.prog 3 v20 h) h fun v21 g =>
      VB h.length v21 ∧ (let h := g
       vK (aBin Tryz.prog BinOp.mul 3 v19 v21) h fun v22 h =>
       vK (aBin Tryz.prog BinOp.eql 3 v17 v22) h fun v23 h =>
       cKD Tryz.prog 65 [v23, (Value.int IntKind.i64 39)] h fun v24 g =>
       (∃ new, g = h ++ new) ∧ (let h := g
        okK (aBuildSlice Tryz.prog 100 3 [(0, v10), (1, v14), (2, v24)] h) fun v25 h =>
        cKD Tryz.prog 23 [v25] h fun v26 g =>
        (∃ new, g = h ++ new) ∧ (let h := g
         mvK v26 h fun v2_1 h =>
         retV [some v2_1] R h)))))))
def lv43 (q : Nat) : List Nat := []
theorem ok43 : lkOK Tryz.prog lv43 Tryz.f48 1 (Tryz.f48.body.getD .skip) 48 = true := by kernel_rfl
theorem e43 (a0 : Value) (h : Heap) (R : Value → Heap → Prop) : n43 a0 h R = wpK Tryz.prog lv43 (Tryz.f48.body.getD .skip) (endK Tryz.prog [.tmp 2] R) (argT [a0]) h := by kernel_rfl
theorem w43 {a0 : Value} {h : Heap} {R : Value → Heap → Prop} (hn : n43 a0 h R) : DetP Tryz.prog 48 [a0] h R :=
  DetP.of_code (rs := [.tmp 2]) (n := 1) Tryz.func48 (by kernel_rfl) (by kernel_rfl) lv43 ok43 rfl ((e43 a0 h R) ▸ hn)

/-! ### examiner/mutant.compare: function 51 -/
def n46 (a0 a1 : Value) (h : Heap) (R : Value → Heap → Prop) : Prop :=
  okK (some (aBox Tryz.prog 52 a0 h)) fun v2 h =>
  okK (some (aBox Tryz.prog 52 a1 h)) fun v3 h =>
  mvK (Value.int IntKind.i64 0) h fun v4 h =>
  vK (aFieldAddr Tryz.prog 52 v2 0) h fun v5 h =>
  vK (aLoad Tryz.prog 3 v5 h) h fun v6 g =>
  VB h.length v6 ∧ (let h := g
   vK (aFieldAddr Tryz.prog 52 v3 0) h fun v7 h =>
   vK (aLoad Tryz.prog 3 v7 h) h fun v8 g =>
   VB h.length v8 ∧ (let h := g
    cKD Tryz.prog 39 [v6, v8] h fun v9 g =>
    (∃ new, g = h ++ new) ∧ (let h := g
     vK (aFieldAddr Tryz.prog 52 v2 1) h fun v10 h =>
     vK (aLoad Tryz.prog 3 v10 h) h fun v11 g =>
     VB h.length v11 ∧ (let h := g
      vK (aFieldAddr Tryz.prog 52 v3 1) h fun v12 h =>
      vK (aLoad Tryz.prog 3 v12 h) h fun v13 g =>
      VB h.length v13 ∧ (let h := g
       cKD Tryz.prog 39 [v11, v13] h fun v14 g =>
       (∃ new, g = h ++ new) ∧ (let h := g
        vK (aFieldAddr Tryz.prog 52 v2 2) h fun v15 h =>
        vK (aLoad Tryz.prog 3 v15 h) h fun v16 g =>
        VB h.length v16 ∧ (let h := g
         vK (aFieldAddr Tryz.prog 52 v3 2) h fun v17 h =>
         vK (aLoad Tryz.prog 3 v17 h) h fun v18 g =>
         VB h.length v18 ∧ (let h := g
          cKD Tryz.prog 39 [v16, v18] h fun v19 g =>
          (∃ new, g = h ++ new) ∧ (let h := g
           okK (aBuildSlice Tryz.prog 31 3 [(0, v9), (1, v14), (2, v19)] h) fun v20 h =>
           cKD Tryz.prog 38 [v20] h fun v21 g =>
           (∃ new, g = h ++ new) ∧ (let h := g
            mvK v21 h fun v4_1 h =>
            retV [some v4_1] R h))))))))))
def lv46 (q : Nat) : List Nat := []
theorem ok46 : lkOK Tryz.prog lv46 Tryz.f51 2 (Tryz.f51.body.getD .skip) 51 = true := by kernel_rfl
theorem e46 (a0 a1 : Value) (h : Heap) (R : Value → Heap → Prop) : n46 a0 a1 h R = wpK Tryz.prog lv46 (Tryz.f51.body.getD .skip) (endK Tryz.prog [.tmp 4] R) (argT [a0, a1]) h := by kernel_rfl
theorem w46 {a0 a1 : Value} {h : Heap} {R : Value → Heap → Prop} (hn : n46 a0 a1 h R) : DetP Tryz.prog 51 [a0, a1] h R :=
  DetP.of_code (rs := [.tmp 4]) (n := 2) Tryz.func51 (by kernel_rfl) (by kernel_rfl) lv46 ok46 rfl ((e46 a0 a1 h R) ▸ hn)

/-! ### examiner/mutant.bothErr: function 53 -/
def n47 (a0 a1 : Value) (h : Heap) (R : Value → Heap → Prop) : Prop :=
  okK (some (aBox Tryz.prog 24 a0 h)) fun v2 h =>
  mvK (Value.int IntKind.i64 0) h fun v4 h =>
  vK (aLoad Tryz.prog 24 v2 h) h fun v10 h =>
  cK Tryz.prog 48 [v10] h fun v11 h =>
  mvK v11 h fun v5 h =>
  mvK v5 h fun v12 h =>
  vK (aBin Tryz.prog BinOp.neq 34 v12 (Value.int IntKind.i64 0)) h fun v13 h =>
  cnd v13 (
   mvK v5 h fun v14 h =>
   mvK v14 h fun v4_1 h =>
   retV [some v4_1] R h) (
   mvK a1 h fun v15 h =>
   vK (aLen Tryz.prog 25 v15) h fun v16 h =>
   mvK (Value.int IntKind.i64 0) h fun v17 h =>
   ∃ (I5 : List Value → Heap → Prop) (μ5 : List Value → Heap → Nat), I5 [v17] h ∧
   ∀ (h5 : Heap) (j5 : Tmps) (v17_1 : Value), I5 [v17_1] h5 → (let h := h5
    vK (aBin Tryz.prog BinOp.lss 3 v17_1 v16) h fun v18 h =>
    cnd v18 (
     vK (aIndexAddr Tryz.prog 25 v15 v17_1) h fun v19 h =>
     vK (aLoad Tryz.prog 47 v19 h) h fun v20 h =>
     mvK v20 h fun v7 h =>
     vK (aLoad Tryz.prog 24 v2 h) h fun v22 h =>
     mvK v7 h fun v23 h =>
     cK Tryz.prog 84 [v22, v23] h fun v24 h =>
     mvK v24 h fun v21 h =>
     vK (aExtract v21 0) h fun v25 h =>
     vK (aExtract v21 1) h fun v26 h =>
     mvK v25 h fun v8 h =>
     mvK v26 h fun v9 h =>
     mvK v9 h fun v27 h =>
     vK (aBin Tryz.prog BinOp.neq 34 v27 (Value.int IntKind.i64 0)) h fun v28 h =>
     cnd v28 (
      mvK v9 h fun v29 h =>
      mvK v29 h fun v4_2 h =>
      retV [some v4_2] R h) (
      vK (aBin Tryz.prog BinOp.add 3 v17_1 (Value.int IntKind.i64 1)) h fun v30 h =>
      mvK v30 h fun v17_2 h =>
      I5 [v17_2] h ∧ μ5 [v17_2] h < μ5 [v17_1] h5)) (
     mvK (Value.int IntKind.i64 0) h fun v4_3 h =>
     retV [some v4_3] R h)))
def lv47 (q : Nat) : List Nat := bif Nat.beq q 10 then [2147353488, 17] else []
theorem ok47 : lkOK Tryz.prog lv47 Tryz.f53 2 (Tryz.f53.body.getD .skip) 53 = true := by kernel_rfl
theorem e47 (a0 a1 : Value) (h : Heap) (R : Value → Heap → Prop) : n47 a0 a1 h R = wpK Tryz.prog lv47 (Tryz.f53.body.getD .skip) (endK Tryz.prog [.tmp 4] R) (argT [a0, a1]) h := by kernel_rfl
theorem w47 {a0 a1 : Value} {h : Heap} {R : Value → Heap → Prop} (hn : n47 a0 a1 h R) : DetP Tryz.prog 53 [a0, a1] h R :=
  DetP.of_code (rs := [.tmp 4]) (n := 2) Tryz.func53 (by kernel_rfl) (by kernel_rfl) lv47 ok47 rfl ((e47 a0 a1 h R) ▸ hn)

/-! ### examiner/mutant.spans: function 54 -/
def n48 (a0 a1 a2 : Value) (h : Heap) (R : Value → Heap → Prop) : Prop :=
  mvK (Value.bool false) h fun v6 h =>
  mvK a1 h fun v7 h =>
  mvK a0 h fun v8 h =>
  vK (aBin Tryz.prog BinOp.leq 3 v7 v8) h fun v9 h =>
  mvK v9 h fun v10 h =>
  gdK v10 true (fun k0 =>
   mvK a0 h fun v11 h =>
   k0 v11 h) (fun v11_1 h =>
   gdK v10 true (fun k1 =>
    mvK a2 h fun v12 h =>
    k1 v12 h) (fun v12_1 h =>
    gdK v10 true (fun k2 =>
     vK (aBin Tryz.prog BinOp.leq 3 v11_1 v12_1) h fun v13 h =>
     k2 v13 h) (fun v13_1 h =>
     vK (pickV v10 v13_1 (Value.bool false)) h fun v14 h =>
     mvK v14 h fun v6_1 h =>
     retV [some v6_1] R h) h) h) h
def lv48 (q : Nat) : List Nat := []
theorem ok48 : lkOK Tryz.prog lv48 Tryz.f54 3 (Tryz.f54.body.getD .skip) 54 = true := by kernel_rfl
theorem e48 (a0 a1 a2 : Value) (h : Heap) (R : Value → Heap → Prop) : n48 a0 a1 a2 h R = wpK Tryz.prog lv48 (Tryz.f54.body.getD .skip) (endK Tryz.prog [.tmp 6] R) (argT [a0, a1, a2]) h := by kernel_rfl
theorem w48 {a0 a1 a2 : Value} {h : Heap} {R : Value → Heap → Prop} (hn : n48 a0 a1 a2 h R) : DetP Tryz.prog 54 [a0, a1, a2] h R :=
  DetP.of_code (rs := [.tmp 6]) (n := 3) Tryz.func54 (by kernel_rfl) (by kernel_rfl) lv48 ok48 rfl ((e48 a0 a1 a2 h R) ▸ hn)

/-! ### examiner/mutant.comparePairs: function 55 -/
def n49 (a0 a1 : Value) (h : Heap) (R : Value → Heap → Prop) : Prop :=
  okK (some (aBox Tryz.prog 55 a0 h)) fun v2 h =>
  okK (some (aBox Tryz.prog 55 a1 h)) fun v3 h =>
  mvK (Value.int IntKind.i64 0) h fun v4 h =>
  vK (aIndexAddr Tryz.prog 55 v2 (Value.int IntKind.i64 0)) h fun v5 h =>
  vK (aLoad Tryz.prog 3 v5 h) h fun v6 g =>
  VB h.length v6 ∧ (let h := g
   vK (aIndexAddr Tryz.prog 55 v3 (Value.int IntKind.i64 0)) h fun v7 h =>
   vK (aLoad Tryz.prog 3 v7 h) h fun v8 g =>
   VB h.length v8 ∧ (let h := g
    cKD Tryz.prog 39 [v6, v8] h fun v9 g =>
    (∃ new, g = h ++ new) ∧ (let h := g
     vK (aIndexAddr Tryz.prog 55 v2 (Value.int IntKind.i64 1)) h fun v10 h =>
     vK (aLoad Tryz.prog 3 v10 h) h fun v11 g =>
     VB h.length v11 ∧ (let h := g
      vK (aIndexAddr Tryz.prog 55 v3 (Value.int IntKind.i64 1)) h fun v12 h =>
      vK (aLoad Tryz.prog 3 v12 h) h fun v13 g =>
      VB h.length v13 ∧ (let h := g
       cKD Tryz.prog 39 [v11, v13] h fun v14 g =>
       (∃ new, g = h ++ new) ∧ (let h := g
        okK (aBuildSlice Tryz.prog 31 2 [(0, v9), (1, v14)] h) fun v15 h =>
        cKD Tryz.prog 38 [v15] h fun v16 g =>
        (∃ new, g = h ++ new) ∧ (let h := g
         mvK v16 h fun v4_1 h =>
         retV [some v4_1] R h)))))))
def lv49 (q : Nat) : List Nat := []
theorem ok49 : lkOK Tryz.prog lv49 Tryz.f55 2 (Tryz.f55.body.getD .skip) 55 = true := by kernel_rfl
theorem e49 (a0 a1 : Value) (h : Heap) (R : Value → Heap → Prop) : n49 a0 a1 h R = wpK Tryz.prog lv49 (Tryz.f55.body.getD .skip) (endK Tryz.prog [.tmp 4] R) (argT [a0, a1]) h := by kernel_rfl
theorem w49 {a0 a1 : Value} {h : Heap} {R : Value → Heap → Prop} (hn : n49 a0 a1 h R) : DetP Tryz.prog 55 [a0, a1] h R :=
  DetP.of_code (rs := [.tmp 4]) (n := 2) Tryz.func55 (by kernel_rfl) (by kernel_rfl) lv49 ok49 rfl ((e49 a0 a1 h R) ▸ hn)

/-! ### examiner/mutant.mutated: function 26 -/
def n50 (a0 a1 : Value) (h : Heap) (R : Value → Heap → Prop) : Prop :=
  okK (some (aBox Tryz.prog 24 a0 h)) fun v2 h =>
  okK (aAlloc Tryz.prog 24 h) fun v4 h =>
  vK (aLoad Tryz.prog 24 v2 h) h fun v8 h =>
  okK (aAlloc Tryz.prog 24 h) fun v5 h =>
  okK ((aStore Tryz.prog 24 v5 v8 h).map (undef, ·)) fun _ h =>
  vK (aFieldAddr Tryz.prog 24 v2 4) h fun v9 h =>
  vK (aLoad Tryz.prog 22 v9 h) h fun v10 h =>
  cK Tryz.prog 68 [v10] h fun v11 h =>
  vK (aFieldAddr Tryz.prog 24 v5 4) h fun v12 h =>
  okK ((aStore Tryz.prog 22 v12 v11 h).map (undef, ·)) fun _ h =>
  mvK a1 h fun v13 h =>
  vK (aLen Tryz.prog 47 v13) h fun v14 h =>
  mvK (Value.int IntKind.i64 0) h fun v15 h =>
  ∃ (I4 : List Value → Heap → Prop) (μ4 : List Value → Heap → Nat), I4 [v15] h ∧
  ∀ (h4 : Heap) (j4 : Tmps) (v15_1 : Value), I4 [v15_1] h4 → (let h := h4
   vK (aBin Tryz.prog BinOp.lss 3 v15_1 v14) h fun v16 h =>
   cnd v16 (
    seqK (fun k0 =>
     vK (aIndexAddr Tryz.prog 47 v13 v15_1) h fun v17 h =>
     vK (aLoad Tryz.prog 52 v17 h) h fun v18 h =>
     okK (aAlloc Tryz.prog 52 h) fun v7 h =>
     okK ((aStore Tryz.prog 52 v7 v18 h).map (undef, ·)) fun _ h =>
     vK (aFieldAddr Tryz.prog 52 v7 0) h fun v19 h =>
     vK (aLoad Tryz.prog 3 v19 h) h fun v20 h =>
     vK (aBin Tryz.prog BinOp.eql 3 v20 (Value.int IntKind.i64 0)) h fun v22 h =>
     mvK v22 h fun v21 h =>
     cnd v21 (
      vK (aFieldAddr Tryz.prog 24 v5 4) h fun v23 h =>
      vK (aLoad Tryz.prog 22 v23 h) h fun v24 h =>
      vK (aFieldAddr Tryz.prog 52 v7 1) h fun v25 h =>
      vK (aLoad Tryz.prog 3 v25 h) h fun v26 h =>
      vK (aFieldAddr Tryz.prog 52 v7 2) h fun v27 h =>
      vK (aLoad Tryz.prog 3 v27 h) h fun v28 h =>
      vK (aIndexAddr Tryz.prog 22 v24 v26) h fun v29 h =>
      vK (aFieldAddr Tryz.prog 87 v29 2) h fun v30 h =>
      okK ((aStore Tryz.prog 3 v30 v28 h).map (undef, ·)) fun _ h =>
      k0 [] h) (
      vK (aBin Tryz.prog BinOp.eql 3 v20 (Value.int IntKind.i64 1)) h fun v32 h =>
      mvK v32 h fun v31 h =>
      cnd v31 (
       vK (aFieldAddr Tryz.prog 24 v5 4) h fun v33 h =>
       vK (aLoad Tryz.prog 22 v33 h) h fun v34 h =>
       vK (aFieldAddr Tryz.prog 52 v7 1) h fun v35 h =>
       vK (aLoad Tryz.prog 3 v35 h) h fun v36 h =>
       vK (aFieldAddr Tryz.prog 52 v7 2) h fun v37 h =>
       vK (aLoad Tryz.prog 3 v37 h) h fun v38 h =>
       vK (aIndexAddr Tryz.prog 22 v34 v36) h fun v39 h =>
       vK (aFieldAddr Tryz.prog 87 v39 3) h fun v40 h =>
       okK ((aStore Tryz.prog 3 v40 v38 h).map (undef, ·)) fun _ h =>
       k0 [] h) (
       vK (aBin Tryz.prog BinOp.eql 3 v20 (Value.int IntKind.i64 2)) h fun v42 h =>
       mvK v42 h fun v41 h =>
       cnd v41 (
        vK (aFieldAddr Tryz.prog 52 v7 2) h fun v43 h =>
        vK (aLoad Tryz.prog 3 v43 h) h fun v44 h =>
        vK (aFieldAddr Tryz.prog 24 v5 3) h fun v45 h =>
        okK ((aStore Tryz.prog 3 v45 v44 h).map (undef, ·)) fun _ h =>
        k0 [] h) (
        vK (aBin Tryz.prog BinOp.eql 3 v20 (Value.int IntKind.i64 3)) h fun v47 h =>
        mvK v47 h fun v46 h =>
        cnd v46 (
         vK (aFieldAddr Tryz.prog 24 v5 4) h fun v48 h =>
         vK (aLoad Tryz.prog 22 v48 h) h fun v49 g =>
         VB h.length v49 ∧ (let h := g
          vK (aFieldAddr Tryz.prog 52 v7 1) h fun v50 h =>
          vK (aLoad Tryz.prog 3 v50 h) h fun v51 g =>
          VB h.length v51 ∧ (let h := g
           vK (aFieldAddr Tryz.prog 24 v5 4) h fun v52 h =>
           vK (aLoad Tryz.prog 22 v52 h) h fun v53 g =>
           VB h.length v53 ∧ (let h := g
            vK (aFieldAddr Tryz.prog 52 v7 2) h fun v54 h =>
            vK (aLoad Tryz.prog 3 v54 h) h fun v55 g =>
            VB h.length v55 ∧ (let h := g
             vK (aFieldAddr Tryz.prog 24 v2 4) h fun v56 h =>
             vK (aLoad Tryz.prog 22 v56 h) h fun v57 g =>
             VB h.length v57 ∧ (let h := g
              vK (aFieldAddr Tryz.prog 52 v7 2) h fun v58 h =>
              vK (aLoad Tryz.prog 3 v58 h) h fun v59 g =>
              VB h.length v59 ∧ (let h := g
               vK (aIndexAddr Tryz.prog 22 v57 v59) h fun v60 h =>
               vK (aFieldAddr Tryz.prog 87 v60 3) h fun v61 h =>
               vK (aLoad Tryz.prog 3 v61 h) h fun v62 g =>
               VB h.length v62 ∧ (let h := g
                vK (aFieldAddr Tryz.prog 24 v2 4) h fun v63 h =>
                vK (aLoad Tryz.prog 22 v63 h) h fun v64 g =>
                VB h.length v64 ∧ (let h := g
                 vK (aFieldAddr Tryz.prog 52 v7 1) h fun v65 h =>
                 vK (aLoad Tryz.prog 3 v65 h) h fun v66 g =>
                 VB h.length v66 ∧ (let h := g
                  vK (aIndexAddr Tryz.prog 22 v64 v66) h fun v67 h =>
                  vK (aFieldAddr Tryz.prog 87 v67 3) h fun v68 h =>
                  vK (aLoad Tryz.prog 3 v68 h) h fun v69 g =>
                  VB h.length v69 ∧ (let h := g
                   vK (aIndexAddr Tryz.prog 22 v49 v51) h fun v70 h =>
                   vK (aFieldAddr Tryz.prog 87 v70 3) h fun v71 h =>
                   okK ((aStore Tryz.prog 3 v71 v62 h).map (undef, ·)) fun _ h =>
                   ((aLoad Tryz.prog 3 v54 h).map (·, h) = some (v55, h) ∧ (aLoad Tryz.prog 22 v52 h).map (·, h) = some (v53, h) ∧ True) ∧ (
                    vK (aIndexAddr Tryz.prog 22 v53 v55) h fun v72 h =>
                    vK (aFieldAddr Tryz.prog 87 v72 3) h fun v73 h =>
                    okK ((aStore Tryz.prog 3 v73 v69 h).map (undef, ·)) fun _ h =>
                    (True) ∧ (
                     k0 [] h))))))))))))) (
         k0 [] h))))) fun x0 h => ∀ jx0 : Tmps,
     vK (aBin Tryz.prog BinOp.add 3 v15_1 (Value.int IntKind.i64 1)) h fun v74 h =>
     mvK v74 h fun v15_2 h =>
     I4 [v15_2] h ∧ μ4 [v15_2] h < μ4 [v15_1] h4) (
    vK (aLoad Tryz.prog 24 v5 h) h fun v75 h =>
    okK ((aStore Tryz.prog 24 v4 v75 h).map (undef, ·)) fun _ h =>
    retV [aLoad Tryz.prog 24 v4 h] R h))
def lv50 (q : Nat) : List Nat := bif Nat.beq q 8 then [37778931862957161676928, 15] else bif Nat.beq q 31 then [18889465931478580723840] else []
theorem ok50 : lkOK Tryz.prog lv50 Tryz.f26 2 (Tryz.f26.body.getD .skip) 26 = true := by kernel_rfl
theorem e50 (a0 a1 : Value) (h : Heap) (R : Value → Heap → Prop) : n50 a0 a1 h R = wpK Tryz.prog lv50 (Tryz.f26.body.getD .skip) (endK Tryz.prog [.cell 4 24] R) (argT [a0, a1]) h := by kernel_rfl
theorem w50 {a0 a1 : Value} {h : Heap} {R : Value → Heap → Prop} (hn : n50 a0 a1 h R) : DetP Tryz.prog 26 [a0, a1] h R :=
  DetP.of_code (rs := [.cell 4 24]) (n := 2) Tryz.func26 (by kernel_rfl) (by kernel_rfl) lv50 ok50 rfl ((e50 a0 a1 h R) ▸ hn)

/-! ### slices.Contains[[][2]int,[2]int]: function 56 -/
def n51 (a0 a1 : Value) (h : Heap) (R : Value → Heap → Prop) : Prop :=
  okK (some (aBox Tryz.prog 55 a1 h)) fun v3 h =>
  mvK (Value.bool false) h fun v4 h =>
  mvK a0 h fun v5 h =>
  vK (aLoad Tryz.prog 55 v3 h) h fun v6 h =>
  cK Tryz.prog 85 [v5, v6] h fun v7 h =>
  vK (aBin Tryz.prog BinOp.geq 3 v7 (Value.int IntKind.i64 0)) h fun v8 h =>
  mvK v8 h fun v4_1 h =>
  retV [some v4_1] R h
def lv51 (q : Nat) : List Nat := []
theorem ok51 : lkOK Tryz.prog lv51 Tryz.f56 2 (Tryz.f56.body.getD .skip) 56 = true := by kernel_rfl
theorem e51 (a0 a1 : Value) (h : Heap) (R : Value → Heap → Prop) : n51 a0 a1 h R = wpK Tryz.prog lv51 (Tryz.f56.body.getD .skip) (endK Tryz.prog [.tmp 4] R) (argT [a0, a1]) h := by kernel_rfl
theorem w51 {a0 a1 : Value} {h : Heap} {R : Value → Heap → Prop} (hn : n51 a0 a1 h R) : DetP Tryz.prog 56 [a0, a1] h R :=
  DetP.of_code (rs := [.tmp 4]) (n := 2) Tryz.func56 (by kernel_rfl) (by kernel_rfl) lv51 ok51 rfl ((e51 a0 a1 h R) ▸ hn)

/-! ### examiner/mutant.step: function 57 -/
/-! ### examiner/examinerbase.Within: function 64 -/
def n53 (a0 a1 a2 : Value) (h : Heap) (R : Value → Heap → Prop) : Prop :=
  mvK (Value.bool false) h fun v6 h =>
  mvK a1 h fun v7 h =>
  mvK a0 h fun v8 h =>
  vK (aBin Tryz.prog BinOp.leq 3 v7 v8) h fun v9 h =>
  mvK v9 h fun v10 h =>
  gdK v10 true (fun k0 =>
   mvK a0 h fun v11 h =>
   k0 v11 h) (fun v11_1 h =>
   gdK v10 true (fun k1 =>
    mvK a2 h fun v12 h =>
    k1 v12 h) (fun v12_1 h =>
    gdK v10 true (fun k2 =>
     vK (aBin Tryz.prog BinOp.leq 3 v11_1 v12_1) h fun v13 h =>
     k2 v13 h) (fun v13_1 h =>
     vK (pickV v10 v13_1 (Value.bool false)) h fun v14 h =>
     mvK v14 h fun v6_1 h =>
     retV [some v6_1] R h) h) h) h
def lv53 (q : Nat) : List Nat := []
theorem ok53 : lkOK Tryz.prog lv53 Tryz.f64 3 (Tryz.f64.body.getD .skip) 64 = true := by kernel_rfl
theorem e53 (a0 a1 a2 : Value) (h : Heap) (R : Value → Heap → Prop) : n53 a0 a1 a2 h R = wpK Tryz.prog lv53 (Tryz.f64.body.getD .skip) (endK Tryz.prog [.tmp 6] R) (argT [a0, a1, a2]) h := by kernel_rfl
theorem w53 {a0 a1 a2 : Value} {h : Heap} {R : Value → Heap → Prop} (hn : n53 a0 a1 a2 h R) : DetP Tryz.prog 64 [a0, a1, a2] h R :=
  DetP.of_code (rs := [.tmp 6]) (n := 3) Tryz.func64 (by kernel_rfl) (by kernel_rfl) lv53 ok53 rfl ((e53 a0 a1 a2 h R) ▸ hn)

/-! ### examiner/examinerbase.CompareInts: function 61 -/
def n54 (a0 a1 : Value) (h : Heap) (R : Value → Heap → Prop) : Prop :=
  mvK (Value.int IntKind.i64 0) h fun v4 h =>
  mvK (Value.int IntKind.i64 0) h fun v5 h =>
  ∃ (I2 : List Value → Heap → Prop) (μ2 : List Value → Heap → Nat), I2 [v5] h ∧
  ∀ (h2 : Heap) (j2 : Tmps) (v5_1 : Value), I2 [v5_1] h2 → (let h := h2
   mvK v5_1 h fun v6 h =>
   mvK a0 h fun v7 h =>
   vK (aLen Tryz.prog 31 v7) h fun v8 h =>
   vK (aBin Tryz.prog BinOp.lss 3 v6 v8) h fun v9 h =>
   mvK v9 h fun v10 h =>
   gdK v10 true (fun k0 =>
    mvK v5_1 h fun v11 h =>
    k0 v11 h) (fun v11_1 h =>
    gdK v10 true (fun k1 =>
     mvK a1 h fun v12 h =>
     k1 v12 h) (fun v12_1 h =>
     gdK v10 true (fun k2 =>
      vK (aLen Tryz.prog 31 v12_1) h fun v13 h =>
      k2 v13 h) (fun v13_1 h =>
      gdK v10 true (fun k3 =>
       vK (aBin Tryz.prog BinOp.lss 3 v11_1 v13_1) h fun v14 h =>
       k3 v14 h) (fun v14_1 h =>
       vK (pickV v10 v14_1 (Value.bool false)) h fun v15 h =>
       cnd v15 (
        mvK a0 h fun v18 h =>
        mvK v5_1 h fun v19 h =>
        vK (aIndexAddr Tryz.prog 31 v18 v19) h fun v20 h =>
        vK (aLoad Tryz.prog 3 v20 h) h fun v21 g =>
        VB h.length v21 ∧ (let h := g
         mvK a1 h fun v22 h =>
         mvK v5_1 h fun v23 h =>
         vK (aIndexAddr Tryz.prog 31 v22 v23) h fun v24 h =>
         vK (aLoad Tryz.prog 3 v24 h) h fun v25 g =>
         VB h.length v25 ∧ (let h := g
          vK (aBin Tryz.prog BinOp.neq 3 v21 v25) h fun v26 h =>
          cnd v26 (
           mvK a0 h fun v27 h =>
           mvK v5_1 h fun v28 h =>
           vK (aIndexAddr Tryz.prog 31 v27 v28) h fun v29 h =>
           vK (aLoad Tryz.prog 3 v29 h) h fun v30 g =>
           VB h.length v30 ∧ (let h := g
            mvK a1 h fun v31 h =>
            mvK v5_1 h fun v32 h =>
            vK (aIndexAddr Tryz.prog 31 v31 v32) h fun v33 h =>
            vK (aLoad Tryz.prog 3 v33 h) h fun v34 g =>
            VB h.length v34 ∧ (let h := g
             vK (aBin Tryz.prog BinOp.gtr 3 v30 v34) h fun v35 h =>
             cKD Tryz.prog 52 [v35] h fun v36 g =>
             (∃ new, g = h ++ new) ∧ (let h := g
              vK (aBin Tryz.prog BinOp.mul 3 (Value.int IntKind.i64 2) v36) h fun v37 h =>
              vK (aBin Tryz.prog BinOp.sub 3 v37 (Value.int IntKind.i64 1)) h fun v38 h =>
              mvK v38 h fun v4_1 h =>
              retV [some v4_1] R h)))) (
           mvK v5_1 h fun v16 h =>
           vK (aBin Tryz.prog BinOp.add 3 v16 (Value.int IntKind.i64 1)) h fun v17 h =>
           mvK v17 h fun v5_2 h =>
           I2 [v5_2] h ∧ μ2 [v5_2] h < μ2 [v5_1] h2)))) (
        mvK a0 h fun v39 h =>
        vK (aLen Tryz.prog 31 v39) h fun v40 h =>
        mvK a1 h fun v41 h =>
        vK (aLen Tryz.prog 31 v41) h fun v42 h =>
        vK (aBin Tryz.prog BinOp.gtr 3 v40 v42) h fun v43 h =>
        cK Tryz.prog 52 [v43] h fun v44 h =>
        mvK a0 h fun v45 h =>
        vK (aLen Tryz.prog 31 v45) h fun v46 h =>
        mvK a1 h fun v47 h =>
        vK (aLen Tryz.prog 31 v47) h fun v48 h =>
        vK (aBin Tryz.prog BinOp.lss 3 v46 v48) h fun v49 h =>
        cK Tryz.prog 52 [v49] h fun v50 h =>
        vK (aBin Tryz.prog BinOp.sub 3 v44 v50) h fun v51 h =>
        mvK v51 h fun v4_2 h =>
        retV [some v4_2] R h)) h) h) h) h)
def lv54 (q : Nat) : List Nat := bif Nat.beq q 4 then [549755813872, 5] else []
theorem ok54 : lkOK Tryz.prog lv54 Tryz.f61 2 (Tryz.f61.body.getD .skip) 61 = true := by kernel_rfl
theorem e54 (a0 a1 : Value) (h : Heap) (R : Value → Heap → Prop) : n54 a0 a1 h R = wpK Tryz.prog lv54 (Tryz.f61.body.getD .skip) (endK Tryz.prog [.tmp 4] R) (argT [a0, a1]) h := by kernel_rfl
theorem w54 {a0 a1 : Value} {h : Heap} {R : Value → Heap → Prop} (hn : n54 a0 a1 h R) : DetP Tryz.prog 61 [a0, a1] h R :=
  DetP.of_code (rs := [.tmp 4]) (n := 2) Tryz.func61 (by kernel_rfl) (by kernel_rfl) lv54 ok54 rfl ((e54 a0 a1 h R) ▸ hn)

/-! ### examiner/mutant.mutantErr: function 84 -/
def n57 (a0 a1 : Value) (h : Heap) (R : Value → Heap → Prop) : Prop :=
  okK (some (aBox Tryz.prog 24 a0 h)) fun v2 h =>
  mvK (Value.int IntKind.i64 0) h fun v4 h =>
  mvK (Value.int IntKind.i64 0) h fun v5 h =>
  mvK a1 h fun v11 h =>
  vK (aLen Tryz.prog 47 v11) h fun v12 h =>
  vK (aBin Tryz.prog BinOp.gtr 3 v12 (Value.int IntKind.i64 4)) h fun v13 h =>
  cnd v13 (
   mvK (Value.int IntKind.i64 0) h fun v4_1 h =>
   mvK (Value.int IntKind.i64 2) h fun v5_1 h =>
   retV [some v4_1, some v5_1] R h) (
   mvK a1 h fun v14 h =>
   vK (aLen Tryz.prog 47 v14) h fun v15 h =>
   mvK (Value.int IntKind.i64 0) h fun v16 h =>
   ∃ (I4 : List Value → Heap → Prop) (μ4 : List Value → Heap → Nat), I4 [v16] h ∧
   ∀ (h4 : Heap) (j4 : Tmps) (v16_1 : Value), I4 [v16_1] h4 → (let h := h4
    vK (aBin Tryz.prog BinOp.lss 3 v16_1 v15) h fun v17 h =>
    cnd v17 (
     mvK v16_1 h fun v18 h =>
     vK (aIndexAddr Tryz.prog 47 v14 v16_1) h fun v19 h =>
     vK (aLoad Tryz.prog 52 v19 h) h fun v20 h =>
     okK (aAlloc Tryz.prog 52 h) fun v7 h =>
     mvK v18 h fun v6 h =>
     okK ((aStore Tryz.prog 52 v7 v20 h).map (undef, ·)) fun _ h =>
     mvK v6 h fun v21 h =>
     vK (aBin Tryz.prog BinOp.eql 3 v21 (Value.int IntKind.i64 0)) h fun v22 h =>
     mvK v22 h fun v23 h =>
     gdK v23 false (fun k0 =>
      mvK a1 h fun v24 h =>
      k0 v24 h) (fun v24_1 h =>
      gdK v23 false (fun k1 =>
       mvK v6 h fun v25 h =>
       k1 v25 h) (fun v25_1 h =>
       gdK v23 false (fun k2 =>
        vK (aBin Tryz.prog BinOp.sub 3 v25_1 (Value.int IntKind.i64 1)) h fun v26 h =>
        k2 v26 h) (fun v26_1 h =>
        gdK v23 false (fun k3 =>
         vK (aIndexAddr Tryz.prog 47 v24_1 v26_1) h fun v27 h =>
         k3 v27 h) (fun v27_1 h =>
         gdK v23 false (fun k4 =>
          vK (aLoad Tryz.prog 52 v27_1 h) h fun v28 g =>
          VB h.length v28 ∧ (let h := g
           k4 v28 h)) (fun v28_1 h =>
          gdK v23 false (fun k5 =>
           vK (aLoad Tryz.prog 52 v7 h) h fun v29 g =>
           VB h.length v29 ∧ (let h := g
            k5 v29 h)) (fun v29_1 h =>
           gdK v23 false (fun k6 =>
            cKD Tryz.prog 51 [v28_1, v29_1] h fun v30 g =>
            (∃ new, g = h ++ new) ∧ (let h := g
             k6 v30 h)) (fun v30_1 h =>
            gdK v23 false (fun k7 =>
             vK (aBin Tryz.prog BinOp.lss 3 v30_1 (Value.int IntKind.i64 0)) h fun v31 h =>
             k7 v31 h) (fun v31_1 h =>
             vK (pickV v23 (Value.bool true) v31_1) h fun v32 h =>
             mvK v32 h fun v33 h =>
             gdK v33 true (fun k8 =>
              vK (aFieldAddr Tryz.prog 52 v7 0) h fun v34 h =>
              k8 v34 h) (fun v34_1 h =>
              gdK v33 true (fun k9 =>
               vK (aLoad Tryz.prog 3 v34_1 h) h fun v35 g =>
               VB h.length v35 ∧ (let h := g
                k9 v35 h)) (fun v35_1 h =>
               gdK v33 true (fun k10 =>
                vK (aBin Tryz.prog BinOp.neq 3 v35_1 (Value.int IntKind.i64 3)) h fun v36 h =>
                k10 v36 h) (fun v36_1 h =>
                gdK v33 true (fun k11 =>
                 mvK v36_1 h fun v37 h =>
                 k11 v37 h) (fun v37_1 h =>
                 gdK v37_1 false (fun k12 =>
                  vK (aFieldAddr Tryz.prog 52 v7 1) h fun v38 h =>
                  k12 v38 h) (fun v38_1 h =>
                  gdK v37_1 false (fun k13 =>
                   vK (aLoad Tryz.prog 3 v38_1 h) h fun v39 g =>
                   VB h.length v39 ∧ (let h := g
                    k13 v39 h)) (fun v39_1 h =>
                   gdK v37_1 false (fun k14 =>
                    vK (aFieldAddr Tryz.prog 52 v7 2) h fun v40 h =>
                    k14 v40 h) (fun v40_1 h =>
                    gdK v37_1 false (fun k15 =>
                     vK (aLoad Tryz.prog 3 v40_1 h) h fun v41 g =>
                     VB h.length v41 ∧ (let h := g
                      k15 v41 h)) (fun v41_1 h =>
                     gdK v37_1 false (fun k16 =>
                      vK (aBin Tryz.prog BinOp.lss 3 v39_1 v41_1) h fun v42 h =>
                      k16 v42 h) (fun v42_1 h =>
                      gdK v33 true (fun k17 =>
                       vK (pickV v37_1 (Value.bool true) v42_1) h fun v43 h =>
                       k17 v43 h) (fun v43_1 h =>
                       vK (pickV v33 v43_1 (Value.bool false)) h fun v44 h =>
                       mvK v44 h fun v8 h =>
                       mvK (Value.func (Fn.func 113) #[] #[v7]) h fun v45 h =>
                       mvK v45 h fun v9 h =>
                       vK (aFieldAddr Tryz.prog 52 v7 0) h fun v46 h =>
                       vK (aLoad Tryz.prog 3 v46 h) h fun v47 h =>
                       cK Tryz.prog 54 [v47, (Value.int IntKind.i64 0), (Value.int IntKind.i64 3)] h fun v48 h =>
                       vK (aUn UnOp.not v48) h fun v49 h =>
                       cnd v49 (
                        mvK v6 h fun v50 h =>
                        mvK v50 h fun v4_2 h =>
                        mvK (Value.int IntKind.i64 4) h fun v5_2 h =>
                        retV [some v4_2, some v5_2] R h) (
                        vK (aLoad Tryz.prog 24 v2 h) h fun v51 g =>
                        VB h.length v51 ∧ (let h := g
                         vK (aLoad Tryz.prog 52 v7 h) h fun v52 g =>
                         VB h.length v52 ∧ (let h := g
                          cKD Tryz.prog 115 [v51, v52] h fun v53 g =>
                          (∃ new, g = h ++ new) ∧ (let h := g
                           cKD Tryz.prog 65 [v53, (Value.int IntKind.i64 3)] h fun v54 g =>
                           (∃ new, g = h ++ new) ∧ (let h := g
                            mvK v8 h fun v55 h =>
                            cKD Tryz.prog 65 [v55, (Value.int IntKind.i64 14)] h fun v56 g =>
                            (∃ new, g = h ++ new) ∧ (let h := g
                             mvK a1 h fun v57 h =>
                             mvK v6 h fun v58 h =>
                             vK (aSlice Tryz.prog 47 v57 none (some v58) none h) h fun v59 g =>
                             VB h.length v59 ∧ (let h := g
                              mvK v9 h fun v60 h =>
                              cKD Tryz.prog 116 [v59, v60] h fun v61 g =>
                              (∃ new, g = h ++ new) ∧ (let h := g
                               vK (aUn UnOp.not v61) h fun v62 h =>
                               cKD Tryz.prog 65 [v62, (Value.int IntKind.i64 13)] h fun v63 g =>
                               (∃ new, g = h ++ new) ∧ (let h := g
                                okK (aBuildSlice Tryz.prog 100 3 [(0, v54), (1, v56), (2, v63)] h) fun v64 h =>
                                cKD Tryz.prog 23 [v64] h fun v65 g =>
                                (∃ new, g = h ++ new) ∧ (let h := g
                                 mvK v65 h fun v10 h =>
                                 mvK v10 h fun v66 h =>
                                 vK (aBin Tryz.prog BinOp.neq 34 v66 (Value.int IntKind.i64 0)) h fun v67 h =>
                                 cnd v67 (
                                  mvK v6 h fun v68 h =>
                                  mvK v10 h fun v69 h =>
                                  mvK v68 h fun v4_3 h =>
                                  mvK v69 h fun v5_3 h =>
                                  retV [some v4_3, some v5_3] R h) (
                                  vK (aBin Tryz.prog BinOp.add 3 v16_1 (Value.int IntKind.i64 1)) h fun v70 h =>
                                  mvK v70 h fun v16_2 h =>
                                  I4 [v16_2] h ∧ μ4 [v16_2] h < μ4 [v16_1] h4)))))))))))) h) h) h) h) h) h) h) h) h) h) h) h) h) h) h) h) h) h) (
     mvK (Value.int IntKind.i64 0) h fun v4_4 h =>
     mvK (Value.int IntKind.i64 0) h fun v5_4 h =>
     retV [some v4_4, some v5_4] R h)))
def lv57 (q : Nat) : List Nat := bif Nat.beq q 8 then [2361183241434822543344, 16] else []
theorem ok57 : lkOK Tryz.prog lv57 Tryz.f84 2 (Tryz.f84.body.getD .skip) 84 = true := by kernel_rfl
theorem e57 (a0 a1 : Value) (h : Heap) (R : Value → Heap → Prop) : n57 a0 a1 h R = wpK Tryz.prog lv57 (Tryz.f84.body.getD .skip) (endK Tryz.prog [.tmp 4, .tmp 5] R) (argT [a0, a1]) h := by kernel_rfl
theorem w57 {a0 a1 : Value} {h : Heap} {R : Value → Heap → Prop} (hn : n57 a0 a1 h R) : DetP Tryz.prog 84 [a0, a1] h R :=
  DetP.of_code (rs := [.tmp 4, .tmp 5]) (n := 2) Tryz.func84 (by kernel_rfl) (by kernel_rfl) lv57 ok57 rfl ((e57 a0 a1 h R) ▸ hn)

/-! ### examiner/examinerref41.mutationErr: function 60 -/
def n58 (a0 a1 : Value) (h : Heap) (R : Value → Heap → Prop) : Prop :=
  okK (some (aBox Tryz.prog 24 a0 h)) fun v2 h =>
  okK (some (aBox Tryz.prog 52 a1 h)) fun v3 h =>
  mvK (Value.int IntKind.i64 0) h fun v4 h =>
  vK (aFieldAddr Tryz.prog 52 v3 0) h fun v7 h =>
  vK (aLoad Tryz.prog 3 v7 h) h fun v8 h =>
  cK Tryz.prog 64 [v8, (Value.int IntKind.i64 0), (Value.int IntKind.i64 3)] h fun v9 h =>
  vK (aUn UnOp.not v9) h fun v10 h =>
  cnd v10 (
   mvK (Value.int IntKind.i64 4) h fun v4_1 h =>
   retV [some v4_1] R h) (
   vK (aFieldAddr Tryz.prog 24 v2 4) h fun v11 h =>
   vK (aLoad Tryz.prog 22 v11 h) h fun v12 g =>
   VB h.length v12 ∧ (let h := g
    vK (aLen Tryz.prog 22 v12) h fun v13 h =>
    vK (aBin Tryz.prog BinOp.sub 3 v13 (Value.int IntKind.i64 1)) h fun v14 h =>
    vK (aFieldAddr Tryz.prog 24 v2 0) h fun v15 h =>
    vK (aLoad Tryz.prog 3 v15 h) h fun v16 g =>
    VB h.length v16 ∧ (let h := g
     vK (aBin Tryz.prog BinOp.sub 3 v16 (Value.int IntKind.i64 1)) h fun v17 h =>
     mvK v14 h fun v5 h =>
     mvK v17 h fun v6 h =>
     seqK (fun k0 =>
      vK (aFieldAddr Tryz.prog 52 v3 0) h fun v18 h =>
      vK (aLoad Tryz.prog 3 v18 h) h fun v19 h =>
      vK (aBin Tryz.prog BinOp.eql 3 v19 (Value.int IntKind.i64 0)) h fun v20 h =>
      cnd v20 (
       vK (aFieldAddr Tryz.prog 24 v2 2) h fun v21 h =>
       vK (aLoad Tryz.prog 3 v21 h) h fun v22 h =>
       vK (aBin Tryz.prog BinOp.sub 3 v22 (Value.int IntKind.i64 1)) h fun v23 h =>
       mvK v23 h fun v6_1 h =>
       k0 [v6_1] h) (
       k0 [v6] h)) fun x0 h => ∀ jx0 : Tmps,
      let v6_2 : Value := nth x0 0
      seqK (fun k1 =>
       vK (aFieldAddr Tryz.prog 52 v3 0) h fun v24 h =>
       vK (aLoad Tryz.prog 3 v24 h) h fun v25 h =>
       vK (aBin Tryz.prog BinOp.eql 3 v25 (Value.int IntKind.i64 2)) h fun v26 h =>
       cnd v26 (
        mvK (Value.int IntKind.i64 0) h fun v5_1 h =>
        k1 [v5_1] h) (
        k1 [v5] h)) fun x1 h => ∀ jx1 : Tmps,
       let v5_2 : Value := nth x1 0
       seqK (fun k2 =>
        vK (aFieldAddr Tryz.prog 52 v3 0) h fun v27 h =>
        vK (aLoad Tryz.prog 3 v27 h) h fun v28 h =>
        vK (aBin Tryz.prog BinOp.eql 3 v28 (Value.int IntKind.i64 3)) h fun v29 h =>
        cnd v29 (
         vK (aFieldAddr Tryz.prog 24 v2 4) h fun v30 h =>
         vK (aLoad Tryz.prog 22 v30 h) h fun v31 h =>
         vK (aLen Tryz.prog 22 v31) h fun v32 h =>
         vK (aBin Tryz.prog BinOp.sub 3 v32 (Value.int IntKind.i64 1)) h fun v33 h =>
         mvK v33 h fun v6_3 h =>
         k2 [v6_3] h) (
         k2 [v6_2] h)) fun x2 h => ∀ jx2 : Tmps,
        let v6_4 : Value := nth x2 0
        vK (aFieldAddr Tryz.prog 52 v3 1) h fun v34 h =>
        vK (aLoad Tryz.prog 3 v34 h) h fun v35 h =>
        mvK v5_2 h fun v36 h =>
        cK Tryz.prog 64 [v35, (Value.int IntKind.i64 0), v36] h fun v37 h =>
        vK (aUn UnOp.not v37) h fun v38 h =>
        mvK v38 h fun v39 h =>
        gdK v39 false (fun k3 =>
         vK (aFieldAddr Tryz.prog 52 v3 2) h fun v40 h =>
         k3 v40 h) (fun v40_1 h =>
         gdK v39 false (fun k4 =>
          vK (aLoad Tryz.prog 3 v40_1 h) h fun v41 h =>
          k4 v41 h) (fun v41_1 h =>
          gdK v39 false (fun k5 =>
           mvK v6_4 h fun v42 h =>
           k5 v42 h) (fun v42_1 h =>
           gdK v39 false (fun k6 =>
            cK Tryz.prog 64 [v41_1, (Value.int IntKind.i64 0), v42_1] h fun v43 h =>
            k6 v43 h) (fun v43_1 h =>
            gdK v39 false (fun k7 =>
             vK (aUn UnOp.not v43_1) h fun v44 h =>
             k7 v44 h) (fun v44_1 h =>
             vK (pickV v39 (Value.bool true) v44_1) h fun v45 h =>
             cnd v45 (
              mvK (Value.int IntKind.i64 3) h fun v4_2 h =>
              retV [some v4_2] R h) (
              mvK (Value.int IntKind.i64 0) h fun v4_3 h =>
              retV [some v4_3] R h)) h) h) h) h) h)))
def lv58 (q : Nat) : List Nat := bif Nat.beq q 13 then [16515136, 6] else bif Nat.beq q 17 then [117440544, 5] else bif Nat.beq q 21 then [17045651520, 6] else []
theorem ok58 : lkOK Tryz.prog lv58 Tryz.f60 2 (Tryz.f60.body.getD .skip) 60 = true := by kernel_rfl
theorem e58 (a0 a1 : Value) (h : Heap) (R : Value → Heap → Prop) : n58 a0 a1 h R = wpK Tryz.prog lv58 (Tryz.f60.body.getD .skip) (endK Tryz.prog [.tmp 4] R) (argT [a0, a1]) h := by kernel_rfl
theorem w58 {a0 a1 : Value} {h : Heap} {R : Value → Heap → Prop} (hn : n58 a0 a1 h R) : DetP Tryz.prog 60 [a0, a1] h R :=
  DetP.of_code (rs := [.tmp 4]) (n := 2) Tryz.func60 (by kernel_rfl) (by kernel_rfl) lv58 ok58 rfl ((e58 a0 a1 h R) ▸ hn)

/-! ### examiner/examinerref41.list: function 62 -/
def n59 (a0 : Value) (h : Heap) (R : Value → Heap → Prop) : Prop :=
  okK (some (aBox Tryz.prog 52 a0 h)) fun v1 h =>
  mvK (Value.slice none 0 0) h fun v2 h =>
  vK (aFieldAddr Tryz.prog 52 v1 0) h fun v3 h =>
  vK (aLoad Tryz.prog 3 v3 h) h fun v4 h =>
  vK (aFieldAddr Tryz.prog 52 v1 1) h fun v5 h =>
  vK (aLoad Tryz.prog 3 v5 h) h fun v6 h =>
  vK (aFieldAddr Tryz.prog 52 v1 2) h fun v7 h =>
  vK (aLoad Tryz.prog 3 v7 h) h fun v8 h =>
  okK (aBuildSlice Tryz.prog 31 3 [(0, v4), (1, v6), (2, v8)] h) fun v9 h =>
  mvK v9 h fun v2_1 h =>
  retV [some v2_1] R h
def lv59 (q : Nat) : List Nat := []
theorem ok59 : lkOK Tryz.prog lv59 Tryz.f62 1 (Tryz.f62.body.getD .skip) 62 = true := by kernel_rfl
theorem e59 (a0 : Value) (h : Heap) (R : Value → Heap → Prop) : n59 a0 h R = wpK Tryz.prog lv59 (Tryz.f62.body.getD .skip) (endK Tryz.prog [.tmp 2] R) (argT [a0]) h := by kernel_rfl
theorem w59 {a0 : Value} {h : Heap} {R : Value → Heap → Prop} (hn : n59 a0 h R) : DetP Tryz.prog 62 [a0] h R :=
  DetP.of_code (rs := [.tmp 2]) (n := 1) Tryz.func62 (by kernel_rfl) (by kernel_rfl) lv59 ok59 rfl ((e59 a0 h R) ▸ hn)

/-! ### examiner/examinerref41.clash: function 63 -/
def n60 (a0 a1 : Value) (h : Heap) (R : Value → Heap → Prop) : Prop :=
  okK (some (aBox Tryz.prog 52 a0 h)) fun v2 h =>
  okK (some (aBox Tryz.prog 52 a1 h)) fun v3 h =>
  mvK (Value.bool false) h fun v4 h =>
  vK (aFieldAddr Tryz.prog 52 v2 0) h fun v8 h =>
  vK (aLoad Tryz.prog 3 v8 h) h fun v9 h =>
  vK (aBin Tryz.prog BinOp.eql 3 v9 (Value.int IntKind.i64 0)) h fun v10 h =>
  mvK v10 h fun v11 h =>
  gdK v11 false (fun k0 =>
   vK (aFieldAddr Tryz.prog 52 v3 0) h fun v12 h =>
   k0 v12 h) (fun v12_1 h =>
   gdK v11 false (fun k1 =>
    vK (aLoad Tryz.prog 3 v12_1 h) h fun v13 h =>
    k1 v13 h) (fun v13_1 h =>
    gdK v11 false (fun k2 =>
     vK (aBin Tryz.prog BinOp.eql 3 v13_1 (Value.int IntKind.i64 0)) h fun v14 h =>
     k2 v14 h) (fun v14_1 h =>
     vK (pickV v11 (Value.bool true) v14_1) h fun v15 h =>
     cnd v15 (
      vK (aFieldAddr Tryz.prog 52 v2 0) h fun v16 h =>
      vK (aLoad Tryz.prog 3 v16 h) h fun v17 h =>
      vK (aFieldAddr Tryz.prog 52 v3 0) h fun v18 h =>
      vK (aLoad Tryz.prog 3 v18 h) h fun v19 h =>
      vK (aBin Tryz.prog BinOp.eql 3 v17 v19) h fun v20 h =>
      mvK v20 h fun v21 h =>
      gdK v21 true (fun k3 =>
       vK (aFieldAddr Tryz.prog 52 v2 1) h fun v22 h =>
       k3 v22 h) (fun v22_1 h =>
       gdK v21 true (fun k4 =>
        vK (aLoad Tryz.prog 3 v22_1 h) h fun v23 h =>
        k4 v23 h) (fun v23_1 h =>
        gdK v21 true (fun k5 =>
         vK (aFieldAddr Tryz.prog 52 v3 1) h fun v24 h =>
         k5 v24 h) (fun v24_1 h =>
         gdK v21 true (fun k6 =>
          vK (aLoad Tryz.prog 3 v24_1 h) h fun v25 h =>
          k6 v25 h) (fun v25_1 h =>
          gdK v21 true (fun k7 =>
           vK (aBin Tryz.prog BinOp.eql 3 v23_1 v25_1) h fun v26 h =>
           k7 v26 h) (fun v26_1 h =>
           vK (pickV v21 v26_1 (Value.bool false)) h fun v27 h =>
           mvK v27 h fun v4_1 h =>
           retV [some v4_1] R h) h) h) h) h) h) (
      vK (aFieldAddr Tryz.prog 52 v2 0) h fun v28 h =>
      vK (aLoad Tryz.prog 3 v28 h) h fun v29 h =>
      vK (aBin Tryz.prog BinOp.eql 3 v29 (Value.int IntKind.i64 2)) h fun v30 h =>
      mvK v30 h fun v31 h =>
      gdK v31 false (fun k8 =>
       vK (aFieldAddr Tryz.prog 52 v3 0) h fun v32 h =>
       k8 v32 h) (fun v32_1 h =>
       gdK v31 false (fun k9 =>
        vK (aLoad Tryz.prog 3 v32_1 h) h fun v33 h =>
        k9 v33 h) (fun v33_1 h =>
        gdK v31 false (fun k10 =>
         vK (aBin Tryz.prog BinOp.eql 3 v33_1 (Value.int IntKind.i64 2)) h fun v34 h =>
         k10 v34 h) (fun v34_1 h =>
         vK (pickV v31 (Value.bool true) v34_1) h fun v35 h =>
         cnd v35 (
          vK (aFieldAddr Tryz.prog 52 v2 0) h fun v36 h =>
          vK (aLoad Tryz.prog 3 v36 h) h fun v37 h =>
          vK (aFieldAddr Tryz.prog 52 v3 0) h fun v38 h =>
          vK (aLoad Tryz.prog 3 v38 h) h fun v39 h =>
          vK (aBin Tryz.prog BinOp.eql 3 v37 v39) h fun v40 h =>
          mvK v40 h fun v4_2 h =>
          retV [some v4_2] R h) (
          vK (aLoad Tryz.prog 52 v2 h) h fun v41 g =>
          VB h.length v41 ∧ (let h := g
           cKD Tryz.prog 88 [v41] h fun v42 g =>
           (∃ new, g = h ++ new) ∧ (let h := g
            vK (aLoad Tryz.prog 52 v3 h) h fun v43 g =>
            VB h.length v43 ∧ (let h := g
             cKD Tryz.prog 88 [v43] h fun v44 g =>
             (∃ new, g = h ++ new) ∧ (let h := g
              mvK v42 h fun v5 h =>
              mvK v44 h fun v6 h =>
              mvK (Value.int IntKind.i64 0) h fun v7 h =>
              ∃ (I7 : List Value → Heap → Prop) (μ7 : List Value → Heap → Nat), I7 [v7] h ∧
              ∀ (h7 : Heap) (j7 : Tmps) (v7_1 : Value), I7 [v7_1] h7 → (let h := h7
               mvK v7_1 h fun v45 h =>
               mvK v5 h fun v46 h =>
               vK (aLen Tryz.prog 31 v46) h fun v47 h =>
               vK (aBin Tryz.prog BinOp.lss 3 v45 v47) h fun v48 h =>
               cnd v48 (
                mvK v6 h fun v51 h =>
                mvK v5 h fun v52 h =>
                mvK v7_1 h fun v53 h =>
                vK (aIndexAddr Tryz.prog 31 v52 v53) h fun v54 h =>
                vK (aLoad Tryz.prog 3 v54 h) h fun v55 h =>
                cK Tryz.prog 89 [v51, v55] h fun v56 h =>
                cnd v56 (
                 mvK (Value.bool true) h fun v4_3 h =>
                 retV [some v4_3] R h) (
                 mvK v7_1 h fun v49 h =>
                 vK (aBin Tryz.prog BinOp.add 3 v49 (Value.int IntKind.i64 1)) h fun v50 h =>
                 mvK v50 h fun v7_2 h =>
                 I7 [v7_2] h ∧ μ7 [v7_2] h < μ7 [v7_1] h7)) (
                mvK (Value.bool false) h fun v4_4 h =>
                retV [some v4_4] R h)))))))) h) h) h)) h) h) h
def lv60 (q : Nat) : List Nat := bif Nat.beq q 14 then [144080003703767184, 7] else []
theorem ok60 : lkOK Tryz.prog lv60 Tryz.f63 2 (Tryz.f63.body.getD .skip) 63 = true := by kernel_rfl
theorem e60 (a0 a1 : Value) (h : Heap) (R : Value → Heap → Prop) : n60 a0 a1 h R = wpK Tryz.prog lv60 (Tryz.f63.body.getD .skip) (endK Tryz.prog [.tmp 4] R) (argT [a0, a1]) h := by kernel_rfl
theorem w60 {a0 a1 : Value} {h : Heap} {R : Value → Heap → Prop} (hn : n60 a0 a1 h R) : DetP Tryz.prog 63 [a0, a1] h R :=
  DetP.of_code (rs := [.tmp 4]) (n := 2) Tryz.func63 (by kernel_rfl) (by kernel_rfl) lv60 ok60 rfl ((e60 a0 a1 h R) ▸ hn)

end Go.Proofs.YtomiejfeclefaaaGreat

set_option linter.unusedVariables false
set_option maxRecDepth 100000
namespace Go.Proofs.YtomiejfeclefaaaGreat
open Go.AM

/-! ### examiner/examinerbase.Count: function 52 -/
def n72 (a0 : Value) (h : Heap) (R : Value → Heap → Prop) : Prop :=
  mvK (Value.int IntKind.i64 0) h fun v2 h =>
  mvK a0 h fun v3 h =>
  cnd v3 (
   mvK (Value.int IntKind.i64 1) h fun v2_1 h =>
   retV [some v2_1] R h) (
   mvK (Value.int IntKind.i64 0) h fun v2_2 h =>
   retV [some v2_2] R h)
def lv72 (q : Nat) : List Nat := []
theorem ok72 : lkOK Tryz.prog lv72 Tryz.f52 1 (Tryz.f52.body.getD .skip) 52 = true := by kernel_rfl
theorem e72 (a0 : Value) (h : Heap) (R : Value → Heap → Prop) : n72 a0 h R = wpK Tryz.prog lv72 (Tryz.f52.body.getD .skip) (endK Tryz.prog [.tmp 2] R) (argT [a0]) h := by kernel_rfl
theorem w72 {a0 : Value} {h : Heap} {R : Value → Heap → Prop} (hn : n72 a0 h R) : DetP Tryz.prog 52 [a0] h R :=
  DetP.of_code (rs := [.tmp 2]) (n := 1) Tryz.func52 (by kernel_rfl) (by kernel_rfl) lv72 ok72 rfl ((e72 a0 h R) ▸ hn)

/-! ### examiner/examinerref37.MachineErr: function 86 -/
def n73 (a0 : Value) (h : Heap) (R : Value → Heap → Prop) : Prop :=
  okK (some (aBox Tryz.prog 24 a0 h)) fun v1 h =>
  mvK (Value.int IntKind.i64 0) h fun v2 h =>
  mvK (Value.int IntKind.i64 0) h fun v3 h =>
  vK (aFieldAddr Tryz.prog 24 v1 0) h fun v6 h =>
  vK (aLoad Tryz.prog 3 v6 h) h fun v7 h =>
  cK Tryz.prog 64 [v7, (Value.int IntKind.i64 1), (Value.int IntKind.i64 40)] h fun v8 h =>
  vK (aUn UnOp.not v8) h fun v9 h =>
  mvK v9 h fun v10 h =>
  gdK v10 false (fun k0 =>
   vK (aFieldAddr Tryz.prog 24 v1 1) h fun v11 h =>
   k0 v11 h) (fun v11_1 h =>
   gdK v10 false (fun k1 =>
    vK (aLoad Tryz.prog 3 v11_1 h) h fun v12 h =>
    k1 v12 h) (fun v12_1 h =>
    gdK v10 false (fun k2 =>
     cK Tryz.prog 64 [v12_1, (Value.int IntKind.i64 1), (Value.int IntKind.i64 8)] h fun v13 h =>
     k2 v13 h) (fun v13_1 h =>
     gdK v10 false (fun k3 =>
      vK (aUn UnOp.not v13_1) h fun v14 h =>
      k3 v14 h) (fun v14_1 h =>
      vK (pickV v10 (Value.bool true) v14_1) h fun v15 h =>
      mvK v15 h fun v16 h =>
      gdK v16 false (fun k4 =>
       vK (aFieldAddr Tryz.prog 24 v1 2) h fun v17 h =>
       k4 v17 h) (fun v17_1 h =>
       gdK v16 false (fun k5 =>
        vK (aLoad Tryz.prog 3 v17_1 h) h fun v18 h =>
        k5 v18 h) (fun v18_1 h =>
        gdK v16 false (fun k6 =>
         cK Tryz.prog 64 [v18_1, (Value.int IntKind.i64 1), (Value.int IntKind.i64 8)] h fun v19 h =>
         k6 v19 h) (fun v19_1 h =>
         gdK v16 false (fun k7 =>
          vK (aUn UnOp.not v19_1) h fun v20 h =>
          k7 v20 h) (fun v20_1 h =>
          vK (pickV v16 (Value.bool true) v20_1) h fun v21 h =>
          mvK v21 h fun v22 h =>
          gdK v22 false (fun k8 =>
           vK (aFieldAddr Tryz.prog 24 v1 3) h fun v23 h =>
           k8 v23 h) (fun v23_1 h =>
           gdK v22 false (fun k9 =>
            vK (aLoad Tryz.prog 3 v23_1 h) h fun v24 h =>
            k9 v24 h) (fun v24_1 h =>
            gdK v22 false (fun k10 =>
             vK (aFieldAddr Tryz.prog 24 v1 0) h fun v25 h =>
             k10 v25 h) (fun v25_1 h =>
             gdK v22 false (fun k11 =>
              vK (aLoad Tryz.prog 3 v25_1 h) h fun v26 h =>
              k11 v26 h) (fun v26_1 h =>
              gdK v22 false (fun k12 =>
               vK (aBin Tryz.prog BinOp.sub 3 v26_1 (Value.int IntKind.i64 1)) h fun v27 h =>
               k12 v27 h) (fun v27_1 h =>
               gdK v22 false (fun k13 =>
                cK Tryz.prog 64 [v24_1, (Value.int IntKind.i64 0), v27_1] h fun v28 h =>
                k13 v28 h) (fun v28_1 h =>
                gdK v22 false (fun k14 =>
                 vK (aUn UnOp.not v28_1) h fun v29 h =>
                 k14 v29 h) (fun v29_1 h =>
                 vK (pickV v22 (Value.bool true) v29_1) h fun v30 h =>
                 cnd v30 (
                  mvK (Value.int IntKind.i64 0) h fun v2_1 h =>
                  mvK (Value.int IntKind.i64 3) h fun v3_1 h =>
                  retV [some v2_1, some v3_1] R h) (
                  vK (aFieldAddr Tryz.prog 24 v1 4) h fun v31 h =>
                  vK (aLoad Tryz.prog 22 v31 h) h fun v32 h =>
                  vK (aLen Tryz.prog 22 v32) h fun v33 h =>
                  vK (aFieldAddr Tryz.prog 24 v1 0) h fun v34 h =>
                  vK (aLoad Tryz.prog 3 v34 h) h fun v35 h =>
                  vK (aFieldAddr Tryz.prog 24 v1 1) h fun v36 h =>
                  vK (aLoad Tryz.prog 3 v36 h) h fun v37 h =>
                  vK (aBin Tryz.prog BinOp.mul 3 v35 v37) h fun v38 h =>
                  vK (aBin Tryz.prog BinOp.gtr 3 v33 v38) h fun v39 h =>
                  cnd v39 (
                   mvK (Value.int IntKind.i64 0) h fun v2_2 h =>
                   mvK (Value.int IntKind.i64 2) h fun v3_2 h =>
                   retV [some v2_2, some v3_2] R h) (
                   mvK (Value.int IntKind.i64 0) h fun v4 h =>
                   ∃ (I6 : List Value → Heap → Prop) (μ6 : List Value → Heap → Nat), I6 [v4] h ∧
                   ∀ (h6 : Heap) (j6 : Tmps) (v4_1 : Value), I6 [v4_1] h6 → (let h := h6
                    mvK v4_1 h fun v40 h =>
                    vK (aFieldAddr Tryz.prog 24 v1 4) h fun v41 h =>
                    vK (aLoad Tryz.prog 22 v41 h) h fun v42 h =>
                    vK (aLen Tryz.prog 22 v42) h fun v43 h =>
                    vK (aBin Tryz.prog BinOp.lss 3 v40 v43) h fun v44 h =>
                    cnd v44 (
                     vK (aFieldAddr Tryz.prog 24 v1 4) h fun v47 h =>
                     vK (aLoad Tryz.prog 22 v47 h) h fun v48 h =>
                     mvK v4_1 h fun v49 h =>
                     vK (aIndexAddr Tryz.prog 22 v48 v49) h fun v50 h =>
                     vK (aLoad Tryz.prog 87 v50 h) h fun v51 h =>
                     okK (aAlloc Tryz.prog 87 h) fun v5 h =>
                     okK ((aStore Tryz.prog 87 v5 v51 h).map (undef, ·)) fun _ h =>
                     vK (aFieldAddr Tryz.prog 87 v5 0) h fun v52 h =>
                     vK (aLoad Tryz.prog 3 v52 h) h fun v53 h =>
                     vK (aFieldAddr Tryz.prog 24 v1 0) h fun v54 h =>
                     vK (aLoad Tryz.prog 3 v54 h) h fun v55 h =>
                     vK (aBin Tryz.prog BinOp.sub 3 v55 (Value.int IntKind.i64 1)) h fun v56 h =>
                     cK Tryz.prog 64 [v53, (Value.int IntKind.i64 0), v56] h fun v57 h =>
                     vK (aUn UnOp.not v57) h fun v58 h =>
                     mvK v58 h fun v59 h =>
                     gdK v59 false (fun k15 =>
                      vK (aFieldAddr Tryz.prog 87 v5 3) h fun v60 h =>
                      k15 v60 h) (fun v60_1 h =>
                      gdK v59 false (fun k16 =>
                       vK (aLoad Tryz.prog 3 v60_1 h) h fun v61 h =>
                       k16 v61 h) (fun v61_1 h =>
                       gdK v59 false (fun k17 =>
                        vK (aFieldAddr Tryz.prog 24 v1 0) h fun v62 h =>
                        k17 v62 h) (fun v62_1 h =>
                        gdK v59 false (fun k18 =>
                         vK (aLoad Tryz.prog 3 v62_1 h) h fun v63 h =>
                         k18 v63 h) (fun v63_1 h =>
                         gdK v59 false (fun k19 =>
                          vK (aBin Tryz.prog BinOp.sub 3 v63_1 (Value.int IntKind.i64 1)) h fun v64 h =>
                          k19 v64 h) (fun v64_1 h =>
                          gdK v59 false (fun k20 =>
                           cK Tryz.prog 64 [v61_1, (Value.int IntKind.i64 0), v64_1] h fun v65 h =>
                           k20 v65 h) (fun v65_1 h =>
                           gdK v59 false (fun k21 =>
                            vK (aUn UnOp.not v65_1) h fun v66 h =>
                            k21 v66 h) (fun v66_1 h =>
                            vK (pickV v59 (Value.bool true) v66_1) h fun v67 h =>
                            mvK v67 h fun v68 h =>
                            gdK v68 false (fun k22 =>
                             vK (aFieldAddr Tryz.prog 87 v5 1) h fun v69 h =>
                             k22 v69 h) (fun v69_1 h =>
                             gdK v68 false (fun k23 =>
                              vK (aLoad Tryz.prog 3 v69_1 h) h fun v70 h =>
                              k23 v70 h) (fun v70_1 h =>
                              gdK v68 false (fun k24 =>
                               vK (aFieldAddr Tryz.prog 24 v1 1) h fun v71 h =>
                               k24 v71 h) (fun v71_1 h =>
                               gdK v68 false (fun k25 =>
                                vK (aLoad Tryz.prog 3 v71_1 h) h fun v72 h =>
                                k25 v72 h) (fun v72_1 h =>
                                gdK v68 false (fun k26 =>
                                 vK (aBin Tryz.prog BinOp.sub 3 v72_1 (Value.int IntKind.i64 1)) h fun v73 h =>
                                 k26 v73 h) (fun v73_1 h =>
                                 gdK v68 false (fun k27 =>
                                  cK Tryz.prog 64 [v70_1, (Value.int IntKind.i64 0), v73_1] h fun v74 h =>
                                  k27 v74 h) (fun v74_1 h =>
                                  gdK v68 false (fun k28 =>
                                   vK (aUn UnOp.not v74_1) h fun v75 h =>
                                   k28 v75 h) (fun v75_1 h =>
                                   vK (pickV v68 (Value.bool true) v75_1) h fun v76 h =>
                                   mvK v76 h fun v77 h =>
                                   gdK v77 false (fun k29 =>
                                    vK (aFieldAddr Tryz.prog 87 v5 2) h fun v78 h =>
                                    k29 v78 h) (fun v78_1 h =>
                                    gdK v77 false (fun k30 =>
                                     vK (aLoad Tryz.prog 3 v78_1 h) h fun v79 h =>
                                     k30 v79 h) (fun v79_1 h =>
                                     gdK v77 false (fun k31 =>
                                      vK (aFieldAddr Tryz.prog 24 v1 2) h fun v80 h =>
                                      k31 v80 h) (fun v80_1 h =>
                                      gdK v77 false (fun k32 =>
                                       vK (aLoad Tryz.prog 3 v80_1 h) h fun v81 h =>
                                       k32 v81 h) (fun v81_1 h =>
                                       gdK v77 false (fun k33 =>
                                        vK (aBin Tryz.prog BinOp.sub 3 v81_1 (Value.int IntKind.i64 1)) h fun v82 h =>
                                        k33 v82 h) (fun v82_1 h =>
                                        gdK v77 false (fun k34 =>
                                         cK Tryz.prog 64 [v79_1, (Value.int IntKind.i64 0), v82_1] h fun v83 h =>
                                         k34 v83 h) (fun v83_1 h =>
                                         gdK v77 false (fun k35 =>
                                          vK (aUn UnOp.not v83_1) h fun v84 h =>
                                          k35 v84 h) (fun v84_1 h =>
                                          vK (pickV v77 (Value.bool true) v84_1) h fun v85 h =>
                                          cnd v85 (
                                           mvK v4_1 h fun v86 h =>
                                           mvK v86 h fun v2_3 h =>
                                           mvK (Value.int IntKind.i64 3) h fun v3_3 h =>
                                           retV [some v2_3, some v3_3] R h) (
                                           mvK v4_1 h fun v87 h =>
                                           vK (aBin Tryz.prog BinOp.gtr 3 v87 (Value.int IntKind.i64 0)) h fun v88 h =>
                                           mvK v88 h fun v89 h =>
                                           gdK v89 true (fun k36 =>
                                            vK (aFieldAddr Tryz.prog 24 v1 4) h fun v90 h =>
                                            k36 v90 h) (fun v90_1 h =>
                                            gdK v89 true (fun k37 =>
                                             vK (aLoad Tryz.prog 22 v90_1 h) h fun v91 g =>
                                             VB h.length v91 ∧ (let h := g
                                              k37 v91 h)) (fun v91_1 h =>
                                             gdK v89 true (fun k38 =>
                                              mvK v4_1 h fun v92 h =>
                                              k38 v92 h) (fun v92_1 h =>
                                              gdK v89 true (fun k39 =>
                                               vK (aBin Tryz.prog BinOp.sub 3 v92_1 (Value.int IntKind.i64 1)) h fun v93 h =>
                                               k39 v93 h) (fun v93_1 h =>
                                               gdK v89 true (fun k40 =>
                                                vK (aIndexAddr Tryz.prog 22 v91_1 v93_1) h fun v94 h =>
                                                k40 v94 h) (fun v94_1 h =>
                                                gdK v89 true (fun k41 =>
                                                 vK (aFieldAddr Tryz.prog 87 v94_1 0) h fun v95 h =>
                                                 k41 v95 h) (fun v95_1 h =>
                                                 gdK v89 true (fun k42 =>
                                                  vK (aLoad Tryz.prog 3 v95_1 h) h fun v96 g =>
                                                  VB h.length v96 ∧ (let h := g
                                                   k42 v96 h)) (fun v96_1 h =>
                                                  gdK v89 true (fun k43 =>
                                                   vK (aFieldAddr Tryz.prog 24 v1 4) h fun v97 h =>
                                                   k43 v97 h) (fun v97_1 h =>
                                                   gdK v89 true (fun k44 =>
                                                    vK (aLoad Tryz.prog 22 v97_1 h) h fun v98 g =>
                                                    VB h.length v98 ∧ (let h := g
                                                     k44 v98 h)) (fun v98_1 h =>
                                                    gdK v89 true (fun k45 =>
                                                     mvK v4_1 h fun v99 h =>
                                                     k45 v99 h) (fun v99_1 h =>
                                                     gdK v89 true (fun k46 =>
                                                      vK (aBin Tryz.prog BinOp.sub 3 v99_1 (Value.int IntKind.i64 1)) h fun v100 h =>
                                                      k46 v100 h) (fun v100_1 h =>
                                                      gdK v89 true (fun k47 =>
                                                       vK (aIndexAddr Tryz.prog 22 v98_1 v100_1) h fun v101 h =>
                                                       k47 v101 h) (fun v101_1 h =>
                                                       gdK v89 true (fun k48 =>
                                                        vK (aFieldAddr Tryz.prog 87 v101_1 1) h fun v102 h =>
                                                        k48 v102 h) (fun v102_1 h =>
                                                        gdK v89 true (fun k49 =>
                                                         vK (aLoad Tryz.prog 3 v102_1 h) h fun v103 g =>
                                                         VB h.length v103 ∧ (let h := g
                                                          k49 v103 h)) (fun v103_1 h =>
                                                         gdK v89 true (fun k50 =>
                                                          okK (aBuildSlice Tryz.prog 31 2 [(0, v96_1), (1, v103_1)] h) fun v104 h =>
                                                          k50 v104 h) (fun v104_1 h =>
                                                          gdK v89 true (fun k51 =>
                                                           vK (aFieldAddr Tryz.prog 87 v5 0) h fun v105 h =>
                                                           k51 v105 h) (fun v105_1 h =>
                                                           gdK v89 true (fun k52 =>
                                                            vK (aLoad Tryz.prog 3 v105_1 h) h fun v106 g =>
                                                            VB h.length v106 ∧ (let h := g
                                                             k52 v106 h)) (fun v106_1 h =>
                                                            gdK v89 true (fun k53 =>
                                                             vK (aFieldAddr Tryz.prog 87 v5 1) h fun v107 h =>
                                                             k53 v107 h) (fun v107_1 h =>
                                                             gdK v89 true (fun k54 =>
                                                              vK (aLoad Tryz.prog 3 v107_1 h) h fun v108 g =>
                                                              VB h.length v108 ∧ (let h := g
                                                               k54 v108 h)) (fun v108_1 h =>
                                                              gdK v89 true (fun k55 =>
                                                               okK (aBuildSlice Tryz.prog 31 2 [(0, v106_1), (1, v108_1)] h) fun v109 h =>
                                                               k55 v109 h) (fun v109_1 h =>
                                                               gdK v89 true (fun k56 =>
                                                                cKD Tryz.prog 61 [v104_1, v109_1] h fun v110 g =>
                                                                (∃ new, g = h ++ new) ∧ (let h := g
                                                                 k56 v110 h)) (fun v110_1 h =>
                                                                gdK v89 true (fun k57 =>
                                                                 vK (aBin Tryz.prog BinOp.geq 3 v110_1 (Value.int IntKind.i64 0)) h fun v111 h =>
                                                                 k57 v111 h) (fun v111_1 h =>
                                                                 vK (pickV v89 v111_1 (Value.bool false)) h fun v112 h =>
                                                                 cnd v112 (
                                                                  mvK v4_1 h fun v113 h =>
                                                                  mvK v113 h fun v2_4 h =>
                                                                  mvK (Value.int IntKind.i64 14) h fun v3_4 h =>
                                                                  retV [some v2_4, some v3_4] R h) (
                                                                  mvK v4_1 h fun v45 h =>
                                                                  vK (aBin Tryz.prog BinOp.add 3 v45 (Value.int IntKind.i64 1)) h fun v46 h =>
                                                                  mvK v46 h fun v4_2 h =>
                                                                  I6 [v4_2] h ∧ μ6 [v4_2] h < μ6 [v4_1] h6)) h) h) h) h) h) h) h) h) h) h) h) h) h) h) h) h) h) h) h) h) h) h)) h) h) h) h) h) h) h) h) h) h) h) h) h) h) h) h) h) h) h) h) h) (
                     mvK (Value.int IntKind.i64 0) h fun v2_5 h =>
                     mvK (Value.int IntKind.i64 0) h fun v3_5 h =>
                     retV [some v2_5, some v3_5] R h))))) h) h) h) h) h) h) h) h) h) h) h) h) h) h) h
def lv73 (q : Nat) : List Nat := bif Nat.beq q 12 then [20769187434139310514120885805252668, 4] else []
theorem ok73 : lkOK Tryz.prog lv73 Tryz.f86 1 (Tryz.f86.body.getD .skip) 86 = true := by kernel_rfl
theorem e73 (a0 : Value) (h : Heap) (R : Value → Heap → Prop) : n73 a0 h R = wpK Tryz.prog lv73 (Tryz.f86.body.getD .skip) (endK Tryz.prog [.tmp 2, .tmp 3] R) (argT [a0]) h := by kernel_rfl
theorem w73 {a0 : Value} {h : Heap} {R : Value → Heap → Prop} (hn : n73 a0 h R) : DetP Tryz.prog 86 [a0] h R :=
  DetP.of_code (rs := [.tmp 2, .tmp 3]) (n := 1) Tryz.func86 (by kernel_rfl) (by kernel_rfl) lv73 ok73 rfl ((e73 a0 h R) ▸ hn)

/-! ### examiner/examinerref37.StepAt: function 87 -/
def n74 (a0 a1 a2 : Value) (h : Heap) (R : Value → Heap → Prop) : Prop :=
  okK (some (aBox Tryz.prog 24 a0 h)) fun v3 h =>
  mvK (Value.int IntKind.i64 0) h fun v6 h =>
  mvK (Value.int IntKind.i64 0) h fun v7 h =>
  ∃ (I2 : List Value → Heap → Prop) (μ2 : List Value → Heap → Nat), I2 [v7] h ∧
  ∀ (h2 : Heap) (j2 : Tmps) (v7_1 : Value), I2 [v7_1] h2 → (let h := h2
   mvK v7_1 h fun v8 h =>
   vK (aFieldAddr Tryz.prog 24 v3 4) h fun v9 h =>
   vK (aLoad Tryz.prog 22 v9 h) h fun v10 h =>
   vK (aLen Tryz.prog 22 v10) h fun v11 h =>
   vK (aBin Tryz.prog BinOp.lss 3 v8 v11) h fun v12 h =>
   cnd v12 (
    vK (aFieldAddr Tryz.prog 24 v3 4) h fun v15 h =>
    vK (aLoad Tryz.prog 22 v15 h) h fun v16 h =>
    mvK v7_1 h fun v17 h =>
    vK (aIndexAddr Tryz.prog 22 v16 v17) h fun v18 h =>
    vK (aFieldAddr Tryz.prog 87 v18 0) h fun v19 h =>
    vK (aLoad Tryz.prog 3 v19 h) h fun v20 h =>
    mvK a1 h fun v21 h =>
    vK (aBin Tryz.prog BinOp.eql 3 v20 v21) h fun v22 h =>
    mvK v22 h fun v23 h =>
    gdK v23 true (fun k0 =>
     vK (aFieldAddr Tryz.prog 24 v3 4) h fun v24 h =>
     k0 v24 h) (fun v24_1 h =>
     gdK v23 true (fun k1 =>
      vK (aLoad Tryz.prog 22 v24_1 h) h fun v25 h =>
      k1 v25 h) (fun v25_1 h =>
      gdK v23 true (fun k2 =>
       mvK v7_1 h fun v26 h =>
       k2 v26 h) (fun v26_1 h =>
       gdK v23 true (fun k3 =>
        vK (aIndexAddr Tryz.prog 22 v25_1 v26_1) h fun v27 h =>
        k3 v27 h) (fun v27_1 h =>
        gdK v23 true (fun k4 =>
         vK (aFieldAddr Tryz.prog 87 v27_1 1) h fun v28 h =>
         k4 v28 h) (fun v28_1 h =>
         gdK v23 true (fun k5 =>
          vK (aLoad Tryz.prog 3 v28_1 h) h fun v29 h =>
          k5 v29 h) (fun v29_1 h =>
          gdK v23 true (fun k6 =>
           mvK a2 h fun v30 h =>
           k6 v30 h) (fun v30_1 h =>
           gdK v23 true (fun k7 =>
            vK (aBin Tryz.prog BinOp.eql 3 v29_1 v30_1) h fun v31 h =>
            k7 v31 h) (fun v31_1 h =>
            vK (pickV v23 v31_1 (Value.bool false)) h fun v32 h =>
            cnd v32 (
             mvK v7_1 h fun v33 h =>
             mvK v33 h fun v6_1 h =>
             retV [some v6_1] R h) (
             mvK v7_1 h fun v13 h =>
             vK (aBin Tryz.prog BinOp.add 3 v13 (Value.int IntKind.i64 1)) h fun v14 h =>
             mvK v14 h fun v7_2 h =>
             I2 [v7_2] h ∧ μ2 [v7_2] h < μ2 [v7_1] h2)) h) h) h) h) h) h) h) h) (
    mvK (Value.int IntKind.i64 (-1)) h fun v6_2 h =>
    retV [some v6_2] R h))
def lv74 (q : Nat) : List Nat := bif Nat.beq q 4 then [17179869120, 7] else []
theorem ok74 : lkOK Tryz.prog lv74 Tryz.f87 3 (Tryz.f87.body.getD .skip) 87 = true := by kernel_rfl
theorem e74 (a0 a1 a2 : Value) (h : Heap) (R : Value → Heap → Prop) : n74 a0 a1 a2 h R = wpK Tryz.prog lv74 (Tryz.f87.body.getD .skip) (endK Tryz.prog [.tmp 6] R) (argT [a0, a1, a2]) h := by kernel_rfl
theorem w74 {a0 a1 a2 : Value} {h : Heap} {R : Value → Heap → Prop} (hn : n74 a0 a1 a2 h R) : DetP Tryz.prog 87 [a0, a1, a2] h R :=
  DetP.of_code (rs := [.tmp 6]) (n := 3) Tryz.func87 (by kernel_rfl) (by kernel_rfl) lv74 ok74 rfl ((e74 a0 a1 a2 h R) ▸ hn)

/-! ### examiner/model.CheckMachine: function 82 -/
def n75 (a0 : Value) (h : Heap) (R : Value → Heap → Prop) : Prop :=
  okK (some (aBox Tryz.prog 24 a0 h)) fun v1 h =>
  mvK (Value.int IntKind.i64 0) h fun v2 h =>
  mvK (Value.int IntKind.i64 0) h fun v3 h =>
  vK (aFieldAddr Tryz.prog 24 v1 0) h fun v6 h =>
  vK (aLoad Tryz.prog 3 v6 h) h fun v7 h =>
  cK Tryz.prog 91 [v7, (Value.int IntKind.i64 1), (Value.int IntKind.i64 40)] h fun v8 h =>
  vK (aUn UnOp.not v8) h fun v9 h =>
  mvK v9 h fun v10 h =>
  gdK v10 false (fun k0 =>
   vK (aFieldAddr Tryz.prog 24 v1 1) h fun v11 h =>
   k0 v11 h) (fun v11_1 h =>
   gdK v10 false (fun k1 =>
    vK (aLoad Tryz.prog 3 v11_1 h) h fun v12 h =>
    k1 v12 h) (fun v12_1 h =>
    gdK v10 false (fun k2 =>
     cK Tryz.prog 91 [v12_1, (Value.int IntKind.i64 1), (Value.int IntKind.i64 8)] h fun v13 h =>
     k2 v13 h) (fun v13_1 h =>
     gdK v10 false (fun k3 =>
      vK (aUn UnOp.not v13_1) h fun v14 h =>
      k3 v14 h) (fun v14_1 h =>
      vK (pickV v10 (Value.bool true) v14_1) h fun v15 h =>
      mvK v15 h fun v16 h =>
      gdK v16 false (fun k4 =>
       vK (aFieldAddr Tryz.prog 24 v1 2) h fun v17 h =>
       k4 v17 h) (fun v17_1 h =>
       gdK v16 false (fun k5 =>
        vK (aLoad Tryz.prog 3 v17_1 h) h fun v18 h =>
        k5 v18 h) (fun v18_1 h =>
        gdK v16 false (fun k6 =>
         cK Tryz.prog 91 [v18_1, (Value.int IntKind.i64 1), (Value.int IntKind.i64 8)] h fun v19 h =>
         k6 v19 h) (fun v19_1 h =>
         gdK v16 false (fun k7 =>
          vK (aUn UnOp.not v19_1) h fun v20 h =>
          k7 v20 h) (fun v20_1 h =>
          vK (pickV v16 (Value.bool true) v20_1) h fun v21 h =>
          mvK v21 h fun v22 h =>
          gdK v22 false (fun k8 =>
           vK (aFieldAddr Tryz.prog 24 v1 3) h fun v23 h =>
           k8 v23 h) (fun v23_1 h =>
           gdK v22 false (fun k9 =>
            vK (aLoad Tryz.prog 3 v23_1 h) h fun v24 h =>
            k9 v24 h) (fun v24_1 h =>
            gdK v22 false (fun k10 =>
             vK (aFieldAddr Tryz.prog 24 v1 0) h fun v25 h =>
             k10 v25 h) (fun v25_1 h =>
             gdK v22 false (fun k11 =>
              vK (aLoad Tryz.prog 3 v25_1 h) h fun v26 h =>
              k11 v26 h) (fun v26_1 h =>
              gdK v22 false (fun k12 =>
               vK (aBin Tryz.prog BinOp.sub 3 v26_1 (Value.int IntKind.i64 1)) h fun v27 h =>
               k12 v27 h) (fun v27_1 h =>
               gdK v22 false (fun k13 =>
                cK Tryz.prog 91 [v24_1, (Value.int IntKind.i64 0), v27_1] h fun v28 h =>
                k13 v28 h) (fun v28_1 h =>
                gdK v22 false (fun k14 =>
                 vK (aUn UnOp.not v28_1) h fun v29 h =>
                 k14 v29 h) (fun v29_1 h =>
                 vK (pickV v22 (Value.bool true) v29_1) h fun v30 h =>
                 cnd v30 (
                  mvK (Value.int IntKind.i64 0) h fun v2_1 h =>
                  mvK (Value.int IntKind.i64 3) h fun v3_1 h =>
                  retV [some v2_1, some v3_1] R h) (
                  vK (aFieldAddr Tryz.prog 24 v1 4) h fun v31 h =>
                  vK (aLoad Tryz.prog 22 v31 h) h fun v32 h =>
                  vK (aLen Tryz.prog 22 v32) h fun v33 h =>
                  vK (aFieldAddr Tryz.prog 24 v1 0) h fun v34 h =>
                  vK (aLoad Tryz.prog 3 v34 h) h fun v35 h =>
                  vK (aFieldAddr Tryz.prog 24 v1 1) h fun v36 h =>
                  vK (aLoad Tryz.prog 3 v36 h) h fun v37 h =>
                  vK (aBin Tryz.prog BinOp.mul 3 v35 v37) h fun v38 h =>
                  vK (aBin Tryz.prog BinOp.gtr 3 v33 v38) h fun v39 h =>
                  cnd v39 (
                   mvK (Value.int IntKind.i64 0) h fun v2_2 h =>
                   mvK (Value.int IntKind.i64 2) h fun v3_2 h =>
                   retV [some v2_2, some v3_2] R h) (
                   vK (aFieldAddr Tryz.prog 24 v1 4) h fun v40 h =>
                   vK (aLoad Tryz.prog 22 v40 h) h fun v41 h =>
                   vK (aLen Tryz.prog 22 v41) h fun v42 h =>
                   mvK (Value.int IntKind.i64 0) h fun v43 h =>
                   ∃ (I6 : List Value → Heap → Prop) (μ6 : List Value → Heap → Nat), I6 [v43] h ∧
                   ∀ (h6 : Heap) (j6 : Tmps) (v43_1 : Value), I6 [v43_1] h6 → (let h := h6
                    vK (aBin Tryz.prog BinOp.lss 3 v43_1 v42) h fun v44 h =>
                    cnd v44 (
                     mvK v43_1 h fun v45 h =>
                     vK (aIndexAddr Tryz.prog 22 v41 v43_1) h fun v46 h =>
                     vK (aLoad Tryz.prog 87 v46 h) h fun v47 h =>
                     okK (aAlloc Tryz.prog 87 h) fun v5 h =>
                     mvK v45 h fun v4 h =>
                     okK ((aStore Tryz.prog 87 v5 v47 h).map (undef, ·)) fun _ h =>
                     vK (aFieldAddr Tryz.prog 87 v5 0) h fun v48 h =>
                     vK (aLoad Tryz.prog 3 v48 h) h fun v49 h =>
                     vK (aFieldAddr Tryz.prog 24 v1 0) h fun v50 h =>
                     vK (aLoad Tryz.prog 3 v50 h) h fun v51 h =>
                     vK (aBin Tryz.prog BinOp.sub 3 v51 (Value.int IntKind.i64 1)) h fun v52 h =>
                     cK Tryz.prog 91 [v49, (Value.int IntKind.i64 0), v52] h fun v53 h =>
                     vK (aUn UnOp.not v53) h fun v54 h =>
                     mvK v54 h fun v55 h =>
                     gdK v55 false (fun k15 =>
                      vK (aFieldAddr Tryz.prog 87 v5 3) h fun v56 h =>
                      k15 v56 h) (fun v56_1 h =>
                      gdK v55 false (fun k16 =>
                       vK (aLoad Tryz.prog 3 v56_1 h) h fun v57 h =>
                       k16 v57 h) (fun v57_1 h =>
                       gdK v55 false (fun k17 =>
                        vK (aFieldAddr Tryz.prog 24 v1 0) h fun v58 h =>
                        k17 v58 h) (fun v58_1 h =>
                        gdK v55 false (fun k18 =>
                         vK (aLoad Tryz.prog 3 v58_1 h) h fun v59 h =>
                         k18 v59 h) (fun v59_1 h =>
                         gdK v55 false (fun k19 =>
                          vK (aBin Tryz.prog BinOp.sub 3 v59_1 (Value.int IntKind.i64 1)) h fun v60 h =>
                          k19 v60 h) (fun v60_1 h =>
                          gdK v55 false (fun k20 =>
                           cK Tryz.prog 91 [v57_1, (Value.int IntKind.i64 0), v60_1] h fun v61 h =>
                           k20 v61 h) (fun v61_1 h =>
                           gdK v55 false (fun k21 =>
                            vK (aUn UnOp.not v61_1) h fun v62 h =>
                            k21 v62 h) (fun v62_1 h =>
                            vK (pickV v55 (Value.bool true) v62_1) h fun v63 h =>
                            mvK v63 h fun v64 h =>
                            gdK v64 false (fun k22 =>
                             vK (aFieldAddr Tryz.prog 87 v5 1) h fun v65 h =>
                             k22 v65 h) (fun v65_1 h =>
                             gdK v64 false (fun k23 =>
                              vK (aLoad Tryz.prog 3 v65_1 h) h fun v66 h =>
                              k23 v66 h) (fun v66_1 h =>
                              gdK v64 false (fun k24 =>
                               vK (aFieldAddr Tryz.prog 24 v1 1) h fun v67 h =>
                               k24 v67 h) (fun v67_1 h =>
                               gdK v64 false (fun k25 =>
                                vK (aLoad Tryz.prog 3 v67_1 h) h fun v68 h =>
                                k25 v68 h) (fun v68_1 h =>
                                gdK v64 false (fun k26 =>
                                 vK (aBin Tryz.prog BinOp.sub 3 v68_1 (Value.int IntKind.i64 1)) h fun v69 h =>
                                 k26 v69 h) (fun v69_1 h =>
                                 gdK v64 false (fun k27 =>
                                  cK Tryz.prog 91 [v66_1, (Value.int IntKind.i64 0), v69_1] h fun v70 h =>
                                  k27 v70 h) (fun v70_1 h =>
                                  gdK v64 false (fun k28 =>
                                   vK (aUn UnOp.not v70_1) h fun v71 h =>
                                   k28 v71 h) (fun v71_1 h =>
                                   vK (pickV v64 (Value.bool true) v71_1) h fun v72 h =>
                                   mvK v72 h fun v73 h =>
                                   gdK v73 false (fun k29 =>
                                    vK (aFieldAddr Tryz.prog 87 v5 2) h fun v74 h =>
                                    k29 v74 h) (fun v74_1 h =>
                                    gdK v73 false (fun k30 =>
                                     vK (aLoad Tryz.prog 3 v74_1 h) h fun v75 h =>
                                     k30 v75 h) (fun v75_1 h =>
                                     gdK v73 false (fun k31 =>
                                      vK (aFieldAddr Tryz.prog 24 v1 2) h fun v76 h =>
                                      k31 v76 h) (fun v76_1 h =>
                                      gdK v73 false (fun k32 =>
                                       vK (aLoad Tryz.prog 3 v76_1 h) h fun v77 h =>
                                       k32 v77 h) (fun v77_1 h =>
                                       gdK v73 false (fun k33 =>
                                        vK (aBin Tryz.prog BinOp.sub 3 v77_1 (Value.int IntKind.i64 1)) h fun v78 h =>
                                        k33 v78 h) (fun v78_1 h =>
                                        gdK v73 false (fun k34 =>
                                         cK Tryz.prog 91 [v75_1, (Value.int IntKind.i64 0), v78_1] h fun v79 h =>
                                         k34 v79 h) (fun v79_1 h =>
                                         gdK v73 false (fun k35 =>
                                          vK (aUn UnOp.not v79_1) h fun v80 h =>
                                          k35 v80 h) (fun v80_1 h =>
                                          vK (pickV v73 (Value.bool true) v80_1) h fun v81 h =>
                                          cnd v81 (
                                           mvK v4 h fun v82 h =>
                                           mvK v82 h fun v2_3 h =>
                                           mvK (Value.int IntKind.i64 3) h fun v3_3 h =>
                                           retV [some v2_3, some v3_3] R h) (
                                           mvK v4 h fun v83 h =>
                                           vK (aBin Tryz.prog BinOp.gtr 3 v83 (Value.int IntKind.i64 0)) h fun v84 h =>
                                           mvK v84 h fun v85 h =>
                                           gdK v85 true (fun k36 =>
                                            vK (aFieldAddr Tryz.prog 24 v1 4) h fun v86 h =>
                                            k36 v86 h) (fun v86_1 h =>
                                            gdK v85 true (fun k37 =>
                                             vK (aLoad Tryz.prog 22 v86_1 h) h fun v87 g =>
                                             VB h.length v87 ∧ (let h := g
                                              k37 v87 h)) (fun v87_1 h =>
                                             gdK v85 true (fun k38 =>
                                              mvK v4 h fun v88 h =>
                                              k38 v88 h) (fun v88_1 h =>
                                              gdK v85 true (fun k39 =>
                                               vK (aBin Tryz.prog BinOp.sub 3 v88_1 (Value.int IntKind.i64 1)) h fun v89 h =>
                                               k39 v89 h) (fun v89_1 h =>
                                               gdK v85 true (fun k40 =>
                                                vK (aIndexAddr Tryz.prog 22 v87_1 v89_1) h fun v90 h =>
                                                k40 v90 h) (fun v90_1 h =>
                                                gdK v85 true (fun k41 =>
                                                 vK (aFieldAddr Tryz.prog 87 v90_1 0) h fun v91 h =>
                                                 k41 v91 h) (fun v91_1 h =>
                                                 gdK v85 true (fun k42 =>
                                                  vK (aLoad Tryz.prog 3 v91_1 h) h fun v92 g =>
                                                  VB h.length v92 ∧ (let h := g
                                                   k42 v92 h)) (fun v92_1 h =>
                                                  gdK v85 true (fun k43 =>
                                                   vK (aFieldAddr Tryz.prog 87 v5 0) h fun v93 h =>
                                                   k43 v93 h) (fun v93_1 h =>
                                                   gdK v85 true (fun k44 =>
                                                    vK (aLoad Tryz.prog 3 v93_1 h) h fun v94 g =>
                                                    VB h.length v94 ∧ (let h := g
                                                     k44 v94 h)) (fun v94_1 h =>
                                                    gdK v85 true (fun k45 =>
                                                     cKD Tryz.prog 39 [v92_1, v94_1] h fun v95 g =>
                                                     (∃ new, g = h ++ new) ∧ (let h := g
                                                      k45 v95 h)) (fun v95_1 h =>
                                                     gdK v85 true (fun k46 =>
                                                      vK (aFieldAddr Tryz.prog 24 v1 4) h fun v96 h =>
                                                      k46 v96 h) (fun v96_1 h =>
                                                      gdK v85 true (fun k47 =>
                                                       vK (aLoad Tryz.prog 22 v96_1 h) h fun v97 g =>
                                                       VB h.length v97 ∧ (let h := g
                                                        k47 v97 h)) (fun v97_1 h =>
                                                       gdK v85 true (fun k48 =>
                                                        mvK v4 h fun v98 h =>
                                                        k48 v98 h) (fun v98_1 h =>
                                                        gdK v85 true (fun k49 =>
                                                         vK (aBin Tryz.prog BinOp.sub 3 v98_1 (Value.int IntKind.i64 1)) h fun v99 h =>
                                                         k49 v99 h) (fun v99_1 h =>
                                                         gdK v85 true (fun k50 =>
                                                          vK (aIndexAddr Tryz.prog 22 v97_1 v99_1) h fun v100 h =>
                                                          k50 v100 h) (fun v100_1 h =>
                                                          gdK v85 true (fun k51 =>
                                                           vK (aFieldAddr Tryz.prog 87 v100_1 1) h fun v101 h =>
                                                           k51 v101 h) (fun v101_1 h =>
                                                           gdK v85 true (fun k52 =>
                                                            vK (aLoad Tryz.prog 3 v101_1 h) h fun v102 g =>
                                                            VB h.length v102 ∧ (let h := g
                                                             k52 v102 h)) (fun v102_1 h =>
                                                            gdK v85 true (fun k53 =>
                                                             vK (aFieldAddr Tryz.prog 87 v5 1) h fun v103 h =>
                                                             k53 v103 h) (fun v103_1 h =>
                                                             gdK v85 true (fun k54 =>
                                                              vK (aLoad Tryz.prog 3 v103_1 h) h fun v104 g =>
                                                              VB h.length v104 ∧ (let h := g
                                                               k54 v104 h)) (fun v104_1 h =>
                                                              gdK v85 true (fun k55 =>
                                                               cKD Tryz.prog 39 [v102_1, v104_1] h fun v105 g =>
                                                               (∃ new, g = h ++ new) ∧ (let h := g
                                                                k55 v105 h)) (fun v105_1 h =>
                                                               gdK v85 true (fun k56 =>
                                                                okK (aBuildSlice Tryz.prog 31 2 [(0, v95_1), (1, v105_1)] h) fun v106 h =>
                                                                k56 v106 h) (fun v106_1 h =>
                                                                gdK v85 true (fun k57 =>
                                                                 cKD Tryz.prog 38 [v106_1] h fun v107 g =>
                                                                 (∃ new, g = h ++ new) ∧ (let h := g
                                                                  k57 v107 h)) (fun v107_1 h =>
                                                                 gdK v85 true (fun k58 =>
                                                                  vK (aBin Tryz.prog BinOp.geq 3 v107_1 (Value.int IntKind.i64 0)) h fun v108 h =>
                                                                  k58 v108 h) (fun v108_1 h =>
                                                                  vK (pickV v85 v108_1 (Value.bool false)) h fun v109 h =>
                                                                  cnd v109 (
                                                                   mvK v4 h fun v110 h =>
                                                                   mvK v110 h fun v2_4 h =>
                                                                   mvK (Value.int IntKind.i64 14) h fun v3_4 h =>
                                                                   retV [some v2_4, some v3_4] R h) (
                                                                   vK (aBin Tryz.prog BinOp.add 3 v43_1 (Value.int IntKind.i64 1)) h fun v111 h =>
                                                                   mvK v111 h fun v43_2 h =>
                                                                   I6 [v43_2] h ∧ μ6 [v43_2] h < μ6 [v43_1] h6)) h) h) h) h) h) h) h) h) h) h) h) h) h) h) h) h) h) h) h) h) h) h) h)) h) h) h) h) h) h) h) h) h) h) h) h) h) h) h) h) h) h) h) h) h) (
                     mvK (Value.int IntKind.i64 0) h fun v2_5 h =>
                     mvK (Value.int IntKind.i64 0) h fun v3_5 h =>
                     retV [some v2_5, some v3_5] R h))))) h) h) h) h) h) h) h) h) h) h) h) h) h) h) h
def lv75 (q : Nat) : List Nat := bif Nat.beq q 12 then [5192296858534827628521700236197948, 43] else []
theorem ok75 : lkOK Tryz.prog lv75 Tryz.f82 1 (Tryz.f82.body.getD .skip) 82 = true := by kernel_rfl
theorem e75 (a0 : Value) (h : Heap) (R : Value → Heap → Prop) : n75 a0 h R = wpK Tryz.prog lv75 (Tryz.f82.body.getD .skip) (endK Tryz.prog [.tmp 2, .tmp 3] R) (argT [a0]) h := by kernel_rfl
theorem w75 {a0 : Value} {h : Heap} {R : Value → Heap → Prop} (hn : n75 a0 h R) : DetP Tryz.prog 82 [a0] h R :=
  DetP.of_code (rs := [.tmp 2, .tmp 3]) (n := 1) Tryz.func82 (by kernel_rfl) (by kernel_rfl) lv75 ok75 rfl ((e75 a0 h R) ▸ hn)

/-! ### cmp.Or[examiner/api.Errno]: function 23 -/
def n76 (a0 : Value) (h : Heap) (R : Value → Heap → Prop) : Prop :=
  mvK (Value.int IntKind.i64 0) h fun v2 h =>
  mvK (Value.int IntKind.i64 0) h fun v3 h =>
  mvK a0 h fun v6 h =>
  vK (aLen Tryz.prog 100 v6) h fun v7 h =>
  mvK (Value.int IntKind.i64 0) h fun v8 h =>
  ∃ (I3 : List Value → Heap → Prop) (μ3 : List Value → Heap → Nat), I3 [v8] h ∧
  ∀ (h3 : Heap) (j3 : Tmps) (v8_1 : Value), I3 [v8_1] h3 → (let h := h3
   vK (aBin Tryz.prog BinOp.lss 3 v8_1 v7) h fun v9 h =>
   cnd v9 (
    vK (aIndexAddr Tryz.prog 100 v6 v8_1) h fun v10 h =>
    vK (aLoad Tryz.prog 34 v10 h) h fun v11 h =>
    mvK v11 h fun v5 h =>
    mvK v5 h fun v12 h =>
    mvK v3 h fun v13 h =>
    vK (aBin Tryz.prog BinOp.neq 34 v12 v13) h fun v14 h =>
    cnd v14 (
     mvK v5 h fun v15 h =>
     mvK v15 h fun v2_1 h =>
     retV [some v2_1] R h) (
     vK (aBin Tryz.prog BinOp.add 3 v8_1 (Value.int IntKind.i64 1)) h fun v16 h =>
     mvK v16 h fun v8_2 h =>
     I3 [v8_2] h ∧ μ3 [v8_2] h < μ3 [v8_1] h3)) (
    mvK v3 h fun v17 h =>
    mvK v17 h fun v2_2 h =>
    retV [some v2_2] R h))
def lv76 (q : Nat) : List Nat := bif Nat.beq q 6 then [130852, 8] else []
theorem ok76 : lkOK Tryz.prog lv76 Tryz.f23 1 (Tryz.f23.body.getD .skip) 23 = true := by kernel_rfl
theorem e76 (a0 : Value) (h : Heap) (R : Value → Heap → Prop) : n76 a0 h R = wpK Tryz.prog lv76 (Tryz.f23.body.getD .skip) (endK Tryz.prog [.tmp 2] R) (argT [a0]) h := by kernel_rfl
theorem w76 {a0 : Value} {h : Heap} {R : Value → Heap → Prop} (hn : n76 a0 h R) : DetP Tryz.prog 23 [a0] h R :=
  DetP.of_code (rs := [.tmp 2]) (n := 1) Tryz.func23 (by kernel_rfl) (by kernel_rfl) lv76 ok76 rfl ((e76 a0 h R) ▸ hn)

/-! ### examiner/mutant.unless: function 65 -/
def n77 (a0 a1 : Value) (h : Heap) (R : Value → Heap → Prop) : Prop :=
  mvK (Value.int IntKind.i64 0) h fun v4 h =>
  mvK a0 h fun v5 h =>
  cnd v5 (
   mvK (Value.int IntKind.i64 0) h fun v4_1 h =>
   retV [some v4_1] R h) (
   mvK a1 h fun v6 h =>
   mvK v6 h fun v4_2 h =>
   retV [some v4_2] R h)
def lv77 (q : Nat) : List Nat := []
theorem ok77 : lkOK Tryz.prog lv77 Tryz.f65 2 (Tryz.f65.body.getD .skip) 65 = true := by kernel_rfl
theorem e77 (a0 a1 : Value) (h : Heap) (R : Value → Heap → Prop) : n77 a0 a1 h R = wpK Tryz.prog lv77 (Tryz.f65.body.getD .skip) (endK Tryz.prog [.tmp 4] R) (argT [a0, a1]) h := by kernel_rfl
theorem w77 {a0 a1 : Value} {h : Heap} {R : Value → Heap → Prop} (hn : n77 a0 a1 h R) : DetP Tryz.prog 65 [a0, a1] h R :=
  DetP.of_code (rs := [.tmp 4]) (n := 2) Tryz.func65 (by kernel_rfl) (by kernel_rfl) lv77 ok77 rfl ((e77 a0 a1 h R) ▸ hn)

/-! ### cmp.Or[int]: function 38 -/
def n80 (a0 : Value) (h : Heap) (R : Value → Heap → Prop) : Prop :=
  mvK (Value.int IntKind.i64 0) h fun v2 h =>
  mvK (Value.int IntKind.i64 0) h fun v3 h =>
  mvK a0 h fun v6 h =>
  vK (aLen Tryz.prog 31 v6) h fun v7 h =>
  mvK (Value.int IntKind.i64 0) h fun v8 h =>
  ∃ (I3 : List Value → Heap → Prop) (μ3 : List Value → Heap → Nat), I3 [v8] h ∧
  ∀ (h3 : Heap) (j3 : Tmps) (v8_1 : Value), I3 [v8_1] h3 → (let h := h3
   vK (aBin Tryz.prog BinOp.lss 3 v8_1 v7) h fun v9 h =>
   cnd v9 (
    vK (aIndexAddr Tryz.prog 31 v6 v8_1) h fun v10 h =>
    vK (aLoad Tryz.prog 3 v10 h) h fun v11 h =>
    mvK v11 h fun v5 h =>
    mvK v5 h fun v12 h =>
    mvK v3 h fun v13 h =>
    vK (aBin Tryz.prog BinOp.neq 3 v12 v13) h fun v14 h =>
    cnd v14 (
     mvK v5 h fun v15 h =>
     mvK v15 h fun v2_1 h =>
     retV [some v2_1] R h) (
     vK (aBin Tryz.prog BinOp.add 3 v8_1 (Value.int IntKind.i64 1)) h fun v16 h =>
     mvK v16 h fun v8_2 h =>
     I3 [v8_2] h ∧ μ3 [v8_2] h < μ3 [v8_1] h3)) (
    mvK v3 h fun v17 h =>
    mvK v17 h fun v2_2 h =>
    retV [some v2_2] R h))
def lv80 (q : Nat) : List Nat := bif Nat.beq q 6 then [130852, 8] else []
theorem ok80 : lkOK Tryz.prog lv80 Tryz.f38 1 (Tryz.f38.body.getD .skip) 38 = true := by kernel_rfl
theorem e80 (a0 : Value) (h : Heap) (R : Value → Heap → Prop) : n80 a0 h R = wpK Tryz.prog lv80 (Tryz.f38.body.getD .skip) (endK Tryz.prog [.tmp 2] R) (argT [a0]) h := by kernel_rfl
theorem w80 {a0 : Value} {h : Heap} {R : Value → Heap → Prop} (hn : n80 a0 h R) : DetP Tryz.prog 38 [a0] h R :=
  DetP.of_code (rs := [.tmp 2]) (n := 1) Tryz.func38 (by kernel_rfl) (by kernel_rfl) lv80 ok80 rfl ((e80 a0 h R) ▸ hn)

/-! ### cmp.Compare[int]: function 39 -/
def n81 (a0 a1 : Value) (h : Heap) (R : Value → Heap → Prop) : Prop :=
  mvK (Value.int IntKind.i64 0) h fun v4 h =>
  mvK a0 h fun v7 h =>
  cK Tryz.prog 79 [v7] h fun v8 h =>
  mvK v8 h fun v5 h =>
  mvK a1 h fun v9 h =>
  cK Tryz.prog 79 [v9] h fun v10 h =>
  mvK v10 h fun v6 h =>
  mvK v5 h fun v11 h =>
  cnd v11 (
   mvK v6 h fun v12 h =>
   cnd v12 (
    mvK (Value.int IntKind.i64 0) h fun v4_1 h =>
    retV [some v4_1] R h) (
    mvK (Value.int IntKind.i64 (-1)) h fun v4_2 h =>
    retV [some v4_2] R h)) (
   mvK v6 h fun v13 h =>
   cnd v13 (
    mvK (Value.int IntKind.i64 1) h fun v4_3 h =>
    retV [some v4_3] R h) (
    mvK a0 h fun v14 h =>
    mvK a1 h fun v15 h =>
    vK (aBin Tryz.prog BinOp.lss 3 v14 v15) h fun v16 h =>
    cnd v16 (
     mvK (Value.int IntKind.i64 (-1)) h fun v4_4 h =>
     retV [some v4_4] R h) (
     mvK a0 h fun v17 h =>
     mvK a1 h fun v18 h =>
     vK (aBin Tryz.prog BinOp.gtr 3 v17 v18) h fun v19 h =>
     cnd v19 (
      mvK (Value.int IntKind.i64 1) h fun v4_5 h =>
      retV [some v4_5] R h) (
      mvK (Value.int IntKind.i64 0) h fun v4_6 h =>
      retV [some v4_6] R h))))
def lv81 (q : Nat) : List Nat := []
theorem ok81 : lkOK Tryz.prog lv81 Tryz.f39 2 (Tryz.f39.body.getD .skip) 39 = true := by kernel_rfl
theorem e81 (a0 a1 : Value) (h : Heap) (R : Value → Heap → Prop) : n81 a0 a1 h R = wpK Tryz.prog lv81 (Tryz.f39.body.getD .skip) (endK Tryz.prog [.tmp 4] R) (argT [a0, a1]) h := by kernel_rfl
theorem w81 {a0 a1 : Value} {h : Heap} {R : Value → Heap → Prop} (hn : n81 a0 a1 h R) : DetP Tryz.prog 39 [a0, a1] h R :=
  DetP.of_code (rs := [.tmp 4]) (n := 2) Tryz.func39 (by kernel_rfl) (by kernel_rfl) lv81 ok81 rfl ((e81 a0 a1 h R) ▸ hn)

/-! ### slices.Clone[[]examiner/api.MachineStep,examiner/api.MachineStep]: function 68 -/
def n82 (a0 : Value) (h : Heap) (R : Value → Heap → Prop) : Prop :=
  mvK (Value.slice none 0 0) h fun v2 h =>
  mvK a0 h fun v3 h =>
  vK (aBin Tryz.prog BinOp.eql 22 v3 (Value.slice none 0 0)) h fun v4 h =>
  cnd v4 (
   mvK (Value.slice none 0 0) h fun v2_1 h =>
   retV [some v2_1] R h) (
   okK (aBuildSlice Tryz.prog 22 0 [] h) fun v5 h =>
   mvK a0 h fun v6 h =>
   okK (aAppend Tryz.prog 22 22 v5 v6 h) fun v7 h =>
   mvK v7 h fun v2_2 h =>
   retV [some v2_2] R h)
def lv82 (q : Nat) : List Nat := []
theorem ok82 : lkOK Tryz.prog lv82 Tryz.f68 1 (Tryz.f68.body.getD .skip) 68 = true := by kernel_rfl
theorem e82 (a0 : Value) (h : Heap) (R : Value → Heap → Prop) : n82 a0 h R = wpK Tryz.prog lv82 (Tryz.f68.body.getD .skip) (endK Tryz.prog [.tmp 2] R) (argT [a0]) h := by kernel_rfl
theorem w82 {a0 : Value} {h : Heap} {R : Value → Heap → Prop} (hn : n82 a0 h R) : DetP Tryz.prog 68 [a0] h R :=
  DetP.of_code (rs := [.tmp 2]) (n := 1) Tryz.func68 (by kernel_rfl) (by kernel_rfl) lv82 ok82 rfl ((e82 a0 h R) ▸ hn)

/-! ### slices.Index[[][2]int,[2]int]: function 85 -/
def n83 (a0 a1 : Value) (h : Heap) (R : Value → Heap → Prop) : Prop :=
  okK (some (aBox Tryz.prog 55 a1 h)) fun v3 h =>
  mvK (Value.int IntKind.i64 0) h fun v4 h =>
  mvK a0 h fun v6 h =>
  vK (aLen Tryz.prog 56 v6) h fun v7 h =>
  mvK (Value.int IntKind.i64 0) h fun v8 h =>
  ∃ (I2 : List Value → Heap → Prop) (μ2 : List Value → Heap → Nat), I2 [v8] h ∧
  ∀ (h2 : Heap) (j2 : Tmps) (v8_1 : Value), I2 [v8_1] h2 → (let h := h2
   vK (aBin Tryz.prog BinOp.lss 3 v8_1 v7) h fun v9 h =>
   cnd v9 (
    mvK v8_1 h fun v10 h =>
    mvK v10 h fun v5 h =>
    vK (aLoad Tryz.prog 55 v3 h) h fun v11 g =>
    VB h.length v11 ∧ (let h := g
     mvK a0 h fun v12 h =>
     mvK v5 h fun v13 h =>
     vK (aIndexAddr Tryz.prog 56 v12 v13) h fun v14 h =>
     vK (aLoad Tryz.prog 55 v14 h) h fun v15 g =>
     VB h.length v15 ∧ (let h := g
      vK (aBin Tryz.prog BinOp.eql 55 v11 v15) h fun v16 h =>
      cnd v16 (
       mvK v5 h fun v17 h =>
       mvK v17 h fun v4_1 h =>
       retV [some v4_1] R h) (
       vK (aBin Tryz.prog BinOp.add 3 v8_1 (Value.int IntKind.i64 1)) h fun v18 h =>
       mvK v18 h fun v8_2 h =>
       I2 [v8_2] h ∧ μ2 [v8_2] h < μ2 [v8_1] h2)))) (
    mvK (Value.int IntKind.i64 (-1)) h fun v4_2 h =>
    retV [some v4_2] R h))
def lv83 (q : Nat) : List Nat := bif Nat.beq q 4 then [524080, 8] else []
theorem ok83 : lkOK Tryz.prog lv83 Tryz.f85 2 (Tryz.f85.body.getD .skip) 85 = true := by kernel_rfl
theorem e83 (a0 a1 : Value) (h : Heap) (R : Value → Heap → Prop) : n83 a0 a1 h R = wpK Tryz.prog lv83 (Tryz.f85.body.getD .skip) (endK Tryz.prog [.tmp 4] R) (argT [a0, a1]) h := by kernel_rfl
theorem w83 {a0 a1 : Value} {h : Heap} {R : Value → Heap → Prop} (hn : n83 a0 a1 h R) : DetP Tryz.prog 85 [a0, a1] h R :=
  DetP.of_code (rs := [.tmp 4]) (n := 2) Tryz.func85 (by kernel_rfl) (by kernel_rfl) lv83 ok83 rfl ((e83 a0 a1 h R) ▸ hn)

/-! ### examiner/mutant.mutantErr$1: function 113 -/
def n84 (a0 a1 : Value) (h : Heap) (R : Value → Heap → Prop) : Prop :=
  okK (some (aBox Tryz.prog 52 a0 h)) fun v2 h =>
  mvK (Value.bool false) h fun v3 h =>
  vK (aLoad Tryz.prog 52 v2 h) h fun v4 h =>
  vK (aLoad Tryz.prog 52 a1 h) h fun v5 h =>
  cK Tryz.prog 114 [v4, v5] h fun v6 h =>
  mvK v6 h fun v3_1 h =>
  retV [some v3_1] R h
def lv84 (q : Nat) : List Nat := []
theorem ok84 : lkOK Tryz.prog lv84 Tryz.f113 2 (Tryz.f113.body.getD .skip) 113 = true := by kernel_rfl
theorem e84 (a0 a1 : Value) (h : Heap) (R : Value → Heap → Prop) : n84 a0 a1 h R = wpK Tryz.prog lv84 (Tryz.f113.body.getD .skip) (endK Tryz.prog [.tmp 3] R) (argT [a0, a1]) h := by kernel_rfl
theorem w84 {a0 a1 : Value} {h : Heap} {R : Value → Heap → Prop} (hn : n84 a0 a1 h R) : DetP Tryz.prog 113 [a0, a1] h R :=
  DetP.of_code (rs := [.tmp 3]) (n := 2) Tryz.func113 (by kernel_rfl) (by kernel_rfl) lv84 ok84 rfl ((e84 a0 a1 h R) ▸ hn)

/-! ### examiner/mutant.meet: function 114 -/
def n85 (a0 a1 : Value) (h : Heap) (R : Value → Heap → Prop) : Prop :=
  okK (some (aBox Tryz.prog 52 a0 h)) fun v2 h =>
  okK (some (aBox Tryz.prog 52 a1 h)) fun v3 h =>
  mvK (Value.bool false) h fun v4 h =>
  vK (aLoad Tryz.prog 52 v2 h) h fun v13 h =>
  cK Tryz.prog 127 [v13] h fun v14 h =>
  mvK v14 h fun v12 h =>
  vK (aExtract v12 0) h fun v15 h =>
  vK (aExtract v12 1) h fun v16 h =>
  vK (aExtract v12 2) h fun v17 h =>
  mvK v15 h fun v5 h =>
  mvK v16 h fun v6 h =>
  mvK v17 h fun v7 h =>
  vK (aLoad Tryz.prog 52 v3 h) h fun v19 h =>
  cK Tryz.prog 127 [v19] h fun v20 h =>
  mvK v20 h fun v18 h =>
  vK (aExtract v18 0) h fun v21 h =>
  vK (aExtract v18 1) h fun v22 h =>
  vK (aExtract v18 2) h fun v23 h =>
  mvK v21 h fun v8 h =>
  mvK v22 h fun v9 h =>
  mvK v23 h fun v10 h =>
  mvK (Value.func (Fn.func 128) #[] #[]) h fun v11 h =>
  mvK v11 h fun v24 h =>
  mvK v5 h fun v25 h =>
  mvK v8 h fun v26 h =>
  callK Tryz.prog (fnOf v24 [v25, v26]) h fun v27 h =>
  mvK v27 h fun v28 h =>
  gdK v28 false (fun k0 =>
   mvK v11 h fun v29 h =>
   k0 v29 h) (fun v29_1 h =>
   gdK v28 false (fun k1 =>
    mvK v6 h fun v30 h =>
    k1 v30 h) (fun v30_1 h =>
    gdK v28 false (fun k2 =>
     mvK v9 h fun v31 h =>
     k2 v31 h) (fun v31_1 h =>
     gdK v28 false (fun k3 =>
      callK Tryz.prog (fnOf v29_1 [v30_1, v31_1]) h fun v32 h =>
      k3 v32 h) (fun v32_1 h =>
      vK (pickV v28 (Value.bool true) v32_1) h fun v33 h =>
      mvK v33 h fun v34 h =>
      gdK v34 false (fun k4 =>
       mvK v7 h fun v35 h =>
       k4 v35 h) (fun v35_1 h =>
       gdK v34 false (fun k5 =>
        mvK v35_1 h fun v36 h =>
        k5 v36 h) (fun v36_1 h =>
        gdK v36_1 true (fun k6 =>
         mvK v10 h fun v37 h =>
         k6 v37 h) (fun v37_1 h =>
         gdK v34 false (fun k7 =>
          vK (pickV v36_1 v37_1 (Value.bool false)) h fun v38 h =>
          k7 v38 h) (fun v38_1 h =>
          vK (pickV v34 (Value.bool true) v38_1) h fun v39 h =>
          mvK v39 h fun v4_1 h =>
          retV [some v4_1] R h) h) h) h) h) h) h) h) h
def lv85 (q : Nat) : List Nat := []
theorem ok85 : lkOK Tryz.prog lv85 Tryz.f114 2 (Tryz.f114.body.getD .skip) 114 = true := by kernel_rfl
theorem e85 (a0 a1 : Value) (h : Heap) (R : Value → Heap → Prop) : n85 a0 a1 h R = wpK Tryz.prog lv85 (Tryz.f114.body.getD .skip) (endK Tryz.prog [.tmp 4] R) (argT [a0, a1]) h := by kernel_rfl
theorem w85 {a0 a1 : Value} {h : Heap} {R : Value → Heap → Prop} (hn : n85 a0 a1 h R) : DetP Tryz.prog 114 [a0, a1] h R :=
  DetP.of_code (rs := [.tmp 4]) (n := 2) Tryz.func114 (by kernel_rfl) (by kernel_rfl) lv85 ok85 rfl ((e85 a0 a1 h R) ▸ hn)

/-! ### examiner/mutant.isRight: function 115 -/
def n86 (a0 a1 : Value) (h : Heap) (R : Value → Heap → Prop) : Prop :=
  okK (some (aBox Tryz.prog 24 a0 h)) fun v2 h =>
  okK (some (aBox Tryz.prog 52 a1 h)) fun v3 h =>
  mvK (Value.bool false) h fun v4 h =>
  vK (aFieldAddr Tryz.prog 24 v2 4) h fun v6 h =>
  vK (aLoad Tryz.prog 22 v6 h) h fun v7 h =>
  vK (aLen Tryz.prog 22 v7) h fun v8 h =>
  mvK v8 h fun v5 h =>
  vK (aFieldAddr Tryz.prog 52 v3 0) h fun v9 h =>
  vK (aLoad Tryz.prog 3 v9 h) h fun v10 h =>
  vK (aBin Tryz.prog BinOp.eql 3 v10 (Value.int IntKind.i64 0)) h fun v12 h =>
  mvK v12 h fun v11 h =>
  cnd v11 (
   vK (aFieldAddr Tryz.prog 52 v3 1) h fun v13 h =>
   vK (aLoad Tryz.prog 3 v13 h) h fun v14 h =>
   mvK v5 h fun v15 h =>
   vK (aBin Tryz.prog BinOp.sub 3 v15 (Value.int IntKind.i64 1)) h fun v16 h =>
   cK Tryz.prog 54 [v14, (Value.int IntKind.i64 0), v16] h fun v17 h =>
   mvK v17 h fun v18 h =>
   gdK v18 true (fun k0 =>
    vK (aFieldAddr Tryz.prog 52 v3 2) h fun v19 h =>
    k0 v19 h) (fun v19_1 h =>
    gdK v18 true (fun k1 =>
     vK (aLoad Tryz.prog 3 v19_1 h) h fun v20 h =>
     k1 v20 h) (fun v20_1 h =>
     gdK v18 true (fun k2 =>
      vK (aFieldAddr Tryz.prog 24 v2 2) h fun v21 h =>
      k2 v21 h) (fun v21_1 h =>
      gdK v18 true (fun k3 =>
       vK (aLoad Tryz.prog 3 v21_1 h) h fun v22 h =>
       k3 v22 h) (fun v22_1 h =>
       gdK v18 true (fun k4 =>
        vK (aBin Tryz.prog BinOp.sub 3 v22_1 (Value.int IntKind.i64 1)) h fun v23 h =>
        k4 v23 h) (fun v23_1 h =>
        gdK v18 true (fun k5 =>
         cK Tryz.prog 54 [v20_1, (Value.int IntKind.i64 0), v23_1] h fun v24 h =>
         k5 v24 h) (fun v24_1 h =>
         vK (pickV v18 v24_1 (Value.bool false)) h fun v25 h =>
         mvK v25 h fun v4_1 h =>
         retV [some v4_1] R h) h) h) h) h) h) h) (
   vK (aBin Tryz.prog BinOp.eql 3 v10 (Value.int IntKind.i64 1)) h fun v27 h =>
   mvK v27 h fun v26 h =>
   cnd v26 (
    vK (aFieldAddr Tryz.prog 52 v3 1) h fun v28 h =>
    vK (aLoad Tryz.prog 3 v28 h) h fun v29 h =>
    mvK v5 h fun v30 h =>
    vK (aBin Tryz.prog BinOp.sub 3 v30 (Value.int IntKind.i64 1)) h fun v31 h =>
    cK Tryz.prog 54 [v29, (Value.int IntKind.i64 0), v31] h fun v32 h =>
    mvK v32 h fun v33 h =>
    gdK v33 true (fun k6 =>
     vK (aFieldAddr Tryz.prog 52 v3 2) h fun v34 h =>
     k6 v34 h) (fun v34_1 h =>
     gdK v33 true (fun k7 =>
      vK (aLoad Tryz.prog 3 v34_1 h) h fun v35 h =>
      k7 v35 h) (fun v35_1 h =>
      gdK v33 true (fun k8 =>
       vK (aFieldAddr Tryz.prog 24 v2 0) h fun v36 h =>
       k8 v36 h) (fun v36_1 h =>
       gdK v33 true (fun k9 =>
        vK (aLoad Tryz.prog 3 v36_1 h) h fun v37 h =>
        k9 v37 h) (fun v37_1 h =>
        gdK v33 true (fun k10 =>
         vK (aBin Tryz.prog BinOp.sub 3 v37_1 (Value.int IntKind.i64 1)) h fun v38 h =>
         k10 v38 h) (fun v38_1 h =>
         gdK v33 true (fun k11 =>
          cK Tryz.prog 54 [v35_1, (Value.int IntKind.i64 0), v38_1] h fun v39 h =>
          k11 v39 h) (fun v39_1 h =>
          vK (pickV v33 v39_1 (Value.bool false)) h fun v40 h =>
          mvK v40 h fun v4_2 h =>
          retV [some v4_2] R h) h) h) h) h) h) h) (
    vK (aBin Tryz.prog BinOp.eql 3 v10 (Value.int IntKind.i64 2)) h fun v42 h =>
    mvK v42 h fun v41 h =>
    cnd v41 (
     vK (aFieldAddr Tryz.prog 52 v3 1) h fun v43 h =>
     vK (aLoad Tryz.prog 3 v43 h) h fun v44 h =>
     vK (aBin Tryz.prog BinOp.eql 3 v44 (Value.int IntKind.i64 0)) h fun v45 h =>
     mvK v45 h fun v46 h =>
     gdK v46 true (fun k12 =>
      vK (aFieldAddr Tryz.prog 52 v3 2) h fun v47 h =>
      k12 v47 h) (fun v47_1 h =>
      gdK v46 true (fun k13 =>
       vK (aLoad Tryz.prog 3 v47_1 h) h fun v48 h =>
       k13 v48 h) (fun v48_1 h =>
       gdK v46 true (fun k14 =>
        vK (aFieldAddr Tryz.prog 24 v2 0) h fun v49 h =>
        k14 v49 h) (fun v49_1 h =>
        gdK v46 true (fun k15 =>
         vK (aLoad Tryz.prog 3 v49_1 h) h fun v50 h =>
         k15 v50 h) (fun v50_1 h =>
         gdK v46 true (fun k16 =>
          vK (aBin Tryz.prog BinOp.sub 3 v50_1 (Value.int IntKind.i64 1)) h fun v51 h =>
          k16 v51 h) (fun v51_1 h =>
          gdK v46 true (fun k17 =>
           cK Tryz.prog 54 [v48_1, (Value.int IntKind.i64 0), v51_1] h fun v52 h =>
           k17 v52 h) (fun v52_1 h =>
           vK (pickV v46 v52_1 (Value.bool false)) h fun v53 h =>
           mvK v53 h fun v4_3 h =>
           retV [some v4_3] R h) h) h) h) h) h) h) (
     vK (aFieldAddr Tryz.prog 52 v3 1) h fun v54 h =>
     vK (aLoad Tryz.prog 3 v54 h) h fun v55 h =>
     mvK v5 h fun v56 h =>
     vK (aBin Tryz.prog BinOp.sub 3 v56 (Value.int IntKind.i64 1)) h fun v57 h =>
     cK Tryz.prog 54 [v55, (Value.int IntKind.i64 0), v57] h fun v58 h =>
     mvK v58 h fun v59 h =>
     gdK v59 true (fun k18 =>
      vK (aFieldAddr Tryz.prog 52 v3 2) h fun v60 h =>
      k18 v60 h) (fun v60_1 h =>
      gdK v59 true (fun k19 =>
       vK (aLoad Tryz.prog 3 v60_1 h) h fun v61 h =>
       k19 v61 h) (fun v61_1 h =>
       gdK v59 true (fun k20 =>
        mvK v5 h fun v62 h =>
        k20 v62 h) (fun v62_1 h =>
        gdK v59 true (fun k21 =>
         vK (aBin Tryz.prog BinOp.sub 3 v62_1 (Value.int IntKind.i64 1)) h fun v63 h =>
         k21 v63 h) (fun v63_1 h =>
         gdK v59 true (fun k22 =>
          cK Tryz.prog 54 [v61_1, (Value.int IntKind.i64 0), v63_1] h fun v64 h =>
          k22 v64 h) (fun v64_1 h =>
          vK (pickV v59 v64_1 (Value.bool false)) h fun v65 h =>
          mvK v65 h fun v4_4 h =>
          retV [some v4_4] R h) h) h) h) h) h)))
def lv86 (q : Nat) : List Nat := []
theorem ok86 : lkOK Tryz.prog lv86 Tryz.f115 2 (Tryz.f115.body.getD .skip) 115 = true := by kernel_rfl
theorem e86 (a0 a1 : Value) (h : Heap) (R : Value → Heap → Prop) : n86 a0 a1 h R = wpK Tryz.prog lv86 (Tryz.f115.body.getD .skip) (endK Tryz.prog [.tmp 4] R) (argT [a0, a1]) h := by kernel_rfl
theorem w86 {a0 a1 : Value} {h : Heap} {R : Value → Heap → Prop} (hn : n86 a0 a1 h R) : DetP Tryz.prog 115 [a0, a1] h R :=
  DetP.of_code (rs := [.tmp 4]) (n := 2) Tryz.func115 (by kernel_rfl) (by kernel_rfl) lv86 ok86 rfl ((e86 a0 a1 h R) ▸ hn)

/-! ### slices.ContainsFunc[[]examiner/api.Mutation,examiner/api.Mutation]: function 116 -/
def n87 (a0 a1 : Value) (h : Heap) (R : Value → Heap → Prop) : Prop :=
  mvK (Value.bool false) h fun v4 h =>
  mvK a0 h fun v5 h =>
  mvK a1 h fun v6 h =>
  cK Tryz.prog 131 [v5, v6] h fun v7 h =>
  vK (aBin Tryz.prog BinOp.geq 3 v7 (Value.int IntKind.i64 0)) h fun v8 h =>
  mvK v8 h fun v4_1 h =>
  retV [some v4_1] R h
def lv87 (q : Nat) : List Nat := []
theorem ok87 : lkOK Tryz.prog lv87 Tryz.f116 2 (Tryz.f116.body.getD .skip) 116 = true := by kernel_rfl
theorem e87 (a0 a1 : Value) (h : Heap) (R : Value → Heap → Prop) : n87 a0 a1 h R = wpK Tryz.prog lv87 (Tryz.f116.body.getD .skip) (endK Tryz.prog [.tmp 4] R) (argT [a0, a1]) h := by kernel_rfl
theorem w87 {a0 a1 : Value} {h : Heap} {R : Value → Heap → Prop} (hn : n87 a0 a1 h R) : DetP Tryz.prog 116 [a0, a1] h R :=
  DetP.of_code (rs := [.tmp 4]) (n := 2) Tryz.func116 (by kernel_rfl) (by kernel_rfl) lv87 ok87 rfl ((e87 a0 a1 h R) ▸ hn)

/-! ### examiner/examinerref41.targets: function 88 -/
def n88 (a0 : Value) (h : Heap) (R : Value → Heap → Prop) : Prop :=
  okK (some (aBox Tryz.prog 52 a0 h)) fun v1 h =>
  mvK (Value.slice none 0 0) h fun v2 h =>
  vK (aFieldAddr Tryz.prog 52 v1 0) h fun v3 h =>
  vK (aLoad Tryz.prog 3 v3 h) h fun v4 h =>
  vK (aBin Tryz.prog BinOp.eql 3 v4 (Value.int IntKind.i64 3)) h fun v5 h =>
  cnd v5 (
   vK (aFieldAddr Tryz.prog 52 v1 1) h fun v6 h =>
   vK (aLoad Tryz.prog 3 v6 h) h fun v7 h =>
   vK (aFieldAddr Tryz.prog 52 v1 2) h fun v8 h =>
   vK (aLoad Tryz.prog 3 v8 h) h fun v9 h =>
   okK (aBuildSlice Tryz.prog 31 2 [(0, v7), (1, v9)] h) fun v10 h =>
   mvK v10 h fun v2_1 h =>
   retV [some v2_1] R h) (
   vK (aFieldAddr Tryz.prog 52 v1 1) h fun v11 h =>
   vK (aLoad Tryz.prog 3 v11 h) h fun v12 h =>
   okK (aBuildSlice Tryz.prog 31 1 [(0, v12)] h) fun v13 h =>
   mvK v13 h fun v2_2 h =>
   retV [some v2_2] R h)
def lv88 (q : Nat) : List Nat := []
theorem ok88 : lkOK Tryz.prog lv88 Tryz.f88 1 (Tryz.f88.body.getD .skip) 88 = true := by kernel_rfl
theorem e88 (a0 : Value) (h : Heap) (R : Value → Heap → Prop) : n88 a0 h R = wpK Tryz.prog lv88 (Tryz.f88.body.getD .skip) (endK Tryz.prog [.tmp 2] R) (argT [a0]) h := by kernel_rfl
theorem w88 {a0 : Value} {h : Heap} {R : Value → Heap → Prop} (hn : n88 a0 h R) : DetP Tryz.prog 88 [a0] h R :=
  DetP.of_code (rs := [.tmp 2]) (n := 1) Tryz.func88 (by kernel_rfl) (by kernel_rfl) lv88 ok88 rfl ((e88 a0 h R) ▸ hn)

/-! ### examiner/examinerbase.Has: function 89 -/
def n89 (a0 a1 : Value) (h : Heap) (R : Value → Heap → Prop) : Prop :=
  mvK (Value.bool false) h fun v4 h =>
  mvK (Value.int IntKind.i64 0) h fun v5 h =>
  ∃ (I2 : List Value → Heap → Prop) (μ2 : List Value → Heap → Nat), I2 [v5] h ∧
  ∀ (h2 : Heap) (j2 : Tmps) (v5_1 : Value), I2 [v5_1] h2 → (let h := h2
   mvK v5_1 h fun v6 h =>
   mvK a0 h fun v7 h =>
   vK (aLen Tryz.prog 31 v7) h fun v8 h =>
   vK (aBin Tryz.prog BinOp.lss 3 v6 v8) h fun v9 h =>
   cnd v9 (
    mvK a0 h fun v12 h =>
    mvK v5_1 h fun v13 h =>
    vK (aIndexAddr Tryz.prog 31 v12 v13) h fun v14 h =>
    vK (aLoad Tryz.prog 3 v14 h) h fun v15 h =>
    mvK a1 h fun v16 h =>
    vK (aBin Tryz.prog BinOp.eql 3 v15 v16) h fun v17 h =>
    cnd v17 (
     mvK (Value.bool true) h fun v4_1 h =>
     retV [some v4_1] R h) (
     mvK v5_1 h fun v10 h =>
     vK (aBin Tryz.prog BinOp.add 3 v10 (Value.int IntKind.i64 1)) h fun v11 h =>
     mvK v11 h fun v5_2 h =>
     I2 [v5_2] h ∧ μ2 [v5_2] h < μ2 [v5_1] h2)) (
    mvK (Value.bool false) h fun v4_2 h =>
    retV [some v4_2] R h))
def lv89 (q : Nat) : List Nat := bif Nat.beq q 4 then [262128, 5] else []
theorem ok89 : lkOK Tryz.prog lv89 Tryz.f89 2 (Tryz.f89.body.getD .skip) 89 = true := by kernel_rfl
theorem e89 (a0 a1 : Value) (h : Heap) (R : Value → Heap → Prop) : n89 a0 a1 h R = wpK Tryz.prog lv89 (Tryz.f89.body.getD .skip) (endK Tryz.prog [.tmp 4] R) (argT [a0, a1]) h := by kernel_rfl
theorem w89 {a0 a1 : Value} {h : Heap} {R : Value → Heap → Prop} (hn : n89 a0 a1 h R) : DetP Tryz.prog 89 [a0, a1] h R :=
  DetP.of_code (rs := [.tmp 4]) (n := 2) Tryz.func89 (by kernel_rfl) (by kernel_rfl) lv89 ok89 rfl ((e89 a0 a1 h R) ▸ hn)

/-! ### examiner/model.machineErr: function 71 -/
def n90 (a0 : Value) (h : Heap) (R : Value → Heap → Prop) : Prop :=
  okK (some (aBox Tryz.prog 24 a0 h)) fun v1 h =>
  mvK (Value.int IntKind.i64 0) h fun v2 h =>
  vK (aLoad Tryz.prog 24 v1 h) h fun v6 h =>
  cK Tryz.prog 82 [v6] h fun v7 h =>
  mvK v7 h fun v5 h =>
  vK (aExtract v5 0) h fun v8 h =>
  vK (aExtract v5 1) h fun v9 h =>
  mvK v8 h fun v3 h =>
  mvK v9 h fun v4 h =>
  mvK v4 h fun v10 h =>
  mvK v10 h fun v2_1 h =>
  retV [some v2_1] R h
def lv90 (q : Nat) : List Nat := []
theorem ok90 : lkOK Tryz.prog lv90 Tryz.f71 1 (Tryz.f71.body.getD .skip) 71 = true := by kernel_rfl
theorem e90 (a0 : Value) (h : Heap) (R : Value → Heap → Prop) : n90 a0 h R = wpK Tryz.prog lv90 (Tryz.f71.body.getD .skip) (endK Tryz.prog [.tmp 2] R) (argT [a0]) h := by kernel_rfl
theorem w90 {a0 : Value} {h : Heap} {R : Value → Heap → Prop} (hn : n90 a0 h R) : DetP Tryz.prog 71 [a0] h R :=
  DetP.of_code (rs := [.tmp 2]) (n := 1) Tryz.func71 (by kernel_rfl) (by kernel_rfl) lv90 ok90 rfl ((e90 a0 h R) ▸ hn)

/-! ### examiner/model.unless: function 72 -/
def n91 (a0 a1 : Value) (h : Heap) (R : Value → Heap → Prop) : Prop :=
  mvK (Value.int IntKind.i64 0) h fun v4 h =>
  mvK a0 h fun v5 h =>
  cnd v5 (
   mvK (Value.int IntKind.i64 0) h fun v4_1 h =>
   retV [some v4_1] R h) (
   mvK a1 h fun v6 h =>
   mvK v6 h fun v4_2 h =>
   retV [some v4_2] R h)
def lv91 (q : Nat) : List Nat := []
theorem ok91 : lkOK Tryz.prog lv91 Tryz.f72 2 (Tryz.f72.body.getD .skip) 72 = true := by kernel_rfl
theorem e91 (a0 a1 : Value) (h : Heap) (R : Value → Heap → Prop) : n91 a0 a1 h R = wpK Tryz.prog lv91 (Tryz.f72.body.getD .skip) (endK Tryz.prog [.tmp 4] R) (argT [a0, a1]) h := by kernel_rfl
theorem w91 {a0 a1 : Value} {h : Heap} {R : Value → Heap → Prop} (hn : n91 a0 a1 h R) : DetP Tryz.prog 72 [a0, a1] h R :=
  DetP.of_code (rs := [.tmp 4]) (n := 2) Tryz.func72 (by kernel_rfl) (by kernel_rfl) lv91 ok91 rfl ((e91 a0 a1 h R) ▸ hn)

/-! ### examiner/model.tableOf: function 73 -/
def n92 (a0 : Value) (h : Heap) (R : Value → Heap → Prop) : Prop :=
  okK (some (aBox Tryz.prog 24 a0 h)) fun v1 h =>
  mvK (Value.slice none 0 0) h fun v2 h =>
  vK (aFieldAddr Tryz.prog 24 v1 0) h fun v7 h =>
  vK (aLoad Tryz.prog 3 v7 h) h fun v8 h =>
  okK (aMakeSlice Tryz.prog 109 v8 v8 h) fun v9 h =>
  mvK v9 h fun v3 h =>
  mvK v3 h fun v10 h =>
  vK (aLen Tryz.prog 109 v10) h fun v11 h =>
  mvK (Value.int IntKind.i64 0) h fun v12 h =>
  ∃ (I3 : List Value → Heap → Prop) (μ3 : List Value → Heap → Nat), I3 [v12] h ∧
  ∀ (h3 : Heap) (j3 : Tmps) (v12_1 : Value), I3 [v12_1] h3 → (let h := h3
   vK (aBin Tryz.prog BinOp.lss 3 v12_1 v11) h fun v13 h =>
   cnd v13 (
    mvK v12_1 h fun v14 h =>
    mvK v14 h fun v4 h =>
    mvK v3 h fun v15 h =>
    mvK v4 h fun v16 h =>
    vK (aFieldAddr Tryz.prog 24 v1 1) h fun v17 h =>
    vK (aLoad Tryz.prog 3 v17 h) h fun v18 h =>
    okK (aMakeSlice Tryz.prog 112 v18 v18 h) fun v19 h =>
    vK (aIndexAddr Tryz.prog 109 v15 v16) h fun v20 h =>
    okK ((aStore Tryz.prog 112 v20 v19 h).map (undef, ·)) fun _ h =>
    vK (aBin Tryz.prog BinOp.add 3 v12_1 (Value.int IntKind.i64 1)) h fun v21 h =>
    mvK v21 h fun v12_2 h =>
    I3 [v12_2] h ∧ μ3 [v12_2] h < μ3 [v12_1] h3) (
    vK (aFieldAddr Tryz.prog 24 v1 4) h fun v22 h =>
    vK (aLoad Tryz.prog 22 v22 h) h fun v23 h =>
    vK (aLen Tryz.prog 22 v23) h fun v24 h =>
    mvK (Value.int IntKind.i64 0) h fun v25 h =>
    ∃ (I8 : List Value → Heap → Prop) (μ8 : List Value → Heap → Nat), I8 [v25] h ∧
    ∀ (h8 : Heap) (j8 : Tmps) (v25_1 : Value), I8 [v25_1] h8 → (let h := h8
     vK (aBin Tryz.prog BinOp.lss 3 v25_1 v24) h fun v26 h =>
     cnd v26 (
      vK (aIndexAddr Tryz.prog 22 v23 v25_1) h fun v27 h =>
      vK (aLoad Tryz.prog 87 v27 h) h fun v28 h =>
      okK (aAlloc Tryz.prog 87 h) fun v6 h =>
      okK ((aStore Tryz.prog 87 v6 v28 h).map (undef, ·)) fun _ h =>
      mvK v3 h fun v29 h =>
      vK (aFieldAddr Tryz.prog 87 v6 0) h fun v30 h =>
      vK (aLoad Tryz.prog 3 v30 h) h fun v31 g =>
      VB h.length v31 ∧ (let h := g
       vK (aIndexAddr Tryz.prog 109 v29 v31) h fun v32 h =>
       vK (aLoad Tryz.prog 112 v32 h) h fun v33 g =>
       VB h.length v33 ∧ (let h := g
        vK (aFieldAddr Tryz.prog 87 v6 1) h fun v34 h =>
        vK (aLoad Tryz.prog 3 v34 h) h fun v35 g =>
        VB h.length v35 ∧ (let h := g
         vK (aIndexAddr Tryz.prog 112 v33 v35) h fun v36 h =>
         okK ((aStore Tryz.prog 111 v36 v6 h).map (undef, ·)) fun _ h =>
         (True) ∧ (
          vK (aBin Tryz.prog BinOp.add 3 v25_1 (Value.int IntKind.i64 1)) h fun v37 h =>
          mvK v37 h fun v25_2 h =>
          I8 [v25_2] h ∧ μ8 [v25_2] h < μ8 [v25_1] h8))))) (
      mvK v3 h fun v38 h =>
      mvK v38 h fun v2_1 h =>
      retV [some v2_1] R h))))
def lv92 (q : Nat) : List Nat := bif Nat.beq q 6 then [4190224, 12] else bif Nat.beq q 16 then [274844352576, 25] else []
theorem ok92 : lkOK Tryz.prog lv92 Tryz.f73 1 (Tryz.f73.body.getD .skip) 73 = true := by kernel_rfl
theorem e92 (a0 : Value) (h : Heap) (R : Value → Heap → Prop) : n92 a0 h R = wpK Tryz.prog lv92 (Tryz.f73.body.getD .skip) (endK Tryz.prog [.tmp 2] R) (argT [a0]) h := by kernel_rfl
theorem w92 {a0 : Value} {h : Heap} {R : Value → Heap → Prop} (hn : n92 a0 h R) : DetP Tryz.prog 73 [a0] h R :=
  DetP.of_code (rs := [.tmp 2]) (n := 1) Tryz.func73 (by kernel_rfl) (by kernel_rfl) lv92 ok92 rfl ((e92 a0 h R) ▸ hn)

/-! ### examiner/model.spans: function 91 -/
def n96 (a0 a1 a2 : Value) (h : Heap) (R : Value → Heap → Prop) : Prop :=
  mvK (Value.bool false) h fun v6 h =>
  mvK a1 h fun v7 h =>
  mvK a0 h fun v8 h =>
  vK (aBin Tryz.prog BinOp.leq 3 v7 v8) h fun v9 h =>
  mvK v9 h fun v10 h =>
  gdK v10 true (fun k0 =>
   mvK a0 h fun v11 h =>
   k0 v11 h) (fun v11_1 h =>
   gdK v10 true (fun k1 =>
    mvK a2 h fun v12 h =>
    k1 v12 h) (fun v12_1 h =>
    gdK v10 true (fun k2 =>
     vK (aBin Tryz.prog BinOp.leq 3 v11_1 v12_1) h fun v13 h =>
     k2 v13 h) (fun v13_1 h =>
     vK (pickV v10 v13_1 (Value.bool false)) h fun v14 h =>
     mvK v14 h fun v6_1 h =>
     retV [some v6_1] R h) h) h) h
def lv96 (q : Nat) : List Nat := []
theorem ok96 : lkOK Tryz.prog lv96 Tryz.f91 3 (Tryz.f91.body.getD .skip) 91 = true := by kernel_rfl
theorem e96 (a0 a1 a2 : Value) (h : Heap) (R : Value → Heap → Prop) : n96 a0 a1 a2 h R = wpK Tryz.prog lv96 (Tryz.f91.body.getD .skip) (endK Tryz.prog [.tmp 6] R) (argT [a0, a1, a2]) h := by kernel_rfl
theorem w96 {a0 a1 a2 : Value} {h : Heap} {R : Value → Heap → Prop} (hn : n96 a0 a1 a2 h R) : DetP Tryz.prog 91 [a0, a1, a2] h R :=
  DetP.of_code (rs := [.tmp 6]) (n := 3) Tryz.func91 (by kernel_rfl) (by kernel_rfl) lv96 ok96 rfl ((e96 a0 a1 a2 h R) ▸ hn)

/-! ### cmp.isNaN[int]: function 79 -/
def n107 (a0 : Value) (h : Heap) (R : Value → Heap → Prop) : Prop :=
  mvK (Value.bool false) h fun v2 h =>
  mvK a0 h fun v3 h =>
  mvK a0 h fun v4 h =>
  vK (aBin Tryz.prog BinOp.neq 3 v3 v4) h fun v5 h =>
  mvK v5 h fun v2_1 h =>
  retV [some v2_1] R h
def lv107 (q : Nat) : List Nat := []
theorem ok107 : lkOK Tryz.prog lv107 Tryz.f79 1 (Tryz.f79.body.getD .skip) 79 = true := by kernel_rfl
theorem e107 (a0 : Value) (h : Heap) (R : Value → Heap → Prop) : n107 a0 h R = wpK Tryz.prog lv107 (Tryz.f79.body.getD .skip) (endK Tryz.prog [.tmp 2] R) (argT [a0]) h := by kernel_rfl
theorem w107 {a0 : Value} {h : Heap} {R : Value → Heap → Prop} (hn : n107 a0 h R) : DetP Tryz.prog 79 [a0] h R :=
  DetP.of_code (rs := [.tmp 2]) (n := 1) Tryz.func79 (by kernel_rfl) (by kernel_rfl) lv107 ok107 rfl ((e107 a0 h R) ▸ hn)

/-! ### examiner/mutant.changed: function 127 -/
def n108 (a0 : Value) (h : Heap) (R : Value → Heap → Prop) : Prop :=
  okK (some (aBox Tryz.prog 52 a0 h)) fun v1 h =>
  mvK (Value.slice none 0 0) h fun v2 h =>
  mvK (Value.slice none 0 0) h fun v3 h =>
  mvK (Value.bool false) h fun v4 h =>
  vK (aFieldAddr Tryz.prog 52 v1 0) h fun v5 h =>
  vK (aLoad Tryz.prog 3 v5 h) h fun v6 h =>
  vK (aBin Tryz.prog BinOp.eql 3 v6 (Value.int IntKind.i64 0)) h fun v8 h =>
  mvK v8 h fun v7 h =>
  cnd v7 (
   vK (aFieldAddr Tryz.prog 52 v1 1) h fun v9 h =>
   vK (aLoad Tryz.prog 3 v9 h) h fun v10 g =>
   VB h.length v10 ∧ (let h := g
    okK (aBuildSlice Tryz.prog 31 1 [(0, v10)] h) fun v11 h =>
    mvK (Value.slice none 0 0) h fun v2_1 h =>
    mvK v11 h fun v3_1 h =>
    mvK (Value.bool false) h fun v4_1 h =>
    retV [some v2_1, some v3_1, some v4_1] R h)) (
   vK (aBin Tryz.prog BinOp.eql 3 v6 (Value.int IntKind.i64 1)) h fun v13 h =>
   mvK v13 h fun v12 h =>
   cnd v12 (
    vK (aFieldAddr Tryz.prog 52 v1 1) h fun v14 h =>
    vK (aLoad Tryz.prog 3 v14 h) h fun v15 h =>
    okK (aBuildSlice Tryz.prog 31 1 [(0, v15)] h) fun v16 h =>
    mvK v16 h fun v2_2 h =>
    mvK (Value.slice none 0 0) h fun v3_2 h =>
    mvK (Value.bool false) h fun v4_2 h =>
    retV [some v2_2, some v3_2, some v4_2] R h) (
    vK (aBin Tryz.prog BinOp.eql 3 v6 (Value.int IntKind.i64 2)) h fun v18 h =>
    mvK v18 h fun v17 h =>
    cnd v17 (
     mvK (Value.slice none 0 0) h fun v2_3 h =>
     mvK (Value.slice none 0 0) h fun v3_3 h =>
     mvK (Value.bool true) h fun v4_3 h =>
     retV [some v2_3, some v3_3, some v4_3] R h) (
     vK (aFieldAddr Tryz.prog 52 v1 1) h fun v19 h =>
     vK (aLoad Tryz.prog 3 v19 h) h fun v20 h =>
     vK (aFieldAddr Tryz.prog 52 v1 2) h fun v21 h =>
     vK (aLoad Tryz.prog 3 v21 h) h fun v22 h =>
     okK (aBuildSlice Tryz.prog 31 2 [(0, v20), (1, v22)] h) fun v23 h =>
     mvK v23 h fun v2_4 h =>
     mvK (Value.slice none 0 0) h fun v3_4 h =>
     mvK (Value.bool false) h fun v4_4 h =>
     retV [some v2_4, some v3_4, some v4_4] R h)))
def lv108 (q : Nat) : List Nat := []
theorem ok108 : lkOK Tryz.prog lv108 Tryz.f127 1 (Tryz.f127.body.getD .skip) 127 = true := by kernel_rfl
theorem e108 (a0 : Value) (h : Heap) (R : Value → Heap → Prop) : n108 a0 h R = wpK Tryz.prog lv108 (Tryz.f127.body.getD .skip) (endK Tryz.prog [.tmp 2, .tmp 3, .tmp 4] R) (argT [a0]) h := by kernel_rfl
theorem w108 {a0 : Value} {h : Heap} {R : Value → Heap → Prop} (hn : n108 a0 h R) : DetP Tryz.prog 127 [a0] h R :=
  DetP.of_code (rs := [.tmp 2, .tmp 3, .tmp 4]) (n := 1) Tryz.func127 (by kernel_rfl) (by kernel_rfl) lv108 ok108 rfl ((e108 a0 h R) ▸ hn)

/-! ### examiner/mutant.meet$1: function 128 -/
def n109 (a0 a1 : Value) (h : Heap) (R : Value → Heap → Prop) : Prop :=
  okK (some (aBox Tryz.prog 31 a1 h)) fun v3 h =>
  mvK (Value.bool false) h fun v4 h =>
  mvK a0 h fun v5 h =>
  mvK (Value.func (Fn.func 129) #[] #[v3]) h fun v6 h =>
  cK Tryz.prog 67 [v5, v6] h fun v7 h =>
  mvK v7 h fun v4_1 h =>
  retV [some v4_1] R h
def lv109 (q : Nat) : List Nat := []
theorem ok109 : lkOK Tryz.prog lv109 Tryz.f128 2 (Tryz.f128.body.getD .skip) 128 = true := by kernel_rfl
theorem e109 (a0 a1 : Value) (h : Heap) (R : Value → Heap → Prop) : n109 a0 a1 h R = wpK Tryz.prog lv109 (Tryz.f128.body.getD .skip) (endK Tryz.prog [.tmp 4] R) (argT [a0, a1]) h := by kernel_rfl
theorem w109 {a0 a1 : Value} {h : Heap} {R : Value → Heap → Prop} (hn : n109 a0 a1 h R) : DetP Tryz.prog 128 [a0, a1] h R :=
  DetP.of_code (rs := [.tmp 4]) (n := 2) Tryz.func128 (by kernel_rfl) (by kernel_rfl) lv109 ok109 rfl ((e109 a0 a1 h R) ▸ hn)

/-! ### slices.ContainsFunc[[]int,int]: function 67 -/
def n110 (a0 a1 : Value) (h : Heap) (R : Value → Heap → Prop) : Prop :=
  mvK (Value.bool false) h fun v4 h =>
  mvK a0 h fun v5 h =>
  mvK a1 h fun v6 h =>
  cK Tryz.prog 90 [v5, v6] h fun v7 h =>
  vK (aBin Tryz.prog BinOp.geq 3 v7 (Value.int IntKind.i64 0)) h fun v8 h =>
  mvK v8 h fun v4_1 h =>
  retV [some v4_1] R h
def lv110 (q : Nat) : List Nat := []
theorem ok110 : lkOK Tryz.prog lv110 Tryz.f67 2 (Tryz.f67.body.getD .skip) 67 = true := by kernel_rfl
theorem e110 (a0 a1 : Value) (h : Heap) (R : Value → Heap → Prop) : n110 a0 a1 h R = wpK Tryz.prog lv110 (Tryz.f67.body.getD .skip) (endK Tryz.prog [.tmp 4] R) (argT [a0, a1]) h := by kernel_rfl
theorem w110 {a0 a1 : Value} {h : Heap} {R : Value → Heap → Prop} (hn : n110 a0 a1 h R) : DetP Tryz.prog 67 [a0, a1] h R :=
  DetP.of_code (rs := [.tmp 4]) (n := 2) Tryz.func67 (by kernel_rfl) (by kernel_rfl) lv110 ok110 rfl ((e110 a0 a1 h R) ▸ hn)

/-! ### examiner/mutant.meet$1$1: function 129 -/
def n111 (a0 a1 : Value) (h : Heap) (R : Value → Heap → Prop) : Prop :=
  mvK (Value.bool false) h fun v3 h =>
  vK (aLoad Tryz.prog 31 a1 h) h fun v4 h =>
  mvK a0 h fun v5 h =>
  cK Tryz.prog 130 [v4, v5] h fun v6 h =>
  mvK v6 h fun v3_1 h =>
  retV [some v3_1] R h
def lv111 (q : Nat) : List Nat := []
theorem ok111 : lkOK Tryz.prog lv111 Tryz.f129 2 (Tryz.f129.body.getD .skip) 129 = true := by kernel_rfl
theorem e111 (a0 a1 : Value) (h : Heap) (R : Value → Heap → Prop) : n111 a0 a1 h R = wpK Tryz.prog lv111 (Tryz.f129.body.getD .skip) (endK Tryz.prog [.tmp 3] R) (argT [a0, a1]) h := by kernel_rfl
theorem w111 {a0 a1 : Value} {h : Heap} {R : Value → Heap → Prop} (hn : n111 a0 a1 h R) : DetP Tryz.prog 129 [a0, a1] h R :=
  DetP.of_code (rs := [.tmp 3]) (n := 2) Tryz.func129 (by kernel_rfl) (by kernel_rfl) lv111 ok111 rfl ((e111 a0 a1 h R) ▸ hn)

/-! ### slices.Contains[[]int,int]: function 130 -/
def n112 (a0 a1 : Value) (h : Heap) (R : Value → Heap → Prop) : Prop :=
  mvK (Value.bool false) h fun v4 h =>
  mvK a0 h fun v5 h =>
  mvK a1 h fun v6 h =>
  cK Tryz.prog 134 [v5, v6] h fun v7 h =>
  vK (aBin Tryz.prog BinOp.geq 3 v7 (Value.int IntKind.i64 0)) h fun v8 h =>
  mvK v8 h fun v4_1 h =>
  retV [some v4_1] R h
def lv112 (q : Nat) : List Nat := []
theorem ok112 : lkOK Tryz.prog lv112 Tryz.f130 2 (Tryz.f130.body.getD .skip) 130 = true := by kernel_rfl
theorem e112 (a0 a1 : Value) (h : Heap) (R : Value → Heap → Prop) : n112 a0 a1 h R = wpK Tryz.prog lv112 (Tryz.f130.body.getD .skip) (endK Tryz.prog [.tmp 4] R) (argT [a0, a1]) h := by kernel_rfl
theorem w112 {a0 a1 : Value} {h : Heap} {R : Value → Heap → Prop} (hn : n112 a0 a1 h R) : DetP Tryz.prog 130 [a0, a1] h R :=
  DetP.of_code (rs := [.tmp 4]) (n := 2) Tryz.func130 (by kernel_rfl) (by kernel_rfl) lv112 ok112 rfl ((e112 a0 a1 h R) ▸ hn)

/-! ### slices.IndexFunc[[]examiner/api.Mutation,examiner/api.Mutation]: function 131 -/
def n113 (a0 a1 : Value) (h : Heap) (R : Value → Heap → Prop) : Prop :=
  mvK (Value.int IntKind.i64 0) h fun v4 h =>
  mvK a0 h fun v6 h =>
  vK (aLen Tryz.prog 47 v6) h fun v7 h =>
  mvK (Value.int IntKind.i64 0) h fun v8 h =>
  ∃ (I2 : List Value → Heap → Prop) (μ2 : List Value → Heap → Nat), I2 [v8] h ∧
  ∀ (h2 : Heap) (j2 : Tmps) (v8_1 : Value), I2 [v8_1] h2 → (let h := h2
   vK (aBin Tryz.prog BinOp.lss 3 v8_1 v7) h fun v9 h =>
   cnd v9 (
    mvK v8_1 h fun v10 h =>
    mvK v10 h fun v5 h =>
    mvK a1 h fun v11 h =>
    mvK a0 h fun v12 h =>
    mvK v5 h fun v13 h =>
    vK (aIndexAddr Tryz.prog 47 v12 v13) h fun v14 h =>
    vK (aLoad Tryz.prog 52 v14 h) h fun v15 h =>
    callK Tryz.prog (fnOf v11 [v15]) h fun v16 h =>
    cnd v16 (
     mvK v5 h fun v17 h =>
     mvK v17 h fun v4_1 h =>
     retV [some v4_1] R h) (
     vK (aBin Tryz.prog BinOp.add 3 v8_1 (Value.int IntKind.i64 1)) h fun v18 h =>
     mvK v18 h fun v8_2 h =>
     I2 [v8_2] h ∧ μ2 [v8_2] h < μ2 [v8_1] h2)) (
    mvK (Value.int IntKind.i64 (-1)) h fun v4_2 h =>
    retV [some v4_2] R h))
def lv113 (q : Nat) : List Nat := bif Nat.beq q 4 then [524080, 8] else []
theorem ok113 : lkOK Tryz.prog lv113 Tryz.f131 2 (Tryz.f131.body.getD .skip) 131 = true := by kernel_rfl
theorem e113 (a0 a1 : Value) (h : Heap) (R : Value → Heap → Prop) : n113 a0 a1 h R = wpK Tryz.prog lv113 (Tryz.f131.body.getD .skip) (endK Tryz.prog [.tmp 4] R) (argT [a0, a1]) h := by kernel_rfl
theorem w113 {a0 a1 : Value} {h : Heap} {R : Value → Heap → Prop} (hn : n113 a0 a1 h R) : DetP Tryz.prog 131 [a0, a1] h R :=
  DetP.of_code (rs := [.tmp 4]) (n := 2) Tryz.func131 (by kernel_rfl) (by kernel_rfl) lv113 ok113 rfl ((e113 a0 a1 h R) ▸ hn)

/-! ### slices.IndexFunc[[]int,int]: function 90 -/
def n128 (a0 a1 : Value) (h : Heap) (R : Value → Heap → Prop) : Prop :=
  mvK (Value.int IntKind.i64 0) h fun v4 h =>
  mvK a0 h fun v6 h =>
  vK (aLen Tryz.prog 31 v6) h fun v7 h =>
  mvK (Value.int IntKind.i64 0) h fun v8 h =>
  ∃ (I2 : List Value → Heap → Prop) (μ2 : List Value → Heap → Nat), I2 [v8] h ∧
  ∀ (h2 : Heap) (j2 : Tmps) (v8_1 : Value), I2 [v8_1] h2 → (let h := h2
   vK (aBin Tryz.prog BinOp.lss 3 v8_1 v7) h fun v9 h =>
   cnd v9 (
    mvK v8_1 h fun v10 h =>
    mvK v10 h fun v5 h =>
    mvK a1 h fun v11 h =>
    mvK a0 h fun v12 h =>
    mvK v5 h fun v13 h =>
    vK (aIndexAddr Tryz.prog 31 v12 v13) h fun v14 h =>
    vK (aLoad Tryz.prog 3 v14 h) h fun v15 h =>
    callK Tryz.prog (fnOf v11 [v15]) h fun v16 h =>
    cnd v16 (
     mvK v5 h fun v17 h =>
     mvK v17 h fun v4_1 h =>
     retV [some v4_1] R h) (
     vK (aBin Tryz.prog BinOp.add 3 v8_1 (Value.int IntKind.i64 1)) h fun v18 h =>
     mvK v18 h fun v8_2 h =>
     I2 [v8_2] h ∧ μ2 [v8_2] h < μ2 [v8_1] h2)) (
    mvK (Value.int IntKind.i64 (-1)) h fun v4_2 h =>
    retV [some v4_2] R h))
def lv128 (q : Nat) : List Nat := bif Nat.beq q 4 then [524080, 8] else []
theorem ok128 : lkOK Tryz.prog lv128 Tryz.f90 2 (Tryz.f90.body.getD .skip) 90 = true := by kernel_rfl
theorem e128 (a0 a1 : Value) (h : Heap) (R : Value → Heap → Prop) : n128 a0 a1 h R = wpK Tryz.prog lv128 (Tryz.f90.body.getD .skip) (endK Tryz.prog [.tmp 4] R) (argT [a0, a1]) h := by kernel_rfl
theorem w128 {a0 a1 : Value} {h : Heap} {R : Value → Heap → Prop} (hn : n128 a0 a1 h R) : DetP Tryz.prog 90 [a0, a1] h R :=
  DetP.of_code (rs := [.tmp 4]) (n := 2) Tryz.func90 (by kernel_rfl) (by kernel_rfl) lv128 ok128 rfl ((e128 a0 a1 h R) ▸ hn)

/-! ### slices.Index[[]int,int]: function 134 -/
def n129 (a0 a1 : Value) (h : Heap) (R : Value → Heap → Prop) : Prop :=
  mvK (Value.int IntKind.i64 0) h fun v4 h =>
  mvK a0 h fun v6 h =>
  vK (aLen Tryz.prog 31 v6) h fun v7 h =>
  mvK (Value.int IntKind.i64 0) h fun v8 h =>
  ∃ (I2 : List Value → Heap → Prop) (μ2 : List Value → Heap → Nat), I2 [v8] h ∧
  ∀ (h2 : Heap) (j2 : Tmps) (v8_1 : Value), I2 [v8_1] h2 → (let h := h2
   vK (aBin Tryz.prog BinOp.lss 3 v8_1 v7) h fun v9 h =>
   cnd v9 (
    mvK v8_1 h fun v10 h =>
    mvK v10 h fun v5 h =>
    mvK a1 h fun v11 h =>
    mvK a0 h fun v12 h =>
    mvK v5 h fun v13 h =>
    vK (aIndexAddr Tryz.prog 31 v12 v13) h fun v14 h =>
    vK (aLoad Tryz.prog 3 v14 h) h fun v15 h =>
    vK (aBin Tryz.prog BinOp.eql 3 v11 v15) h fun v16 h =>
    cnd v16 (
     mvK v5 h fun v17 h =>
     mvK v17 h fun v4_1 h =>
     retV [some v4_1] R h) (
     vK (aBin Tryz.prog BinOp.add 3 v8_1 (Value.int IntKind.i64 1)) h fun v18 h =>
     mvK v18 h fun v8_2 h =>
     I2 [v8_2] h ∧ μ2 [v8_2] h < μ2 [v8_1] h2)) (
    mvK (Value.int IntKind.i64 (-1)) h fun v4_2 h =>
    retV [some v4_2] R h))
def lv129 (q : Nat) : List Nat := bif Nat.beq q 4 then [524080, 8] else []
theorem ok129 : lkOK Tryz.prog lv129 Tryz.f134 2 (Tryz.f134.body.getD .skip) 134 = true := by kernel_rfl
theorem e129 (a0 a1 : Value) (h : Heap) (R : Value → Heap → Prop) : n129 a0 a1 h R = wpK Tryz.prog lv129 (Tryz.f134.body.getD .skip) (endK Tryz.prog [.tmp 4] R) (argT [a0, a1]) h := by kernel_rfl
theorem w129 {a0 a1 : Value} {h : Heap} {R : Value → Heap → Prop} (hn : n129 a0 a1 h R) : DetP Tryz.prog 134 [a0, a1] h R :=
  DetP.of_code (rs := [.tmp 4]) (n := 2) Tryz.func134 (by kernel_rfl) (by kernel_rfl) lv129 ok129 rfl ((e129 a0 a1 h R) ▸ hn)

end Go.Proofs.YtomiejfeclefaaaGreat
