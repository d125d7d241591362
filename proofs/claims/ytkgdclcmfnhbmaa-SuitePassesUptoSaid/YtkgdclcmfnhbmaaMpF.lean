import Derived.Test.YtkgdclcmfnhbmaaAmW
import Derived.Test.YtkgdclcmfnhbmaaProg
import Derived.KernelRfl
set_option linter.unusedVariables false
set_option maxRecDepth 100000
namespace Go.Proofs.Ytkgdclcmfnhbmaa
open Go.AM

/-! ### examiner/examinerlaw40.SuitePasses: function 4 -/
def n4 (a0 a1 a2 : Value) (h : Heap) (R : Value → Heap → Prop) : Prop :=
  okK (some (aBox Try.prog 36 a0 h)) fun v3 h =>
  okK (some (aBox Try.prog 36 a1 h)) fun v4 h =>
  mvK (Value.bool false) h fun v6 h =>
  cK Try.prog 10 [] h fun v15 h =>
  vK (aUn UnOp.not v15) h fun v16 h =>
  cnd v16 (
   mvK (Value.bool false) h fun v6_1 h =>
   retV [some v6_1] R h) (
   mvK a2 h fun v17 h =>
   vK (aLen Try.prog 22 v17) h fun v18 h =>
   vK (aBin Try.prog BinOp.gtr 3 v18 (Value.int IntKind.i64 60)) h fun v19 h =>
   mvK v19 h fun v20 h =>
   gdK v20 true (fun k0 =>
    mvK a2 h fun v21 h =>
    k0 v21 h) (fun v21_1 h =>
    gdK v20 true (fun k1 =>
     vK (aLen Try.prog 22 v21_1) h fun v22 h =>
     k1 v22 h) (fun v22_1 h =>
     gdK v20 true (fun k2 =>
      vK (aBin Try.prog BinOp.leq 3 v22_1 (Value.int IntKind.i64 2000)) h fun v23 h =>
      k2 v23 h) (fun v23_1 h =>
      vK (pickV v20 v23_1 (Value.bool false)) h fun v24 h =>
      cnd v24 (
       mvK (Value.bool true) h fun v6_2 h =>
       retV [some v6_2] R h) (
       vK (aLoad Try.prog 36 v3 h) h fun v25 h =>
       cK Try.prog 16 [v25] h fun v26 h =>
       mvK v26 h fun v7 h =>
       seqK (fun k3 =>
        mvK v7 h fun v27 h =>
        vK (aBin Try.prog BinOp.eql 3 v27 (Value.int IntKind.i64 0)) h fun v28 h =>
        cnd v28 (
         vK (aLoad Try.prog 36 v4 h) h fun v29 h =>
         cK Try.prog 16 [v29] h fun v30 h =>
         mvK v30 h fun v7_1 h =>
         k3 [v7_1] h) (
         k3 [v7] h)) fun x3 h => ∀ jx3 : Tmps,
        let v7_2 : Value := nth x3 0
        seqK (fun k4 =>
         mvK v7_2 h fun v31 h =>
         vK (aBin Try.prog BinOp.eql 3 v31 (Value.int IntKind.i64 0)) h fun v32 h =>
         mvK v32 h fun v33 h =>
         gdK v33 true (fun k5 =>
          vK (aFieldAddr Try.prog 36 v3 1) h fun v34 h =>
          k5 v34 h) (fun v34_1 h =>
          gdK v33 true (fun k6 =>
           vK (aLoad Try.prog 3 v34_1 h) h fun v35 h =>
           k6 v35 h) (fun v35_1 h =>
           gdK v33 true (fun k7 =>
            vK (aFieldAddr Try.prog 36 v4 1) h fun v36 h =>
            k7 v36 h) (fun v36_1 h =>
            gdK v33 true (fun k8 =>
             vK (aLoad Try.prog 3 v36_1 h) h fun v37 h =>
             k8 v37 h) (fun v37_1 h =>
             gdK v33 true (fun k9 =>
              vK (aBin Try.prog BinOp.neq 3 v35_1 v37_1) h fun v38 h =>
              k9 v38 h) (fun v38_1 h =>
              vK (pickV v33 v38_1 (Value.bool false)) h fun v39 h =>
              cnd v39 (
               mvK (Value.int IntKind.i64 6) h fun v7_3 h =>
               k4 [v7_3] h) (
               k4 [v7_2] h)) h) h) h) h) h) fun x4 h => ∀ jx4 : Tmps,
         let v7_4 : Value := nth x4 0
         seqK (fun k10 =>
          mvK v7_4 h fun v40 h =>
          vK (aBin Try.prog BinOp.eql 3 v40 (Value.int IntKind.i64 0)) h fun v41 h =>
          cnd v41 (
           mvK a2 h fun v42 h =>
           vK (aFieldAddr Try.prog 36 v3 1) h fun v43 h =>
           vK (aLoad Try.prog 3 v43 h) h fun v44 h =>
           cK Try.prog 17 [v42, v44] h fun v45 h =>
           mvK v45 h fun v7_5 h =>
           k10 [v7_5] h) (
           k10 [v7_4] h)) fun x10 h => ∀ jx10 : Tmps,
          let v7_6 : Value := nth x10 0
          vK (aLoad Try.prog 36 v3 h) h fun v47 g =>
          VB h.length v47 ∧ (let h := g
           cKD Try.prog 19 [v47] h fun v48 g =>
           (∃ new, g = h ++ new) ∧ (let h := g
            vK (aLoad Try.prog 36 v4 h) h fun v49 g =>
            VB h.length v49 ∧ (let h := g
             cKD Try.prog 19 [v49] h fun v50 g =>
             (∃ new, g = h ++ new) ∧ (let h := g
              mvK a2 h fun v51 h =>
              cKD Try.prog 12 [v51] h fun v52 g =>
              (∃ new, g = h ++ new) ∧ (let h := g
               cKD Try.prog 18 [v48, v50, v52] h fun v53 g =>
               (∃ new, g = h ++ new) ∧ (let h := g
                mvK v53 h fun v46 h =>
                vK (aExtract v46 0) h fun v54 h =>
                vK (aExtract v46 1) h fun v55 h =>
                mvK v54 h fun v8 h =>
                mvK v55 h fun v9 h =>
                vK (aLoad Try.prog 36 v3 h) h fun v57 g =>
                VB h.length v57 ∧ (let h := g
                 cKD Try.prog 19 [v57] h fun v58 g =>
                 (∃ new, g = h ++ new) ∧ (let h := g
                  vK (aLoad Try.prog 36 v3 h) h fun v59 g =>
                  VB h.length v59 ∧ (let h := g
                   cKD Try.prog 19 [v59] h fun v60 g =>
                   (∃ new, g = h ++ new) ∧ (let h := g
                    vK (aLoad Try.prog 36 v4 h) h fun v61 g =>
                    VB h.length v61 ∧ (let h := g
                     cKD Try.prog 19 [v61] h fun v62 g =>
                     (∃ new, g = h ++ new) ∧ (let h := g
                      okK (aBuildSlice Try.prog 43 2 [(0, v60), (1, v62)] h) fun v63 h =>
                      mvK a2 h fun v64 h =>
                      cKD Try.prog 12 [v64] h fun v65 g =>
                      (∃ new, g = h ++ new) ∧ (let h := g
                       cKD Try.prog 20 [v58, v63, v65] h fun v66 g =>
                       (∃ new, g = h ++ new) ∧ (let h := g
                        mvK v66 h fun v56 h =>
                        vK (aExtract v56 0) h fun v67 h =>
                        vK (aExtract v56 1) h fun v68 h =>
                        mvK v67 h fun v10 h =>
                        mvK v68 h fun v11 h =>
                        mvK v7_6 h fun v69 h =>
                        vK (aBin Try.prog BinOp.neq 3 v69 (Value.int IntKind.i64 0)) h fun v70 h =>
                        cnd v70 (
                         mvK v9 h fun v71 h =>
                         mvK v7_6 h fun v72 h =>
                         vK (aBin Try.prog BinOp.eql 3 v71 v72) h fun v73 h =>
                         mvK v73 h fun v74 h =>
                         gdK v74 true (fun k11 =>
                          mvK v8 h fun v75 h =>
                          k11 v75 h) (fun v75_1 h =>
                          gdK v74 true (fun k12 =>
                           vK (aBin Try.prog BinOp.eql 3 v75_1 (Value.int IntKind.i64 0)) h fun v76 h =>
                           k12 v76 h) (fun v76_1 h =>
                           vK (pickV v74 v76_1 (Value.bool false)) h fun v77 h =>
                           mvK v77 h fun v78 h =>
                           gdK v78 true (fun k13 =>
                            mvK v11 h fun v79 h =>
                            k13 v79 h) (fun v79_1 h =>
                            gdK v78 true (fun k14 =>
                             mvK v7_6 h fun v80 h =>
                             k14 v80 h) (fun v80_1 h =>
                             gdK v78 true (fun k15 =>
                              vK (aBin Try.prog BinOp.eql 3 v79_1 v80_1) h fun v81 h =>
                              k15 v81 h) (fun v81_1 h =>
                              vK (pickV v78 v81_1 (Value.bool false)) h fun v82 h =>
                              mvK v82 h fun v83 h =>
                              gdK v83 true (fun k16 =>
                               mvK v10 h fun v84 h =>
                               k16 v84 h) (fun v84_1 h =>
                               gdK v83 true (fun k17 =>
                                vK (aLen Try.prog 22 v84_1) h fun v85 h =>
                                k17 v85 h) (fun v85_1 h =>
                                gdK v83 true (fun k18 =>
                                 vK (aBin Try.prog BinOp.eql 3 v85_1 (Value.int IntKind.i64 0)) h fun v86 h =>
                                 k18 v86 h) (fun v86_1 h =>
                                 vK (pickV v83 v86_1 (Value.bool false)) h fun v87 h =>
                                 mvK v87 h fun v6_3 h =>
                                 retV [some v6_3] R h) h) h) h) h) h) h) h) h) (
                         vK (aLoad Try.prog 36 v3 h) h fun v88 h =>
                         vK (aLoad Try.prog 36 v4 h) h fun v89 h =>
                         mvK a2 h fun v90 h =>
                         cK Try.prog 21 [v88, v89, v90] h fun v91 h =>
                         mvK v91 h fun v12 h =>
                         mvK v8 h fun v92 h =>
                         mvK v12 h fun v93 h =>
                         vK (aBin Try.prog BinOp.neq 3 v92 v93) h fun v94 h =>
                         mvK v94 h fun v95 h =>
                         gdK v95 false (fun k19 =>
                          mvK v9 h fun v96 h =>
                          k19 v96 h) (fun v96_1 h =>
                          gdK v95 false (fun k20 =>
                           vK (aBin Try.prog BinOp.eql 25 v96_1 (Value.int IntKind.i64 0)) h fun v97 h =>
                           k20 v97 h) (fun v97_1 h =>
                           gdK v95 false (fun k21 =>
                            mvK v97_1 h fun v98 h =>
                            k21 v98 h) (fun v98_1 h =>
                            gdK v98_1 true (fun k22 =>
                             mvK v12 h fun v99 h =>
                             k22 v99 h) (fun v99_1 h =>
                             gdK v98_1 true (fun k23 =>
                              mvK a2 h fun v100 h =>
                              k23 v100 h) (fun v100_1 h =>
                              gdK v98_1 true (fun k24 =>
                               vK (aLen Try.prog 22 v100_1) h fun v101 h =>
                               k24 v101 h) (fun v101_1 h =>
                               gdK v98_1 true (fun k25 =>
                                vK (aBin Try.prog BinOp.lss 3 v99_1 v101_1) h fun v102 h =>
                                k25 v102 h) (fun v102_1 h =>
                                gdK v95 false (fun k26 =>
                                 vK (pickV v98_1 v102_1 (Value.bool false)) h fun v103 h =>
                                 k26 v103 h) (fun v103_1 h =>
                                 vK (pickV v95 (Value.bool true) v103_1) h fun v104 h =>
                                 mvK v104 h fun v105 h =>
                                 gdK v105 false (fun k27 =>
                                  mvK v9 h fun v106 h =>
                                  k27 v106 h) (fun v106_1 h =>
                                  gdK v105 false (fun k28 =>
                                   vK (aBin Try.prog BinOp.neq 25 v106_1 (Value.int IntKind.i64 0)) h fun v107 h =>
                                   k28 v107 h) (fun v107_1 h =>
                                   gdK v105 false (fun k29 =>
                                    mvK v107_1 h fun v108 h =>
                                    k29 v108 h) (fun v108_1 h =>
                                    gdK v108_1 true (fun k30 =>
                                     mvK v9 h fun v109 h =>
                                     k30 v109 h) (fun v109_1 h =>
                                     gdK v108_1 true (fun k31 =>
                                      vK (aBin Try.prog BinOp.neq 25 v109_1 (Value.int IntKind.i64 29)) h fun v110 h =>
                                      k31 v110 h) (fun v110_1 h =>
                                      gdK v108_1 true (fun k32 =>
                                       mvK v110_1 h fun v111 h =>
                                       k32 v111 h) (fun v111_1 h =>
                                       gdK v111_1 false (fun k33 =>
                                        mvK v12 h fun v112 h =>
                                        k33 v112 h) (fun v112_1 h =>
                                        gdK v111_1 false (fun k34 =>
                                         mvK a2 h fun v113 h =>
                                         k34 v113 h) (fun v113_1 h =>
                                         gdK v111_1 false (fun k35 =>
                                          vK (aLen Try.prog 22 v113_1) h fun v114 h =>
                                          k35 v114 h) (fun v114_1 h =>
                                          gdK v111_1 false (fun k36 =>
                                           vK (aBin Try.prog BinOp.eql 3 v112_1 v114_1) h fun v115 h =>
                                           k36 v115 h) (fun v115_1 h =>
                                           gdK v108_1 true (fun k37 =>
                                            vK (pickV v111_1 (Value.bool true) v115_1) h fun v116 h =>
                                            k37 v116 h) (fun v116_1 h =>
                                            gdK v105 false (fun k38 =>
                                             vK (pickV v108_1 v116_1 (Value.bool false)) h fun v117 h =>
                                             k38 v117 h) (fun v117_1 h =>
                                             vK (pickV v105 (Value.bool true) v117_1) h fun v118 h =>
                                             cnd v118 (
                                              mvK (Value.bool false) h fun v6_4 h =>
                                              retV [some v6_4] R h) (
                                              mvK (Value.slice none 0 0) h fun v13 h =>
                                              mvK (Value.int IntKind.i64 0) h fun v14 h =>
                                              ∃ (I21 : List Value → Heap → Prop) (μ21 : List Value → Heap → Nat), I21 [v13, v14] h ∧
                                              ∀ (h21 : Heap) (j21 : Tmps) (v13_1 : Value) (v14_1 : Value), I21 [v13_1, v14_1] h21 → (let h := h21
                                               mvK v14_1 h fun v119 h =>
                                               mvK a2 h fun v120 h =>
                                               vK (aLen Try.prog 22 v120) h fun v121 h =>
                                               vK (aBin Try.prog BinOp.lss 3 v119 v121) h fun v122 h =>
                                               cnd v122 (
                                                seqK (fun k39 =>
                                                 vK (aLoad Try.prog 36 v3 h) h fun v125 g =>
                                                 VB h.length v125 ∧ (let h := g
                                                  vK (aLoad Try.prog 36 v4 h) h fun v126 g =>
                                                  VB h.length v126 ∧ (let h := g
                                                   mvK a2 h fun v127 h =>
                                                   mvK v14_1 h fun v128 h =>
                                                   vK (aIndexAddr Try.prog 22 v127 v128) h fun v129 h =>
                                                   vK (aLoad Try.prog 23 v129 h) h fun v130 g =>
                                                   VB h.length v130 ∧ (let h := g
                                                    cK Try.prog 22 [v125, v126, v130] h fun v131 h =>
                                                    cnd v131 (
                                                     mvK v13_1 h fun v132 h =>
                                                     mvK v14_1 h fun v133 h =>
                                                     okK (aBuildSlice Try.prog 23 1 [(0, v133)] h) fun v134 h =>
                                                     okK (aAppend Try.prog 23 23 v132 v134 h) fun v135 h =>
                                                     mvK v135 h fun v13_2 h =>
                                                     k39 [v13_2] h) (
                                                     k39 [v13_1] h))))) fun x39 h => ∀ jx39 : Tmps,
                                                 let v13_3 : Value := nth x39 0
                                                 mvK v14_1 h fun v123 h =>
                                                 vK (aBin Try.prog BinOp.add 3 v123 (Value.int IntKind.i64 1)) h fun v124 h =>
                                                 mvK v124 h fun v14_2 h =>
                                                 I21 [v13_3, v14_2] h ∧ μ21 [v13_3, v14_2] h < μ21 [v13_1, v14_1] h21) (
                                                mvK v11 h fun v136 h =>
                                                vK (aBin Try.prog BinOp.eql 25 v136 (Value.int IntKind.i64 0)) h fun v137 h =>
                                                mvK v137 h fun v138 h =>
                                                gdK v138 true (fun k40 =>
                                                 mvK v10 h fun v139 h =>
                                                 k40 v139 h) (fun v139_1 h =>
                                                 gdK v138 true (fun k41 =>
                                                  mvK v13_1 h fun v140 h =>
                                                  k41 v140 h) (fun v140_1 h =>
                                                  gdK v138 true (fun k42 =>
                                                   okK (aBuildSlice Try.prog 22 2 [(0, (Value.slice none 0 0)), (1, v140_1)] h) fun v141 h =>
                                                   k42 v141 h) (fun v141_1 h =>
                                                   gdK v138 true (fun k43 =>
                                                    cK Try.prog 23 [v139_1, v141_1] h fun v142 h =>
                                                    k43 v142 h) (fun v142_1 h =>
                                                    vK (pickV v138 v142_1 (Value.bool false)) h fun v143 h =>
                                                    mvK v143 h fun v6_5 h =>
                                                    retV [some v6_5] R h) h) h) h) h)))) h) h) h) h) h) h) h) h) h) h) h) h) h) h) h) h) h) h) h) h))))))))))))))))) h) h) h)
def lv4 (q : Nat) : List Nat := bif Nat.beq q 17 then [2013266048, 7] else bif Nat.beq q 21 then [1097364144256, 7] else bif Nat.beq q 25 then [69269232550016, 7] else bif Nat.beq q 42 then [87111621317762354188687447599002521985024, 13, 14] else bif Nat.beq q 45 then [87069750635895129338690977676603691114496, 13] else []
theorem ok4 : lkOK Try.prog lv4 Try.f4 3 (Try.f4.body.getD .skip) 4 = true := by kernel_rfl
theorem e4 (a0 a1 a2 : Value) (h : Heap) (R : Value → Heap → Prop) : n4 a0 a1 a2 h R = wpK Try.prog lv4 (Try.f4.body.getD .skip) (endK Try.prog [.tmp 6] R) (argT [a0, a1, a2]) h := by kernel_rfl
theorem w4 {a0 a1 a2 : Value} {h : Heap} {R : Value → Heap → Prop} (hn : n4 a0 a1 a2 h R) : DetP Try.prog 4 [a0, a1, a2] h R :=
  DetP.of_code (rs := [.tmp 6]) (n := 3) Try.func4 (by kernel_rfl) (by kernel_rfl) lv4 ok4 rfl ((e4 a0 a1 a2 h R) ▸ hn)

/-! ### examiner/examinerref37.Err: function 16 -/
def n16 (a0 : Value) (h : Heap) (R : Value → Heap → Prop) : Prop :=
  okK (some (aBox Try.prog 36 a0 h)) fun v1 h =>
  mvK (Value.int IntKind.i64 0) h fun v2 h =>
  vK (aLoad Try.prog 36 v1 h) h fun v6 h =>
  cK Try.prog 44 [v6] h fun v7 h =>
  mvK v7 h fun v5 h =>
  vK (aExtract v5 0) h fun v8 h =>
  vK (aExtract v5 1) h fun v9 h =>
  mvK v8 h fun v3 h =>
  mvK v9 h fun v4 h =>
  mvK v4 h fun v10 h =>
  mvK v10 h fun v2_1 h =>
  retV [some v2_1] R h
def lv16 (q : Nat) : List Nat := []
theorem ok16 : lkOK Try.prog lv16 Try.f16 1 (Try.f16.body.getD .skip) 16 = true := by kernel_rfl
theorem e16 (a0 : Value) (h : Heap) (R : Value → Heap → Prop) : n16 a0 h R = wpK Try.prog lv16 (Try.f16.body.getD .skip) (endK Try.prog [.tmp 2] R) (argT [a0]) h := by kernel_rfl
theorem w16 {a0 : Value} {h : Heap} {R : Value → Heap → Prop} (hn : n16 a0 h R) : DetP Try.prog 16 [a0] h R :=
  DetP.of_code (rs := [.tmp 2]) (n := 1) Try.func16 (by kernel_rfl) (by kernel_rfl) lv16 ok16 rfl ((e16 a0 h R) ▸ hn)

/-! ### examiner/examinerref40.SuiteErr: function 17 -/
def n17 (a0 a1 : Value) (h : Heap) (R : Value → Heap → Prop) : Prop :=
  mvK (Value.int IntKind.i64 0) h fun v4 h =>
  mvK a0 h fun v7 h =>
  vK (aLen Try.prog 22 v7) h fun v8 h =>
  vK (aBin Try.prog BinOp.gtr 3 v8 (Value.int IntKind.i64 2000)) h fun v9 h =>
  cnd v9 (
   mvK (Value.int IntKind.i64 2) h fun v4_1 h =>
   retV [some v4_1] R h) (
   mvK (Value.int IntKind.i64 0) h fun v5 h =>
   ∃ (I4 : List Value → Heap → Prop) (μ4 : List Value → Heap → Nat), I4 [v5] h ∧
   ∀ (h4 : Heap) (j4 : Tmps) (v5_1 : Value), I4 [v5_1] h4 → (let h := h4
    mvK v5_1 h fun v10 h =>
    mvK a0 h fun v11 h =>
    vK (aLen Try.prog 22 v11) h fun v12 h =>
    vK (aBin Try.prog BinOp.lss 3 v10 v12) h fun v13 h =>
    cnd v13 (
     mvK a0 h fun v16 h =>
     mvK v5_1 h fun v17 h =>
     vK (aIndexAddr Try.prog 22 v16 v17) h fun v18 h =>
     vK (aLoad Try.prog 23 v18 h) h fun v19 h =>
     mvK a1 h fun v20 h =>
     cK Try.prog 45 [v19, v20, (Value.int IntKind.i64 60)] h fun v21 h =>
     mvK v21 h fun v6 h =>
     mvK v6 h fun v22 h =>
     vK (aBin Try.prog BinOp.neq 3 v22 (Value.int IntKind.i64 0)) h fun v23 h =>
     cnd v23 (
      mvK v6 h fun v24 h =>
      mvK v24 h fun v4_2 h =>
      retV [some v4_2] R h) (
      mvK v5_1 h fun v14 h =>
      vK (aBin Try.prog BinOp.add 3 v14 (Value.int IntKind.i64 1)) h fun v15 h =>
      mvK v15 h fun v5_2 h =>
      I4 [v5_2] h ∧ μ4 [v5_2] h < μ4 [v5_1] h4)) (
     mvK (Value.int IntKind.i64 0) h fun v4_3 h =>
     retV [some v4_3] R h)))
def lv17 (q : Nat) : List Nat := bif Nat.beq q 8 then [33553520, 5] else []
theorem ok17 : lkOK Try.prog lv17 Try.f17 2 (Try.f17.body.getD .skip) 17 = true := by kernel_rfl
theorem e17 (a0 a1 : Value) (h : Heap) (R : Value → Heap → Prop) : n17 a0 a1 h R = wpK Try.prog lv17 (Try.f17.body.getD .skip) (endK Try.prog [.tmp 4] R) (argT [a0, a1]) h := by kernel_rfl
theorem w17 {a0 a1 : Value} {h : Heap} {R : Value → Heap → Prop} (hn : n17 a0 a1 h R) : DetP Try.prog 17 [a0, a1] h R :=
  DetP.of_code (rs := [.tmp 4]) (n := 2) Try.func17 (by kernel_rfl) (by kernel_rfl) lv17 ok17 rfl ((e17 a0 a1 h R) ▸ hn)

/-! ### examiner/suite.Passes: function 18 -/
def n18 (a0 a1 a2 : Value) (h : Heap) (R : Value → Heap → Prop) : Prop :=
  okK (some (aBox Try.prog 36 a0 h)) fun v3 h =>
  okK (some (aBox Try.prog 36 a1 h)) fun v4 h =>
  mvK (Value.int IntKind.i64 0) h fun v6 h =>
  mvK (Value.int IntKind.i64 0) h fun v7 h =>
  vK (aLoad Try.prog 36 v3 h) h fun v10 g =>
  VB h.length v10 ∧ (let h := g
   cKD Try.prog 46 [v10] h fun v11 g =>
   (∃ new, g = h ++ new) ∧ (let h := g
    vK (aLoad Try.prog 36 v4 h) h fun v12 g =>
    VB h.length v12 ∧ (let h := g
     cKD Try.prog 46 [v12] h fun v13 g =>
     (∃ new, g = h ++ new) ∧ (let h := g
      vK (aFieldAddr Try.prog 36 v3 1) h fun v14 h =>
      vK (aLoad Try.prog 3 v14 h) h fun v15 g =>
      VB h.length v15 ∧ (let h := g
       vK (aFieldAddr Try.prog 36 v4 1) h fun v16 h =>
       vK (aLoad Try.prog 3 v16 h) h fun v17 g =>
       VB h.length v17 ∧ (let h := g
        vK (aBin Try.prog BinOp.eql 3 v15 v17) h fun v18 h =>
        cKD Try.prog 38 [v18, (Value.int IntKind.i64 6)] h fun v19 g =>
        (∃ new, g = h ++ new) ∧ (let h := g
         mvK a2 h fun v20 h =>
         vK (aFieldAddr Try.prog 36 v3 1) h fun v21 h =>
         vK (aLoad Try.prog 3 v21 h) h fun v22 g =>
         VB h.length v22 ∧ (let h := g
          cKD Try.prog 47 [v20, v22] h fun v23 g =>
          (∃ new, g = h ++ new) ∧ (let h := g
           okK (aBuildSlice Try.prog 94 4 [(0, v11), (1, v13), (2, v19), (3, v23)] h) fun v24 h =>
           cKD Try.prog 37 [v24] h fun v25 g =>
           (∃ new, g = h ++ new) ∧ (let h := g
            mvK v25 h fun v8 h =>
            mvK v8 h fun v26 h =>
            vK (aBin Try.prog BinOp.neq 25 v26 (Value.int IntKind.i64 0)) h fun v27 h =>
            cnd v27 (
             mvK v8 h fun v28 h =>
             mvK (Value.int IntKind.i64 0) h fun v6_1 h =>
             mvK v28 h fun v7_1 h =>
             retV [some v6_1, some v7_1] R h) (
             vK (aLoad Try.prog 36 v3 h) h fun v29 h =>
             vK (aLoad Try.prog 36 v4 h) h fun v30 h =>
             mvK a2 h fun v31 h =>
             cK Try.prog 48 [v29, v30, v31] h fun v32 h =>
             mvK v32 h fun v9 h =>
             mvK v9 h fun v33 h =>
             mvK v9 h fun v34 h =>
             mvK a2 h fun v35 h =>
             vK (aLen Try.prog 22 v35) h fun v36 h =>
             vK (aBin Try.prog BinOp.eql 3 v34 v36) h fun v37 h =>
             cK Try.prog 38 [v37, (Value.int IntKind.i64 29)] h fun v38 h =>
             mvK v33 h fun v6_2 h =>
             mvK v38 h fun v7_2 h =>
             retV [some v6_2, some v7_2] R h)))))))))))
def lv18 (q : Nat) : List Nat := []
theorem ok18 : lkOK Try.prog lv18 Try.f18 3 (Try.f18.body.getD .skip) 18 = true := by kernel_rfl
theorem e18 (a0 a1 a2 : Value) (h : Heap) (R : Value → Heap → Prop) : n18 a0 a1 a2 h R = wpK Try.prog lv18 (Try.f18.body.getD .skip) (endK Try.prog [.tmp 6, .tmp 7] R) (argT [a0, a1, a2]) h := by kernel_rfl
theorem w18 {a0 a1 a2 : Value} {h : Heap} {R : Value → Heap → Prop} (hn : n18 a0 a1 a2 h R) : DetP Try.prog 18 [a0, a1, a2] h R :=
  DetP.of_code (rs := [.tmp 6, .tmp 7]) (n := 3) Try.func18 (by kernel_rfl) (by kernel_rfl) lv18 ok18 rfl ((e18 a0 a1 a2 h R) ▸ hn)

/-! ### examiner/examinerref37.Own: function 19 -/
def n19 (a0 : Value) (h : Heap) (R : Value → Heap → Prop) : Prop :=
  okK (some (aBox Try.prog 36 a0 h)) fun v1 h =>
  okK (aAlloc Try.prog 36 h) fun v2 h =>
  okK (aBuildSlice Try.prog 34 0 [] h) fun v3 h =>
  vK (aFieldAddr Try.prog 36 v1 4) h fun v4 h =>
  vK (aLoad Try.prog 34 v4 h) h fun v5 h =>
  okK (aAppend Try.prog 34 34 v3 v5 h) fun v6 h =>
  vK (aFieldAddr Try.prog 36 v1 4) h fun v7 h =>
  okK ((aStore Try.prog 34 v7 v6 h).map (undef, ·)) fun _ h =>
  vK (aLoad Try.prog 36 v1 h) h fun v8 h =>
  okK ((aStore Try.prog 36 v2 v8 h).map (undef, ·)) fun _ h =>
  retV [aLoad Try.prog 36 v2 h] R h
def lv19 (q : Nat) : List Nat := []
theorem ok19 : lkOK Try.prog lv19 Try.f19 1 (Try.f19.body.getD .skip) 19 = true := by kernel_rfl
theorem e19 (a0 : Value) (h : Heap) (R : Value → Heap → Prop) : n19 a0 h R = wpK Try.prog lv19 (Try.f19.body.getD .skip) (endK Try.prog [.cell 2 36] R) (argT [a0]) h := by kernel_rfl
theorem w19 {a0 : Value} {h : Heap} {R : Value → Heap → Prop} (hn : n19 a0 h R) : DetP Try.prog 19 [a0] h R :=
  DetP.of_code (rs := [.cell 2 36]) (n := 1) Try.func19 (by kernel_rfl) (by kernel_rfl) lv19 ok19 rfl ((e19 a0 h R) ▸ hn)

/-! ### examiner/suite.CaughtBy: function 20 -/
def n20 (a0 a1 a2 : Value) (h : Heap) (R : Value → Heap → Prop) : Prop :=
  okK (some (aBox Try.prog 36 a0 h)) fun v3 h =>
  mvK (Value.slice none 0 0) h fun v6 h =>
  mvK (Value.int IntKind.i64 0) h fun v7 h =>
  vK (aLoad Try.prog 36 v3 h) h fun v18 h =>
  cK Try.prog 46 [v18] h fun v19 h =>
  mvK a1 h fun v20 h =>
  vK (aLen Try.prog 43 v20) h fun v21 h =>
  vK (aBin Try.prog BinOp.leq 3 v21 (Value.int IntKind.i64 12)) h fun v22 h =>
  cK Try.prog 38 [v22, (Value.int IntKind.i64 2)] h fun v23 h =>
  okK (aBuildSlice Try.prog 94 2 [(0, v19), (1, v23)] h) fun v24 h =>
  cK Try.prog 37 [v24] h fun v25 h =>
  mvK v25 h fun v8 h =>
  mvK v8 h fun v26 h =>
  vK (aBin Try.prog BinOp.neq 25 v26 (Value.int IntKind.i64 0)) h fun v27 h =>
  cnd v27 (
   mvK v8 h fun v28 h =>
   mvK (Value.slice none 0 0) h fun v6_1 h =>
   mvK v28 h fun v7_1 h =>
   retV [some v6_1, some v7_1] R h) (
   mvK a1 h fun v29 h =>
   vK (aLen Try.prog 43 v29) h fun v30 h =>
   mvK (Value.int IntKind.i64 0) h fun v31 h =>
   ∃ (I5 : List Value → Heap → Prop) (μ5 : List Value → Heap → Nat), I5 [v31] h ∧
   ∀ (h5 : Heap) (j5 : Tmps) (v31_1 : Value), I5 [v31_1] h5 → (let h := h5
    vK (aBin Try.prog BinOp.lss 3 v31_1 v30) h fun v32 h =>
    cnd v32 (
     vK (aIndexAddr Try.prog 43 v29 v31_1) h fun v33 h =>
     vK (aLoad Try.prog 36 v33 h) h fun v34 h =>
     okK (aAlloc Try.prog 36 h) fun v10 h =>
     okK ((aStore Try.prog 36 v10 v34 h).map (undef, ·)) fun _ h =>
     vK (aLoad Try.prog 36 v10 h) h fun v35 g =>
     VB h.length v35 ∧ (let h := g
      cKD Try.prog 46 [v35] h fun v36 g =>
      (∃ new, g = h ++ new) ∧ (let h := g
       vK (aFieldAddr Try.prog 36 v3 1) h fun v37 h =>
       vK (aLoad Try.prog 3 v37 h) h fun v38 g =>
       VB h.length v38 ∧ (let h := g
        vK (aFieldAddr Try.prog 36 v10 1) h fun v39 h =>
        vK (aLoad Try.prog 3 v39 h) h fun v40 g =>
        VB h.length v40 ∧ (let h := g
         vK (aBin Try.prog BinOp.eql 3 v38 v40) h fun v41 h =>
         cKD Try.prog 38 [v41, (Value.int IntKind.i64 6)] h fun v42 g =>
         (∃ new, g = h ++ new) ∧ (let h := g
          okK (aBuildSlice Try.prog 94 2 [(0, v36), (1, v42)] h) fun v43 h =>
          cKD Try.prog 37 [v43] h fun v44 g =>
          (∃ new, g = h ++ new) ∧ (let h := g
           mvK v44 h fun v11 h =>
           mvK v11 h fun v45 h =>
           vK (aBin Try.prog BinOp.neq 25 v45 (Value.int IntKind.i64 0)) h fun v46 h =>
           cnd v46 (
            mvK v11 h fun v47 h =>
            mvK (Value.slice none 0 0) h fun v6_2 h =>
            mvK v47 h fun v7_2 h =>
            retV [some v6_2, some v7_2] R h) (
            vK (aBin Try.prog BinOp.add 3 v31_1 (Value.int IntKind.i64 1)) h fun v48 h =>
            mvK v48 h fun v31_2 h =>
            I5 [v31_2] h ∧ μ5 [v31_2] h < μ5 [v31_1] h5)))))))) (
     mvK a2 h fun v49 h =>
     vK (aFieldAddr Try.prog 36 v3 1) h fun v50 h =>
     vK (aLoad Try.prog 3 v50 h) h fun v51 h =>
     cK Try.prog 47 [v49, v51] h fun v52 h =>
     mvK v52 h fun v12 h =>
     mvK v12 h fun v53 h =>
     vK (aBin Try.prog BinOp.neq 25 v53 (Value.int IntKind.i64 0)) h fun v54 h =>
     cnd v54 (
      mvK v12 h fun v55 h =>
      mvK (Value.slice none 0 0) h fun v6_3 h =>
      mvK v55 h fun v7_3 h =>
      retV [some v6_3, some v7_3] R h) (
      mvK (Value.slice none 0 0) h fun v13 h =>
      mvK a1 h fun v56 h =>
      vK (aLen Try.prog 43 v56) h fun v57 h =>
      mvK (Value.int IntKind.i64 0) h fun v58 h =>
      ∃ (I16 : List Value → Heap → Prop) (μ16 : List Value → Heap → Nat), I16 [v13, v58] h ∧
      ∀ (h16 : Heap) (j16 : Tmps) (v13_1 : Value) (v58_1 : Value), I16 [v13_1, v58_1] h16 → (let h := h16
       vK (aBin Try.prog BinOp.lss 3 v58_1 v57) h fun v59 h =>
       cnd v59 (
        vK (aIndexAddr Try.prog 43 v56 v58_1) h fun v60 h =>
        vK (aLoad Try.prog 36 v60 h) h fun v61 h =>
        okK (aAlloc Try.prog 36 h) fun v15 h =>
        okK ((aStore Try.prog 36 v15 v61 h).map (undef, ·)) fun _ h =>
        mvK (Value.slice none 0 0) h fun v16 h =>
        mvK a2 h fun v62 h =>
        vK (aLen Try.prog 22 v62) h fun v63 h =>
        mvK (Value.int IntKind.i64 0) h fun v64 h =>
        ∃ (I20 : List Value → Heap → Prop) (μ20 : List Value → Heap → Nat), I20 [v16, v64] h ∧
        ∀ (h20 : Heap) (j20 : Tmps) (v16_1 : Value) (v64_1 : Value), I20 [v16_1, v64_1] h20 → (let h := h20
         vK (aBin Try.prog BinOp.lss 3 v64_1 v63) h fun v65 h =>
         cnd v65 (
          seqK (fun k0 =>
           mvK v64_1 h fun v66 h =>
           mvK v66 h fun v17 h =>
           vK (aLoad Try.prog 36 v3 h) h fun v67 g =>
           VB h.length v67 ∧ (let h := g
            vK (aLoad Try.prog 36 v15 h) h fun v68 g =>
            VB h.length v68 ∧ (let h := g
             mvK a2 h fun v69 h =>
             mvK v17 h fun v70 h =>
             mvK v17 h fun v71 h =>
             vK (aBin Try.prog BinOp.add 3 v71 (Value.int IntKind.i64 1)) h fun v72 h =>
             vK (aSlice Try.prog 22 v69 (some v70) (some v72) none h) h fun v73 g =>
             VB h.length v73 ∧ (let h := g
              cKD Try.prog 48 [v67, v68, v73] h fun v74 g =>
              (∃ new, g = h ++ new) ∧ (let h := g
               vK (aBin Try.prog BinOp.eql 3 v74 (Value.int IntKind.i64 0)) h fun v75 h =>
               cnd v75 (
                mvK v16_1 h fun v76 h =>
                mvK v17 h fun v77 h =>
                okK (aBuildSlice Try.prog 23 1 [(0, v77)] h) fun v78 h =>
                okK (aAppend Try.prog 23 23 v76 v78 h) fun v79 h =>
                mvK v79 h fun v16_2 h =>
                k0 [v16_2] h) (
                k0 [v16_1] h)))))) fun x0 h => ∀ jx0 : Tmps,
           let v16_3 : Value := nth x0 0
           vK (aBin Try.prog BinOp.add 3 v64_1 (Value.int IntKind.i64 1)) h fun v80 h =>
           mvK v80 h fun v64_2 h =>
           I20 [v16_3, v64_2] h ∧ μ20 [v16_3, v64_2] h < μ20 [v16_1, v64_1] h20) (
          mvK v13_1 h fun v81 h =>
          mvK v16_1 h fun v82 h =>
          okK (aBuildSlice Try.prog 22 1 [(0, v82)] h) fun v83 h =>
          okK (aAppend Try.prog 22 22 v81 v83 h) fun v84 h =>
          mvK v84 h fun v13_2 h =>
          vK (aBin Try.prog BinOp.add 3 v58_1 (Value.int IntKind.i64 1)) h fun v85 h =>
          mvK v85 h fun v58_2 h =>
          I16 [v13_2, v58_2] h ∧ μ16 [v13_2, v58_2] h < μ16 [v13_1, v58_1] h16))) (
        mvK v13_1 h fun v86 h =>
        mvK v86 h fun v6_4 h =>
        mvK (Value.int IntKind.i64 0) h fun v7_4 h =>
        retV [some v6_4, some v7_4] R h))))))
def lv20 (q : Nat) : List Nat := bif Nat.beq q 10 then [562947805940928, 31] else bif Nat.beq q 32 then [77371252167105891029721088, 13, 58] else bif Nat.beq q 40 then [2417833192485184640057344, 16, 64] else bif Nat.beq q 49 then [1208852032638334336696320, 16] else []
theorem ok20 : lkOK Try.prog lv20 Try.f20 3 (Try.f20.body.getD .skip) 20 = true := by kernel_rfl
theorem e20 (a0 a1 a2 : Value) (h : Heap) (R : Value → Heap → Prop) : n20 a0 a1 a2 h R = wpK Try.prog lv20 (Try.f20.body.getD .skip) (endK Try.prog [.tmp 6, .tmp 7] R) (argT [a0, a1, a2]) h := by kernel_rfl
theorem w20 {a0 a1 a2 : Value} {h : Heap} {R : Value → Heap → Prop} (hn : n20 a0 a1 a2 h R) : DetP Try.prog 20 [a0, a1, a2] h R :=
  DetP.of_code (rs := [.tmp 6, .tmp 7]) (n := 3) Try.func20 (by kernel_rfl) (by kernel_rfl) lv20 ok20 rfl ((e20 a0 a1 a2 h R) ▸ hn)

/-! ### examiner/examinerref40.Passes: function 21 -/
def n21 (a0 a1 a2 : Value) (h : Heap) (R : Value → Heap → Prop) : Prop :=
  okK (some (aBox Try.prog 36 a0 h)) fun v3 h =>
  okK (some (aBox Try.prog 36 a1 h)) fun v4 h =>
  mvK (Value.int IntKind.i64 0) h fun v6 h =>
  mvK (Value.int IntKind.i64 0) h fun v7 h =>
  ∃ (I2 : List Value → Heap → Prop) (μ2 : List Value → Heap → Nat), I2 [v7] h ∧
  ∀ (h2 : Heap) (j2 : Tmps) (v7_1 : Value), I2 [v7_1] h2 → (let h := h2
   mvK v7_1 h fun v8 h =>
   mvK a2 h fun v9 h =>
   vK (aLen Try.prog 22 v9) h fun v10 h =>
   vK (aBin Try.prog BinOp.lss 3 v8 v10) h fun v11 h =>
   cnd v11 (
    vK (aLoad Try.prog 36 v3 h) h fun v14 g =>
    VB h.length v14 ∧ (let h := g
     vK (aLoad Try.prog 36 v4 h) h fun v15 g =>
     VB h.length v15 ∧ (let h := g
      mvK a2 h fun v16 h =>
      mvK v7_1 h fun v17 h =>
      vK (aIndexAddr Try.prog 22 v16 v17) h fun v18 h =>
      vK (aLoad Try.prog 23 v18 h) h fun v19 g =>
      VB h.length v19 ∧ (let h := g
       cK Try.prog 22 [v14, v15, v19] h fun v20 h =>
       cnd v20 (
        mvK v7_1 h fun v21 h =>
        mvK v21 h fun v6_1 h =>
        retV [some v6_1] R h) (
        mvK v7_1 h fun v12 h =>
        vK (aBin Try.prog BinOp.add 3 v12 (Value.int IntKind.i64 1)) h fun v13 h =>
        mvK v13 h fun v7_2 h =>
        I2 [v7_2] h ∧ μ2 [v7_2] h < μ2 [v7_1] h2))))) (
    mvK a2 h fun v22 h =>
    vK (aLen Try.prog 22 v22) h fun v23 h =>
    mvK v23 h fun v6_2 h =>
    retV [some v6_2] R h))
def lv21 (q : Nat) : List Nat := bif Nat.beq q 4 then [4194240, 7] else []
theorem ok21 : lkOK Try.prog lv21 Try.f21 3 (Try.f21.body.getD .skip) 21 = true := by kernel_rfl
theorem e21 (a0 a1 a2 : Value) (h : Heap) (R : Value → Heap → Prop) : n21 a0 a1 a2 h R = wpK Try.prog lv21 (Try.f21.body.getD .skip) (endK Try.prog [.tmp 6] R) (argT [a0, a1, a2]) h := by kernel_rfl
theorem w21 {a0 a1 a2 : Value} {h : Heap} {R : Value → Heap → Prop} (hn : n21 a0 a1 a2 h R) : DetP Try.prog 21 [a0, a1, a2] h R :=
  DetP.of_code (rs := [.tmp 6]) (n := 3) Try.func21 (by kernel_rfl) (by kernel_rfl) lv21 ok21 rfl ((e21 a0 a1 a2 h R) ▸ hn)

/-! ### examiner/examinerref40.Catches: function 22 -/
def n22 (a0 a1 a2 : Value) (h : Heap) (R : Value → Heap → Prop) : Prop :=
  okK (some (aBox Try.prog 36 a0 h)) fun v3 h =>
  okK (some (aBox Try.prog 36 a1 h)) fun v4 h =>
  mvK (Value.bool false) h fun v6 h =>
  vK (aLoad Try.prog 36 v3 h) h fun v12 h =>
  vK (aFieldAddr Try.prog 36 v3 3) h fun v13 h =>
  vK (aLoad Try.prog 3 v13 h) h fun v14 h =>
  mvK a2 h fun v15 h =>
  cK Try.prog 49 [v12, v14, v15] h fun v16 h =>
  mvK v16 h fun v11 h =>
  vK (aExtract v11 0) h fun v17 h =>
  vK (aExtract v11 1) h fun v18 h =>
  mvK v17 h fun v7 h =>
  mvK v18 h fun v8 h =>
  vK (aLoad Try.prog 36 v4 h) h fun v20 h =>
  vK (aFieldAddr Try.prog 36 v4 3) h fun v21 h =>
  vK (aLoad Try.prog 3 v21 h) h fun v22 h =>
  mvK a2 h fun v23 h =>
  cK Try.prog 49 [v20, v22, v23] h fun v24 h =>
  mvK v24 h fun v19 h =>
  vK (aExtract v19 0) h fun v25 h =>
  vK (aExtract v19 1) h fun v26 h =>
  mvK v25 h fun v9 h =>
  mvK v26 h fun v10 h =>
  mvK v7 h fun v27 h =>
  mvK v9 h fun v28 h =>
  cK Try.prog 26 [v27, v28] h fun v29 h =>
  vK (aUn UnOp.not v29) h fun v30 h =>
  mvK v30 h fun v6_1 h =>
  retV [some v6_1] R h
def lv22 (q : Nat) : List Nat := []
theorem ok22 : lkOK Try.prog lv22 Try.f22 3 (Try.f22.body.getD .skip) 22 = true := by kernel_rfl
theorem e22 (a0 a1 a2 : Value) (h : Heap) (R : Value → Heap → Prop) : n22 a0 a1 a2 h R = wpK Try.prog lv22 (Try.f22.body.getD .skip) (endK Try.prog [.tmp 6] R) (argT [a0, a1, a2]) h := by kernel_rfl
theorem w22 {a0 a1 a2 : Value} {h : Heap} {R : Value → Heap → Prop} (hn : n22 a0 a1 a2 h R) : DetP Try.prog 22 [a0, a1, a2] h R :=
  DetP.of_code (rs := [.tmp 6]) (n := 3) Try.func22 (by kernel_rfl) (by kernel_rfl) lv22 ok22 rfl ((e22 a0 a1 a2 h R) ▸ hn)

/-! ### examiner/examinerlaw40.same: function 23 -/
def n23 (a0 a1 : Value) (h : Heap) (R : Value → Heap → Prop) : Prop :=
  mvK (Value.bool false) h fun v4 h =>
  mvK a0 h fun v6 h =>
  vK (aLen Try.prog 22 v6) h fun v7 h =>
  mvK a1 h fun v8 h =>
  vK (aLen Try.prog 22 v8) h fun v9 h =>
  vK (aBin Try.prog BinOp.neq 3 v7 v9) h fun v10 h =>
  cnd v10 (
   mvK (Value.bool false) h fun v4_1 h =>
   retV [some v4_1] R h) (
   mvK (Value.int IntKind.i64 0) h fun v5 h =>
   ∃ (I4 : List Value → Heap → Prop) (μ4 : List Value → Heap → Nat), I4 [v5] h ∧
   ∀ (h4 : Heap) (j4 : Tmps) (v5_1 : Value), I4 [v5_1] h4 → (let h := h4
    mvK v5_1 h fun v11 h =>
    mvK a0 h fun v12 h =>
    vK (aLen Try.prog 22 v12) h fun v13 h =>
    vK (aBin Try.prog BinOp.lss 3 v11 v13) h fun v14 h =>
    cnd v14 (
     mvK a0 h fun v17 h =>
     mvK v5_1 h fun v18 h =>
     vK (aIndexAddr Try.prog 22 v17 v18) h fun v19 h =>
     vK (aLoad Try.prog 23 v19 h) h fun v20 g =>
     VB h.length v20 ∧ (let h := g
      mvK a1 h fun v21 h =>
      mvK v5_1 h fun v22 h =>
      vK (aIndexAddr Try.prog 22 v21 v22) h fun v23 h =>
      vK (aLoad Try.prog 23 v23 h) h fun v24 g =>
      VB h.length v24 ∧ (let h := g
       cKD Try.prog 26 [v20, v24] h fun v25 g =>
       (∃ new, g = h ++ new) ∧ (let h := g
        vK (aUn UnOp.not v25) h fun v26 h =>
        cnd v26 (
         mvK (Value.bool false) h fun v4_2 h =>
         retV [some v4_2] R h) (
         mvK v5_1 h fun v15 h =>
         vK (aBin Try.prog BinOp.add 3 v15 (Value.int IntKind.i64 1)) h fun v16 h =>
         mvK v16 h fun v5_2 h =>
         I4 [v5_2] h ∧ μ4 [v5_2] h < μ4 [v5_1] h4))))) (
     mvK (Value.bool true) h fun v4_3 h =>
     retV [some v4_3] R h)))
def lv23 (q : Nat) : List Nat := bif Nat.beq q 8 then [134215728, 5] else []
theorem ok23 : lkOK Try.prog lv23 Try.f23 2 (Try.f23.body.getD .skip) 23 = true := by kernel_rfl
theorem e23 (a0 a1 : Value) (h : Heap) (R : Value → Heap → Prop) : n23 a0 a1 h R = wpK Try.prog lv23 (Try.f23.body.getD .skip) (endK Try.prog [.tmp 4] R) (argT [a0, a1]) h := by kernel_rfl
theorem w23 {a0 a1 : Value} {h : Heap} {R : Value → Heap → Prop} (hn : n23 a0 a1 h R) : DetP Try.prog 23 [a0, a1] h R :=
  DetP.of_code (rs := [.tmp 4]) (n := 2) Try.func23 (by kernel_rfl) (by kernel_rfl) lv23 ok23 rfl ((e23 a0 a1 h R) ▸ hn)

/-! ### examiner/examinerref37.MachineErr: function 44 -/
def n44 (a0 : Value) (h : Heap) (R : Value → Heap → Prop) : Prop :=
  okK (some (aBox Try.prog 36 a0 h)) fun v1 h =>
  mvK (Value.int IntKind.i64 0) h fun v2 h =>
  mvK (Value.int IntKind.i64 0) h fun v3 h =>
  vK (aFieldAddr Try.prog 36 v1 0) h fun v6 h =>
  vK (aLoad Try.prog 3 v6 h) h fun v7 h =>
  cK Try.prog 61 [v7, (Value.int IntKind.i64 1), (Value.int IntKind.i64 40)] h fun v8 h =>
  vK (aUn UnOp.not v8) h fun v9 h =>
  mvK v9 h fun v10 h =>
  gdK v10 false (fun k0 =>
   vK (aFieldAddr Try.prog 36 v1 1) h fun v11 h =>
   k0 v11 h) (fun v11_1 h =>
   gdK v10 false (fun k1 =>
    vK (aLoad Try.prog 3 v11_1 h) h fun v12 h =>
    k1 v12 h) (fun v12_1 h =>
    gdK v10 false (fun k2 =>
     cK Try.prog 61 [v12_1, (Value.int IntKind.i64 1), (Value.int IntKind.i64 8)] h fun v13 h =>
     k2 v13 h) (fun v13_1 h =>
     gdK v10 false (fun k3 =>
      vK (aUn UnOp.not v13_1) h fun v14 h =>
      k3 v14 h) (fun v14_1 h =>
      vK (pickV v10 (Value.bool true) v14_1) h fun v15 h =>
      mvK v15 h fun v16 h =>
      gdK v16 false (fun k4 =>
       vK (aFieldAddr Try.prog 36 v1 2) h fun v17 h =>
       k4 v17 h) (fun v17_1 h =>
       gdK v16 false (fun k5 =>
        vK (aLoad Try.prog 3 v17_1 h) h fun v18 h =>
        k5 v18 h) (fun v18_1 h =>
        gdK v16 false (fun k6 =>
         cK Try.prog 61 [v18_1, (Value.int IntKind.i64 1), (Value.int IntKind.i64 8)] h fun v19 h =>
         k6 v19 h) (fun v19_1 h =>
         gdK v16 false (fun k7 =>
          vK (aUn UnOp.not v19_1) h fun v20 h =>
          k7 v20 h) (fun v20_1 h =>
          vK (pickV v16 (Value.bool true) v20_1) h fun v21 h =>
          mvK v21 h fun v22 h =>
          gdK v22 false (fun k8 =>
           vK (aFieldAddr Try.prog 36 v1 3) h fun v23 h =>
           k8 v23 h) (fun v23_1 h =>
           gdK v22 false (fun k9 =>
            vK (aLoad Try.prog 3 v23_1 h) h fun v24 h =>
            k9 v24 h) (fun v24_1 h =>
            gdK v22 false (fun k10 =>
             vK (aFieldAddr Try.prog 36 v1 0) h fun v25 h =>
             k10 v25 h) (fun v25_1 h =>
             gdK v22 false (fun k11 =>
              vK (aLoad Try.prog 3 v25_1 h) h fun v26 h =>
              k11 v26 h) (fun v26_1 h =>
              gdK v22 false (fun k12 =>
               vK (aBin Try.prog BinOp.sub 3 v26_1 (Value.int IntKind.i64 1)) h fun v27 h =>
               k12 v27 h) (fun v27_1 h =>
               gdK v22 false (fun k13 =>
                cK Try.prog 61 [v24_1, (Value.int IntKind.i64 0), v27_1] h fun v28 h =>
                k13 v28 h) (fun v28_1 h =>
                gdK v22 false (fun k14 =>
                 vK (aUn UnOp.not v28_1) h fun v29 h =>
                 k14 v29 h) (fun v29_1 h =>
                 vK (pickV v22 (Value.bool true) v29_1) h fun v30 h =>
                 cnd v30 (
                  mvK (Value.int IntKind.i64 0) h fun v2_1 h =>
                  mvK (Value.int IntKind.i64 3) h fun v3_1 h =>
                  retV [some v2_1, some v3_1] R h) (
                  vK (aFieldAddr Try.prog 36 v1 4) h fun v31 h =>
                  vK (aLoad Try.prog 34 v31 h) h fun v32 h =>
                  vK (aLen Try.prog 34 v32) h fun v33 h =>
                  vK (aFieldAddr Try.prog 36 v1 0) h fun v34 h =>
                  vK (aLoad Try.prog 3 v34 h) h fun v35 h =>
                  vK (aFieldAddr Try.prog 36 v1 1) h fun v36 h =>
                  vK (aLoad Try.prog 3 v36 h) h fun v37 h =>
                  vK (aBin Try.prog BinOp.mul 3 v35 v37) h fun v38 h =>
                  vK (aBin Try.prog BinOp.gtr 3 v33 v38) h fun v39 h =>
                  cnd v39 (
                   mvK (Value.int IntKind.i64 0) h fun v2_2 h =>
                   mvK (Value.int IntKind.i64 2) h fun v3_2 h =>
                   retV [some v2_2, some v3_2] R h) (
                   mvK (Value.int IntKind.i64 0) h fun v4 h =>
                   ∃ (I6 : List Value → Heap → Prop) (μ6 : List Value → Heap → Nat), I6 [v4] h ∧
                   ∀ (h6 : Heap) (j6 : Tmps) (v4_1 : Value), I6 [v4_1] h6 → (let h := h6
                    mvK v4_1 h fun v40 h =>
                    vK (aFieldAddr Try.prog 36 v1 4) h fun v41 h =>
                    vK (aLoad Try.prog 34 v41 h) h fun v42 h =>
                    vK (aLen Try.prog 34 v42) h fun v43 h =>
                    vK (aBin Try.prog BinOp.lss 3 v40 v43) h fun v44 h =>
                    cnd v44 (
                     vK (aFieldAddr Try.prog 36 v1 4) h fun v47 h =>
                     vK (aLoad Try.prog 34 v47 h) h fun v48 h =>
                     mvK v4_1 h fun v49 h =>
                     vK (aIndexAddr Try.prog 34 v48 v49) h fun v50 h =>
                     vK (aLoad Try.prog 63 v50 h) h fun v51 h =>
                     okK (aAlloc Try.prog 63 h) fun v5 h =>
                     okK ((aStore Try.prog 63 v5 v51 h).map (undef, ·)) fun _ h =>
                     vK (aFieldAddr Try.prog 63 v5 0) h fun v52 h =>
                     vK (aLoad Try.prog 3 v52 h) h fun v53 h =>
                     vK (aFieldAddr Try.prog 36 v1 0) h fun v54 h =>
                     vK (aLoad Try.prog 3 v54 h) h fun v55 h =>
                     vK (aBin Try.prog BinOp.sub 3 v55 (Value.int IntKind.i64 1)) h fun v56 h =>
                     cK Try.prog 61 [v53, (Value.int IntKind.i64 0), v56] h fun v57 h =>
                     vK (aUn UnOp.not v57) h fun v58 h =>
                     mvK v58 h fun v59 h =>
                     gdK v59 false (fun k15 =>
                      vK (aFieldAddr Try.prog 63 v5 3) h fun v60 h =>
                      k15 v60 h) (fun v60_1 h =>
                      gdK v59 false (fun k16 =>
                       vK (aLoad Try.prog 3 v60_1 h) h fun v61 h =>
                       k16 v61 h) (fun v61_1 h =>
                       gdK v59 false (fun k17 =>
                        vK (aFieldAddr Try.prog 36 v1 0) h fun v62 h =>
                        k17 v62 h) (fun v62_1 h =>
                        gdK v59 false (fun k18 =>
                         vK (aLoad Try.prog 3 v62_1 h) h fun v63 h =>
                         k18 v63 h) (fun v63_1 h =>
                         gdK v59 false (fun k19 =>
                          vK (aBin Try.prog BinOp.sub 3 v63_1 (Value.int IntKind.i64 1)) h fun v64 h =>
                          k19 v64 h) (fun v64_1 h =>
                          gdK v59 false (fun k20 =>
                           cK Try.prog 61 [v61_1, (Value.int IntKind.i64 0), v64_1] h fun v65 h =>
                           k20 v65 h) (fun v65_1 h =>
                           gdK v59 false (fun k21 =>
                            vK (aUn UnOp.not v65_1) h fun v66 h =>
                            k21 v66 h) (fun v66_1 h =>
                            vK (pickV v59 (Value.bool true) v66_1) h fun v67 h =>
                            mvK v67 h fun v68 h =>
                            gdK v68 false (fun k22 =>
                             vK (aFieldAddr Try.prog 63 v5 1) h fun v69 h =>
                             k22 v69 h) (fun v69_1 h =>
                             gdK v68 false (fun k23 =>
                              vK (aLoad Try.prog 3 v69_1 h) h fun v70 h =>
                              k23 v70 h) (fun v70_1 h =>
                              gdK v68 false (fun k24 =>
                               vK (aFieldAddr Try.prog 36 v1 1) h fun v71 h =>
                               k24 v71 h) (fun v71_1 h =>
                               gdK v68 false (fun k25 =>
                                vK (aLoad Try.prog 3 v71_1 h) h fun v72 h =>
                                k25 v72 h) (fun v72_1 h =>
                                gdK v68 false (fun k26 =>
                                 vK (aBin Try.prog BinOp.sub 3 v72_1 (Value.int IntKind.i64 1)) h fun v73 h =>
                                 k26 v73 h) (fun v73_1 h =>
                                 gdK v68 false (fun k27 =>
                                  cK Try.prog 61 [v70_1, (Value.int IntKind.i64 0), v73_1] h fun v74 h =>
                                  k27 v74 h) (fun v74_1 h =>
                                  gdK v68 false (fun k28 =>
                                   vK (aUn UnOp.not v74_1) h fun v75 h =>
                                   k28 v75 h) (fun v75_1 h =>
                                   vK (pickV v68 (Value.bool true) v75_1) h fun v76 h =>
                                   mvK v76 h fun v77 h =>
                                   gdK v77 false (fun k29 =>
                                    vK (aFieldAddr Try.prog 63 v5 2) h fun v78 h =>
                                    k29 v78 h) (fun v78_1 h =>
                                    gdK v77 false (fun k30 =>
                                     vK (aLoad Try.prog 3 v78_1 h) h fun v79 h =>
                                     k30 v79 h) (fun v79_1 h =>
                                     gdK v77 false (fun k31 =>
                                      vK (aFieldAddr Try.prog 36 v1 2) h fun v80 h =>
                                      k31 v80 h) (fun v80_1 h =>
                                      gdK v77 false (fun k32 =>
                                       vK (aLoad Try.prog 3 v80_1 h) h fun v81 h =>
                                       k32 v81 h) (fun v81_1 h =>
                                       gdK v77 false (fun k33 =>
                                        vK (aBin Try.prog BinOp.sub 3 v81_1 (Value.int IntKind.i64 1)) h fun v82 h =>
                                        k33 v82 h) (fun v82_1 h =>
                                        gdK v77 false (fun k34 =>
                                         cK Try.prog 61 [v79_1, (Value.int IntKind.i64 0), v82_1] h fun v83 h =>
                                         k34 v83 h) (fun v83_1 h =>
                                         gdK v77 false (fun k35 =>
                                          vK (aUn UnOp.not v83_1) h fun v84 h =>
                                          k35 v84 h) (fun v84_1 h =>
                                          vK (pickV v77 (Value.bool true) v84_1) h fun v85 h =>
                                          cnd v85 (
                                           mvK v4_1 h fun v86 h =>
                                           mvK v86 h fun v2_3 h =>
                                           mvK (Value.int IntKind.i64 3) h fun v3_3 h =>
                                           retV [some v2_3, some v3_3] R h) (
                                           mvK v4_1 h fun v87 h =>
                                           vK (aBin Try.prog BinOp.gtr 3 v87 (Value.int IntKind.i64 0)) h fun v88 h =>
                                           mvK v88 h fun v89 h =>
                                           gdK v89 true (fun k36 =>
                                            vK (aFieldAddr Try.prog 36 v1 4) h fun v90 h =>
                                            k36 v90 h) (fun v90_1 h =>
                                            gdK v89 true (fun k37 =>
                                             vK (aLoad Try.prog 34 v90_1 h) h fun v91 g =>
                                             VB h.length v91 ∧ (let h := g
                                              k37 v91 h)) (fun v91_1 h =>
                                             gdK v89 true (fun k38 =>
                                              mvK v4_1 h fun v92 h =>
                                              k38 v92 h) (fun v92_1 h =>
                                              gdK v89 true (fun k39 =>
                                               vK (aBin Try.prog BinOp.sub 3 v92_1 (Value.int IntKind.i64 1)) h fun v93 h =>
                                               k39 v93 h) (fun v93_1 h =>
                                               gdK v89 true (fun k40 =>
                                                vK (aIndexAddr Try.prog 34 v91_1 v93_1) h fun v94 h =>
                                                k40 v94 h) (fun v94_1 h =>
                                                gdK v89 true (fun k41 =>
                                                 vK (aFieldAddr Try.prog 63 v94_1 0) h fun v95 h =>
                                                 k41 v95 h) (fun v95_1 h =>
                                                 gdK v89 true (fun k42 =>
                                                  vK (aLoad Try.prog 3 v95_1 h) h fun v96 g =>
                                                  VB h.length v96 ∧ (let h := g
                                                   k42 v96 h)) (fun v96_1 h =>
                                                  gdK v89 true (fun k43 =>
                                                   vK (aFieldAddr Try.prog 36 v1 4) h fun v97 h =>
                                                   k43 v97 h) (fun v97_1 h =>
                                                   gdK v89 true (fun k44 =>
                                                    vK (aLoad Try.prog 34 v97_1 h) h fun v98 g =>
                                                    VB h.length v98 ∧ (let h := g
                                                     k44 v98 h)) (fun v98_1 h =>
                                                    gdK v89 true (fun k45 =>
                                                     mvK v4_1 h fun v99 h =>
                                                     k45 v99 h) (fun v99_1 h =>
                                                     gdK v89 true (fun k46 =>
                                                      vK (aBin Try.prog BinOp.sub 3 v99_1 (Value.int IntKind.i64 1)) h fun v100 h =>
                                                      k46 v100 h) (fun v100_1 h =>
                                                      gdK v89 true (fun k47 =>
                                                       vK (aIndexAddr Try.prog 34 v98_1 v100_1) h fun v101 h =>
                                                       k47 v101 h) (fun v101_1 h =>
                                                       gdK v89 true (fun k48 =>
                                                        vK (aFieldAddr Try.prog 63 v101_1 1) h fun v102 h =>
                                                        k48 v102 h) (fun v102_1 h =>
                                                        gdK v89 true (fun k49 =>
                                                         vK (aLoad Try.prog 3 v102_1 h) h fun v103 g =>
                                                         VB h.length v103 ∧ (let h := g
                                                          k49 v103 h)) (fun v103_1 h =>
                                                         gdK v89 true (fun k50 =>
                                                          okK (aBuildSlice Try.prog 23 2 [(0, v96_1), (1, v103_1)] h) fun v104 h =>
                                                          k50 v104 h) (fun v104_1 h =>
                                                          gdK v89 true (fun k51 =>
                                                           vK (aFieldAddr Try.prog 63 v5 0) h fun v105 h =>
                                                           k51 v105 h) (fun v105_1 h =>
                                                           gdK v89 true (fun k52 =>
                                                            vK (aLoad Try.prog 3 v105_1 h) h fun v106 g =>
                                                            VB h.length v106 ∧ (let h := g
                                                             k52 v106 h)) (fun v106_1 h =>
                                                            gdK v89 true (fun k53 =>
                                                             vK (aFieldAddr Try.prog 63 v5 1) h fun v107 h =>
                                                             k53 v107 h) (fun v107_1 h =>
                                                             gdK v89 true (fun k54 =>
                                                              vK (aLoad Try.prog 3 v107_1 h) h fun v108 g =>
                                                              VB h.length v108 ∧ (let h := g
                                                               k54 v108 h)) (fun v108_1 h =>
                                                              gdK v89 true (fun k55 =>
                                                               okK (aBuildSlice Try.prog 23 2 [(0, v106_1), (1, v108_1)] h) fun v109 h =>
                                                               k55 v109 h) (fun v109_1 h =>
                                                               gdK v89 true (fun k56 =>
                                                                cKD Try.prog 62 [v104_1, v109_1] h fun v110 g =>
                                                                (∃ new, g = h ++ new) ∧ (let h := g
                                                                 k56 v110 h)) (fun v110_1 h =>
                                                                gdK v89 true (fun k57 =>
                                                                 vK (aBin Try.prog BinOp.geq 3 v110_1 (Value.int IntKind.i64 0)) h fun v111 h =>
                                                                 k57 v111 h) (fun v111_1 h =>
                                                                 vK (pickV v89 v111_1 (Value.bool false)) h fun v112 h =>
                                                                 cnd v112 (
                                                                  mvK v4_1 h fun v113 h =>
                                                                  mvK v113 h fun v2_4 h =>
                                                                  mvK (Value.int IntKind.i64 14) h fun v3_4 h =>
                                                                  retV [some v2_4, some v3_4] R h) (
                                                                  mvK v4_1 h fun v45 h =>
                                                                  vK (aBin Try.prog BinOp.add 3 v45 (Value.int IntKind.i64 1)) h fun v46 h =>
                                                                  mvK v46 h fun v4_2 h =>
                                                                  I6 [v4_2] h ∧ μ6 [v4_2] h < μ6 [v4_1] h6)) h) h) h) h) h) h) h) h) h) h) h) h) h) h) h) h) h) h) h) h) h) h)) h) h) h) h) h) h) h) h) h) h) h) h) h) h) h) h) h) h) h) h) h) (
                     mvK (Value.int IntKind.i64 0) h fun v2_5 h =>
                     mvK (Value.int IntKind.i64 0) h fun v3_5 h =>
                     retV [some v2_5, some v3_5] R h))))) h) h) h) h) h) h) h) h) h) h) h) h) h) h) h
def lv44 (q : Nat) : List Nat := bif Nat.beq q 12 then [20769187434139310514120885805252668, 4] else []
theorem ok44 : lkOK Try.prog lv44 Try.f44 1 (Try.f44.body.getD .skip) 44 = true := by kernel_rfl
theorem e44 (a0 : Value) (h : Heap) (R : Value → Heap → Prop) : n44 a0 h R = wpK Try.prog lv44 (Try.f44.body.getD .skip) (endK Try.prog [.tmp 2, .tmp 3] R) (argT [a0]) h := by kernel_rfl
theorem w44 {a0 : Value} {h : Heap} {R : Value → Heap → Prop} (hn : n44 a0 h R) : DetP Try.prog 44 [a0] h R :=
  DetP.of_code (rs := [.tmp 2, .tmp 3]) (n := 1) Try.func44 (by kernel_rfl) (by kernel_rfl) lv44 ok44 rfl ((e44 a0 h R) ▸ hn)

/-! ### examiner/examinerref37.WordErr: function 45 -/
def n45 (a0 a1 a2 : Value) (h : Heap) (R : Value → Heap → Prop) : Prop :=
  mvK (Value.int IntKind.i64 0) h fun v6 h =>
  mvK a0 h fun v8 h =>
  vK (aLen Try.prog 23 v8) h fun v9 h =>
  mvK a2 h fun v10 h =>
  vK (aBin Try.prog BinOp.gtr 3 v9 v10) h fun v11 h =>
  cnd v11 (
   mvK (Value.int IntKind.i64 2) h fun v6_1 h =>
   retV [some v6_1] R h) (
   mvK (Value.int IntKind.i64 0) h fun v7 h =>
   ∃ (I4 : List Value → Heap → Prop) (μ4 : List Value → Heap → Nat), I4 [v7] h ∧
   ∀ (h4 : Heap) (j4 : Tmps) (v7_1 : Value), I4 [v7_1] h4 → (let h := h4
    mvK v7_1 h fun v12 h =>
    mvK a0 h fun v13 h =>
    vK (aLen Try.prog 23 v13) h fun v14 h =>
    vK (aBin Try.prog BinOp.lss 3 v12 v14) h fun v15 h =>
    cnd v15 (
     mvK a0 h fun v18 h =>
     mvK v7_1 h fun v19 h =>
     vK (aIndexAddr Try.prog 23 v18 v19) h fun v20 h =>
     vK (aLoad Try.prog 3 v20 h) h fun v21 h =>
     mvK a1 h fun v22 h =>
     vK (aBin Try.prog BinOp.sub 3 v22 (Value.int IntKind.i64 1)) h fun v23 h =>
     cK Try.prog 61 [v21, (Value.int IntKind.i64 0), v23] h fun v24 h =>
     vK (aUn UnOp.not v24) h fun v25 h =>
     cnd v25 (
      mvK (Value.int IntKind.i64 3) h fun v6_2 h =>
      retV [some v6_2] R h) (
      mvK v7_1 h fun v16 h =>
      vK (aBin Try.prog BinOp.add 3 v16 (Value.int IntKind.i64 1)) h fun v17 h =>
      mvK v17 h fun v7_2 h =>
      I4 [v7_2] h ∧ μ4 [v7_2] h < μ4 [v7_1] h4)) (
     mvK (Value.int IntKind.i64 0) h fun v6_3 h =>
     retV [some v6_3] R h)))
def lv45 (q : Nat) : List Nat := bif Nat.beq q 8 then [67104960, 7] else []
theorem ok45 : lkOK Try.prog lv45 Try.f45 3 (Try.f45.body.getD .skip) 45 = true := by kernel_rfl
theorem e45 (a0 a1 a2 : Value) (h : Heap) (R : Value → Heap → Prop) : n45 a0 a1 a2 h R = wpK Try.prog lv45 (Try.f45.body.getD .skip) (endK Try.prog [.tmp 6] R) (argT [a0, a1, a2]) h := by kernel_rfl
theorem w45 {a0 a1 a2 : Value} {h : Heap} {R : Value → Heap → Prop} (hn : n45 a0 a1 a2 h R) : DetP Try.prog 45 [a0, a1, a2] h R :=
  DetP.of_code (rs := [.tmp 6]) (n := 3) Try.func45 (by kernel_rfl) (by kernel_rfl) lv45 ok45 rfl ((e45 a0 a1 a2 h R) ▸ hn)

/-! ### examiner/suite.machineErr: function 46 -/
def n46 (a0 : Value) (h : Heap) (R : Value → Heap → Prop) : Prop :=
  okK (some (aBox Try.prog 36 a0 h)) fun v1 h =>
  mvK (Value.int IntKind.i64 0) h fun v2 h =>
  vK (aLoad Try.prog 36 v1 h) h fun v6 h =>
  cK Try.prog 63 [v6] h fun v7 h =>
  mvK v7 h fun v5 h =>
  vK (aExtract v5 0) h fun v8 h =>
  vK (aExtract v5 1) h fun v9 h =>
  mvK v8 h fun v3 h =>
  mvK v9 h fun v4 h =>
  mvK v4 h fun v10 h =>
  mvK v10 h fun v2_1 h =>
  retV [some v2_1] R h
def lv46 (q : Nat) : List Nat := []
theorem ok46 : lkOK Try.prog lv46 Try.f46 1 (Try.f46.body.getD .skip) 46 = true := by kernel_rfl
theorem e46 (a0 : Value) (h : Heap) (R : Value → Heap → Prop) : n46 a0 h R = wpK Try.prog lv46 (Try.f46.body.getD .skip) (endK Try.prog [.tmp 2] R) (argT [a0]) h := by kernel_rfl
theorem w46 {a0 : Value} {h : Heap} {R : Value → Heap → Prop} (hn : n46 a0 h R) : DetP Try.prog 46 [a0] h R :=
  DetP.of_code (rs := [.tmp 2]) (n := 1) Try.func46 (by kernel_rfl) (by kernel_rfl) lv46 ok46 rfl ((e46 a0 h R) ▸ hn)

/-! ### examiner/suite.suiteErr: function 47 -/
def n47 (a0 a1 : Value) (h : Heap) (R : Value → Heap → Prop) : Prop :=
  okK (some (aBox Try.prog 3 a1 h)) fun v3 h =>
  mvK (Value.int IntKind.i64 0) h fun v4 h =>
  mvK a0 h fun v9 h =>
  vK (aLen Try.prog 22 v9) h fun v10 h =>
  vK (aBin Try.prog BinOp.gtr 3 v10 (Value.int IntKind.i64 2000)) h fun v11 h =>
  cnd v11 (
   mvK (Value.int IntKind.i64 2) h fun v4_1 h =>
   retV [some v4_1] R h) (
   mvK a0 h fun v12 h =>
   vK (aLen Try.prog 22 v12) h fun v13 h =>
   mvK (Value.int IntKind.i64 0) h fun v14 h =>
   ∃ (I4 : List Value → Heap → Prop) (μ4 : List Value → Heap → Nat), I4 [v14] h ∧
   ∀ (h4 : Heap) (j4 : Tmps) (v14_1 : Value), I4 [v14_1] h4 → (let h := h4
    vK (aBin Try.prog BinOp.lss 3 v14_1 v13) h fun v15 h =>
    cnd v15 (
     vK (aIndexAddr Try.prog 22 v12 v14_1) h fun v16 h =>
     vK (aLoad Try.prog 23 v16 h) h fun v17 h =>
     mvK v17 h fun v6 h =>
     mvK (Value.func (Fn.func 64) #[] #[v3]) h fun v18 h =>
     mvK v18 h fun v7 h =>
     mvK v6 h fun v19 h =>
     vK (aLen Try.prog 23 v19) h fun v20 h =>
     vK (aBin Try.prog BinOp.leq 3 v20 (Value.int IntKind.i64 60)) h fun v21 h =>
     cK Try.prog 38 [v21, (Value.int IntKind.i64 2)] h fun v22 h =>
     mvK v6 h fun v23 h =>
     mvK v7 h fun v24 h =>
     cK Try.prog 65 [v23, v24] h fun v25 h =>
     vK (aUn UnOp.not v25) h fun v26 h =>
     cK Try.prog 38 [v26, (Value.int IntKind.i64 3)] h fun v27 h =>
     okK (aBuildSlice Try.prog 94 2 [(0, v22), (1, v27)] h) fun v28 h =>
     cK Try.prog 37 [v28] h fun v29 h =>
     mvK v29 h fun v8 h =>
     mvK v8 h fun v30 h =>
     vK (aBin Try.prog BinOp.neq 25 v30 (Value.int IntKind.i64 0)) h fun v31 h =>
     cnd v31 (
      mvK v8 h fun v32 h =>
      mvK v32 h fun v4_2 h =>
      retV [some v4_2] R h) (
      vK (aBin Try.prog BinOp.add 3 v14_1 (Value.int IntKind.i64 1)) h fun v33 h =>
      mvK v33 h fun v14_2 h =>
      I4 [v14_2] h ∧ μ4 [v14_2] h < μ4 [v14_1] h4)) (
     mvK (Value.int IntKind.i64 0) h fun v4_3 h =>
     retV [some v4_3] R h)))
def lv47 (q : Nat) : List Nat := bif Nat.beq q 8 then [17179853264, 14] else []
theorem ok47 : lkOK Try.prog lv47 Try.f47 2 (Try.f47.body.getD .skip) 47 = true := by kernel_rfl
theorem e47 (a0 a1 : Value) (h : Heap) (R : Value → Heap → Prop) : n47 a0 a1 h R = wpK Try.prog lv47 (Try.f47.body.getD .skip) (endK Try.prog [.tmp 4] R) (argT [a0, a1]) h := by kernel_rfl
theorem w47 {a0 a1 : Value} {h : Heap} {R : Value → Heap → Prop} (hn : n47 a0 a1 h R) : DetP Try.prog 47 [a0, a1] h R :=
  DetP.of_code (rs := [.tmp 4]) (n := 2) Try.func47 (by kernel_rfl) (by kernel_rfl) lv47 ok47 rfl ((e47 a0 a1 h R) ▸ hn)

/-! ### examiner/suite.broken: function 48 -/
def n48 (a0 a1 a2 : Value) (h : Heap) (R : Value → Heap → Prop) : Prop :=
  okK (some (aBox Try.prog 36 a0 h)) fun v3 h =>
  okK (some (aBox Try.prog 36 a1 h)) fun v4 h =>
  mvK (Value.int IntKind.i64 0) h fun v6 h =>
  mvK a2 h fun v15 h =>
  vK (aLen Try.prog 22 v15) h fun v16 h =>
  mvK (Value.int IntKind.i64 0) h fun v17 h =>
  ∃ (I2 : List Value → Heap → Prop) (μ2 : List Value → Heap → Nat), I2 [v17] h ∧
  ∀ (h2 : Heap) (j2 : Tmps) (v17_1 : Value), I2 [v17_1] h2 → (let h := h2
   vK (aBin Try.prog BinOp.lss 3 v17_1 v16) h fun v18 h =>
   cnd v18 (
    mvK v17_1 h fun v19 h =>
    vK (aIndexAddr Try.prog 22 v15 v17_1) h fun v20 h =>
    vK (aLoad Try.prog 23 v20 h) h fun v21 h =>
    mvK v19 h fun v7 h =>
    mvK v21 h fun v8 h =>
    vK (aLoad Try.prog 36 v3 h) h fun v23 h =>
    vK (aFieldAddr Try.prog 36 v3 3) h fun v24 h =>
    vK (aLoad Try.prog 3 v24 h) h fun v25 h =>
    mvK v8 h fun v26 h =>
    cK Try.prog 66 [v23, v25, v26] h fun v27 h =>
    mvK v27 h fun v22 h =>
    vK (aExtract v22 0) h fun v28 h =>
    vK (aExtract v22 1) h fun v29 h =>
    vK (aExtract v22 2) h fun v30 h =>
    mvK v28 h fun v9 h =>
    mvK v29 h fun v10 h =>
    mvK v30 h fun v11 h =>
    vK (aLoad Try.prog 36 v4 h) h fun v32 h =>
    vK (aFieldAddr Try.prog 36 v4 3) h fun v33 h =>
    vK (aLoad Try.prog 3 v33 h) h fun v34 h =>
    mvK v8 h fun v35 h =>
    cK Try.prog 66 [v32, v34, v35] h fun v36 h =>
    mvK v36 h fun v31 h =>
    vK (aExtract v31 0) h fun v37 h =>
    vK (aExtract v31 1) h fun v38 h =>
    vK (aExtract v31 2) h fun v39 h =>
    mvK v37 h fun v12 h =>
    mvK v38 h fun v13 h =>
    mvK v39 h fun v14 h =>
    mvK v9 h fun v40 h =>
    mvK v12 h fun v41 h =>
    cK Try.prog 67 [v40, v41] h fun v42 h =>
    vK (aUn UnOp.not v42) h fun v43 h =>
    cnd v43 (
     mvK v7 h fun v44 h =>
     mvK v44 h fun v6_1 h =>
     retV [some v6_1] R h) (
     vK (aBin Try.prog BinOp.add 3 v17_1 (Value.int IntKind.i64 1)) h fun v45 h =>
     mvK v45 h fun v17_2 h =>
     I2 [v17_2] h ∧ μ2 [v17_2] h < μ2 [v17_1] h2)) (
    mvK a2 h fun v46 h =>
    vK (aLen Try.prog 22 v46) h fun v47 h =>
    mvK v47 h fun v6_2 h =>
    retV [some v6_2] R h))
def lv48 (q : Nat) : List Nat := bif Nat.beq q 4 then [70368744079296, 17] else []
theorem ok48 : lkOK Try.prog lv48 Try.f48 3 (Try.f48.body.getD .skip) 48 = true := by kernel_rfl
theorem e48 (a0 a1 a2 : Value) (h : Heap) (R : Value → Heap → Prop) : n48 a0 a1 a2 h R = wpK Try.prog lv48 (Try.f48.body.getD .skip) (endK Try.prog [.tmp 6] R) (argT [a0, a1, a2]) h := by kernel_rfl
theorem w48 {a0 a1 a2 : Value} {h : Heap} {R : Value → Heap → Prop} (hn : n48 a0 a1 a2 h R) : DetP Try.prog 48 [a0, a1, a2] h R :=
  DetP.of_code (rs := [.tmp 6]) (n := 3) Try.func48 (by kernel_rfl) (by kernel_rfl) lv48 ok48 rfl ((e48 a0 a1 a2 h R) ▸ hn)

/-! ### examiner/examinerref37.Answer: function 49 -/
def n49 (a0 a1 a2 : Value) (h : Heap) (R : Value → Heap → Prop) : Prop :=
  okK (some (aBox Try.prog 36 a0 h)) fun v3 h =>
  mvK (Value.slice none 0 0) h fun v6 h =>
  mvK (Value.slice none 0 0) h fun v7 h =>
  mvK (Value.slice none 0 0) h fun v8 h =>
  mvK (Value.slice none 0 0) h fun v9 h =>
  vK (aLoad Try.prog 36 v3 h) h fun v12 h =>
  mvK a1 h fun v13 h =>
  mvK a2 h fun v14 h =>
  cK Try.prog 68 [v12, v13, v14] h fun v15 h =>
  mvK v15 h fun v10 h =>
  mvK (Value.int IntKind.i64 0) h fun v11 h =>
  ∃ (I4 : List Value → Heap → Prop) (μ4 : List Value → Heap → Nat), I4 [v8, v9, v11] h ∧
  ∀ (h4 : Heap) (j4 : Tmps) (v8_1 : Value) (v9_1 : Value) (v11_1 : Value), I4 [v8_1, v9_1, v11_1] h4 → (let h := h4
   mvK v11_1 h fun v16 h =>
   mvK v10 h fun v17 h =>
   vK (aLen Try.prog 23 v17) h fun v18 h =>
   vK (aBin Try.prog BinOp.lss 3 v16 v18) h fun v19 h =>
   cnd v19 (
    mvK v8_1 h fun v22 h =>
    vK (aFieldAddr Try.prog 36 v3 4) h fun v23 h =>
    vK (aLoad Try.prog 34 v23 h) h fun v24 g =>
    VB h.length v24 ∧ (let h := g
     mvK v10 h fun v25 h =>
     mvK v11_1 h fun v26 h =>
     vK (aIndexAddr Try.prog 23 v25 v26) h fun v27 h =>
     vK (aLoad Try.prog 3 v27 h) h fun v28 g =>
     VB h.length v28 ∧ (let h := g
      vK (aIndexAddr Try.prog 34 v24 v28) h fun v29 h =>
      vK (aFieldAddr Try.prog 63 v29 2) h fun v30 h =>
      vK (aLoad Try.prog 3 v30 h) h fun v31 g =>
      VB h.length v31 ∧ (let h := g
       okK (aBuildSlice Try.prog 23 1 [(0, v31)] h) fun v32 h =>
       okK (aAppend Try.prog 23 23 v22 v32 h) fun v33 h =>
       (True) ∧ (
        mvK v9_1 h fun v34 h =>
        vK (aFieldAddr Try.prog 36 v3 4) h fun v35 h =>
        vK (aLoad Try.prog 34 v35 h) h fun v36 g =>
        VB h.length v36 ∧ (let h := g
         mvK v10 h fun v37 h =>
         mvK v11_1 h fun v38 h =>
         vK (aIndexAddr Try.prog 23 v37 v38) h fun v39 h =>
         vK (aLoad Try.prog 3 v39 h) h fun v40 g =>
         VB h.length v40 ∧ (let h := g
          vK (aIndexAddr Try.prog 34 v36 v40) h fun v41 h =>
          vK (aFieldAddr Try.prog 63 v41 3) h fun v42 h =>
          vK (aLoad Try.prog 3 v42 h) h fun v43 g =>
          VB h.length v43 ∧ (let h := g
           okK (aBuildSlice Try.prog 23 1 [(0, v43)] h) fun v44 h =>
           okK (aAppend Try.prog 23 23 v34 v44 h) fun v45 h =>
           (True) ∧ (
            mvK v33 h fun v8_2 h =>
            mvK v45 h fun v9_2 h =>
            mvK v11_1 h fun v20 h =>
            vK (aBin Try.prog BinOp.add 3 v20 (Value.int IntKind.i64 1)) h fun v21 h =>
            mvK v21 h fun v11_2 h =>
            I4 [v8_2, v9_2, v11_2] h ∧ μ4 [v8_2, v9_2, v11_2] h < μ4 [v8_1, v9_1, v11_1] h4))))))))) (
    mvK v8_1 h fun v46 h =>
    mvK v9_1 h fun v47 h =>
    mvK v46 h fun v6_1 h =>
    mvK v47 h fun v7_1 h =>
    retV [some v6_1, some v7_1] R h))
def lv49 (q : Nat) : List Nat := bif Nat.beq q 8 then [70368744114944, 8, 9, 11] else []
theorem ok49 : lkOK Try.prog lv49 Try.f49 3 (Try.f49.body.getD .skip) 49 = true := by kernel_rfl
theorem e49 (a0 a1 a2 : Value) (h : Heap) (R : Value → Heap → Prop) : n49 a0 a1 a2 h R = wpK Try.prog lv49 (Try.f49.body.getD .skip) (endK Try.prog [.tmp 6, .tmp 7] R) (argT [a0, a1, a2]) h := by kernel_rfl
theorem w49 {a0 a1 a2 : Value} {h : Heap} {R : Value → Heap → Prop} (hn : n49 a0 a1 a2 h R) : DetP Try.prog 49 [a0, a1, a2] h R :=
  DetP.of_code (rs := [.tmp 6, .tmp 7]) (n := 3) Try.func49 (by kernel_rfl) (by kernel_rfl) lv49 ok49 rfl ((e49 a0 a1 a2 h R) ▸ hn)

/-! ### examiner/examinerbase.CompareInts: function 62 -/
def n62 (a0 a1 : Value) (h : Heap) (R : Value → Heap → Prop) : Prop :=
  mvK (Value.int IntKind.i64 0) h fun v4 h =>
  mvK (Value.int IntKind.i64 0) h fun v5 h =>
  ∃ (I2 : List Value → Heap → Prop) (μ2 : List Value → Heap → Nat), I2 [v5] h ∧
  ∀ (h2 : Heap) (j2 : Tmps) (v5_1 : Value), I2 [v5_1] h2 → (let h := h2
   mvK v5_1 h fun v6 h =>
   mvK a0 h fun v7 h =>
   vK (aLen Try.prog 23 v7) h fun v8 h =>
   vK (aBin Try.prog BinOp.lss 3 v6 v8) h fun v9 h =>
   mvK v9 h fun v10 h =>
   gdK v10 true (fun k0 =>
    mvK v5_1 h fun v11 h =>
    k0 v11 h) (fun v11_1 h =>
    gdK v10 true (fun k1 =>
     mvK a1 h fun v12 h =>
     k1 v12 h) (fun v12_1 h =>
     gdK v10 true (fun k2 =>
      vK (aLen Try.prog 23 v12_1) h fun v13 h =>
      k2 v13 h) (fun v13_1 h =>
      gdK v10 true (fun k3 =>
       vK (aBin Try.prog BinOp.lss 3 v11_1 v13_1) h fun v14 h =>
       k3 v14 h) (fun v14_1 h =>
       vK (pickV v10 v14_1 (Value.bool false)) h fun v15 h =>
       cnd v15 (
        mvK a0 h fun v18 h =>
        mvK v5_1 h fun v19 h =>
        vK (aIndexAddr Try.prog 23 v18 v19) h fun v20 h =>
        vK (aLoad Try.prog 3 v20 h) h fun v21 g =>
        VB h.length v21 ∧ (let h := g
         mvK a1 h fun v22 h =>
         mvK v5_1 h fun v23 h =>
         vK (aIndexAddr Try.prog 23 v22 v23) h fun v24 h =>
         vK (aLoad Try.prog 3 v24 h) h fun v25 g =>
         VB h.length v25 ∧ (let h := g
          vK (aBin Try.prog BinOp.neq 3 v21 v25) h fun v26 h =>
          cnd v26 (
           mvK a0 h fun v27 h =>
           mvK v5_1 h fun v28 h =>
           vK (aIndexAddr Try.prog 23 v27 v28) h fun v29 h =>
           vK (aLoad Try.prog 3 v29 h) h fun v30 g =>
           VB h.length v30 ∧ (let h := g
            mvK a1 h fun v31 h =>
            mvK v5_1 h fun v32 h =>
            vK (aIndexAddr Try.prog 23 v31 v32) h fun v33 h =>
            vK (aLoad Try.prog 3 v33 h) h fun v34 g =>
            VB h.length v34 ∧ (let h := g
             vK (aBin Try.prog BinOp.gtr 3 v30 v34) h fun v35 h =>
             cKD Try.prog 50 [v35] h fun v36 g =>
             (∃ new, g = h ++ new) ∧ (let h := g
              vK (aBin Try.prog BinOp.mul 3 (Value.int IntKind.i64 2) v36) h fun v37 h =>
              vK (aBin Try.prog BinOp.sub 3 v37 (Value.int IntKind.i64 1)) h fun v38 h =>
              mvK v38 h fun v4_1 h =>
              retV [some v4_1] R h)))) (
           mvK v5_1 h fun v16 h =>
           vK (aBin Try.prog BinOp.add 3 v16 (Value.int IntKind.i64 1)) h fun v17 h =>
           mvK v17 h fun v5_2 h =>
           I2 [v5_2] h ∧ μ2 [v5_2] h < μ2 [v5_1] h2)))) (
        mvK a0 h fun v39 h =>
        vK (aLen Try.prog 23 v39) h fun v40 h =>
        mvK a1 h fun v41 h =>
        vK (aLen Try.prog 23 v41) h fun v42 h =>
        vK (aBin Try.prog BinOp.gtr 3 v40 v42) h fun v43 h =>
        cK Try.prog 50 [v43] h fun v44 h =>
        mvK a0 h fun v45 h =>
        vK (aLen Try.prog 23 v45) h fun v46 h =>
        mvK a1 h fun v47 h =>
        vK (aLen Try.prog 23 v47) h fun v48 h =>
        vK (aBin Try.prog BinOp.lss 3 v46 v48) h fun v49 h =>
        cK Try.prog 50 [v49] h fun v50 h =>
        vK (aBin Try.prog BinOp.sub 3 v44 v50) h fun v51 h =>
        mvK v51 h fun v4_2 h =>
        retV [some v4_2] R h)) h) h) h) h)
def lv62 (q : Nat) : List Nat := bif Nat.beq q 4 then [549755813872, 5] else []
theorem ok62 : lkOK Try.prog lv62 Try.f62 2 (Try.f62.body.getD .skip) 62 = true := by kernel_rfl
theorem e62 (a0 a1 : Value) (h : Heap) (R : Value → Heap → Prop) : n62 a0 a1 h R = wpK Try.prog lv62 (Try.f62.body.getD .skip) (endK Try.prog [.tmp 4] R) (argT [a0, a1]) h := by kernel_rfl
theorem w62 {a0 a1 : Value} {h : Heap} {R : Value → Heap → Prop} (hn : n62 a0 a1 h R) : DetP Try.prog 62 [a0, a1] h R :=
  DetP.of_code (rs := [.tmp 4]) (n := 2) Try.func62 (by kernel_rfl) (by kernel_rfl) lv62 ok62 rfl ((e62 a0 a1 h R) ▸ hn)

/-! ### examiner/model.CheckMachine: function 63 -/
def n63 (a0 : Value) (h : Heap) (R : Value → Heap → Prop) : Prop :=
  okK (some (aBox Try.prog 36 a0 h)) fun v1 h =>
  mvK (Value.int IntKind.i64 0) h fun v2 h =>
  mvK (Value.int IntKind.i64 0) h fun v3 h =>
  vK (aFieldAddr Try.prog 36 v1 0) h fun v6 h =>
  vK (aLoad Try.prog 3 v6 h) h fun v7 h =>
  cK Try.prog 78 [v7, (Value.int IntKind.i64 1), (Value.int IntKind.i64 40)] h fun v8 h =>
  vK (aUn UnOp.not v8) h fun v9 h =>
  mvK v9 h fun v10 h =>
  gdK v10 false (fun k0 =>
   vK (aFieldAddr Try.prog 36 v1 1) h fun v11 h =>
   k0 v11 h) (fun v11_1 h =>
   gdK v10 false (fun k1 =>
    vK (aLoad Try.prog 3 v11_1 h) h fun v12 h =>
    k1 v12 h) (fun v12_1 h =>
    gdK v10 false (fun k2 =>
     cK Try.prog 78 [v12_1, (Value.int IntKind.i64 1), (Value.int IntKind.i64 8)] h fun v13 h =>
     k2 v13 h) (fun v13_1 h =>
     gdK v10 false (fun k3 =>
      vK (aUn UnOp.not v13_1) h fun v14 h =>
      k3 v14 h) (fun v14_1 h =>
      vK (pickV v10 (Value.bool true) v14_1) h fun v15 h =>
      mvK v15 h fun v16 h =>
      gdK v16 false (fun k4 =>
       vK (aFieldAddr Try.prog 36 v1 2) h fun v17 h =>
       k4 v17 h) (fun v17_1 h =>
       gdK v16 false (fun k5 =>
        vK (aLoad Try.prog 3 v17_1 h) h fun v18 h =>
        k5 v18 h) (fun v18_1 h =>
        gdK v16 false (fun k6 =>
         cK Try.prog 78 [v18_1, (Value.int IntKind.i64 1), (Value.int IntKind.i64 8)] h fun v19 h =>
         k6 v19 h) (fun v19_1 h =>
         gdK v16 false (fun k7 =>
          vK (aUn UnOp.not v19_1) h fun v20 h =>
          k7 v20 h) (fun v20_1 h =>
          vK (pickV v16 (Value.bool true) v20_1) h fun v21 h =>
          mvK v21 h fun v22 h =>
          gdK v22 false (fun k8 =>
           vK (aFieldAddr Try.prog 36 v1 3) h fun v23 h =>
           k8 v23 h) (fun v23_1 h =>
           gdK v22 false (fun k9 =>
            vK (aLoad Try.prog 3 v23_1 h) h fun v24 h =>
            k9 v24 h) (fun v24_1 h =>
            gdK v22 false (fun k10 =>
             vK (aFieldAddr Try.prog 36 v1 0) h fun v25 h =>
             k10 v25 h) (fun v25_1 h =>
             gdK v22 false (fun k11 =>
              vK (aLoad Try.prog 3 v25_1 h) h fun v26 h =>
              k11 v26 h) (fun v26_1 h =>
              gdK v22 false (fun k12 =>
               vK (aBin Try.prog BinOp.sub 3 v26_1 (Value.int IntKind.i64 1)) h fun v27 h =>
               k12 v27 h) (fun v27_1 h =>
               gdK v22 false (fun k13 =>
                cK Try.prog 78 [v24_1, (Value.int IntKind.i64 0), v27_1] h fun v28 h =>
                k13 v28 h) (fun v28_1 h =>
                gdK v22 false (fun k14 =>
                 vK (aUn UnOp.not v28_1) h fun v29 h =>
                 k14 v29 h) (fun v29_1 h =>
                 vK (pickV v22 (Value.bool true) v29_1) h fun v30 h =>
                 cnd v30 (
                  mvK (Value.int IntKind.i64 0) h fun v2_1 h =>
                  mvK (Value.int IntKind.i64 3) h fun v3_1 h =>
                  retV [some v2_1, some v3_1] R h) (
                  vK (aFieldAddr Try.prog 36 v1 4) h fun v31 h =>
                  vK (aLoad Try.prog 34 v31 h) h fun v32 h =>
                  vK (aLen Try.prog 34 v32) h fun v33 h =>
                  vK (aFieldAddr Try.prog 36 v1 0) h fun v34 h =>
                  vK (aLoad Try.prog 3 v34 h) h fun v35 h =>
                  vK (aFieldAddr Try.prog 36 v1 1) h fun v36 h =>
                  vK (aLoad Try.prog 3 v36 h) h fun v37 h =>
                  vK (aBin Try.prog BinOp.mul 3 v35 v37) h fun v38 h =>
                  vK (aBin Try.prog BinOp.gtr 3 v33 v38) h fun v39 h =>
                  cnd v39 (
                   mvK (Value.int IntKind.i64 0) h fun v2_2 h =>
                   mvK (Value.int IntKind.i64 2) h fun v3_2 h =>
                   retV [some v2_2, some v3_2] R h) (
                   vK (aFieldAddr Try.prog 36 v1 4) h fun v40 h =>
                   vK (aLoad Try.prog 34 v40 h) h fun v41 h =>
                   vK (aLen Try.prog 34 v41) h fun v42 h =>
                   mvK (Value.int IntKind.i64 0) h fun v43 h =>
                   ∃ (I6 : List Value → Heap → Prop) (μ6 : List Value → Heap → Nat), I6 [v43] h ∧
                   ∀ (h6 : Heap) (j6 : Tmps) (v43_1 : Value), I6 [v43_1] h6 → (let h := h6
                    vK (aBin Try.prog BinOp.lss 3 v43_1 v42) h fun v44 h =>
                    cnd v44 (
                     mvK v43_1 h fun v45 h =>
                     vK (aIndexAddr Try.prog 34 v41 v43_1) h fun v46 h =>
                     vK (aLoad Try.prog 63 v46 h) h fun v47 h =>
                     okK (aAlloc Try.prog 63 h) fun v5 h =>
                     mvK v45 h fun v4 h =>
                     okK ((aStore Try.prog 63 v5 v47 h).map (undef, ·)) fun _ h =>
                     vK (aFieldAddr Try.prog 63 v5 0) h fun v48 h =>
                     vK (aLoad Try.prog 3 v48 h) h fun v49 h =>
                     vK (aFieldAddr Try.prog 36 v1 0) h fun v50 h =>
                     vK (aLoad Try.prog 3 v50 h) h fun v51 h =>
                     vK (aBin Try.prog BinOp.sub 3 v51 (Value.int IntKind.i64 1)) h fun v52 h =>
                     cK Try.prog 78 [v49, (Value.int IntKind.i64 0), v52] h fun v53 h =>
                     vK (aUn UnOp.not v53) h fun v54 h =>
                     mvK v54 h fun v55 h =>
                     gdK v55 false (fun k15 =>
                      vK (aFieldAddr Try.prog 63 v5 3) h fun v56 h =>
                      k15 v56 h) (fun v56_1 h =>
                      gdK v55 false (fun k16 =>
                       vK (aLoad Try.prog 3 v56_1 h) h fun v57 h =>
                       k16 v57 h) (fun v57_1 h =>
                       gdK v55 false (fun k17 =>
                        vK (aFieldAddr Try.prog 36 v1 0) h fun v58 h =>
                        k17 v58 h) (fun v58_1 h =>
                        gdK v55 false (fun k18 =>
                         vK (aLoad Try.prog 3 v58_1 h) h fun v59 h =>
                         k18 v59 h) (fun v59_1 h =>
                         gdK v55 false (fun k19 =>
                          vK (aBin Try.prog BinOp.sub 3 v59_1 (Value.int IntKind.i64 1)) h fun v60 h =>
                          k19 v60 h) (fun v60_1 h =>
                          gdK v55 false (fun k20 =>
                           cK Try.prog 78 [v57_1, (Value.int IntKind.i64 0), v60_1] h fun v61 h =>
                           k20 v61 h) (fun v61_1 h =>
                           gdK v55 false (fun k21 =>
                            vK (aUn UnOp.not v61_1) h fun v62 h =>
                            k21 v62 h) (fun v62_1 h =>
                            vK (pickV v55 (Value.bool true) v62_1) h fun v63 h =>
                            mvK v63 h fun v64 h =>
                            gdK v64 false (fun k22 =>
                             vK (aFieldAddr Try.prog 63 v5 1) h fun v65 h =>
                             k22 v65 h) (fun v65_1 h =>
                             gdK v64 false (fun k23 =>
                              vK (aLoad Try.prog 3 v65_1 h) h fun v66 h =>
                              k23 v66 h) (fun v66_1 h =>
                              gdK v64 false (fun k24 =>
                               vK (aFieldAddr Try.prog 36 v1 1) h fun v67 h =>
                               k24 v67 h) (fun v67_1 h =>
                               gdK v64 false (fun k25 =>
                                vK (aLoad Try.prog 3 v67_1 h) h fun v68 h =>
                                k25 v68 h) (fun v68_1 h =>
                                gdK v64 false (fun k26 =>
                                 vK (aBin Try.prog BinOp.sub 3 v68_1 (Value.int IntKind.i64 1)) h fun v69 h =>
                                 k26 v69 h) (fun v69_1 h =>
                                 gdK v64 false (fun k27 =>
                                  cK Try.prog 78 [v66_1, (Value.int IntKind.i64 0), v69_1] h fun v70 h =>
                                  k27 v70 h) (fun v70_1 h =>
                                  gdK v64 false (fun k28 =>
                                   vK (aUn UnOp.not v70_1) h fun v71 h =>
                                   k28 v71 h) (fun v71_1 h =>
                                   vK (pickV v64 (Value.bool true) v71_1) h fun v72 h =>
                                   mvK v72 h fun v73 h =>
                                   gdK v73 false (fun k29 =>
                                    vK (aFieldAddr Try.prog 63 v5 2) h fun v74 h =>
                                    k29 v74 h) (fun v74_1 h =>
                                    gdK v73 false (fun k30 =>
                                     vK (aLoad Try.prog 3 v74_1 h) h fun v75 h =>
                                     k30 v75 h) (fun v75_1 h =>
                                     gdK v73 false (fun k31 =>
                                      vK (aFieldAddr Try.prog 36 v1 2) h fun v76 h =>
                                      k31 v76 h) (fun v76_1 h =>
                                      gdK v73 false (fun k32 =>
                                       vK (aLoad Try.prog 3 v76_1 h) h fun v77 h =>
                                       k32 v77 h) (fun v77_1 h =>
                                       gdK v73 false (fun k33 =>
                                        vK (aBin Try.prog BinOp.sub 3 v77_1 (Value.int IntKind.i64 1)) h fun v78 h =>
                                        k33 v78 h) (fun v78_1 h =>
                                        gdK v73 false (fun k34 =>
                                         cK Try.prog 78 [v75_1, (Value.int IntKind.i64 0), v78_1] h fun v79 h =>
                                         k34 v79 h) (fun v79_1 h =>
                                         gdK v73 false (fun k35 =>
                                          vK (aUn UnOp.not v79_1) h fun v80 h =>
                                          k35 v80 h) (fun v80_1 h =>
                                          vK (pickV v73 (Value.bool true) v80_1) h fun v81 h =>
                                          cnd v81 (
                                           mvK v4 h fun v82 h =>
                                           mvK v82 h fun v2_3 h =>
                                           mvK (Value.int IntKind.i64 3) h fun v3_3 h =>
                                           retV [some v2_3, some v3_3] R h) (
                                           mvK v4 h fun v83 h =>
                                           vK (aBin Try.prog BinOp.gtr 3 v83 (Value.int IntKind.i64 0)) h fun v84 h =>
                                           mvK v84 h fun v85 h =>
                                           gdK v85 true (fun k36 =>
                                            vK (aFieldAddr Try.prog 36 v1 4) h fun v86 h =>
                                            k36 v86 h) (fun v86_1 h =>
                                            gdK v85 true (fun k37 =>
                                             vK (aLoad Try.prog 34 v86_1 h) h fun v87 g =>
                                             VB h.length v87 ∧ (let h := g
                                              k37 v87 h)) (fun v87_1 h =>
                                             gdK v85 true (fun k38 =>
                                              mvK v4 h fun v88 h =>
                                              k38 v88 h) (fun v88_1 h =>
                                              gdK v85 true (fun k39 =>
                                               vK (aBin Try.prog BinOp.sub 3 v88_1 (Value.int IntKind.i64 1)) h fun v89 h =>
                                               k39 v89 h) (fun v89_1 h =>
                                               gdK v85 true (fun k40 =>
                                                vK (aIndexAddr Try.prog 34 v87_1 v89_1) h fun v90 h =>
                                                k40 v90 h) (fun v90_1 h =>
                                                gdK v85 true (fun k41 =>
                                                 vK (aFieldAddr Try.prog 63 v90_1 0) h fun v91 h =>
                                                 k41 v91 h) (fun v91_1 h =>
                                                 gdK v85 true (fun k42 =>
                                                  vK (aLoad Try.prog 3 v91_1 h) h fun v92 g =>
                                                  VB h.length v92 ∧ (let h := g
                                                   k42 v92 h)) (fun v92_1 h =>
                                                  gdK v85 true (fun k43 =>
                                                   vK (aFieldAddr Try.prog 63 v5 0) h fun v93 h =>
                                                   k43 v93 h) (fun v93_1 h =>
                                                   gdK v85 true (fun k44 =>
                                                    vK (aLoad Try.prog 3 v93_1 h) h fun v94 g =>
                                                    VB h.length v94 ∧ (let h := g
                                                     k44 v94 h)) (fun v94_1 h =>
                                                    gdK v85 true (fun k45 =>
                                                     cKD Try.prog 80 [v92_1, v94_1] h fun v95 g =>
                                                     (∃ new, g = h ++ new) ∧ (let h := g
                                                      k45 v95 h)) (fun v95_1 h =>
                                                     gdK v85 true (fun k46 =>
                                                      vK (aFieldAddr Try.prog 36 v1 4) h fun v96 h =>
                                                      k46 v96 h) (fun v96_1 h =>
                                                      gdK v85 true (fun k47 =>
                                                       vK (aLoad Try.prog 34 v96_1 h) h fun v97 g =>
                                                       VB h.length v97 ∧ (let h := g
                                                        k47 v97 h)) (fun v97_1 h =>
                                                       gdK v85 true (fun k48 =>
                                                        mvK v4 h fun v98 h =>
                                                        k48 v98 h) (fun v98_1 h =>
                                                        gdK v85 true (fun k49 =>
                                                         vK (aBin Try.prog BinOp.sub 3 v98_1 (Value.int IntKind.i64 1)) h fun v99 h =>
                                                         k49 v99 h) (fun v99_1 h =>
                                                         gdK v85 true (fun k50 =>
                                                          vK (aIndexAddr Try.prog 34 v97_1 v99_1) h fun v100 h =>
                                                          k50 v100 h) (fun v100_1 h =>
                                                          gdK v85 true (fun k51 =>
                                                           vK (aFieldAddr Try.prog 63 v100_1 1) h fun v101 h =>
                                                           k51 v101 h) (fun v101_1 h =>
                                                           gdK v85 true (fun k52 =>
                                                            vK (aLoad Try.prog 3 v101_1 h) h fun v102 g =>
                                                            VB h.length v102 ∧ (let h := g
                                                             k52 v102 h)) (fun v102_1 h =>
                                                            gdK v85 true (fun k53 =>
                                                             vK (aFieldAddr Try.prog 63 v5 1) h fun v103 h =>
                                                             k53 v103 h) (fun v103_1 h =>
                                                             gdK v85 true (fun k54 =>
                                                              vK (aLoad Try.prog 3 v103_1 h) h fun v104 g =>
                                                              VB h.length v104 ∧ (let h := g
                                                               k54 v104 h)) (fun v104_1 h =>
                                                              gdK v85 true (fun k55 =>
                                                               cKD Try.prog 80 [v102_1, v104_1] h fun v105 g =>
                                                               (∃ new, g = h ++ new) ∧ (let h := g
                                                                k55 v105 h)) (fun v105_1 h =>
                                                               gdK v85 true (fun k56 =>
                                                                okK (aBuildSlice Try.prog 23 2 [(0, v95_1), (1, v105_1)] h) fun v106 h =>
                                                                k56 v106 h) (fun v106_1 h =>
                                                                gdK v85 true (fun k57 =>
                                                                 cKD Try.prog 79 [v106_1] h fun v107 g =>
                                                                 (∃ new, g = h ++ new) ∧ (let h := g
                                                                  k57 v107 h)) (fun v107_1 h =>
                                                                 gdK v85 true (fun k58 =>
                                                                  vK (aBin Try.prog BinOp.geq 3 v107_1 (Value.int IntKind.i64 0)) h fun v108 h =>
                                                                  k58 v108 h) (fun v108_1 h =>
                                                                  vK (pickV v85 v108_1 (Value.bool false)) h fun v109 h =>
                                                                  cnd v109 (
                                                                   mvK v4 h fun v110 h =>
                                                                   mvK v110 h fun v2_4 h =>
                                                                   mvK (Value.int IntKind.i64 14) h fun v3_4 h =>
                                                                   retV [some v2_4, some v3_4] R h) (
                                                                   vK (aBin Try.prog BinOp.add 3 v43_1 (Value.int IntKind.i64 1)) h fun v111 h =>
                                                                   mvK v111 h fun v43_2 h =>
                                                                   I6 [v43_2] h ∧ μ6 [v43_2] h < μ6 [v43_1] h6)) h) h) h) h) h) h) h) h) h) h) h) h) h) h) h) h) h) h) h) h) h) h) h)) h) h) h) h) h) h) h) h) h) h) h) h) h) h) h) h) h) h) h) h) h) (
                     mvK (Value.int IntKind.i64 0) h fun v2_5 h =>
                     mvK (Value.int IntKind.i64 0) h fun v3_5 h =>
                     retV [some v2_5, some v3_5] R h))))) h) h) h) h) h) h) h) h) h) h) h) h) h) h) h
def lv63 (q : Nat) : List Nat := bif Nat.beq q 12 then [5192296858534827628521700236197948, 43] else []
theorem ok63 : lkOK Try.prog lv63 Try.f63 1 (Try.f63.body.getD .skip) 63 = true := by kernel_rfl
theorem e63 (a0 : Value) (h : Heap) (R : Value → Heap → Prop) : n63 a0 h R = wpK Try.prog lv63 (Try.f63.body.getD .skip) (endK Try.prog [.tmp 2, .tmp 3] R) (argT [a0]) h := by kernel_rfl
theorem w63 {a0 : Value} {h : Heap} {R : Value → Heap → Prop} (hn : n63 a0 h R) : DetP Try.prog 63 [a0] h R :=
  DetP.of_code (rs := [.tmp 2, .tmp 3]) (n := 1) Try.func63 (by kernel_rfl) (by kernel_rfl) lv63 ok63 rfl ((e63 a0 h R) ▸ hn)

/-! ### examiner/suite.suiteErr$1: function 64 -/
def n64 (a0 a1 : Value) (h : Heap) (R : Value → Heap → Prop) : Prop :=
  mvK (Value.bool false) h fun v3 h =>
  mvK a0 h fun v4 h =>
  vK (aLoad Try.prog 3 a1 h) h fun v5 h =>
  vK (aBin Try.prog BinOp.sub 3 v5 (Value.int IntKind.i64 1)) h fun v6 h =>
  cK Try.prog 58 [v4, (Value.int IntKind.i64 0), v6] h fun v7 h =>
  vK (aUn UnOp.not v7) h fun v8 h =>
  mvK v8 h fun v3_1 h =>
  retV [some v3_1] R h
def lv64 (q : Nat) : List Nat := []
theorem ok64 : lkOK Try.prog lv64 Try.f64 2 (Try.f64.body.getD .skip) 64 = true := by kernel_rfl
theorem e64 (a0 a1 : Value) (h : Heap) (R : Value → Heap → Prop) : n64 a0 a1 h R = wpK Try.prog lv64 (Try.f64.body.getD .skip) (endK Try.prog [.tmp 3] R) (argT [a0, a1]) h := by kernel_rfl
theorem w64 {a0 a1 : Value} {h : Heap} {R : Value → Heap → Prop} (hn : n64 a0 a1 h R) : DetP Try.prog 64 [a0, a1] h R :=
  DetP.of_code (rs := [.tmp 3]) (n := 2) Try.func64 (by kernel_rfl) (by kernel_rfl) lv64 ok64 rfl ((e64 a0 a1 h R) ▸ hn)

/-! ### slices.ContainsFunc[[]int,int]: function 65 -/
def n65 (a0 a1 : Value) (h : Heap) (R : Value → Heap → Prop) : Prop :=
  mvK (Value.bool false) h fun v4 h =>
  mvK a0 h fun v5 h =>
  mvK a1 h fun v6 h =>
  cK Try.prog 81 [v5, v6] h fun v7 h =>
  vK (aBin Try.prog BinOp.geq 3 v7 (Value.int IntKind.i64 0)) h fun v8 h =>
  mvK v8 h fun v4_1 h =>
  retV [some v4_1] R h
def lv65 (q : Nat) : List Nat := []
theorem ok65 : lkOK Try.prog lv65 Try.f65 2 (Try.f65.body.getD .skip) 65 = true := by kernel_rfl
theorem e65 (a0 a1 : Value) (h : Heap) (R : Value → Heap → Prop) : n65 a0 a1 h R = wpK Try.prog lv65 (Try.f65.body.getD .skip) (endK Try.prog [.tmp 4] R) (argT [a0, a1]) h := by kernel_rfl
theorem w65 {a0 a1 : Value} {h : Heap} {R : Value → Heap → Prop} (hn : n65 a0 a1 h R) : DetP Try.prog 65 [a0, a1] h R :=
  DetP.of_code (rs := [.tmp 4]) (n := 2) Try.func65 (by kernel_rfl) (by kernel_rfl) lv65 ok65 rfl ((e65 a0 a1 h R) ▸ hn)

/-! ### examiner/model.AnswerOf: function 66 -/
def n66 (a0 a1 a2 : Value) (h : Heap) (R : Value → Heap → Prop) : Prop :=
  okK (some (aBox Try.prog 36 a0 h)) fun v3 h =>
  mvK (Value.slice none 0 0) h fun v6 h =>
  mvK (Value.slice none 0 0) h fun v7 h =>
  mvK (Value.int IntKind.i64 0) h fun v8 h =>
  vK (aLoad Try.prog 36 v3 h) h fun v16 g =>
  VB h.length v16 ∧ (let h := g
   cKD Try.prog 82 [v16] h fun v17 g =>
   (∃ new, g = h ++ new) ∧ (let h := g
    mvK a1 h fun v18 h =>
    vK (aFieldAddr Try.prog 36 v3 0) h fun v19 h =>
    vK (aLoad Try.prog 3 v19 h) h fun v20 g =>
    VB h.length v20 ∧ (let h := g
     vK (aBin Try.prog BinOp.sub 3 v20 (Value.int IntKind.i64 1)) h fun v21 h =>
     cKD Try.prog 78 [v18, (Value.int IntKind.i64 0), v21] h fun v22 g =>
     (∃ new, g = h ++ new) ∧ (let h := g
      cKD Try.prog 83 [v22, (Value.int IntKind.i64 3)] h fun v23 g =>
      (∃ new, g = h ++ new) ∧ (let h := g
       mvK a2 h fun v24 h =>
       vK (aFieldAddr Try.prog 36 v3 1) h fun v25 h =>
       vK (aLoad Try.prog 3 v25 h) h fun v26 g =>
       VB h.length v26 ∧ (let h := g
        cKD Try.prog 84 [v24, v26] h fun v27 g =>
        (∃ new, g = h ++ new) ∧ (let h := g
         okK (aBuildSlice Try.prog 94 3 [(0, v17), (1, v23), (2, v27)] h) fun v28 h =>
         cKD Try.prog 37 [v28] h fun v29 g =>
         (∃ new, g = h ++ new) ∧ (let h := g
          mvK v29 h fun v9 h =>
          mvK v9 h fun v30 h =>
          vK (aBin Try.prog BinOp.neq 25 v30 (Value.int IntKind.i64 0)) h fun v31 h =>
          cnd v31 (
           mvK v9 h fun v32 h =>
           mvK (Value.slice none 0 0) h fun v6_1 h =>
           mvK (Value.slice none 0 0) h fun v7_1 h =>
           mvK v32 h fun v8_1 h =>
           retV [some v6_1, some v7_1, some v8_1] R h) (
           vK (aLoad Try.prog 36 v3 h) h fun v33 h =>
           cK Try.prog 85 [v33] h fun v34 h =>
           mvK v34 h fun v10 h =>
           mvK (Value.slice none 0 0) h fun v11 h =>
           mvK (Value.slice none 0 0) h fun v12 h =>
           seqK (fun k0 =>
            mvK a2 h fun v35 h =>
            vK (aLen Try.prog 23 v35) h fun v36 h =>
            mvK (Value.int IntKind.i64 0) h fun v37 h =>
            ∃ (I7 : List Value → Heap → Prop) (μ7 : List Value → Heap → Nat), I7 [a1, v11, v12, v37] h ∧
            ∀ (h7 : Heap) (j7 : Tmps) (v1 : Value) (v11_1 : Value) (v12_1 : Value) (v37_1 : Value), I7 [v1, v11_1, v12_1, v37_1] h7 → (let h := h7
             vK (aBin Try.prog BinOp.lss 3 v37_1 v36) h fun v38 h =>
             cnd v38 (
              vK (aIndexAddr Try.prog 23 v35 v37_1) h fun v39 h =>
              vK (aLoad Try.prog 3 v39 h) h fun v40 h =>
              mvK v40 h fun v14 h =>
              mvK v10 h fun v41 h =>
              mvK v1 h fun v42 h =>
              vK (aIndexAddr Try.prog 117 v41 v42) h fun v43 h =>
              vK (aLoad Try.prog 120 v43 h) h fun v44 h =>
              mvK v14 h fun v45 h =>
              vK (aIndexAddr Try.prog 120 v44 v45) h fun v46 h =>
              vK (aLoad Try.prog 119 v46 h) h fun v47 h =>
              mvK v47 h fun v15 h =>
              mvK v15 h fun v48 h =>
              vK (aBin Try.prog BinOp.eql 119 v48 (Value.pointer none)) h fun v49 h =>
              cnd v49 (
               k0 [v11_1, v12_1] h) (
               mvK v15 h fun v50 h =>
               vK (nilV v50) h fun v51 h =>
               vK (aFieldAddr Try.prog 63 v51 3) h fun v52 h =>
               vK (aLoad Try.prog 3 v52 h) h fun v53 h =>
               mvK v53 h fun v1_1 h =>
               mvK v11_1 h fun v54 h =>
               mvK v15 h fun v55 h =>
               vK (nilV v55) h fun v56 h =>
               vK (aFieldAddr Try.prog 63 v56 2) h fun v57 h =>
               vK (aLoad Try.prog 3 v57 h) h fun v58 h =>
               okK (aBuildSlice Try.prog 23 1 [(0, v58)] h) fun v59 h =>
               okK (aAppend Try.prog 23 23 v54 v59 h) fun v60 h =>
               mvK v12_1 h fun v61 h =>
               mvK v1_1 h fun v62 h =>
               okK (aBuildSlice Try.prog 23 1 [(0, v62)] h) fun v63 h =>
               okK (aAppend Try.prog 23 23 v61 v63 h) fun v64 h =>
               mvK v60 h fun v11_2 h =>
               mvK v64 h fun v12_2 h =>
               vK (aBin Try.prog BinOp.add 3 v37_1 (Value.int IntKind.i64 1)) h fun v65 h =>
               mvK v65 h fun v37_2 h =>
               I7 [v1_1, v11_2, v12_2, v37_2] h ∧ μ7 [v1_1, v11_2, v12_2, v37_2] h < μ7 [v1, v11_1, v12_1, v37_1] h7)) (
              k0 [v11_1, v12_1] h))) fun x0 h => ∀ jx0 : Tmps,
            let v11_3 : Value := nth x0 0
            let v12_3 : Value := nth x0 1
            mvK v11_3 h fun v66 h =>
            mvK v12_3 h fun v67 h =>
            mvK v66 h fun v6_2 h =>
            mvK v67 h fun v7_2 h =>
            mvK (Value.int IntKind.i64 0) h fun v8_2 h =>
            retV [some v6_2, some v7_2, some v8_2] R h)))))))))
def lv66 (q : Nat) : List Nat := bif Nat.beq q 14 then [73786976157399308290, 1, 11, 12, 37] else bif Nat.beq q 29 then [73786976260478523394, 11, 12] else []
theorem ok66 : lkOK Try.prog lv66 Try.f66 3 (Try.f66.body.getD .skip) 66 = true := by kernel_rfl
theorem e66 (a0 a1 a2 : Value) (h : Heap) (R : Value → Heap → Prop) : n66 a0 a1 a2 h R = wpK Try.prog lv66 (Try.f66.body.getD .skip) (endK Try.prog [.tmp 6, .tmp 7, .tmp 8] R) (argT [a0, a1, a2]) h := by kernel_rfl
theorem w66 {a0 a1 a2 : Value} {h : Heap} {R : Value → Heap → Prop} (hn : n66 a0 a1 a2 h R) : DetP Try.prog 66 [a0, a1, a2] h R :=
  DetP.of_code (rs := [.tmp 6, .tmp 7, .tmp 8]) (n := 3) Try.func66 (by kernel_rfl) (by kernel_rfl) lv66 ok66 rfl ((e66 a0 a1 a2 h R) ▸ hn)

/-! ### slices.Equal[[]int,int]: function 67 -/
def n67 (a0 a1 : Value) (h : Heap) (R : Value → Heap → Prop) : Prop :=
  mvK (Value.bool false) h fun v4 h =>
  mvK a0 h fun v6 h =>
  vK (aLen Try.prog 23 v6) h fun v7 h =>
  mvK a1 h fun v8 h =>
  vK (aLen Try.prog 23 v8) h fun v9 h =>
  vK (aBin Try.prog BinOp.neq 3 v7 v9) h fun v10 h =>
  cnd v10 (
   mvK (Value.bool false) h fun v4_1 h =>
   retV [some v4_1] R h) (
   mvK a0 h fun v11 h =>
   vK (aLen Try.prog 23 v11) h fun v12 h =>
   mvK (Value.int IntKind.i64 0) h fun v13 h =>
   ∃ (I4 : List Value → Heap → Prop) (μ4 : List Value → Heap → Nat), I4 [v13] h ∧
   ∀ (h4 : Heap) (j4 : Tmps) (v13_1 : Value), I4 [v13_1] h4 → (let h := h4
    vK (aBin Try.prog BinOp.lss 3 v13_1 v12) h fun v14 h =>
    cnd v14 (
     mvK v13_1 h fun v15 h =>
     mvK v15 h fun v5 h =>
     mvK a0 h fun v16 h =>
     mvK v5 h fun v17 h =>
     vK (aIndexAddr Try.prog 23 v16 v17) h fun v18 h =>
     vK (aLoad Try.prog 3 v18 h) h fun v19 g =>
     VB h.length v19 ∧ (let h := g
      mvK a1 h fun v20 h =>
      mvK v5 h fun v21 h =>
      vK (aIndexAddr Try.prog 23 v20 v21) h fun v22 h =>
      vK (aLoad Try.prog 3 v22 h) h fun v23 g =>
      VB h.length v23 ∧ (let h := g
       vK (aBin Try.prog BinOp.neq 3 v19 v23) h fun v24 h =>
       cnd v24 (
        mvK (Value.bool false) h fun v4_2 h =>
        retV [some v4_2] R h) (
        vK (aBin Try.prog BinOp.add 3 v13_1 (Value.int IntKind.i64 1)) h fun v25 h =>
        mvK v25 h fun v13_2 h =>
        I4 [v13_2] h ∧ μ4 [v13_2] h < μ4 [v13_1] h4)))) (
     mvK (Value.bool true) h fun v4_3 h =>
     retV [some v4_3] R h)))
def lv67 (q : Nat) : List Nat := bif Nat.beq q 8 then [67100720, 13] else []
theorem ok67 : lkOK Try.prog lv67 Try.f67 2 (Try.f67.body.getD .skip) 67 = true := by kernel_rfl
theorem e67 (a0 a1 : Value) (h : Heap) (R : Value → Heap → Prop) : n67 a0 a1 h R = wpK Try.prog lv67 (Try.f67.body.getD .skip) (endK Try.prog [.tmp 4] R) (argT [a0, a1]) h := by kernel_rfl
theorem w67 {a0 a1 : Value} {h : Heap} {R : Value → Heap → Prop} (hn : n67 a0 a1 h R) : DetP Try.prog 67 [a0, a1] h R :=
  DetP.of_code (rs := [.tmp 4]) (n := 2) Try.func67 (by kernel_rfl) (by kernel_rfl) lv67 ok67 rfl ((e67 a0 a1 h R) ▸ hn)

/-! ### examiner/examinerref37.Taken: function 68 -/
def n68 (a0 a1 a2 : Value) (h : Heap) (R : Value → Heap → Prop) : Prop :=
  okK (some (aBox Try.prog 36 a0 h)) fun v3 h =>
  mvK (Value.slice none 0 0) h fun v6 h =>
  mvK (Value.slice none 0 0) h fun v7 h =>
  mvK (Value.int IntKind.i64 0) h fun v8 h =>
  ∃ (I3 : List Value → Heap → Prop) (μ3 : List Value → Heap → Nat), I3 [a1, v7, v8] h ∧
  ∀ (h3 : Heap) (j3 : Tmps) (v1 : Value) (v7_1 : Value) (v8_1 : Value), I3 [v1, v7_1, v8_1] h3 → (let h := h3
   mvK v8_1 h fun v10 h =>
   mvK a2 h fun v11 h =>
   vK (aLen Try.prog 23 v11) h fun v12 h =>
   vK (aBin Try.prog BinOp.lss 3 v10 v12) h fun v13 h =>
   cnd v13 (
    vK (aLoad Try.prog 36 v3 h) h fun v16 g =>
    VB h.length v16 ∧ (let h := g
     mvK v1 h fun v17 h =>
     mvK a2 h fun v18 h =>
     mvK v8_1 h fun v19 h =>
     vK (aIndexAddr Try.prog 23 v18 v19) h fun v20 h =>
     vK (aLoad Try.prog 3 v20 h) h fun v21 g =>
     VB h.length v21 ∧ (let h := g
      cKD Try.prog 86 [v16, v17, v21] h fun v22 g =>
      (∃ new, g = h ++ new) ∧ (let h := g
       mvK v22 h fun v9 h =>
       mvK v9 h fun v23 h =>
       vK (aBin Try.prog BinOp.eql 3 v23 (Value.int IntKind.i64 (-1))) h fun v24 h =>
       cnd v24 (
        mvK v7_1 h fun v25 h =>
        mvK v25 h fun v6_1 h =>
        retV [some v6_1] R h) (
        mvK v7_1 h fun v26 h =>
        mvK v9 h fun v27 h =>
        okK (aBuildSlice Try.prog 23 1 [(0, v27)] h) fun v28 h =>
        okK (aAppend Try.prog 23 23 v26 v28 h) fun v29 h =>
        mvK v29 h fun v7_2 h =>
        vK (aFieldAddr Try.prog 36 v3 4) h fun v30 h =>
        vK (aLoad Try.prog 34 v30 h) h fun v31 h =>
        mvK v9 h fun v32 h =>
        vK (aIndexAddr Try.prog 34 v31 v32) h fun v33 h =>
        vK (aFieldAddr Try.prog 63 v33 3) h fun v34 h =>
        vK (aLoad Try.prog 3 v34 h) h fun v35 h =>
        mvK v35 h fun v1_1 h =>
        mvK v8_1 h fun v14 h =>
        vK (aBin Try.prog BinOp.add 3 v14 (Value.int IntKind.i64 1)) h fun v15 h =>
        mvK v15 h fun v8_2 h =>
        I3 [v1_1, v7_2, v8_2] h ∧ μ3 [v1_1, v7_2, v8_2] h < μ3 [v1, v7_1, v8_1] h3))))) (
    mvK v7_1 h fun v36 h =>
    mvK v36 h fun v6_2 h =>
    retV [some v6_2] R h))
def lv68 (q : Nat) : List Nat := bif Nat.beq q 6 then [68719476674, 1, 7, 8] else []
theorem ok68 : lkOK Try.prog lv68 Try.f68 3 (Try.f68.body.getD .skip) 68 = true := by kernel_rfl
theorem e68 (a0 a1 a2 : Value) (h : Heap) (R : Value → Heap → Prop) : n68 a0 a1 a2 h R = wpK Try.prog lv68 (Try.f68.body.getD .skip) (endK Try.prog [.tmp 6] R) (argT [a0, a1, a2]) h := by kernel_rfl
theorem w68 {a0 a1 a2 : Value} {h : Heap} {R : Value → Heap → Prop} (hn : n68 a0 a1 a2 h R) : DetP Try.prog 68 [a0, a1, a2] h R :=
  DetP.of_code (rs := [.tmp 6]) (n := 3) Try.func68 (by kernel_rfl) (by kernel_rfl) lv68 ok68 rfl ((e68 a0 a1 a2 h R) ▸ hn)

/-! ### examiner/model.spans: function 78 -/
def n78 (a0 a1 a2 : Value) (h : Heap) (R : Value → Heap → Prop) : Prop :=
  mvK (Value.bool false) h fun v6 h =>
  mvK a1 h fun v7 h =>
  mvK a0 h fun v8 h =>
  vK (aBin Try.prog BinOp.leq 3 v7 v8) h fun v9 h =>
  mvK v9 h fun v10 h =>
  gdK v10 true (fun k0 =>
   mvK a0 h fun v11 h =>
   k0 v11 h) (fun v11_1 h =>
   gdK v10 true (fun k1 =>
    mvK a2 h fun v12 h =>
    k1 v12 h) (fun v12_1 h =>
    gdK v10 true (fun k2 =>
     vK (aBin Try.prog BinOp.leq 3 v11_1 v12_1) h fun v13 h =>
     k2 v13 h) (fun v13_1 h =>
     vK (pickV v10 v13_1 (Value.bool false)) h fun v14 h =>
     mvK v14 h fun v6_1 h =>
     retV [some v6_1] R h) h) h) h
def lv78 (q : Nat) : List Nat := []
theorem ok78 : lkOK Try.prog lv78 Try.f78 3 (Try.f78.body.getD .skip) 78 = true := by kernel_rfl
theorem e78 (a0 a1 a2 : Value) (h : Heap) (R : Value → Heap → Prop) : n78 a0 a1 a2 h R = wpK Try.prog lv78 (Try.f78.body.getD .skip) (endK Try.prog [.tmp 6] R) (argT [a0, a1, a2]) h := by kernel_rfl
theorem w78 {a0 a1 a2 : Value} {h : Heap} {R : Value → Heap → Prop} (hn : n78 a0 a1 a2 h R) : DetP Try.prog 78 [a0, a1, a2] h R :=
  DetP.of_code (rs := [.tmp 6]) (n := 3) Try.func78 (by kernel_rfl) (by kernel_rfl) lv78 ok78 rfl ((e78 a0 a1 a2 h R) ▸ hn)

/-! ### cmp.Or[int]: function 79 -/
def n79 (a0 : Value) (h : Heap) (R : Value → Heap → Prop) : Prop :=
  mvK (Value.int IntKind.i64 0) h fun v2 h =>
  mvK (Value.int IntKind.i64 0) h fun v3 h =>
  mvK a0 h fun v6 h =>
  vK (aLen Try.prog 23 v6) h fun v7 h =>
  mvK (Value.int IntKind.i64 0) h fun v8 h =>
  ∃ (I3 : List Value → Heap → Prop) (μ3 : List Value → Heap → Nat), I3 [v8] h ∧
  ∀ (h3 : Heap) (j3 : Tmps) (v8_1 : Value), I3 [v8_1] h3 → (let h := h3
   vK (aBin Try.prog BinOp.lss 3 v8_1 v7) h fun v9 h =>
   cnd v9 (
    vK (aIndexAddr Try.prog 23 v6 v8_1) h fun v10 h =>
    vK (aLoad Try.prog 3 v10 h) h fun v11 h =>
    mvK v11 h fun v5 h =>
    mvK v5 h fun v12 h =>
    mvK v3 h fun v13 h =>
    vK (aBin Try.prog BinOp.neq 3 v12 v13) h fun v14 h =>
    cnd v14 (
     mvK v5 h fun v15 h =>
     mvK v15 h fun v2_1 h =>
     retV [some v2_1] R h) (
     vK (aBin Try.prog BinOp.add 3 v8_1 (Value.int IntKind.i64 1)) h fun v16 h =>
     mvK v16 h fun v8_2 h =>
     I3 [v8_2] h ∧ μ3 [v8_2] h < μ3 [v8_1] h3)) (
    mvK v3 h fun v17 h =>
    mvK v17 h fun v2_2 h =>
    retV [some v2_2] R h))
def lv79 (q : Nat) : List Nat := bif Nat.beq q 6 then [130852, 8] else []
theorem ok79 : lkOK Try.prog lv79 Try.f79 1 (Try.f79.body.getD .skip) 79 = true := by kernel_rfl
theorem e79 (a0 : Value) (h : Heap) (R : Value → Heap → Prop) : n79 a0 h R = wpK Try.prog lv79 (Try.f79.body.getD .skip) (endK Try.prog [.tmp 2] R) (argT [a0]) h := by kernel_rfl
theorem w79 {a0 : Value} {h : Heap} {R : Value → Heap → Prop} (hn : n79 a0 h R) : DetP Try.prog 79 [a0] h R :=
  DetP.of_code (rs := [.tmp 2]) (n := 1) Try.func79 (by kernel_rfl) (by kernel_rfl) lv79 ok79 rfl ((e79 a0 h R) ▸ hn)

/-! ### cmp.Compare[int]: function 80 -/
def n80 (a0 a1 : Value) (h : Heap) (R : Value → Heap → Prop) : Prop :=
  mvK (Value.int IntKind.i64 0) h fun v4 h =>
  mvK a0 h fun v7 h =>
  cK Try.prog 91 [v7] h fun v8 h =>
  mvK v8 h fun v5 h =>
  mvK a1 h fun v9 h =>
  cK Try.prog 91 [v9] h fun v10 h =>
  mvK v10 h fun v6 h =>
  mvK v5 h fun v11 h =>
  cnd v11 (
   mvK v6 h fun v12 h =>
   cnd v12 (
    mvK (Value.int IntKind.i64 0) h fun v4_1 h =>
    retV [some v4_1] R h) (
    mvK (Value.int IntKind.i64 (-1)) h fun v4_2 h =>
    retV [some v4_2] R h)) (
   mvK v6 h fun v13 h =>
   cnd v13 (
    mvK (Value.int IntKind.i64 1) h fun v4_3 h =>
    retV [some v4_3] R h) (
    mvK a0 h fun v14 h =>
    mvK a1 h fun v15 h =>
    vK (aBin Try.prog BinOp.lss 3 v14 v15) h fun v16 h =>
    cnd v16 (
     mvK (Value.int IntKind.i64 (-1)) h fun v4_4 h =>
     retV [some v4_4] R h) (
     mvK a0 h fun v17 h =>
     mvK a1 h fun v18 h =>
     vK (aBin Try.prog BinOp.gtr 3 v17 v18) h fun v19 h =>
     cnd v19 (
      mvK (Value.int IntKind.i64 1) h fun v4_5 h =>
      retV [some v4_5] R h) (
      mvK (Value.int IntKind.i64 0) h fun v4_6 h =>
      retV [some v4_6] R h))))
def lv80 (q : Nat) : List Nat := []
theorem ok80 : lkOK Try.prog lv80 Try.f80 2 (Try.f80.body.getD .skip) 80 = true := by kernel_rfl
theorem e80 (a0 a1 : Value) (h : Heap) (R : Value → Heap → Prop) : n80 a0 a1 h R = wpK Try.prog lv80 (Try.f80.body.getD .skip) (endK Try.prog [.tmp 4] R) (argT [a0, a1]) h := by kernel_rfl
theorem w80 {a0 a1 : Value} {h : Heap} {R : Value → Heap → Prop} (hn : n80 a0 a1 h R) : DetP Try.prog 80 [a0, a1] h R :=
  DetP.of_code (rs := [.tmp 4]) (n := 2) Try.func80 (by kernel_rfl) (by kernel_rfl) lv80 ok80 rfl ((e80 a0 a1 h R) ▸ hn)

/-! ### slices.IndexFunc[[]int,int]: function 81 -/
def n81 (a0 a1 : Value) (h : Heap) (R : Value → Heap → Prop) : Prop :=
  mvK (Value.int IntKind.i64 0) h fun v4 h =>
  mvK a0 h fun v6 h =>
  vK (aLen Try.prog 23 v6) h fun v7 h =>
  mvK (Value.int IntKind.i64 0) h fun v8 h =>
  ∃ (I2 : List Value → Heap → Prop) (μ2 : List Value → Heap → Nat), I2 [v8] h ∧
  ∀ (h2 : Heap) (j2 : Tmps) (v8_1 : Value), I2 [v8_1] h2 → (let h := h2
   vK (aBin Try.prog BinOp.lss 3 v8_1 v7) h fun v9 h =>
   cnd v9 (
    mvK v8_1 h fun v10 h =>
    mvK v10 h fun v5 h =>
    mvK a1 h fun v11 h =>
    mvK a0 h fun v12 h =>
    mvK v5 h fun v13 h =>
    vK (aIndexAddr Try.prog 23 v12 v13) h fun v14 h =>
    vK (aLoad Try.prog 3 v14 h) h fun v15 h =>
    callK Try.prog (fnOf v11 [v15]) h fun v16 h =>
    cnd v16 (
     mvK v5 h fun v17 h =>
     mvK v17 h fun v4_1 h =>
     retV [some v4_1] R h) (
     vK (aBin Try.prog BinOp.add 3 v8_1 (Value.int IntKind.i64 1)) h fun v18 h =>
     mvK v18 h fun v8_2 h =>
     I2 [v8_2] h ∧ μ2 [v8_2] h < μ2 [v8_1] h2)) (
    mvK (Value.int IntKind.i64 (-1)) h fun v4_2 h =>
    retV [some v4_2] R h))
def lv81 (q : Nat) : List Nat := bif Nat.beq q 4 then [524080, 8] else []
theorem ok81 : lkOK Try.prog lv81 Try.f81 2 (Try.f81.body.getD .skip) 81 = true := by kernel_rfl
theorem e81 (a0 a1 : Value) (h : Heap) (R : Value → Heap → Prop) : n81 a0 a1 h R = wpK Try.prog lv81 (Try.f81.body.getD .skip) (endK Try.prog [.tmp 4] R) (argT [a0, a1]) h := by kernel_rfl
theorem w81 {a0 a1 : Value} {h : Heap} {R : Value → Heap → Prop} (hn : n81 a0 a1 h R) : DetP Try.prog 81 [a0, a1] h R :=
  DetP.of_code (rs := [.tmp 4]) (n := 2) Try.func81 (by kernel_rfl) (by kernel_rfl) lv81 ok81 rfl ((e81 a0 a1 h R) ▸ hn)

/-! ### examiner/model.machineErr: function 82 -/
def n82 (a0 : Value) (h : Heap) (R : Value → Heap → Prop) : Prop :=
  okK (some (aBox Try.prog 36 a0 h)) fun v1 h =>
  mvK (Value.int IntKind.i64 0) h fun v2 h =>
  vK (aLoad Try.prog 36 v1 h) h fun v6 h =>
  cK Try.prog 63 [v6] h fun v7 h =>
  mvK v7 h fun v5 h =>
  vK (aExtract v5 0) h fun v8 h =>
  vK (aExtract v5 1) h fun v9 h =>
  mvK v8 h fun v3 h =>
  mvK v9 h fun v4 h =>
  mvK v4 h fun v10 h =>
  mvK v10 h fun v2_1 h =>
  retV [some v2_1] R h
def lv82 (q : Nat) : List Nat := []
theorem ok82 : lkOK Try.prog lv82 Try.f82 1 (Try.f82.body.getD .skip) 82 = true := by kernel_rfl
theorem e82 (a0 : Value) (h : Heap) (R : Value → Heap → Prop) : n82 a0 h R = wpK Try.prog lv82 (Try.f82.body.getD .skip) (endK Try.prog [.tmp 2] R) (argT [a0]) h := by kernel_rfl
theorem w82 {a0 : Value} {h : Heap} {R : Value → Heap → Prop} (hn : n82 a0 h R) : DetP Try.prog 82 [a0] h R :=
  DetP.of_code (rs := [.tmp 2]) (n := 1) Try.func82 (by kernel_rfl) (by kernel_rfl) lv82 ok82 rfl ((e82 a0 h R) ▸ hn)

/-! ### examiner/model.unless: function 83 -/
def n83 (a0 a1 : Value) (h : Heap) (R : Value → Heap → Prop) : Prop :=
  mvK (Value.int IntKind.i64 0) h fun v4 h =>
  mvK a0 h fun v5 h =>
  cnd v5 (
   mvK (Value.int IntKind.i64 0) h fun v4_1 h =>
   retV [some v4_1] R h) (
   mvK a1 h fun v6 h =>
   mvK v6 h fun v4_2 h =>
   retV [some v4_2] R h)
def lv83 (q : Nat) : List Nat := []
theorem ok83 : lkOK Try.prog lv83 Try.f83 2 (Try.f83.body.getD .skip) 83 = true := by kernel_rfl
theorem e83 (a0 a1 : Value) (h : Heap) (R : Value → Heap → Prop) : n83 a0 a1 h R = wpK Try.prog lv83 (Try.f83.body.getD .skip) (endK Try.prog [.tmp 4] R) (argT [a0, a1]) h := by kernel_rfl
theorem w83 {a0 a1 : Value} {h : Heap} {R : Value → Heap → Prop} (hn : n83 a0 a1 h R) : DetP Try.prog 83 [a0, a1] h R :=
  DetP.of_code (rs := [.tmp 4]) (n := 2) Try.func83 (by kernel_rfl) (by kernel_rfl) lv83 ok83 rfl ((e83 a0 a1 h R) ▸ hn)

/-! ### examiner/model.wordErr: function 84 -/
def n84 (a0 a1 : Value) (h : Heap) (R : Value → Heap → Prop) : Prop :=
  okK (some (aBox Try.prog 3 a1 h)) fun v3 h =>
  mvK (Value.int IntKind.i64 0) h fun v4 h =>
  mvK (Value.func (Fn.func 92) #[] #[v3]) h fun v6 h =>
  mvK v6 h fun v5 h =>
  mvK a0 h fun v7 h =>
  vK (aLen Try.prog 23 v7) h fun v8 h =>
  vK (aBin Try.prog BinOp.gtr 3 v8 (Value.int IntKind.i64 60)) h fun v9 h =>
  cnd v9 (
   mvK (Value.int IntKind.i64 2) h fun v4_1 h =>
   retV [some v4_1] R h) (
   mvK a0 h fun v10 h =>
   mvK v5 h fun v11 h =>
   cK Try.prog 65 [v10, v11] h fun v12 h =>
   vK (aUn UnOp.not v12) h fun v13 h =>
   cK Try.prog 83 [v13, (Value.int IntKind.i64 3)] h fun v14 h =>
   mvK v14 h fun v4_2 h =>
   retV [some v4_2] R h)
def lv84 (q : Nat) : List Nat := []
theorem ok84 : lkOK Try.prog lv84 Try.f84 2 (Try.f84.body.getD .skip) 84 = true := by kernel_rfl
theorem e84 (a0 a1 : Value) (h : Heap) (R : Value → Heap → Prop) : n84 a0 a1 h R = wpK Try.prog lv84 (Try.f84.body.getD .skip) (endK Try.prog [.tmp 4] R) (argT [a0, a1]) h := by kernel_rfl
theorem w84 {a0 a1 : Value} {h : Heap} {R : Value → Heap → Prop} (hn : n84 a0 a1 h R) : DetP Try.prog 84 [a0, a1] h R :=
  DetP.of_code (rs := [.tmp 4]) (n := 2) Try.func84 (by kernel_rfl) (by kernel_rfl) lv84 ok84 rfl ((e84 a0 a1 h R) ▸ hn)

/-! ### examiner/model.tableOf: function 85 -/
def n85 (a0 : Value) (h : Heap) (R : Value → Heap → Prop) : Prop :=
  okK (some (aBox Try.prog 36 a0 h)) fun v1 h =>
  mvK (Value.slice none 0 0) h fun v2 h =>
  vK (aFieldAddr Try.prog 36 v1 0) h fun v7 h =>
  vK (aLoad Try.prog 3 v7 h) h fun v8 h =>
  okK (aMakeSlice Try.prog 117 v8 v8 h) fun v9 h =>
  mvK v9 h fun v3 h =>
  mvK v3 h fun v10 h =>
  vK (aLen Try.prog 117 v10) h fun v11 h =>
  mvK (Value.int IntKind.i64 0) h fun v12 h =>
  ∃ (I3 : List Value → Heap → Prop) (μ3 : List Value → Heap → Nat), I3 [v12] h ∧
  ∀ (h3 : Heap) (j3 : Tmps) (v12_1 : Value), I3 [v12_1] h3 → (let h := h3
   vK (aBin Try.prog BinOp.lss 3 v12_1 v11) h fun v13 h =>
   cnd v13 (
    mvK v12_1 h fun v14 h =>
    mvK v14 h fun v4 h =>
    mvK v3 h fun v15 h =>
    mvK v4 h fun v16 h =>
    vK (aFieldAddr Try.prog 36 v1 1) h fun v17 h =>
    vK (aLoad Try.prog 3 v17 h) h fun v18 h =>
    okK (aMakeSlice Try.prog 120 v18 v18 h) fun v19 h =>
    vK (aIndexAddr Try.prog 117 v15 v16) h fun v20 h =>
    okK ((aStore Try.prog 120 v20 v19 h).map (undef, ·)) fun _ h =>
    vK (aBin Try.prog BinOp.add 3 v12_1 (Value.int IntKind.i64 1)) h fun v21 h =>
    mvK v21 h fun v12_2 h =>
    I3 [v12_2] h ∧ μ3 [v12_2] h < μ3 [v12_1] h3) (
    vK (aFieldAddr Try.prog 36 v1 4) h fun v22 h =>
    vK (aLoad Try.prog 34 v22 h) h fun v23 h =>
    vK (aLen Try.prog 34 v23) h fun v24 h =>
    mvK (Value.int IntKind.i64 0) h fun v25 h =>
    ∃ (I8 : List Value → Heap → Prop) (μ8 : List Value → Heap → Nat), I8 [v25] h ∧
    ∀ (h8 : Heap) (j8 : Tmps) (v25_1 : Value), I8 [v25_1] h8 → (let h := h8
     vK (aBin Try.prog BinOp.lss 3 v25_1 v24) h fun v26 h =>
     cnd v26 (
      vK (aIndexAddr Try.prog 34 v23 v25_1) h fun v27 h =>
      vK (aLoad Try.prog 63 v27 h) h fun v28 h =>
      okK (aAlloc Try.prog 63 h) fun v6 h =>
      okK ((aStore Try.prog 63 v6 v28 h).map (undef, ·)) fun _ h =>
      mvK v3 h fun v29 h =>
      vK (aFieldAddr Try.prog 63 v6 0) h fun v30 h =>
      vK (aLoad Try.prog 3 v30 h) h fun v31 g =>
      VB h.length v31 ∧ (let h := g
       vK (aIndexAddr Try.prog 117 v29 v31) h fun v32 h =>
       vK (aLoad Try.prog 120 v32 h) h fun v33 g =>
       VB h.length v33 ∧ (let h := g
        vK (aFieldAddr Try.prog 63 v6 1) h fun v34 h =>
        vK (aLoad Try.prog 3 v34 h) h fun v35 g =>
        VB h.length v35 ∧ (let h := g
         vK (aIndexAddr Try.prog 120 v33 v35) h fun v36 h =>
         okK ((aStore Try.prog 119 v36 v6 h).map (undef, ·)) fun _ h =>
         (True) ∧ (
          vK (aBin Try.prog BinOp.add 3 v25_1 (Value.int IntKind.i64 1)) h fun v37 h =>
          mvK v37 h fun v25_2 h =>
          I8 [v25_2] h ∧ μ8 [v25_2] h < μ8 [v25_1] h8))))) (
      mvK v3 h fun v38 h =>
      mvK v38 h fun v2_1 h =>
      retV [some v2_1] R h))))
def lv85 (q : Nat) : List Nat := bif Nat.beq q 6 then [4190224, 12] else bif Nat.beq q 16 then [274844352576, 25] else []
theorem ok85 : lkOK Try.prog lv85 Try.f85 1 (Try.f85.body.getD .skip) 85 = true := by kernel_rfl
theorem e85 (a0 : Value) (h : Heap) (R : Value → Heap → Prop) : n85 a0 h R = wpK Try.prog lv85 (Try.f85.body.getD .skip) (endK Try.prog [.tmp 2] R) (argT [a0]) h := by kernel_rfl
theorem w85 {a0 : Value} {h : Heap} {R : Value → Heap → Prop} (hn : n85 a0 h R) : DetP Try.prog 85 [a0] h R :=
  DetP.of_code (rs := [.tmp 2]) (n := 1) Try.func85 (by kernel_rfl) (by kernel_rfl) lv85 ok85 rfl ((e85 a0 h R) ▸ hn)

/-! ### examiner/examinerref37.StepAt: function 86 -/
def n86 (a0 a1 a2 : Value) (h : Heap) (R : Value → Heap → Prop) : Prop :=
  okK (some (aBox Try.prog 36 a0 h)) fun v3 h =>
  mvK (Value.int IntKind.i64 0) h fun v6 h =>
  mvK (Value.int IntKind.i64 0) h fun v7 h =>
  ∃ (I2 : List Value → Heap → Prop) (μ2 : List Value → Heap → Nat), I2 [v7] h ∧
  ∀ (h2 : Heap) (j2 : Tmps) (v7_1 : Value), I2 [v7_1] h2 → (let h := h2
   mvK v7_1 h fun v8 h =>
   vK (aFieldAddr Try.prog 36 v3 4) h fun v9 h =>
   vK (aLoad Try.prog 34 v9 h) h fun v10 h =>
   vK (aLen Try.prog 34 v10) h fun v11 h =>
   vK (aBin Try.prog BinOp.lss 3 v8 v11) h fun v12 h =>
   cnd v12 (
    vK (aFieldAddr Try.prog 36 v3 4) h fun v15 h =>
    vK (aLoad Try.prog 34 v15 h) h fun v16 h =>
    mvK v7_1 h fun v17 h =>
    vK (aIndexAddr Try.prog 34 v16 v17) h fun v18 h =>
    vK (aFieldAddr Try.prog 63 v18 0) h fun v19 h =>
    vK (aLoad Try.prog 3 v19 h) h fun v20 h =>
    mvK a1 h fun v21 h =>
    vK (aBin Try.prog BinOp.eql 3 v20 v21) h fun v22 h =>
    mvK v22 h fun v23 h =>
    gdK v23 true (fun k0 =>
     vK (aFieldAddr Try.prog 36 v3 4) h fun v24 h =>
     k0 v24 h) (fun v24_1 h =>
     gdK v23 true (fun k1 =>
      vK (aLoad Try.prog 34 v24_1 h) h fun v25 h =>
      k1 v25 h) (fun v25_1 h =>
      gdK v23 true (fun k2 =>
       mvK v7_1 h fun v26 h =>
       k2 v26 h) (fun v26_1 h =>
       gdK v23 true (fun k3 =>
        vK (aIndexAddr Try.prog 34 v25_1 v26_1) h fun v27 h =>
        k3 v27 h) (fun v27_1 h =>
        gdK v23 true (fun k4 =>
         vK (aFieldAddr Try.prog 63 v27_1 1) h fun v28 h =>
         k4 v28 h) (fun v28_1 h =>
         gdK v23 true (fun k5 =>
          vK (aLoad Try.prog 3 v28_1 h) h fun v29 h =>
          k5 v29 h) (fun v29_1 h =>
          gdK v23 true (fun k6 =>
           mvK a2 h fun v30 h =>
           k6 v30 h) (fun v30_1 h =>
           gdK v23 true (fun k7 =>
            vK (aBin Try.prog BinOp.eql 3 v29_1 v30_1) h fun v31 h =>
            k7 v31 h) (fun v31_1 h =>
            vK (pickV v23 v31_1 (Value.bool false)) h fun v32 h =>
            cnd v32 (
             mvK v7_1 h fun v33 h =>
             mvK v33 h fun v6_1 h =>
             retV [some v6_1] R h) (
             mvK v7_1 h fun v13 h =>
             vK (aBin Try.prog BinOp.add 3 v13 (Value.int IntKind.i64 1)) h fun v14 h =>
             mvK v14 h fun v7_2 h =>
             I2 [v7_2] h ∧ μ2 [v7_2] h < μ2 [v7_1] h2)) h) h) h) h) h) h) h) h) (
    mvK (Value.int IntKind.i64 (-1)) h fun v6_2 h =>
    retV [some v6_2] R h))
def lv86 (q : Nat) : List Nat := bif Nat.beq q 4 then [17179869120, 7] else []
theorem ok86 : lkOK Try.prog lv86 Try.f86 3 (Try.f86.body.getD .skip) 86 = true := by kernel_rfl
theorem e86 (a0 a1 a2 : Value) (h : Heap) (R : Value → Heap → Prop) : n86 a0 a1 a2 h R = wpK Try.prog lv86 (Try.f86.body.getD .skip) (endK Try.prog [.tmp 6] R) (argT [a0, a1, a2]) h := by kernel_rfl
theorem w86 {a0 a1 a2 : Value} {h : Heap} {R : Value → Heap → Prop} (hn : n86 a0 a1 a2 h R) : DetP Try.prog 86 [a0, a1, a2] h R :=
  DetP.of_code (rs := [.tmp 6]) (n := 3) Try.func86 (by kernel_rfl) (by kernel_rfl) lv86 ok86 rfl ((e86 a0 a1 a2 h R) ▸ hn)

/-! ### cmp.isNaN[int]: function 91 -/
def n91 (a0 : Value) (h : Heap) (R : Value → Heap → Prop) : Prop :=
  mvK (Value.bool false) h fun v2 h =>
  mvK a0 h fun v3 h =>
  mvK a0 h fun v4 h =>
  vK (aBin Try.prog BinOp.neq 3 v3 v4) h fun v5 h =>
  mvK v5 h fun v2_1 h =>
  retV [some v2_1] R h
def lv91 (q : Nat) : List Nat := []
theorem ok91 : lkOK Try.prog lv91 Try.f91 1 (Try.f91.body.getD .skip) 91 = true := by kernel_rfl
theorem e91 (a0 : Value) (h : Heap) (R : Value → Heap → Prop) : n91 a0 h R = wpK Try.prog lv91 (Try.f91.body.getD .skip) (endK Try.prog [.tmp 2] R) (argT [a0]) h := by kernel_rfl
theorem w91 {a0 : Value} {h : Heap} {R : Value → Heap → Prop} (hn : n91 a0 h R) : DetP Try.prog 91 [a0] h R :=
  DetP.of_code (rs := [.tmp 2]) (n := 1) Try.func91 (by kernel_rfl) (by kernel_rfl) lv91 ok91 rfl ((e91 a0 h R) ▸ hn)

/-! ### examiner/model.wordErr$1: function 92 -/
def n92 (a0 a1 : Value) (h : Heap) (R : Value → Heap → Prop) : Prop :=
  mvK (Value.bool false) h fun v3 h =>
  mvK a0 h fun v4 h =>
  vK (aLoad Try.prog 3 a1 h) h fun v5 h =>
  vK (aBin Try.prog BinOp.sub 3 v5 (Value.int IntKind.i64 1)) h fun v6 h =>
  cK Try.prog 78 [v4, (Value.int IntKind.i64 0), v6] h fun v7 h =>
  vK (aUn UnOp.not v7) h fun v8 h =>
  mvK v8 h fun v3_1 h =>
  retV [some v3_1] R h
def lv92 (q : Nat) : List Nat := []
theorem ok92 : lkOK Try.prog lv92 Try.f92 2 (Try.f92.body.getD .skip) 92 = true := by kernel_rfl
theorem e92 (a0 a1 : Value) (h : Heap) (R : Value → Heap → Prop) : n92 a0 a1 h R = wpK Try.prog lv92 (Try.f92.body.getD .skip) (endK Try.prog [.tmp 3] R) (argT [a0, a1]) h := by kernel_rfl
theorem w92 {a0 a1 : Value} {h : Heap} {R : Value → Heap → Prop} (hn : n92 a0 a1 h R) : DetP Try.prog 92 [a0, a1] h R :=
  DetP.of_code (rs := [.tmp 3]) (n := 2) Try.func92 (by kernel_rfl) (by kernel_rfl) lv92 ok92 rfl ((e92 a0 a1 h R) ▸ hn)

end Go.Proofs.Ytkgdclcmfnhbmaa
