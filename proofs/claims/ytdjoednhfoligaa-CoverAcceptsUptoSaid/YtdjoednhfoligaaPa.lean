import Derived.Test.YtdjoednhfoligaaAmW
import Derived.Test.YtdjoednhfoligaaProg
import Derived.KernelRfl
import Derived.Test.YtdjoednhfoligaaAmZb
import Derived.Test.YtdjoednhfoligaaAmV
set_option linter.unusedVariables false
set_option maxRecDepth 100000
namespace Go.Proofs.Ytdjoednhfoligaa
open Go.AM

/-! ### examiner/examinerlaw38.CoverChecks: function 3 -/
def n3 (a0 a1 a2 : Value) (h : Heap) (R : Value → Heap → Prop) : Prop :=
  okK (some (aBox Try.prog 24 a0 h)) fun v3 h =>
  okK (some (aBox Try.prog 27 a2 h)) fun v5 h =>
  mvK (Value.bool false) h fun v6 h =>
  cK Try.prog 14 [] h fun v11 h =>
  vK (aUn UnOp.not v11) h fun v12 h =>
  cnd v12 (
   mvK (Value.bool false) h fun v6_1 h =>
   retV [some v6_1] R h) (
   vK (aLoad Try.prog 24 v3 h) h fun v14 g =>
   VB h.length v14 ∧ (let h := g
    cKD Try.prog 16 [v14] h fun v15 g =>
    (∃ new, g = h ++ new) ∧ (let h := g
     mvK a1 h fun v16 h =>
     cKD Try.prog 17 [v16] h fun v17 g =>
     (∃ new, g = h ++ new) ∧ (let h := g
      vK (aFieldAddr Try.prog 27 v5 0) h fun v18 h =>
      vK (aLoad Try.prog 25 v18 h) h fun v19 g =>
      VB h.length v19 ∧ (let h := g
       cKD Try.prog 17 [v19] h fun v20 g =>
       (∃ new, g = h ++ new) ∧ (let h := g
        vK (aFieldAddr Try.prog 27 v5 1) h fun v21 h =>
        vK (aLoad Try.prog 25 v21 h) h fun v22 g =>
        VB h.length v22 ∧ (let h := g
         cKD Try.prog 17 [v22] h fun v23 g =>
         (∃ new, g = h ++ new) ∧ (let h := g
          vK (aBuild Try.prog 27 [(0, v20), (1, v23)]) h fun v24 h =>
          cKD Try.prog 15 [v15, v17, v24] h fun v25 g =>
          (∃ new, g = h ++ new) ∧ (let h := g
           mvK v25 h fun v13 h =>
           vK (aExtract v13 0) h fun v26 h =>
           vK (aExtract v13 1) h fun v27 h =>
           mvK v26 h fun v7 h =>
           mvK v27 h fun v8 h =>
           vK (aLoad Try.prog 24 v3 h) h fun v28 h =>
           cK Try.prog 18 [v28] h fun v29 h =>
           mvK v29 h fun v9 h =>
           seqK (fun k0 =>
            mvK v9 h fun v30 h =>
            vK (aBin Try.prog BinOp.eql 3 v30 (Value.int IntKind.i64 0)) h fun v31 h =>
            cnd v31 (
             vK (aLoad Try.prog 24 v3 h) h fun v32 h =>
             mvK a1 h fun v33 h =>
             cK Try.prog 19 [v32, v33] h fun v34 h =>
             mvK v34 h fun v9_1 h =>
             k0 [v9_1] h) (
             k0 [v9] h)) fun x0 h => ∀ jx0 : Tmps,
            let v9_2 : Value := nth x0 0
            mvK (Value.int IntKind.i64 0) h fun v10 h =>
            seqK (fun k1 =>
             mvK v9_2 h fun v35 h =>
             vK (aBin Try.prog BinOp.eql 3 v35 (Value.int IntKind.i64 0)) h fun v36 h =>
             cnd v36 (
              vK (aLoad Try.prog 24 v3 h) h fun v38 h =>
              mvK a1 h fun v39 h =>
              vK (aLoad Try.prog 27 v5 h) h fun v40 h =>
              cK Try.prog 20 [v38, v39, v40] h fun v41 h =>
              mvK v41 h fun v37 h =>
              vK (aExtract v37 0) h fun v42 h =>
              vK (aExtract v37 1) h fun v43 h =>
              mvK v42 h fun v10_1 h =>
              mvK v43 h fun v9_3 h =>
              k1 [v9_3, v10_1] h) (
              k1 [v9_2, v10] h)) fun x1 h => ∀ jx1 : Tmps,
             let v9_4 : Value := nth x1 0
             let v10_2 : Value := nth x1 1
             mvK v8 h fun v44 h =>
             mvK v9_4 h fun v45 h =>
             vK (aBin Try.prog BinOp.eql 3 v44 v45) h fun v46 h =>
             mvK v46 h fun v47 h =>
             gdK v47 true (fun k2 =>
              mvK v7 h fun v48 h =>
              k2 v48 h) (fun v48_1 h =>
              gdK v47 true (fun k3 =>
               mvK v10_2 h fun v49 h =>
               k3 v49 h) (fun v49_1 h =>
               gdK v47 true (fun k4 =>
                vK (aBin Try.prog BinOp.eql 3 v48_1 v49_1) h fun v50 h =>
                k4 v50 h) (fun v50_1 h =>
                vK (pickV v47 v50_1 (Value.bool false)) h fun v51 h =>
                mvK v51 h fun v6_2 h =>
                retV [some v6_2] R h) h) h) h)))))))))
def lv3 (q : Nat) : List Nat := bif Nat.beq q 15 then [33285997056, 9] else bif Nat.beq q 21 then [17557826307584, 9, 10] else []
theorem ok3 : lkOK Try.prog lv3 Try.f3 3 (Try.f3.body.getD .skip) 3 = true := by kernel_rfl
theorem e3 (a0 a1 a2 : Value) (h : Heap) (R : Value → Heap → Prop) : n3 a0 a1 a2 h R = wpK Try.prog lv3 (Try.f3.body.getD .skip) (endK Try.prog [.tmp 6] R) (argT [a0, a1, a2]) h := by kernel_rfl
theorem w3 {a0 a1 a2 : Value} {h : Heap} {R : Value → Heap → Prop} (hn : n3 a0 a1 a2 h R) : DetP Try.prog 3 [a0, a1, a2] h R :=
  DetP.of_code (rs := [.tmp 6]) (n := 3) Try.func3 (by kernel_rfl) (by kernel_rfl) lv3 ok3 rfl ((e3 a0 a1 a2 h R) ▸ hn)

/-! ### examiner/cover.CheckRound: function 15 -/
def n15 (a0 a1 a2 : Value) (h : Heap) (R : Value → Heap → Prop) : Prop :=
  okK (some (aBox Try.prog 24 a0 h)) fun v3 h =>
  okK (some (aBox Try.prog 27 a2 h)) fun v5 h =>
  mvK (Value.int IntKind.i64 0) h fun v6 h =>
  mvK (Value.int IntKind.i64 0) h fun v7 h =>
  vK (aLoad Try.prog 24 v3 h) h fun v23 g =>
  VB h.length v23 ∧ (let h := g
   cKD Try.prog 51 [v23] h fun v24 g =>
   (∃ new, g = h ++ new) ∧ (let h := g
    vK (aLoad Try.prog 24 v3 h) h fun v25 g =>
    VB h.length v25 ∧ (let h := g
     mvK a1 h fun v26 h =>
     cKD Try.prog 52 [v25, v26] h fun v27 g =>
     (∃ new, g = h ++ new) ∧ (let h := g
      vK (aLoad Try.prog 24 v3 h) h fun v28 g =>
      VB h.length v28 ∧ (let h := g
       vK (aFieldAddr Try.prog 27 v5 0) h fun v29 h =>
       vK (aLoad Try.prog 25 v29 h) h fun v30 g =>
       VB h.length v30 ∧ (let h := g
        cKD Try.prog 53 [v28, v30] h fun v31 g =>
        (∃ new, g = h ++ new) ∧ (let h := g
         okK (aBuildSlice Try.prog 132 3 [(0, v24), (1, v27), (2, v31)] h) fun v32 h =>
         cKD Try.prog 50 [v32] h fun v33 g =>
         (∃ new, g = h ++ new) ∧ (let h := g
          mvK v33 h fun v8 h =>
          mvK v8 h fun v34 h =>
          vK (aBin Try.prog BinOp.neq 29 v34 (Value.int IntKind.i64 0)) h fun v35 h =>
          cnd v35 (
           mvK v8 h fun v36 h =>
           mvK (Value.int IntKind.i64 0) h fun v6_1 h =>
           mvK v36 h fun v7_1 h =>
           retV [some v6_1, some v7_1] R h) (
           vK (aLoad Try.prog 24 v3 h) h fun v37 h =>
           cK Try.prog 54 [v37] h fun v38 h =>
           mvK v38 h fun v9 h =>
           mvK v9 h fun v39 h =>
           vK (aFieldAddr Try.prog 27 v5 0) h fun v40 h =>
           vK (aLoad Try.prog 25 v40 h) h fun v41 h =>
           cK Try.prog 55 [v39, v41] h fun v42 h =>
           okK (aAlloc Try.prog 25 h) fun v10 h =>
           okK ((aStore Try.prog 25 v10 v42 h).map (undef, ·)) fun _ h =>
           vK (aLoad Try.prog 25 v10 h) h fun v43 h =>
           vK (aLen Try.prog 25 v43) h fun v44 h =>
           vK (aFieldAddr Try.prog 27 v5 0) h fun v45 h =>
           vK (aLoad Try.prog 25 v45 h) h fun v46 h =>
           vK (aLen Try.prog 25 v46) h fun v47 h =>
           vK (aBin Try.prog BinOp.lss 3 v44 v47) h fun v48 h =>
           cnd v48 (
            mvK (Value.int IntKind.i64 0) h fun v6_2 h =>
            mvK (Value.int IntKind.i64 23) h fun v7_2 h =>
            retV [some v6_2, some v7_2] R h) (
            mvK v9 h fun v49 h =>
            vK (nilV v49) h fun v50 h =>
            vK (aFieldAddr Try.prog 92 v50 0) h fun v51 h =>
            vK (aFieldAddr Try.prog 24 v51 3) h fun v52 h =>
            vK (aLoad Try.prog 3 v52 h) h fun v53 h =>
            mvK v53 h fun v11 h =>
            mvK (Value.int IntKind.i64 0) h fun v12 h =>
            vK (aLoad Try.prog 25 v10 h) h fun v54 h =>
            vK (aLen Try.prog 25 v54) h fun v55 h =>
            mvK (Value.int IntKind.i64 0) h fun v56 h =>
            ∃ (I10 : List Value → Heap → Prop) (μ10 : List Value → Heap → Nat), I10 [v11, v12, v56] h ∧
            ∀ (h10 : Heap) (j10 : Tmps) (v11_1 : Value) (v12_1 : Value) (v56_1 : Value), I10 [v11_1, v12_1, v56_1] h10 → (let h := h10
             vK (aBin Try.prog BinOp.lss 3 v56_1 v55) h fun v57 h =>
             cnd v57 (
              vK (aIndexAddr Try.prog 25 v54 v56_1) h fun v58 h =>
              vK (aLoad Try.prog 3 v58 h) h fun v59 h =>
              mvK v59 h fun v14 h =>
              mvK v9 h fun v60 h =>
              vK (nilV v60) h fun v61 h =>
              vK (aFieldAddr Try.prog 92 v61 0) h fun v62 h =>
              vK (aFieldAddr Try.prog 24 v62 4) h fun v63 h =>
              vK (aLoad Try.prog 22 v63 h) h fun v64 g =>
              VB h.length v64 ∧ (let h := g
               mvK v14 h fun v65 h =>
               vK (aIndexAddr Try.prog 22 v64 v65) h fun v66 h =>
               vK (aFieldAddr Try.prog 76 v66 3) h fun v67 h =>
               vK (aLoad Try.prog 3 v67 h) h fun v68 g =>
               VB h.length v68 ∧ (let h := g
                mvK v12_1 h fun v69 h =>
                mvK a1 h fun v70 h =>
                mvK v14 h fun v71 h =>
                vK (aIndexAddr Try.prog 25 v70 v71) h fun v72 h =>
                vK (aLoad Try.prog 3 v72 h) h fun v73 g =>
                VB h.length v73 ∧ (let h := g
                 vK (aBin Try.prog BinOp.add 3 v69 v73) h fun v74 h =>
                 mvK v68 h fun v11_2 h =>
                 mvK v74 h fun v12_2 h =>
                 vK (aBin Try.prog BinOp.add 3 v56_1 (Value.int IntKind.i64 1)) h fun v75 h =>
                 mvK v75 h fun v56_2 h =>
                 I10 [v11_2, v12_2, v56_2] h ∧ μ10 [v11_2, v12_2, v56_2] h < μ10 [v11_1, v12_1, v56_1] h10)))) (
              mvK (Value.func (Fn.func 56) #[] #[v10]) h fun v76 h =>
              mvK v76 h fun v15 h =>
              mvK (Value.func (Fn.func 58) #[] #[]) h fun v16 h =>
              mvK v9 h fun v77 h =>
              cK Try.prog 60 [v77] h fun v78 h =>
              mvK v78 h fun v17 h =>
              mvK v11_1 h fun v79 h =>
              mvK v9 h fun v80 h =>
              vK (nilV v80) h fun v81 h =>
              vK (aFieldAddr Try.prog 92 v81 0) h fun v82 h =>
              vK (aFieldAddr Try.prog 24 v82 3) h fun v83 h =>
              vK (aLoad Try.prog 3 v83 h) h fun v84 g =>
              VB h.length v84 ∧ (let h := g
               vK (aBin Try.prog BinOp.eql 3 v79 v84) h fun v85 h =>
               cKD Try.prog 61 [v85, (Value.int IntKind.i64 39)] h fun v86 g =>
               (∃ new, g = h ++ new) ∧ (let h := g
                mvK v17 h fun v87 h =>
                mvK v15 h fun v88 h =>
                cKD Try.prog 62 [v87, v88] h fun v89 g =>
                (∃ new, g = h ++ new) ∧ (let h := g
                 vK (aUn UnOp.not v89) h fun v90 h =>
                 cKD Try.prog 61 [v90, (Value.int IntKind.i64 11)] h fun v91 g =>
                 (∃ new, g = h ++ new) ∧ (let h := g
                  vK (aFieldAddr Try.prog 27 v5 1) h fun v92 h =>
                  vK (aLoad Try.prog 25 v92 h) h fun v93 g =>
                  VB h.length v93 ∧ (let h := g
                   vK (aLen Try.prog 25 v93) h fun v94 h =>
                   vK (aFieldAddr Try.prog 24 v3 0) h fun v95 h =>
                   vK (aLoad Try.prog 3 v95 h) h fun v96 g =>
                   VB h.length v96 ∧ (let h := g
                    vK (aBin Try.prog BinOp.eql 3 v94 v96) h fun v97 h =>
                    cKD Try.prog 61 [v97, (Value.int IntKind.i64 6)] h fun v98 g =>
                    (∃ new, g = h ++ new) ∧ (let h := g
                     vK (aFieldAddr Try.prog 27 v5 1) h fun v99 h =>
                     vK (aLoad Try.prog 25 v99 h) h fun v100 g =>
                     VB h.length v100 ∧ (let h := g
                      mvK v16 h fun v101 h =>
                      cKD Try.prog 62 [v100, v101] h fun v102 g =>
                      (∃ new, g = h ++ new) ∧ (let h := g
                       vK (aUn UnOp.not v102) h fun v103 h =>
                       cKD Try.prog 61 [v103, (Value.int IntKind.i64 21)] h fun v104 g =>
                       (∃ new, g = h ++ new) ∧ (let h := g
                        okK (aBuildSlice Try.prog 132 4 [(0, v86), (1, v91), (2, v98), (3, v104)] h) fun v105 h =>
                        cKD Try.prog 50 [v105] h fun v106 g =>
                        (∃ new, g = h ++ new) ∧ (let h := g
                         mvK v106 h fun v18 h =>
                         mvK v18 h fun v107 h =>
                         vK (aBin Try.prog BinOp.neq 29 v107 (Value.int IntKind.i64 0)) h fun v108 h =>
                         cnd v108 (
                          mvK v18 h fun v109 h =>
                          mvK (Value.int IntKind.i64 0) h fun v6_3 h =>
                          mvK v109 h fun v7_3 h =>
                          retV [some v6_3, some v7_3] R h) (
                          mvK (Value.int IntKind.i64 0) h fun v19 h =>
                          mvK v17 h fun v110 h =>
                          vK (aLen Try.prog 25 v110) h fun v111 h =>
                          mvK (Value.int IntKind.i64 0) h fun v112 h =>
                          ∃ (I22 : List Value → Heap → Prop) (μ22 : List Value → Heap → Nat), I22 [v19, v112] h ∧
                          ∀ (h22 : Heap) (j22 : Tmps) (v19_1 : Value) (v112_1 : Value), I22 [v19_1, v112_1] h22 → (let h := h22
                           vK (aBin Try.prog BinOp.lss 3 v112_1 v111) h fun v113 h =>
                           cnd v113 (
                            vK (aIndexAddr Try.prog 25 v110 v112_1) h fun v114 h =>
                            vK (aLoad Try.prog 3 v114 h) h fun v115 h =>
                            mvK v115 h fun v21 h =>
                            mvK a1 h fun v116 h =>
                            mvK v21 h fun v117 h =>
                            vK (aIndexAddr Try.prog 25 v116 v117) h fun v118 h =>
                            vK (aLoad Try.prog 3 v118 h) h fun v119 g =>
                            VB h.length v119 ∧ (let h := g
                             vK (aFieldAddr Try.prog 27 v5 1) h fun v120 h =>
                             vK (aLoad Try.prog 25 v120 h) h fun v121 g =>
                             VB h.length v121 ∧ (let h := g
                              vK (aFieldAddr Try.prog 24 v3 4) h fun v122 h =>
                              vK (aLoad Try.prog 22 v122 h) h fun v123 g =>
                              VB h.length v123 ∧ (let h := g
                               mvK v21 h fun v124 h =>
                               vK (aIndexAddr Try.prog 22 v123 v124) h fun v125 h =>
                               vK (aFieldAddr Try.prog 76 v125 0) h fun v126 h =>
                               vK (aLoad Try.prog 3 v126 h) h fun v127 g =>
                               VB h.length v127 ∧ (let h := g
                                vK (aIndexAddr Try.prog 25 v121 v127) h fun v128 h =>
                                vK (aLoad Try.prog 3 v128 h) h fun v129 g =>
                                VB h.length v129 ∧ (let h := g
                                 vK (aBin Try.prog BinOp.add 3 v119 v129) h fun v130 h =>
                                 vK (aFieldAddr Try.prog 27 v5 1) h fun v131 h =>
                                 vK (aLoad Try.prog 25 v131 h) h fun v132 g =>
                                 VB h.length v132 ∧ (let h := g
                                  vK (aFieldAddr Try.prog 24 v3 4) h fun v133 h =>
                                  vK (aLoad Try.prog 22 v133 h) h fun v134 g =>
                                  VB h.length v134 ∧ (let h := g
                                   mvK v21 h fun v135 h =>
                                   vK (aIndexAddr Try.prog 22 v134 v135) h fun v136 h =>
                                   vK (aFieldAddr Try.prog 76 v136 3) h fun v137 h =>
                                   vK (aLoad Try.prog 3 v137 h) h fun v138 g =>
                                   VB h.length v138 ∧ (let h := g
                                    vK (aIndexAddr Try.prog 25 v132 v138) h fun v139 h =>
                                    vK (aLoad Try.prog 3 v139 h) h fun v140 g =>
                                    VB h.length v140 ∧ (let h := g
                                     vK (aBin Try.prog BinOp.sub 3 v130 v140) h fun v141 h =>
                                     mvK v141 h fun v22 h =>
                                     mvK v22 h fun v142 h =>
                                     vK (aBin Try.prog BinOp.lss 3 v142 (Value.int IntKind.i64 0)) h fun v143 h =>
                                     cnd v143 (
                                      mvK (Value.int IntKind.i64 0) h fun v6_4 h =>
                                      mvK (Value.int IntKind.i64 30) h fun v7_4 h =>
                                      retV [some v6_4, some v7_4] R h) (
                                      mvK v19_1 h fun v144 h =>
                                      mvK v22 h fun v145 h =>
                                      vK (aBin Try.prog BinOp.add 3 v144 v145) h fun v146 h =>
                                      mvK v146 h fun v19_2 h =>
                                      vK (aBin Try.prog BinOp.add 3 v112_1 (Value.int IntKind.i64 1)) h fun v147 h =>
                                      mvK v147 h fun v112_2 h =>
                                      I22 [v19_2, v112_2] h ∧ μ22 [v19_2, v112_2] h < μ22 [v19_1, v112_1] h22))))))))))) (
                            mvK v19_1 h fun v148 h =>
                            mvK v12_1 h fun v149 h =>
                            vK (aBin Try.prog BinOp.neq 3 v148 v149) h fun v150 h =>
                            cnd v150 (
                             mvK (Value.int IntKind.i64 0) h fun v6_5 h =>
                             mvK (Value.int IntKind.i64 30) h fun v7_5 h =>
                             retV [some v6_5, some v7_5] R h) (
                             mvK v12_1 h fun v151 h =>
                             mvK v151 h fun v6_6 h =>
                             mvK (Value.int IntKind.i64 0) h fun v7_6 h =>
                             retV [some v6_6, some v7_6] R h)))))))))))))))))))))))))))
def lv15 (q : Nat) : List Nat := bif Nat.beq q 20 then [75557791668320285513728, 11, 12, 56] else bif Nat.beq q 44 then [356811923171297673406036664733843287773282496, 19, 112] else []
theorem ok15 : lkOK Try.prog lv15 Try.f15 3 (Try.f15.body.getD .skip) 15 = true := by kernel_rfl
theorem e15 (a0 a1 a2 : Value) (h : Heap) (R : Value → Heap → Prop) : n15 a0 a1 a2 h R = wpK Try.prog lv15 (Try.f15.body.getD .skip) (endK Try.prog [.tmp 6, .tmp 7] R) (argT [a0, a1, a2]) h := by kernel_rfl
theorem w15 {a0 a1 a2 : Value} {h : Heap} {R : Value → Heap → Prop} (hn : n15 a0 a1 a2 h R) : DetP Try.prog 15 [a0, a1, a2] h R :=
  DetP.of_code (rs := [.tmp 6, .tmp 7]) (n := 3) Try.func15 (by kernel_rfl) (by kernel_rfl) lv15 ok15 rfl ((e15 a0 a1 a2 h R) ▸ hn)

/-! ### examiner/examinerref37.Own: function 16 -/
def n16 (a0 : Value) (h : Heap) (R : Value → Heap → Prop) : Prop :=
  okK (some (aBox Try.prog 24 a0 h)) fun v1 h =>
  okK (aAlloc Try.prog 24 h) fun v2 h =>
  okK (aBuildSlice Try.prog 22 0 [] h) fun v3 h =>
  vK (aFieldAddr Try.prog 24 v1 4) h fun v4 h =>
  vK (aLoad Try.prog 22 v4 h) h fun v5 h =>
  okK (aAppend Try.prog 22 22 v3 v5 h) fun v6 h =>
  vK (aFieldAddr Try.prog 24 v1 4) h fun v7 h =>
  okK ((aStore Try.prog 22 v7 v6 h).map (undef, ·)) fun _ h =>
  vK (aLoad Try.prog 24 v1 h) h fun v8 h =>
  okK ((aStore Try.prog 24 v2 v8 h).map (undef, ·)) fun _ h =>
  retV [aLoad Try.prog 24 v2 h] R h
def lv16 (q : Nat) : List Nat := []
theorem ok16 : lkOK Try.prog lv16 Try.f16 1 (Try.f16.body.getD .skip) 16 = true := by kernel_rfl
theorem e16 (a0 : Value) (h : Heap) (R : Value → Heap → Prop) : n16 a0 h R = wpK Try.prog lv16 (Try.f16.body.getD .skip) (endK Try.prog [.cell 2 24] R) (argT [a0]) h := by kernel_rfl
theorem w16 {a0 : Value} {h : Heap} {R : Value → Heap → Prop} (hn : n16 a0 h R) : DetP Try.prog 16 [a0] h R :=
  DetP.of_code (rs := [.cell 2 24]) (n := 1) Try.func16 (by kernel_rfl) (by kernel_rfl) lv16 ok16 rfl ((e16 a0 h R) ▸ hn)

/-! ### examiner/examinerbase.OwnInts: function 17 -/
def n17 (a0 : Value) (h : Heap) (R : Value → Heap → Prop) : Prop :=
  mvK (Value.slice none 0 0) h fun v2 h =>
  okK (aBuildSlice Try.prog 25 0 [] h) fun v3 h =>
  mvK a0 h fun v4 h =>
  okK (aAppend Try.prog 25 25 v3 v4 h) fun v5 h =>
  mvK v5 h fun v2_1 h =>
  retV [some v2_1] R h
def lv17 (q : Nat) : List Nat := []
theorem ok17 : lkOK Try.prog lv17 Try.f17 1 (Try.f17.body.getD .skip) 17 = true := by kernel_rfl
theorem e17 (a0 : Value) (h : Heap) (R : Value → Heap → Prop) : n17 a0 h R = wpK Try.prog lv17 (Try.f17.body.getD .skip) (endK Try.prog [.tmp 2] R) (argT [a0]) h := by kernel_rfl
theorem w17 {a0 : Value} {h : Heap} {R : Value → Heap → Prop} (hn : n17 a0 h R) : DetP Try.prog 17 [a0] h R :=
  DetP.of_code (rs := [.tmp 2]) (n := 1) Try.func17 (by kernel_rfl) (by kernel_rfl) lv17 ok17 rfl ((e17 a0 h R) ▸ hn)

/-! ### examiner/examinerref37.Err: function 18 -/
def n18 (a0 : Value) (h : Heap) (R : Value → Heap → Prop) : Prop :=
  okK (some (aBox Try.prog 24 a0 h)) fun v1 h =>
  mvK (Value.int IntKind.i64 0) h fun v2 h =>
  vK (aLoad Try.prog 24 v1 h) h fun v6 h =>
  cK Try.prog 63 [v6] h fun v7 h =>
  mvK v7 h fun v5 h =>
  vK (aExtract v5 0) h fun v8 h =>
  vK (aExtract v5 1) h fun v9 h =>
  mvK v8 h fun v3 h =>
  mvK v9 h fun v4 h =>
  mvK v4 h fun v10 h =>
  mvK v10 h fun v2_1 h =>
  retV [some v2_1] R h
def lv18 (q : Nat) : List Nat := []
theorem ok18 : lkOK Try.prog lv18 Try.f18 1 (Try.f18.body.getD .skip) 18 = true := by kernel_rfl
theorem e18 (a0 : Value) (h : Heap) (R : Value → Heap → Prop) : n18 a0 h R = wpK Try.prog lv18 (Try.f18.body.getD .skip) (endK Try.prog [.tmp 2] R) (argT [a0]) h := by kernel_rfl
theorem w18 {a0 : Value} {h : Heap} {R : Value → Heap → Prop} (hn : n18 a0 h R) : DetP Try.prog 18 [a0] h R :=
  DetP.of_code (rs := [.tmp 2]) (n := 1) Try.func18 (by kernel_rfl) (by kernel_rfl) lv18 ok18 rfl ((e18 a0 h R) ▸ hn)

/-! ### examiner/examinerref38.PricesErr: function 19 -/
def n19 (a0 a1 : Value) (h : Heap) (R : Value → Heap → Prop) : Prop :=
  okK (some (aBox Try.prog 24 a0 h)) fun v2 h =>
  mvK (Value.int IntKind.i64 0) h fun v4 h =>
  mvK a1 h fun v6 h =>
  vK (aLen Try.prog 25 v6) h fun v7 h =>
  vK (aFieldAddr Try.prog 24 v2 4) h fun v8 h =>
  vK (aLoad Try.prog 22 v8 h) h fun v9 h =>
  vK (aLen Try.prog 22 v9) h fun v10 h =>
  vK (aBin Try.prog BinOp.neq 3 v7 v10) h fun v11 h =>
  cnd v11 (
   mvK (Value.int IntKind.i64 6) h fun v4_1 h =>
   retV [some v4_1] R h) (
   mvK (Value.int IntKind.i64 0) h fun v5 h =>
   ∃ (I4 : List Value → Heap → Prop) (μ4 : List Value → Heap → Nat), I4 [v5] h ∧
   ∀ (h4 : Heap) (j4 : Tmps) (v5_1 : Value), I4 [v5_1] h4 → (let h := h4
    mvK v5_1 h fun v12 h =>
    mvK a1 h fun v13 h =>
    vK (aLen Try.prog 25 v13) h fun v14 h =>
    vK (aBin Try.prog BinOp.lss 3 v12 v14) h fun v15 h =>
    cnd v15 (
     mvK a1 h fun v18 h =>
     mvK v5_1 h fun v19 h =>
     vK (aIndexAddr Try.prog 25 v18 v19) h fun v20 h =>
     vK (aLoad Try.prog 3 v20 h) h fun v21 h =>
     cK Try.prog 22 [v21, (Value.int IntKind.i64 0), (Value.int IntKind.i64 20)] h fun v22 h =>
     vK (aUn UnOp.not v22) h fun v23 h =>
     cnd v23 (
      mvK (Value.int IntKind.i64 3) h fun v4_2 h =>
      retV [some v4_2] R h) (
      mvK v5_1 h fun v16 h =>
      vK (aBin Try.prog BinOp.add 3 v16 (Value.int IntKind.i64 1)) h fun v17 h =>
      mvK v17 h fun v5_2 h =>
      I4 [v5_2] h ∧ μ4 [v5_2] h < μ4 [v5_1] h4)) (
     mvK (Value.int IntKind.i64 0) h fun v4_3 h =>
     retV [some v4_3] R h)))
def lv19 (q : Nat) : List Nat := bif Nat.beq q 8 then [16773168, 5] else []
theorem ok19 : lkOK Try.prog lv19 Try.f19 2 (Try.f19.body.getD .skip) 19 = true := by kernel_rfl
theorem e19 (a0 a1 : Value) (h : Heap) (R : Value → Heap → Prop) : n19 a0 a1 h R = wpK Try.prog lv19 (Try.f19.body.getD .skip) (endK Try.prog [.tmp 4] R) (argT [a0, a1]) h := by kernel_rfl
theorem w19 {a0 a1 : Value} {h : Heap} {R : Value → Heap → Prop} (hn : n19 a0 a1 h R) : DetP Try.prog 19 [a0, a1] h R :=
  DetP.of_code (rs := [.tmp 4]) (n := 2) Try.func19 (by kernel_rfl) (by kernel_rfl) lv19 ok19 rfl ((e19 a0 a1 h R) ▸ hn)

/-! ### examiner/examinerref38.RoundErr: function 20 -/
def n20 (a0 a1 a2 : Value) (h : Heap) (R : Value → Heap → Prop) : Prop :=
  okK (some (aBox Try.prog 24 a0 h)) fun v3 h =>
  okK (some (aBox Try.prog 27 a2 h)) fun v5 h =>
  mvK (Value.int IntKind.i64 0) h fun v6 h =>
  mvK (Value.int IntKind.i64 0) h fun v7 h =>
  vK (aFieldAddr Try.prog 27 v5 0) h fun v19 h =>
  vK (aLoad Try.prog 25 v19 h) h fun v20 h =>
  vK (aFieldAddr Try.prog 24 v3 1) h fun v21 h =>
  vK (aLoad Try.prog 3 v21 h) h fun v22 h =>
  cK Try.prog 41 [v20, v22, (Value.int IntKind.i64 1200)] h fun v23 h =>
  mvK v23 h fun v8 h =>
  mvK v8 h fun v24 h =>
  vK (aBin Try.prog BinOp.neq 3 v24 (Value.int IntKind.i64 0)) h fun v25 h =>
  cnd v25 (
   mvK v8 h fun v26 h =>
   mvK (Value.int IntKind.i64 0) h fun v6_1 h =>
   mvK v26 h fun v7_1 h =>
   retV [some v6_1, some v7_1] R h) (
   vK (aLoad Try.prog 24 v3 h) h fun v27 h =>
   vK (aFieldAddr Try.prog 24 v3 3) h fun v28 h =>
   vK (aLoad Try.prog 3 v28 h) h fun v29 h =>
   vK (aFieldAddr Try.prog 27 v5 0) h fun v30 h =>
   vK (aLoad Try.prog 25 v30 h) h fun v31 h =>
   cK Try.prog 46 [v27, v29, v31] h fun v32 h =>
   mvK v32 h fun v9 h =>
   mvK v9 h fun v33 h =>
   vK (aLen Try.prog 25 v33) h fun v34 h =>
   vK (aFieldAddr Try.prog 27 v5 0) h fun v35 h =>
   vK (aLoad Try.prog 25 v35 h) h fun v36 h =>
   vK (aLen Try.prog 25 v36) h fun v37 h =>
   vK (aBin Try.prog BinOp.neq 3 v34 v37) h fun v38 h =>
   cnd v38 (
    mvK (Value.int IntKind.i64 0) h fun v6_2 h =>
    mvK (Value.int IntKind.i64 23) h fun v7_2 h =>
    retV [some v6_2, some v7_2] R h) (
    mvK v9 h fun v39 h =>
    vK (aLen Try.prog 25 v39) h fun v40 h =>
    vK (aBin Try.prog BinOp.gtr 3 v40 (Value.int IntKind.i64 0)) h fun v41 h =>
    mvK v41 h fun v42 h =>
    gdK v42 true (fun k0 =>
     vK (aFieldAddr Try.prog 24 v3 4) h fun v43 h =>
     k0 v43 h) (fun v43_1 h =>
     gdK v42 true (fun k1 =>
      vK (aLoad Try.prog 22 v43_1 h) h fun v44 g =>
      VB h.length v44 ∧ (let h := g
       k1 v44 h)) (fun v44_1 h =>
      gdK v42 true (fun k2 =>
       mvK v9 h fun v45 h =>
       k2 v45 h) (fun v45_1 h =>
       gdK v42 true (fun k3 =>
        mvK v9 h fun v46 h =>
        k3 v46 h) (fun v46_1 h =>
        gdK v42 true (fun k4 =>
         vK (aLen Try.prog 25 v46_1) h fun v47 h =>
         k4 v47 h) (fun v47_1 h =>
         gdK v42 true (fun k5 =>
          vK (aBin Try.prog BinOp.sub 3 v47_1 (Value.int IntKind.i64 1)) h fun v48 h =>
          k5 v48 h) (fun v48_1 h =>
          gdK v42 true (fun k6 =>
           vK (aIndexAddr Try.prog 25 v45_1 v48_1) h fun v49 h =>
           k6 v49 h) (fun v49_1 h =>
           gdK v42 true (fun k7 =>
            vK (aLoad Try.prog 3 v49_1 h) h fun v50 g =>
            VB h.length v50 ∧ (let h := g
             k7 v50 h)) (fun v50_1 h =>
            gdK v42 true (fun k8 =>
             vK (aIndexAddr Try.prog 22 v44_1 v50_1) h fun v51 h =>
             k8 v51 h) (fun v51_1 h =>
             gdK v42 true (fun k9 =>
              vK (aFieldAddr Try.prog 76 v51_1 3) h fun v52 h =>
              k9 v52 h) (fun v52_1 h =>
              gdK v42 true (fun k10 =>
               vK (aLoad Try.prog 3 v52_1 h) h fun v53 g =>
               VB h.length v53 ∧ (let h := g
                k10 v53 h)) (fun v53_1 h =>
               gdK v42 true (fun k11 =>
                vK (aFieldAddr Try.prog 24 v3 3) h fun v54 h =>
                k11 v54 h) (fun v54_1 h =>
                gdK v42 true (fun k12 =>
                 vK (aLoad Try.prog 3 v54_1 h) h fun v55 g =>
                 VB h.length v55 ∧ (let h := g
                  k12 v55 h)) (fun v55_1 h =>
                 gdK v42 true (fun k13 =>
                  vK (aBin Try.prog BinOp.neq 3 v53_1 v55_1) h fun v56 h =>
                  k13 v56 h) (fun v56_1 h =>
                  vK (pickV v42 v56_1 (Value.bool false)) h fun v57 h =>
                  cnd v57 (
                   mvK (Value.int IntKind.i64 0) h fun v6_3 h =>
                   mvK (Value.int IntKind.i64 39) h fun v7_3 h =>
                   retV [some v6_3, some v7_3] R h) (
                   vK (aLoad Try.prog 24 v3 h) h fun v59 h =>
                   cK Try.prog 26 [v59] h fun v60 h =>
                   mvK v60 h fun v58 h =>
                   vK (aExtract v58 0) h fun v61 h =>
                   vK (aExtract v58 1) h fun v62 h =>
                   mvK v61 h fun v10 h =>
                   mvK v62 h fun v11 h =>
                   mvK (Value.int IntKind.i64 0) h fun v12 h =>
                   ∃ (I11 : List Value → Heap → Prop) (μ11 : List Value → Heap → Nat), I11 [v12] h ∧
                   ∀ (h11 : Heap) (j11 : Tmps) (v12_1 : Value), I11 [v12_1] h11 → (let h := h11
                    mvK v12_1 h fun v63 h =>
                    vK (aFieldAddr Try.prog 24 v3 4) h fun v64 h =>
                    vK (aLoad Try.prog 22 v64 h) h fun v65 h =>
                    vK (aLen Try.prog 22 v65) h fun v66 h =>
                    vK (aBin Try.prog BinOp.lss 3 v63 v66) h fun v67 h =>
                    cnd v67 (
                     mvK v11 h fun v70 h =>
                     mvK v12_1 h fun v71 h =>
                     vK (aIndexAddr Try.prog 48 v70 v71) h fun v72 h =>
                     vK (aLoad Try.prog 4 v72 h) h fun v73 h =>
                     mvK v73 h fun v74 h =>
                     gdK v74 true (fun k14 =>
                      mvK v9 h fun v75 h =>
                      k14 v75 h) (fun v75_1 h =>
                      gdK v74 true (fun k15 =>
                       mvK v12_1 h fun v76 h =>
                       k15 v76 h) (fun v76_1 h =>
                       gdK v74 true (fun k16 =>
                        cK Try.prog 47 [v75_1, v76_1] h fun v77 h =>
                        k16 v77 h) (fun v77_1 h =>
                        gdK v74 true (fun k17 =>
                         vK (aUn UnOp.not v77_1) h fun v78 h =>
                         k17 v78 h) (fun v78_1 h =>
                         vK (pickV v74 v78_1 (Value.bool false)) h fun v79 h =>
                         cnd v79 (
                          mvK (Value.int IntKind.i64 0) h fun v6_4 h =>
                          mvK (Value.int IntKind.i64 11) h fun v7_4 h =>
                          retV [some v6_4, some v7_4] R h) (
                          mvK v12_1 h fun v68 h =>
                          vK (aBin Try.prog BinOp.add 3 v68 (Value.int IntKind.i64 1)) h fun v69 h =>
                          mvK v69 h fun v12_2 h =>
                          I11 [v12_2] h ∧ μ11 [v12_2] h < μ11 [v12_1] h11)) h) h) h) h) (
                     vK (aFieldAddr Try.prog 27 v5 1) h fun v80 h =>
                     vK (aLoad Try.prog 25 v80 h) h fun v81 h =>
                     vK (aLen Try.prog 25 v81) h fun v82 h =>
                     vK (aFieldAddr Try.prog 24 v3 0) h fun v83 h =>
                     vK (aLoad Try.prog 3 v83 h) h fun v84 h =>
                     vK (aBin Try.prog BinOp.neq 3 v82 v84) h fun v85 h =>
                     cnd v85 (
                      mvK (Value.int IntKind.i64 0) h fun v6_5 h =>
                      mvK (Value.int IntKind.i64 6) h fun v7_5 h =>
                      retV [some v6_5, some v7_5] R h) (
                      mvK (Value.int IntKind.i64 0) h fun v13 h =>
                      ∃ (I18 : List Value → Heap → Prop) (μ18 : List Value → Heap → Nat), I18 [v13] h ∧
                      ∀ (h18 : Heap) (j18 : Tmps) (v13_1 : Value), I18 [v13_1] h18 → (let h := h18
                       mvK v13_1 h fun v86 h =>
                       vK (aFieldAddr Try.prog 24 v3 0) h fun v87 h =>
                       vK (aLoad Try.prog 3 v87 h) h fun v88 h =>
                       vK (aBin Try.prog BinOp.lss 3 v86 v88) h fun v89 h =>
                       cnd v89 (
                        vK (aFieldAddr Try.prog 27 v5 1) h fun v92 h =>
                        vK (aLoad Try.prog 25 v92 h) h fun v93 h =>
                        mvK v13_1 h fun v94 h =>
                        vK (aIndexAddr Try.prog 25 v93 v94) h fun v95 h =>
                        vK (aLoad Try.prog 3 v95 h) h fun v96 h =>
                        cK Try.prog 22 [v96, (Value.int IntKind.i64 (-1000)), (Value.int IntKind.i64 1000)] h fun v97 h =>
                        vK (aUn UnOp.not v97) h fun v98 h =>
                        cnd v98 (
                         mvK (Value.int IntKind.i64 0) h fun v6_6 h =>
                         mvK (Value.int IntKind.i64 21) h fun v7_6 h =>
                         retV [some v6_6, some v7_6] R h) (
                         mvK v13_1 h fun v90 h =>
                         vK (aBin Try.prog BinOp.add 3 v90 (Value.int IntKind.i64 1)) h fun v91 h =>
                         mvK v91 h fun v13_2 h =>
                         I18 [v13_2] h ∧ μ18 [v13_2] h < μ18 [v13_1] h18)) (
                        mvK (Value.int IntKind.i64 0) h fun v14 h =>
                        mvK (Value.int IntKind.i64 0) h fun v15 h =>
                        ∃ (I24 : List Value → Heap → Prop) (μ24 : List Value → Heap → Nat), I24 [v14, v15] h ∧
                        ∀ (h24 : Heap) (j24 : Tmps) (v14_1 : Value) (v15_1 : Value), I24 [v14_1, v15_1] h24 → (let h := h24
                         mvK v15_1 h fun v99 h =>
                         mvK v9 h fun v100 h =>
                         vK (aLen Try.prog 25 v100) h fun v101 h =>
                         vK (aBin Try.prog BinOp.lss 3 v99 v101) h fun v102 h =>
                         cnd v102 (
                          mvK v14_1 h fun v105 h =>
                          mvK a1 h fun v106 h =>
                          mvK v9 h fun v107 h =>
                          mvK v15_1 h fun v108 h =>
                          vK (aIndexAddr Try.prog 25 v107 v108) h fun v109 h =>
                          vK (aLoad Try.prog 3 v109 h) h fun v110 h =>
                          vK (aIndexAddr Try.prog 25 v106 v110) h fun v111 h =>
                          vK (aLoad Try.prog 3 v111 h) h fun v112 h =>
                          vK (aBin Try.prog BinOp.add 3 v105 v112) h fun v113 h =>
                          mvK v113 h fun v14_2 h =>
                          mvK v15_1 h fun v103 h =>
                          vK (aBin Try.prog BinOp.add 3 v103 (Value.int IntKind.i64 1)) h fun v104 h =>
                          mvK v104 h fun v15_2 h =>
                          I24 [v14_2, v15_2] h ∧ μ24 [v14_2, v15_2] h < μ24 [v14_1, v15_1] h24) (
                          mvK (Value.int IntKind.i64 0) h fun v16 h =>
                          mvK (Value.int IntKind.i64 0) h fun v17 h =>
                          ∃ (I29 : List Value → Heap → Prop) (μ29 : List Value → Heap → Nat), I29 [v16, v17] h ∧
                          ∀ (h29 : Heap) (j29 : Tmps) (v16_1 : Value) (v17_1 : Value), I29 [v16_1, v17_1] h29 → (let h := h29
                           mvK v17_1 h fun v114 h =>
                           vK (aFieldAddr Try.prog 24 v3 4) h fun v115 h =>
                           vK (aLoad Try.prog 22 v115 h) h fun v116 h =>
                           vK (aLen Try.prog 22 v116) h fun v117 h =>
                           vK (aBin Try.prog BinOp.lss 3 v114 v117) h fun v118 h =>
                           cnd v118 (
                            seqK (fun k18 =>
                             mvK a1 h fun v121 h =>
                             mvK v17_1 h fun v122 h =>
                             vK (aIndexAddr Try.prog 25 v121 v122) h fun v123 h =>
                             vK (aLoad Try.prog 3 v123 h) h fun v124 g =>
                             VB h.length v124 ∧ (let h := g
                              vK (aFieldAddr Try.prog 27 v5 1) h fun v125 h =>
                              vK (aLoad Try.prog 25 v125 h) h fun v126 g =>
                              VB h.length v126 ∧ (let h := g
                               vK (aFieldAddr Try.prog 24 v3 4) h fun v127 h =>
                               vK (aLoad Try.prog 22 v127 h) h fun v128 g =>
                               VB h.length v128 ∧ (let h := g
                                mvK v17_1 h fun v129 h =>
                                vK (aIndexAddr Try.prog 22 v128 v129) h fun v130 h =>
                                vK (aFieldAddr Try.prog 76 v130 0) h fun v131 h =>
                                vK (aLoad Try.prog 3 v131 h) h fun v132 g =>
                                VB h.length v132 ∧ (let h := g
                                 vK (aIndexAddr Try.prog 25 v126 v132) h fun v133 h =>
                                 vK (aLoad Try.prog 3 v133 h) h fun v134 g =>
                                 VB h.length v134 ∧ (let h := g
                                  vK (aBin Try.prog BinOp.add 3 v124 v134) h fun v135 h =>
                                  vK (aFieldAddr Try.prog 27 v5 1) h fun v136 h =>
                                  vK (aLoad Try.prog 25 v136 h) h fun v137 g =>
                                  VB h.length v137 ∧ (let h := g
                                   vK (aFieldAddr Try.prog 24 v3 4) h fun v138 h =>
                                   vK (aLoad Try.prog 22 v138 h) h fun v139 g =>
                                   VB h.length v139 ∧ (let h := g
                                    mvK v17_1 h fun v140 h =>
                                    vK (aIndexAddr Try.prog 22 v139 v140) h fun v141 h =>
                                    vK (aFieldAddr Try.prog 76 v141 3) h fun v142 h =>
                                    vK (aLoad Try.prog 3 v142 h) h fun v143 g =>
                                    VB h.length v143 ∧ (let h := g
                                     vK (aIndexAddr Try.prog 25 v137 v143) h fun v144 h =>
                                     vK (aLoad Try.prog 3 v144 h) h fun v145 g =>
                                     VB h.length v145 ∧ (let h := g
                                      vK (aBin Try.prog BinOp.sub 3 v135 v145) h fun v146 h =>
                                      mvK v146 h fun v18 h =>
                                      mvK v11 h fun v147 h =>
                                      mvK v17_1 h fun v148 h =>
                                      vK (aIndexAddr Try.prog 48 v147 v148) h fun v149 h =>
                                      vK (aLoad Try.prog 4 v149 h) h fun v150 h =>
                                      mvK v150 h fun v151 h =>
                                      gdK v151 true (fun k19 =>
                                       mvK v18 h fun v152 h =>
                                       k19 v152 h) (fun v152_1 h =>
                                       gdK v151 true (fun k20 =>
                                        vK (aBin Try.prog BinOp.lss 3 v152_1 (Value.int IntKind.i64 0)) h fun v153 h =>
                                        k20 v153 h) (fun v153_1 h =>
                                        vK (pickV v151 v153_1 (Value.bool false)) h fun v154 h =>
                                        cnd v154 (
                                         mvK (Value.int IntKind.i64 0) h fun v6_7 h =>
                                         mvK (Value.int IntKind.i64 30) h fun v7_7 h =>
                                         retV [some v6_7, some v7_7] R h) (
                                         mvK v11 h fun v155 h =>
                                         mvK v17_1 h fun v156 h =>
                                         vK (aIndexAddr Try.prog 48 v155 v156) h fun v157 h =>
                                         vK (aLoad Try.prog 4 v157 h) h fun v158 h =>
                                         cnd v158 (
                                          mvK v16_1 h fun v159 h =>
                                          mvK v18 h fun v160 h =>
                                          vK (aBin Try.prog BinOp.add 3 v159 v160) h fun v161 h =>
                                          mvK v161 h fun v16_2 h =>
                                          k18 [v16_2] h) (
                                          k18 [v16_1] h))) h) h)))))))))) fun x18 h => ∀ jx18 : Tmps,
                             let v16_3 : Value := nth x18 0
                             mvK v17_1 h fun v119 h =>
                             vK (aBin Try.prog BinOp.add 3 v119 (Value.int IntKind.i64 1)) h fun v120 h =>
                             mvK v120 h fun v17_2 h =>
                             I29 [v16_3, v17_2] h ∧ μ29 [v16_3, v17_2] h < μ29 [v16_1, v17_1] h29) (
                            mvK v16_1 h fun v162 h =>
                            mvK v14_1 h fun v163 h =>
                            vK (aBin Try.prog BinOp.neq 3 v162 v163) h fun v164 h =>
                            cnd v164 (
                             mvK (Value.int IntKind.i64 0) h fun v6_8 h =>
                             mvK (Value.int IntKind.i64 30) h fun v7_8 h =>
                             retV [some v6_8, some v7_8] R h) (
                             mvK v14_1 h fun v165 h =>
                             mvK v165 h fun v6_9 h =>
                             mvK (Value.int IntKind.i64 0) h fun v7_9 h =>
                             retV [some v6_9, some v7_9] R h)))))))))))) h) h) h) h) h) h) h) h) h) h) h) h) h) h))
def lv20 (q : Nat) : List Nat := bif Nat.beq q 22 then [1208916596242592319934656, 12] else bif Nat.beq q 36 then [633747928861659364481170415808, 13] else bif Nat.beq q 48 then [20768553608839196399421236965326848, 14, 15] else bif Nat.beq q 58 then [5846006549323590903627305191554617956638413750464, 16, 17] else bif Nat.beq q 61 then [5846006549320953216823169499119324464503169810624, 16] else []
theorem ok20 : lkOK Try.prog lv20 Try.f20 3 (Try.f20.body.getD .skip) 20 = true := by kernel_rfl
theorem e20 (a0 a1 a2 : Value) (h : Heap) (R : Value → Heap → Prop) : n20 a0 a1 a2 h R = wpK Try.prog lv20 (Try.f20.body.getD .skip) (endK Try.prog [.tmp 6, .tmp 7] R) (argT [a0, a1, a2]) h := by kernel_rfl
theorem w20 {a0 a1 a2 : Value} {h : Heap} {R : Value → Heap → Prop} (hn : n20 a0 a1 a2 h R) : DetP Try.prog 20 [a0, a1, a2] h R :=
  DetP.of_code (rs := [.tmp 6, .tmp 7]) (n := 3) Try.func20 (by kernel_rfl) (by kernel_rfl) lv20 ok20 rfl ((e20 a0 a1 a2 h R) ▸ hn)

/-! ### examiner/examinerbase.Within: function 22 -/
def n22 (a0 a1 a2 : Value) (h : Heap) (R : Value → Heap → Prop) : Prop :=
  mvK (Value.bool false) h fun v6 h =>
  mvK a1 h fun v7 h =>
  mvK a0 h fun v8 h =>
  vK (aBin Try.prog BinOp.leq 3 v7 v8) h fun v9 h =>
  mvK v9 h fun v10 h =>
  gdK v10 true (fun k0 =>
   mvK a0 h fun v11 h =>
   k0 v11 h) (fun v11_1 h =>
   gdK v10 true (fun k1 =>
    mvK a2 h fun v12 h =>
    k1 v12 h) (fun v12_1 h =>
    gdK v10 true (fun k2 =>
     vK (aBin Try.prog BinOp.leq 3 v11_1 v12_1) h fun v13 h =>
     k2 v13 h) (fun v13_1 h =>
     vK (pickV v10 v13_1 (Value.bool false)) h fun v14 h =>
     mvK v14 h fun v6_1 h =>
     retV [some v6_1] R h) h) h) h
def lv22 (q : Nat) : List Nat := []
theorem ok22 : lkOK Try.prog lv22 Try.f22 3 (Try.f22.body.getD .skip) 22 = true := by kernel_rfl
theorem e22 (a0 a1 a2 : Value) (h : Heap) (R : Value → Heap → Prop) : n22 a0 a1 a2 h R = wpK Try.prog lv22 (Try.f22.body.getD .skip) (endK Try.prog [.tmp 6] R) (argT [a0, a1, a2]) h := by kernel_rfl
theorem w22 {a0 a1 a2 : Value} {h : Heap} {R : Value → Heap → Prop} (hn : n22 a0 a1 a2 h R) : DetP Try.prog 22 [a0, a1, a2] h R :=
  DetP.of_code (rs := [.tmp 6]) (n := 3) Try.func22 (by kernel_rfl) (by kernel_rfl) lv22 ok22 rfl ((e22 a0 a1 a2 h R) ▸ hn)

/-! ### examiner/examinerbase.SameInts: function 23 -/
def n23 (a0 a1 : Value) (h : Heap) (R : Value → Heap → Prop) : Prop :=
  mvK (Value.bool false) h fun v4 h =>
  mvK a0 h fun v6 h =>
  vK (aLen Try.prog 25 v6) h fun v7 h =>
  mvK a1 h fun v8 h =>
  vK (aLen Try.prog 25 v8) h fun v9 h =>
  vK (aBin Try.prog BinOp.neq 3 v7 v9) h fun v10 h =>
  cnd v10 (
   mvK (Value.bool false) h fun v4_1 h =>
   retV [some v4_1] R h) (
   mvK (Value.int IntKind.i64 0) h fun v5 h =>
   ∃ (I4 : List Value → Heap → Prop) (μ4 : List Value → Heap → Nat), I4 [v5] h ∧
   ∀ (h4 : Heap) (j4 : Tmps) (v5_1 : Value), I4 [v5_1] h4 → (let h := h4
    mvK v5_1 h fun v11 h =>
    mvK a0 h fun v12 h =>
    vK (aLen Try.prog 25 v12) h fun v13 h =>
    vK (aBin Try.prog BinOp.lss 3 v11 v13) h fun v14 h =>
    cnd v14 (
     mvK a0 h fun v17 h =>
     mvK v5_1 h fun v18 h =>
     vK (aIndexAddr Try.prog 25 v17 v18) h fun v19 h =>
     vK (aLoad Try.prog 3 v19 h) h fun v20 g =>
     VB h.length v20 ∧ (let h := g
      mvK a1 h fun v21 h =>
      mvK v5_1 h fun v22 h =>
      vK (aIndexAddr Try.prog 25 v21 v22) h fun v23 h =>
      vK (aLoad Try.prog 3 v23 h) h fun v24 g =>
      VB h.length v24 ∧ (let h := g
       vK (aBin Try.prog BinOp.neq 3 v20 v24) h fun v25 h =>
       cnd v25 (
        mvK (Value.bool false) h fun v4_2 h =>
        retV [some v4_2] R h) (
        mvK v5_1 h fun v15 h =>
        vK (aBin Try.prog BinOp.add 3 v15 (Value.int IntKind.i64 1)) h fun v16 h =>
        mvK v16 h fun v5_2 h =>
        I4 [v5_2] h ∧ μ4 [v5_2] h < μ4 [v5_1] h4)))) (
     mvK (Value.bool true) h fun v4_3 h =>
     retV [some v4_3] R h)))
def lv23 (q : Nat) : List Nat := bif Nat.beq q 8 then [67106864, 5] else []
theorem ok23 : lkOK Try.prog lv23 Try.f23 2 (Try.f23.body.getD .skip) 23 = true := by kernel_rfl
theorem e23 (a0 a1 : Value) (h : Heap) (R : Value → Heap → Prop) : n23 a0 a1 h R = wpK Try.prog lv23 (Try.f23.body.getD .skip) (endK Try.prog [.tmp 4] R) (argT [a0, a1]) h := by kernel_rfl
theorem w23 {a0 a1 : Value} {h : Heap} {R : Value → Heap → Prop} (hn : n23 a0 a1 h R) : DetP Try.prog 23 [a0, a1] h R :=
  DetP.of_code (rs := [.tmp 4]) (n := 2) Try.func23 (by kernel_rfl) (by kernel_rfl) lv23 ok23 rfl ((e23 a0 a1 h R) ▸ hn)

/-! ### examiner/examinerref38.Reached: function 26 -/
def n26 (a0 : Value) (h : Heap) (R : Value → Heap → Prop) : Prop :=
  okK (some (aBox Try.prog 24 a0 h)) fun v1 h =>
  mvK (Value.slice none 0 0) h fun v2 h =>
  mvK (Value.slice none 0 0) h fun v3 h =>
  vK (aLoad Try.prog 24 v1 h) h fun v9 h =>
  cK Try.prog 66 [v9] h fun v10 h =>
  mvK v10 h fun v8 h =>
  vK (aExtract v8 0) h fun v11 h =>
  vK (aExtract v8 1) h fun v12 h =>
  mvK v11 h fun v4 h =>
  mvK v12 h fun v5 h =>
  vK (aFieldAddr Try.prog 24 v1 4) h fun v13 h =>
  vK (aLoad Try.prog 22 v13 h) h fun v14 h =>
  vK (aLen Try.prog 22 v14) h fun v15 h =>
  okK (aMakeSlice Try.prog 48 v15 v15 h) fun v16 h =>
  mvK v16 h fun v6 h =>
  mvK (Value.int IntKind.i64 0) h fun v7 h =>
  ∃ (I4 : List Value → Heap → Prop) (μ4 : List Value → Heap → Nat), I4 [v7] h ∧
  ∀ (h4 : Heap) (j4 : Tmps) (v7_1 : Value), I4 [v7_1] h4 → (let h := h4
   mvK v7_1 h fun v17 h =>
   vK (aFieldAddr Try.prog 24 v1 4) h fun v18 h =>
   vK (aLoad Try.prog 22 v18 h) h fun v19 h =>
   vK (aLen Try.prog 22 v19) h fun v20 h =>
   vK (aBin Try.prog BinOp.lss 3 v17 v20) h fun v21 h =>
   cnd v21 (
    mvK v6 h fun v24 h =>
    mvK v7_1 h fun v25 h =>
    mvK v5 h fun v26 h =>
    vK (aFieldAddr Try.prog 24 v1 4) h fun v27 h =>
    vK (aLoad Try.prog 22 v27 h) h fun v28 h =>
    mvK v7_1 h fun v29 h =>
    vK (aIndexAddr Try.prog 22 v28 v29) h fun v30 h =>
    vK (aFieldAddr Try.prog 76 v30 0) h fun v31 h =>
    vK (aLoad Try.prog 3 v31 h) h fun v32 h =>
    vK (aIndexAddr Try.prog 48 v26 v32) h fun v33 h =>
    vK (aLoad Try.prog 4 v33 h) h fun v34 h =>
    vK (aIndexAddr Try.prog 48 v24 v25) h fun v35 h =>
    okK ((aStore Try.prog 4 v35 v34 h).map (undef, ·)) fun _ h =>
    mvK v7_1 h fun v22 h =>
    vK (aBin Try.prog BinOp.add 3 v22 (Value.int IntKind.i64 1)) h fun v23 h =>
    mvK v23 h fun v7_2 h =>
    I4 [v7_2] h ∧ μ4 [v7_2] h < μ4 [v7_1] h4) (
    mvK v5 h fun v36 h =>
    mvK v6 h fun v37 h =>
    mvK v36 h fun v2_1 h =>
    mvK v37 h fun v3_1 h =>
    retV [some v2_1, some v3_1] R h))
def lv26 (q : Nat) : List Nat := bif Nat.beq q 8 then [68719345792, 7] else []
theorem ok26 : lkOK Try.prog lv26 Try.f26 1 (Try.f26.body.getD .skip) 26 = true := by kernel_rfl
theorem e26 (a0 : Value) (h : Heap) (R : Value → Heap → Prop) : n26 a0 h R = wpK Try.prog lv26 (Try.f26.body.getD .skip) (endK Try.prog [.tmp 2, .tmp 3] R) (argT [a0]) h := by kernel_rfl
theorem w26 {a0 : Value} {h : Heap} {R : Value → Heap → Prop} (hn : n26 a0 h R) : DetP Try.prog 26 [a0] h R :=
  DetP.of_code (rs := [.tmp 2, .tmp 3]) (n := 1) Try.func26 (by kernel_rfl) (by kernel_rfl) lv26 ok26 rfl ((e26 a0 h R) ▸ hn)

/-! ### examiner/examinerref38.OwnWords: function 30 -/
def n30 (a0 : Value) (h : Heap) (R : Value → Heap → Prop) : Prop :=
  mvK (Value.slice none 0 0) h fun v2 h =>
  mvK (Value.slice none 0 0) h fun v3 h =>
  mvK (Value.int IntKind.i64 0) h fun v4 h =>
  ∃ (I3 : List Value → Heap → Prop) (μ3 : List Value → Heap → Nat), I3 [v3, v4] h ∧
  ∀ (h3 : Heap) (j3 : Tmps) (v3_1 : Value) (v4_1 : Value), I3 [v3_1, v4_1] h3 → (let h := h3
   mvK v4_1 h fun v5 h =>
   mvK a0 h fun v6 h =>
   vK (aLen Try.prog 45 v6) h fun v7 h =>
   vK (aBin Try.prog BinOp.lss 3 v5 v7) h fun v8 h =>
   cnd v8 (
    mvK v3_1 h fun v11 h =>
    mvK a0 h fun v12 h =>
    mvK v4_1 h fun v13 h =>
    vK (aIndexAddr Try.prog 45 v12 v13) h fun v14 h =>
    vK (aLoad Try.prog 25 v14 h) h fun v15 h =>
    cK Try.prog 17 [v15] h fun v16 h =>
    okK (aBuildSlice Try.prog 45 1 [(0, v16)] h) fun v17 h =>
    okK (aAppend Try.prog 45 45 v11 v17 h) fun v18 h =>
    mvK v18 h fun v3_2 h =>
    mvK v4_1 h fun v9 h =>
    vK (aBin Try.prog BinOp.add 3 v9 (Value.int IntKind.i64 1)) h fun v10 h =>
    mvK v10 h fun v4_2 h =>
    I3 [v3_2, v4_2] h ∧ μ3 [v3_2, v4_2] h < μ3 [v3_1, v4_1] h3) (
    mvK v3_1 h fun v19 h =>
    mvK v19 h fun v2_1 h =>
    retV [some v2_1] R h))
def lv30 (q : Nat) : List Nat := bif Nat.beq q 6 then [524280, 3, 4] else []
theorem ok30 : lkOK Try.prog lv30 Try.f30 1 (Try.f30.body.getD .skip) 30 = true := by kernel_rfl
theorem e30 (a0 : Value) (h : Heap) (R : Value → Heap → Prop) : n30 a0 h R = wpK Try.prog lv30 (Try.f30.body.getD .skip) (endK Try.prog [.tmp 2] R) (argT [a0]) h := by kernel_rfl
theorem w30 {a0 : Value} {h : Heap} {R : Value → Heap → Prop} (hn : n30 a0 h R) : DetP Try.prog 30 [a0] h R :=
  DetP.of_code (rs := [.tmp 2]) (n := 1) Try.func30 (by kernel_rfl) (by kernel_rfl) lv30 ok30 rfl ((e30 a0 h R) ▸ hn)

/-! ### examiner/examinerlaw38.same: function 36 -/
def n36 (a0 a1 : Value) (h : Heap) (R : Value → Heap → Prop) : Prop :=
  mvK (Value.bool false) h fun v4 h =>
  mvK a0 h fun v6 h =>
  vK (aLen Try.prog 45 v6) h fun v7 h =>
  mvK a1 h fun v8 h =>
  vK (aLen Try.prog 45 v8) h fun v9 h =>
  vK (aBin Try.prog BinOp.neq 3 v7 v9) h fun v10 h =>
  cnd v10 (
   mvK (Value.bool false) h fun v4_1 h =>
   retV [some v4_1] R h) (
   mvK (Value.int IntKind.i64 0) h fun v5 h =>
   ∃ (I4 : List Value → Heap → Prop) (μ4 : List Value → Heap → Nat), I4 [v5] h ∧
   ∀ (h4 : Heap) (j4 : Tmps) (v5_1 : Value), I4 [v5_1] h4 → (let h := h4
    mvK v5_1 h fun v11 h =>
    mvK a0 h fun v12 h =>
    vK (aLen Try.prog 45 v12) h fun v13 h =>
    vK (aBin Try.prog BinOp.lss 3 v11 v13) h fun v14 h =>
    cnd v14 (
     mvK a0 h fun v17 h =>
     mvK v5_1 h fun v18 h =>
     vK (aIndexAddr Try.prog 45 v17 v18) h fun v19 h =>
     vK (aLoad Try.prog 25 v19 h) h fun v20 g =>
     VB h.length v20 ∧ (let h := g
      mvK a1 h fun v21 h =>
      mvK v5_1 h fun v22 h =>
      vK (aIndexAddr Try.prog 45 v21 v22) h fun v23 h =>
      vK (aLoad Try.prog 25 v23 h) h fun v24 g =>
      VB h.length v24 ∧ (let h := g
       cKD Try.prog 23 [v20, v24] h fun v25 g =>
       (∃ new, g = h ++ new) ∧ (let h := g
        vK (aUn UnOp.not v25) h fun v26 h =>
        cnd v26 (
         mvK (Value.bool false) h fun v4_2 h =>
         retV [some v4_2] R h) (
         mvK v5_1 h fun v15 h =>
         vK (aBin Try.prog BinOp.add 3 v15 (Value.int IntKind.i64 1)) h fun v16 h =>
         mvK v16 h fun v5_2 h =>
         I4 [v5_2] h ∧ μ4 [v5_2] h < μ4 [v5_1] h4))))) (
     mvK (Value.bool true) h fun v4_3 h =>
     retV [some v4_3] R h)))
def lv36 (q : Nat) : List Nat := bif Nat.beq q 8 then [134215728, 5] else []
theorem ok36 : lkOK Try.prog lv36 Try.f36 2 (Try.f36.body.getD .skip) 36 = true := by kernel_rfl
theorem e36 (a0 a1 : Value) (h : Heap) (R : Value → Heap → Prop) : n36 a0 a1 h R = wpK Try.prog lv36 (Try.f36.body.getD .skip) (endK Try.prog [.tmp 4] R) (argT [a0, a1]) h := by kernel_rfl
theorem w36 {a0 a1 : Value} {h : Heap} {R : Value → Heap → Prop} (hn : n36 a0 a1 h R) : DetP Try.prog 36 [a0, a1] h R :=
  DetP.of_code (rs := [.tmp 4]) (n := 2) Try.func36 (by kernel_rfl) (by kernel_rfl) lv36 ok36 rfl ((e36 a0 a1 h R) ▸ hn)

/-! ### examiner/examinerref37.WordErr: function 41 -/
def n41 (a0 a1 a2 : Value) (h : Heap) (R : Value → Heap → Prop) : Prop :=
  mvK (Value.int IntKind.i64 0) h fun v6 h =>
  mvK a0 h fun v8 h =>
  vK (aLen Try.prog 25 v8) h fun v9 h =>
  mvK a2 h fun v10 h =>
  vK (aBin Try.prog BinOp.gtr 3 v9 v10) h fun v11 h =>
  cnd v11 (
   mvK (Value.int IntKind.i64 2) h fun v6_1 h =>
   retV [some v6_1] R h) (
   mvK (Value.int IntKind.i64 0) h fun v7 h =>
   ∃ (I4 : List Value → Heap → Prop) (μ4 : List Value → Heap → Nat), I4 [v7] h ∧
   ∀ (h4 : Heap) (j4 : Tmps) (v7_1 : Value), I4 [v7_1] h4 → (let h := h4
    mvK v7_1 h fun v12 h =>
    mvK a0 h fun v13 h =>
    vK (aLen Try.prog 25 v13) h fun v14 h =>
    vK (aBin Try.prog BinOp.lss 3 v12 v14) h fun v15 h =>
    cnd v15 (
     mvK a0 h fun v18 h =>
     mvK v7_1 h fun v19 h =>
     vK (aIndexAddr Try.prog 25 v18 v19) h fun v20 h =>
     vK (aLoad Try.prog 3 v20 h) h fun v21 h =>
     mvK a1 h fun v22 h =>
     vK (aBin Try.prog BinOp.sub 3 v22 (Value.int IntKind.i64 1)) h fun v23 h =>
     cK Try.prog 22 [v21, (Value.int IntKind.i64 0), v23] h fun v24 h =>
     vK (aUn UnOp.not v24) h fun v25 h =>
     cnd v25 (
      mvK (Value.int IntKind.i64 3) h fun v6_2 h =>
      retV [some v6_2] R h) (
      mvK v7_1 h fun v16 h =>
      vK (aBin Try.prog BinOp.add 3 v16 (Value.int IntKind.i64 1)) h fun v17 h =>
      mvK v17 h fun v7_2 h =>
      I4 [v7_2] h ∧ μ4 [v7_2] h < μ4 [v7_1] h4)) (
     mvK (Value.int IntKind.i64 0) h fun v6_3 h =>
     retV [some v6_3] R h)))
def lv41 (q : Nat) : List Nat := bif Nat.beq q 8 then [67104960, 7] else []
theorem ok41 : lkOK Try.prog lv41 Try.f41 3 (Try.f41.body.getD .skip) 41 = true := by kernel_rfl
theorem e41 (a0 a1 a2 : Value) (h : Heap) (R : Value → Heap → Prop) : n41 a0 a1 a2 h R = wpK Try.prog lv41 (Try.f41.body.getD .skip) (endK Try.prog [.tmp 6] R) (argT [a0, a1, a2]) h := by kernel_rfl
theorem w41 {a0 a1 a2 : Value} {h : Heap} {R : Value → Heap → Prop} (hn : n41 a0 a1 a2 h R) : DetP Try.prog 41 [a0, a1, a2] h R :=
  DetP.of_code (rs := [.tmp 6]) (n := 3) Try.func41 (by kernel_rfl) (by kernel_rfl) lv41 ok41 rfl ((e41 a0 a1 a2 h R) ▸ hn)

/-! ### examiner/examinerbase.Count: function 45 -/
def n45 (a0 : Value) (h : Heap) (R : Value → Heap → Prop) : Prop :=
  mvK (Value.int IntKind.i64 0) h fun v2 h =>
  mvK a0 h fun v3 h =>
  cnd v3 (
   mvK (Value.int IntKind.i64 1) h fun v2_1 h =>
   retV [some v2_1] R h) (
   mvK (Value.int IntKind.i64 0) h fun v2_2 h =>
   retV [some v2_2] R h)
def lv45 (q : Nat) : List Nat := []
theorem ok45 : lkOK Try.prog lv45 Try.f45 1 (Try.f45.body.getD .skip) 45 = true := by kernel_rfl
theorem e45 (a0 : Value) (h : Heap) (R : Value → Heap → Prop) : n45 a0 h R = wpK Try.prog lv45 (Try.f45.body.getD .skip) (endK Try.prog [.tmp 2] R) (argT [a0]) h := by kernel_rfl
theorem w45 {a0 : Value} {h : Heap} {R : Value → Heap → Prop} (hn : n45 a0 h R) : DetP Try.prog 45 [a0] h R :=
  DetP.of_code (rs := [.tmp 2]) (n := 1) Try.func45 (by kernel_rfl) (by kernel_rfl) lv45 ok45 rfl ((e45 a0 h R) ▸ hn)

/-! ### examiner/examinerref37.Taken: function 46 -/
def n46 (a0 a1 a2 : Value) (h : Heap) (R : Value → Heap → Prop) : Prop :=
  okK (some (aBox Try.prog 24 a0 h)) fun v3 h =>
  mvK (Value.slice none 0 0) h fun v6 h =>
  mvK (Value.slice none 0 0) h fun v7 h =>
  mvK (Value.int IntKind.i64 0) h fun v8 h =>
  ∃ (I3 : List Value → Heap → Prop) (μ3 : List Value → Heap → Nat), I3 [a1, v7, v8] h ∧
  ∀ (h3 : Heap) (j3 : Tmps) (v1 : Value) (v7_1 : Value) (v8_1 : Value), I3 [v1, v7_1, v8_1] h3 → (let h := h3
   mvK v8_1 h fun v10 h =>
   mvK a2 h fun v11 h =>
   vK (aLen Try.prog 25 v11) h fun v12 h =>
   vK (aBin Try.prog BinOp.lss 3 v10 v12) h fun v13 h =>
   cnd v13 (
    vK (aLoad Try.prog 24 v3 h) h fun v16 g =>
    VB h.length v16 ∧ (let h := g
     mvK v1 h fun v17 h =>
     mvK a2 h fun v18 h =>
     mvK v8_1 h fun v19 h =>
     vK (aIndexAddr Try.prog 25 v18 v19) h fun v20 h =>
     vK (aLoad Try.prog 3 v20 h) h fun v21 g =>
     VB h.length v21 ∧ (let h := g
      cKD Try.prog 81 [v16, v17, v21] h fun v22 g =>
      (∃ new, g = h ++ new) ∧ (let h := g
       mvK v22 h fun v9 h =>
       mvK v9 h fun v23 h =>
       vK (aBin Try.prog BinOp.eql 3 v23 (Value.int IntKind.i64 (-1))) h fun v24 h =>
       cnd v24 (
        mvK v7_1 h fun v25 h =>
        mvK v25 h fun v6_1 h =>
        retV [some v6_1] R h) (
        mvK v7_1 h fun v26 h =>
        mvK v9 h fun v27 h =>
        okK (aBuildSlice Try.prog 25 1 [(0, v27)] h) fun v28 h =>
        okK (aAppend Try.prog 25 25 v26 v28 h) fun v29 h =>
        mvK v29 h fun v7_2 h =>
        vK (aFieldAddr Try.prog 24 v3 4) h fun v30 h =>
        vK (aLoad Try.prog 22 v30 h) h fun v31 h =>
        mvK v9 h fun v32 h =>
        vK (aIndexAddr Try.prog 22 v31 v32) h fun v33 h =>
        vK (aFieldAddr Try.prog 76 v33 3) h fun v34 h =>
        vK (aLoad Try.prog 3 v34 h) h fun v35 h =>
        mvK v35 h fun v1_1 h =>
        mvK v8_1 h fun v14 h =>
        vK (aBin Try.prog BinOp.add 3 v14 (Value.int IntKind.i64 1)) h fun v15 h =>
        mvK v15 h fun v8_2 h =>
        I3 [v1_1, v7_2, v8_2] h ∧ μ3 [v1_1, v7_2, v8_2] h < μ3 [v1, v7_1, v8_1] h3))))) (
    mvK v7_1 h fun v36 h =>
    mvK v36 h fun v6_2 h =>
    retV [some v6_2] R h))
def lv46 (q : Nat) : List Nat := bif Nat.beq q 6 then [68719476674, 1, 7, 8] else []
theorem ok46 : lkOK Try.prog lv46 Try.f46 3 (Try.f46.body.getD .skip) 46 = true := by kernel_rfl
theorem e46 (a0 a1 a2 : Value) (h : Heap) (R : Value → Heap → Prop) : n46 a0 a1 a2 h R = wpK Try.prog lv46 (Try.f46.body.getD .skip) (endK Try.prog [.tmp 6] R) (argT [a0, a1, a2]) h := by kernel_rfl
theorem w46 {a0 a1 a2 : Value} {h : Heap} {R : Value → Heap → Prop} (hn : n46 a0 a1 a2 h R) : DetP Try.prog 46 [a0, a1, a2] h R :=
  DetP.of_code (rs := [.tmp 6]) (n := 3) Try.func46 (by kernel_rfl) (by kernel_rfl) lv46 ok46 rfl ((e46 a0 a1 a2 h R) ▸ hn)

/-! ### examiner/examinerbase.Has: function 47 -/
def n47 (a0 a1 : Value) (h : Heap) (R : Value → Heap → Prop) : Prop :=
  mvK (Value.bool false) h fun v4 h =>
  mvK (Value.int IntKind.i64 0) h fun v5 h =>
  ∃ (I2 : List Value → Heap → Prop) (μ2 : List Value → Heap → Nat), I2 [v5] h ∧
  ∀ (h2 : Heap) (j2 : Tmps) (v5_1 : Value), I2 [v5_1] h2 → (let h := h2
   mvK v5_1 h fun v6 h =>
   mvK a0 h fun v7 h =>
   vK (aLen Try.prog 25 v7) h fun v8 h =>
   vK (aBin Try.prog BinOp.lss 3 v6 v8) h fun v9 h =>
   cnd v9 (
    mvK a0 h fun v12 h =>
    mvK v5_1 h fun v13 h =>
    vK (aIndexAddr Try.prog 25 v12 v13) h fun v14 h =>
    vK (aLoad Try.prog 3 v14 h) h fun v15 h =>
    mvK a1 h fun v16 h =>
    vK (aBin Try.prog BinOp.eql 3 v15 v16) h fun v17 h =>
    cnd v17 (
     mvK (Value.bool true) h fun v4_1 h =>
     retV [some v4_1] R h) (
     mvK v5_1 h fun v10 h =>
     vK (aBin Try.prog BinOp.add 3 v10 (Value.int IntKind.i64 1)) h fun v11 h =>
     mvK v11 h fun v5_2 h =>
     I2 [v5_2] h ∧ μ2 [v5_2] h < μ2 [v5_1] h2)) (
    mvK (Value.bool false) h fun v4_2 h =>
    retV [some v4_2] R h))
def lv47 (q : Nat) : List Nat := bif Nat.beq q 4 then [262128, 5] else []
theorem ok47 : lkOK Try.prog lv47 Try.f47 2 (Try.f47.body.getD .skip) 47 = true := by kernel_rfl
theorem e47 (a0 a1 : Value) (h : Heap) (R : Value → Heap → Prop) : n47 a0 a1 h R = wpK Try.prog lv47 (Try.f47.body.getD .skip) (endK Try.prog [.tmp 4] R) (argT [a0, a1]) h := by kernel_rfl
theorem w47 {a0 a1 : Value} {h : Heap} {R : Value → Heap → Prop} (hn : n47 a0 a1 h R) : DetP Try.prog 47 [a0, a1] h R :=
  DetP.of_code (rs := [.tmp 4]) (n := 2) Try.func47 (by kernel_rfl) (by kernel_rfl) lv47 ok47 rfl ((e47 a0 a1 h R) ▸ hn)

/-! ### cmp.Or[examiner/api.Errno]: function 50 -/
def n50 (a0 : Value) (h : Heap) (R : Value → Heap → Prop) : Prop :=
  mvK (Value.int IntKind.i64 0) h fun v2 h =>
  mvK (Value.int IntKind.i64 0) h fun v3 h =>
  mvK a0 h fun v6 h =>
  vK (aLen Try.prog 132 v6) h fun v7 h =>
  mvK (Value.int IntKind.i64 0) h fun v8 h =>
  ∃ (I3 : List Value → Heap → Prop) (μ3 : List Value → Heap → Nat), I3 [v8] h ∧
  ∀ (h3 : Heap) (j3 : Tmps) (v8_1 : Value), I3 [v8_1] h3 → (let h := h3
   vK (aBin Try.prog BinOp.lss 3 v8_1 v7) h fun v9 h =>
   cnd v9 (
    vK (aIndexAddr Try.prog 132 v6 v8_1) h fun v10 h =>
    vK (aLoad Try.prog 29 v10 h) h fun v11 h =>
    mvK v11 h fun v5 h =>
    mvK v5 h fun v12 h =>
    mvK v3 h fun v13 h =>
    vK (aBin Try.prog BinOp.neq 29 v12 v13) h fun v14 h =>
    cnd v14 (
     mvK v5 h fun v15 h =>
     mvK v15 h fun v2_1 h =>
     retV [some v2_1] R h) (
     vK (aBin Try.prog BinOp.add 3 v8_1 (Value.int IntKind.i64 1)) h fun v16 h =>
     mvK v16 h fun v8_2 h =>
     I3 [v8_2] h ∧ μ3 [v8_2] h < μ3 [v8_1] h3)) (
    mvK v3 h fun v17 h =>
    mvK v17 h fun v2_2 h =>
    retV [some v2_2] R h))
def lv50 (q : Nat) : List Nat := bif Nat.beq q 6 then [130852, 8] else []
theorem ok50 : lkOK Try.prog lv50 Try.f50 1 (Try.f50.body.getD .skip) 50 = true := by kernel_rfl
theorem e50 (a0 : Value) (h : Heap) (R : Value → Heap → Prop) : n50 a0 h R = wpK Try.prog lv50 (Try.f50.body.getD .skip) (endK Try.prog [.tmp 2] R) (argT [a0]) h := by kernel_rfl
theorem w50 {a0 : Value} {h : Heap} {R : Value → Heap → Prop} (hn : n50 a0 h R) : DetP Try.prog 50 [a0] h R :=
  DetP.of_code (rs := [.tmp 2]) (n := 1) Try.func50 (by kernel_rfl) (by kernel_rfl) lv50 ok50 rfl ((e50 a0 h R) ▸ hn)

/-! ### examiner/cover.machineErr: function 51 -/
def n51 (a0 : Value) (h : Heap) (R : Value → Heap → Prop) : Prop :=
  okK (some (aBox Try.prog 24 a0 h)) fun v1 h =>
  mvK (Value.int IntKind.i64 0) h fun v2 h =>
  vK (aLoad Try.prog 24 v1 h) h fun v6 h =>
  cK Try.prog 87 [v6] h fun v7 h =>
  mvK v7 h fun v5 h =>
  vK (aExtract v5 0) h fun v8 h =>
  vK (aExtract v5 1) h fun v9 h =>
  mvK v8 h fun v3 h =>
  mvK v9 h fun v4 h =>
  mvK v4 h fun v10 h =>
  mvK v10 h fun v2_1 h =>
  retV [some v2_1] R h
def lv51 (q : Nat) : List Nat := []
theorem ok51 : lkOK Try.prog lv51 Try.f51 1 (Try.f51.body.getD .skip) 51 = true := by kernel_rfl
theorem e51 (a0 : Value) (h : Heap) (R : Value → Heap → Prop) : n51 a0 h R = wpK Try.prog lv51 (Try.f51.body.getD .skip) (endK Try.prog [.tmp 2] R) (argT [a0]) h := by kernel_rfl
theorem w51 {a0 : Value} {h : Heap} {R : Value → Heap → Prop} (hn : n51 a0 h R) : DetP Try.prog 51 [a0] h R :=
  DetP.of_code (rs := [.tmp 2]) (n := 1) Try.func51 (by kernel_rfl) (by kernel_rfl) lv51 ok51 rfl ((e51 a0 h R) ▸ hn)

/-! ### examiner/cover.pricesErr: function 52 -/
def n52 (a0 a1 : Value) (h : Heap) (R : Value → Heap → Prop) : Prop :=
  okK (some (aBox Try.prog 24 a0 h)) fun v2 h =>
  mvK (Value.int IntKind.i64 0) h fun v4 h =>
  mvK (Value.func (Fn.func 88) #[] #[]) h fun v5 h =>
  mvK a1 h fun v6 h =>
  vK (aLen Try.prog 25 v6) h fun v7 h =>
  vK (aFieldAddr Try.prog 24 v2 4) h fun v8 h =>
  vK (aLoad Try.prog 22 v8 h) h fun v9 h =>
  vK (aLen Try.prog 22 v9) h fun v10 h =>
  vK (aBin Try.prog BinOp.neq 3 v7 v10) h fun v11 h =>
  cnd v11 (
   mvK (Value.int IntKind.i64 6) h fun v4_1 h =>
   retV [some v4_1] R h) (
   mvK a1 h fun v12 h =>
   mvK v5 h fun v13 h =>
   cK Try.prog 62 [v12, v13] h fun v14 h =>
   vK (aUn UnOp.not v14) h fun v15 h =>
   cK Try.prog 61 [v15, (Value.int IntKind.i64 3)] h fun v16 h =>
   mvK v16 h fun v4_2 h =>
   retV [some v4_2] R h)
def lv52 (q : Nat) : List Nat := []
theorem ok52 : lkOK Try.prog lv52 Try.f52 2 (Try.f52.body.getD .skip) 52 = true := by kernel_rfl
theorem e52 (a0 a1 : Value) (h : Heap) (R : Value → Heap → Prop) : n52 a0 a1 h R = wpK Try.prog lv52 (Try.f52.body.getD .skip) (endK Try.prog [.tmp 4] R) (argT [a0, a1]) h := by kernel_rfl
theorem w52 {a0 a1 : Value} {h : Heap} {R : Value → Heap → Prop} (hn : n52 a0 a1 h R) : DetP Try.prog 52 [a0, a1] h R :=
  DetP.of_code (rs := [.tmp 4]) (n := 2) Try.func52 (by kernel_rfl) (by kernel_rfl) lv52 ok52 rfl ((e52 a0 a1 h R) ▸ hn)

/-! ### examiner/cover.inputErr: function 53 -/
def n53 (a0 a1 : Value) (h : Heap) (R : Value → Heap → Prop) : Prop :=
  okK (some (aBox Try.prog 24 a0 h)) fun v2 h =>
  mvK (Value.int IntKind.i64 0) h fun v4 h =>
  mvK (Value.func (Fn.func 89) #[] #[v2]) h fun v6 h =>
  mvK v6 h fun v5 h =>
  mvK a1 h fun v7 h =>
  vK (aLen Try.prog 25 v7) h fun v8 h =>
  vK (aBin Try.prog BinOp.gtr 3 v8 (Value.int IntKind.i64 1200)) h fun v9 h =>
  cnd v9 (
   mvK (Value.int IntKind.i64 2) h fun v4_1 h =>
   retV [some v4_1] R h) (
   mvK a1 h fun v10 h =>
   mvK v5 h fun v11 h =>
   cK Try.prog 62 [v10, v11] h fun v12 h =>
   vK (aUn UnOp.not v12) h fun v13 h =>
   cK Try.prog 61 [v13, (Value.int IntKind.i64 3)] h fun v14 h =>
   mvK v14 h fun v4_2 h =>
   retV [some v4_2] R h)
def lv53 (q : Nat) : List Nat := []
theorem ok53 : lkOK Try.prog lv53 Try.f53 2 (Try.f53.body.getD .skip) 53 = true := by kernel_rfl
theorem e53 (a0 a1 : Value) (h : Heap) (R : Value → Heap → Prop) : n53 a0 a1 h R = wpK Try.prog lv53 (Try.f53.body.getD .skip) (endK Try.prog [.tmp 4] R) (argT [a0, a1]) h := by kernel_rfl
theorem w53 {a0 a1 : Value} {h : Heap} {R : Value → Heap → Prop} (hn : n53 a0 a1 h R) : DetP Try.prog 53 [a0, a1] h R :=
  DetP.of_code (rs := [.tmp 4]) (n := 2) Try.func53 (by kernel_rfl) (by kernel_rfl) lv53 ok53 rfl ((e53 a0 a1 h R) ▸ hn)

/-! ### examiner/cover.graphOf: function 54 -/
def n54 (a0 : Value) (h : Heap) (R : Value → Heap → Prop) : Prop :=
  okK (some (aBox Try.prog 24 a0 h)) fun v1 h =>
  mvK (Value.pointer none) h fun v2 h =>
  vK (aLoad Try.prog 24 v1 h) h fun v7 g =>
  VB h.length v7 ∧ (let h := g
   vK (aFieldAddr Try.prog 24 v1 0) h fun v8 h =>
   vK (aLoad Try.prog 3 v8 h) h fun v9 g =>
   VB h.length v9 ∧ (let h := g
    okK (aMakeSlice Try.prog 45 v9 v9 h) fun v10 h =>
    vK (aFieldAddr Try.prog 24 v1 0) h fun v11 h =>
    vK (aLoad Try.prog 3 v11 h) h fun v12 g =>
    VB h.length v12 ∧ (let h := g
     okK (aMakeSlice Try.prog 45 v12 v12 h) fun v13 h =>
     vK (aBuild Try.prog 92 [(0, v7), (1, v10), (2, v13)]) h fun v14 h =>
     okK (some (aBox Try.prog 92 v14 h)) fun v15 h =>
     mvK v15 h fun v3 h =>
     mvK v3 h fun v16 h =>
     vK (nilV v16) h fun v17 h =>
     vK (aFieldAddr Try.prog 92 v17 1) h fun v18 h =>
     vK (aLoad Try.prog 45 v18 h) h fun v19 h =>
     vK (aLen Try.prog 45 v19) h fun v20 h =>
     mvK (Value.int IntKind.i64 0) h fun v21 h =>
     ∃ (I3 : List Value → Heap → Prop) (μ3 : List Value → Heap → Nat), I3 [v21] h ∧
     ∀ (h3 : Heap) (j3 : Tmps) (v21_1 : Value), I3 [v21_1] h3 → (let h := h3
      vK (aBin Try.prog BinOp.lss 3 v21_1 v20) h fun v22 h =>
      cnd v22 (
       mvK v21_1 h fun v23 h =>
       mvK v23 h fun v4 h =>
       mvK v3 h fun v24 h =>
       vK (nilV v24) h fun v25 h =>
       vK (aFieldAddr Try.prog 92 v25 1) h fun v26 h =>
       vK (aLoad Try.prog 45 v26 h) h fun v27 g =>
       VB h.length v27 ∧ (let h := g
        mvK v4 h fun v28 h =>
        okK (aBuildSlice Try.prog 25 1 [(0, (Value.int IntKind.i64 (-1)))] h) fun v29 h =>
        vK (aFieldAddr Try.prog 24 v1 1) h fun v30 h =>
        vK (aLoad Try.prog 3 v30 h) h fun v31 g =>
        VB h.length v31 ∧ (let h := g
         cKD Try.prog 73 [v29, v31] h fun v32 g =>
         (∃ new, g = h ++ new) ∧ (let h := g
          vK (aIndexAddr Try.prog 45 v27 v28) h fun v33 h =>
          okK ((aStore Try.prog 25 v33 v32 h).map (undef, ·)) fun _ h =>
          (True) ∧ (
           vK (aBin Try.prog BinOp.add 3 v21_1 (Value.int IntKind.i64 1)) h fun v34 h =>
           mvK v34 h fun v21_2 h =>
           I3 [v21_2] h ∧ μ3 [v21_2] h < μ3 [v21_1] h3))))) (
       vK (aFieldAddr Try.prog 24 v1 4) h fun v35 h =>
       vK (aLoad Try.prog 22 v35 h) h fun v36 h =>
       vK (aLen Try.prog 22 v36) h fun v37 h =>
       mvK (Value.int IntKind.i64 0) h fun v38 h =>
       ∃ (I8 : List Value → Heap → Prop) (μ8 : List Value → Heap → Nat), I8 [v38] h ∧
       ∀ (h8 : Heap) (j8 : Tmps) (v38_1 : Value), I8 [v38_1] h8 → (let h := h8
        vK (aBin Try.prog BinOp.lss 3 v38_1 v37) h fun v39 h =>
        cnd v39 (
         mvK v38_1 h fun v40 h =>
         vK (aIndexAddr Try.prog 22 v36 v38_1) h fun v41 h =>
         vK (aLoad Try.prog 76 v41 h) h fun v42 h =>
         okK (aAlloc Try.prog 76 h) fun v6 h =>
         mvK v40 h fun v5 h =>
         okK ((aStore Try.prog 76 v6 v42 h).map (undef, ·)) fun _ h =>
         mvK v3 h fun v43 h =>
         vK (nilV v43) h fun v44 h =>
         vK (aFieldAddr Try.prog 92 v44 1) h fun v45 h =>
         vK (aLoad Try.prog 45 v45 h) h fun v46 g =>
         VB h.length v46 ∧ (let h := g
          vK (aFieldAddr Try.prog 76 v6 0) h fun v47 h =>
          vK (aLoad Try.prog 3 v47 h) h fun v48 g =>
          VB h.length v48 ∧ (let h := g
           vK (aIndexAddr Try.prog 45 v46 v48) h fun v49 h =>
           vK (aLoad Try.prog 25 v49 h) h fun v50 g =>
           VB h.length v50 ∧ (let h := g
            vK (aFieldAddr Try.prog 76 v6 1) h fun v51 h =>
            vK (aLoad Try.prog 3 v51 h) h fun v52 g =>
            VB h.length v52 ∧ (let h := g
             mvK v5 h fun v53 h =>
             vK (aIndexAddr Try.prog 25 v50 v52) h fun v54 h =>
             okK ((aStore Try.prog 3 v54 v53 h).map (undef, ·)) fun _ h =>
             (True) ∧ (
              mvK v3 h fun v55 h =>
              vK (nilV v55) h fun v56 h =>
              vK (aFieldAddr Try.prog 92 v56 2) h fun v57 h =>
              vK (aLoad Try.prog 45 v57 h) h fun v58 g =>
              VB h.length v58 ∧ (let h := g
               vK (aFieldAddr Try.prog 76 v6 0) h fun v59 h =>
               vK (aLoad Try.prog 3 v59 h) h fun v60 g =>
               VB h.length v60 ∧ (let h := g
                mvK v3 h fun v61 h =>
                vK (nilV v61) h fun v62 h =>
                vK (aFieldAddr Try.prog 92 v62 2) h fun v63 h =>
                vK (aLoad Try.prog 45 v63 h) h fun v64 g =>
                VB h.length v64 ∧ (let h := g
                 vK (aFieldAddr Try.prog 76 v6 0) h fun v65 h =>
                 vK (aLoad Try.prog 3 v65 h) h fun v66 g =>
                 VB h.length v66 ∧ (let h := g
                  vK (aIndexAddr Try.prog 45 v64 v66) h fun v67 h =>
                  vK (aLoad Try.prog 25 v67 h) h fun v68 g =>
                  VB h.length v68 ∧ (let h := g
                   mvK v5 h fun v69 h =>
                   okK (aBuildSlice Try.prog 25 1 [(0, v69)] h) fun v70 h =>
                   okK (aAppend Try.prog 25 25 v68 v70 h) fun v71 h =>
                   ((aLoad Try.prog 3 v59 h).map (·, h) = some (v60, h) ∧ (aLoad Try.prog 45 v57 h).map (·, h) = some (v58, h) ∧ True) ∧ (
                    vK (aIndexAddr Try.prog 45 v58 v60) h fun v72 h =>
                    okK ((aStore Try.prog 25 v72 v71 h).map (undef, ·)) fun _ h =>
                    (True) ∧ (
                     vK (aBin Try.prog BinOp.add 3 v38_1 (Value.int IntKind.i64 1)) h fun v73 h =>
                     mvK v73 h fun v38_2 h =>
                     I8 [v38_2] h ∧ μ8 [v38_2] h < μ8 [v38_1] h8))))))))))))) (
         mvK v3 h fun v74 h =>
         mvK v74 h fun v2_1 h =>
         retV [some v2_1] R h)))))))
def lv54 (q : Nat) : List Nat := bif Nat.beq q 6 then [34357641232, 21] else bif Nat.beq q 16 then [18889465931203702947936, 38] else []
theorem ok54 : lkOK Try.prog lv54 Try.f54 1 (Try.f54.body.getD .skip) 54 = true := by kernel_rfl
theorem e54 (a0 : Value) (h : Heap) (R : Value → Heap → Prop) : n54 a0 h R = wpK Try.prog lv54 (Try.f54.body.getD .skip) (endK Try.prog [.tmp 2] R) (argT [a0]) h := by kernel_rfl
theorem w54 {a0 : Value} {h : Heap} {R : Value → Heap → Prop} (hn : n54 a0 h R) : DetP Try.prog 54 [a0] h R :=
  DetP.of_code (rs := [.tmp 2]) (n := 1) Try.func54 (by kernel_rfl) (by kernel_rfl) lv54 ok54 rfl ((e54 a0 h R) ▸ hn)

/-! ### (*examiner/cover.graph).taken: function 55 -/
def n55 (a0 a1 : Value) (h : Heap) (R : Value → Heap → Prop) : Prop :=
  mvK (Value.slice none 0 0) h fun v4 h =>
  mvK (Value.slice none 0 0) h fun v5 h =>
  mvK a0 h fun v10 h =>
  vK (nilV v10) h fun v11 h =>
  vK (aFieldAddr Try.prog 92 v11 0) h fun v12 h =>
  vK (aFieldAddr Try.prog 24 v12 3) h fun v13 h =>
  vK (aLoad Try.prog 3 v13 h) h fun v14 h =>
  mvK v14 h fun v6 h =>
  seqK (fun k0 =>
   mvK a1 h fun v15 h =>
   vK (aLen Try.prog 25 v15) h fun v16 h =>
   mvK (Value.int IntKind.i64 0) h fun v17 h =>
   ∃ (I4 : List Value → Heap → Prop) (μ4 : List Value → Heap → Nat), I4 [v5, v6, v17] h ∧
   ∀ (h4 : Heap) (j4 : Tmps) (v5_1 : Value) (v6_1 : Value) (v17_1 : Value), I4 [v5_1, v6_1, v17_1] h4 → (let h := h4
    vK (aBin Try.prog BinOp.lss 3 v17_1 v16) h fun v18 h =>
    cnd v18 (
     vK (aIndexAddr Try.prog 25 v15 v17_1) h fun v19 h =>
     vK (aLoad Try.prog 3 v19 h) h fun v20 h =>
     mvK v20 h fun v8 h =>
     mvK a0 h fun v21 h =>
     vK (nilV v21) h fun v22 h =>
     vK (aFieldAddr Try.prog 92 v22 1) h fun v23 h =>
     vK (aLoad Try.prog 45 v23 h) h fun v24 h =>
     mvK v6_1 h fun v25 h =>
     vK (aIndexAddr Try.prog 45 v24 v25) h fun v26 h =>
     vK (aLoad Try.prog 25 v26 h) h fun v27 h =>
     mvK v8 h fun v28 h =>
     vK (aIndexAddr Try.prog 25 v27 v28) h fun v29 h =>
     vK (aLoad Try.prog 3 v29 h) h fun v30 h =>
     mvK v30 h fun v9 h =>
     mvK v9 h fun v31 h =>
     vK (aBin Try.prog BinOp.eql 3 v31 (Value.int IntKind.i64 (-1))) h fun v32 h =>
     cnd v32 (
      k0 [v5_1] h) (
      mvK a0 h fun v33 h =>
      vK (nilV v33) h fun v34 h =>
      vK (aFieldAddr Try.prog 92 v34 0) h fun v35 h =>
      vK (aFieldAddr Try.prog 24 v35 4) h fun v36 h =>
      vK (aLoad Try.prog 22 v36 h) h fun v37 g =>
      VB h.length v37 ∧ (let h := g
       mvK v9 h fun v38 h =>
       vK (aIndexAddr Try.prog 22 v37 v38) h fun v39 h =>
       vK (aFieldAddr Try.prog 76 v39 3) h fun v40 h =>
       vK (aLoad Try.prog 3 v40 h) h fun v41 g =>
       VB h.length v41 ∧ (let h := g
        mvK v5_1 h fun v42 h =>
        mvK v9 h fun v43 h =>
        okK (aBuildSlice Try.prog 25 1 [(0, v43)] h) fun v44 h =>
        okK (aAppend Try.prog 25 25 v42 v44 h) fun v45 h =>
        ((aLoad Try.prog 3 v40 h).map (·, h) = some (v41, h) ∧ (aLoad Try.prog 22 v36 h).map (·, h) = some (v37, h) ∧ True) ∧ (
         mvK v41 h fun v6_2 h =>
         mvK v45 h fun v5_2 h =>
         vK (aBin Try.prog BinOp.add 3 v17_1 (Value.int IntKind.i64 1)) h fun v46 h =>
         mvK v46 h fun v17_2 h =>
         I4 [v5_2, v6_2, v17_2] h ∧ μ4 [v5_2, v6_2, v17_2] h < μ4 [v5_1, v6_1, v17_1] h4))))) (
     k0 [v5_1] h))) fun x0 h => ∀ jx0 : Tmps,
   let v5_3 : Value := nth x0 0
   mvK v5_3 h fun v47 h =>
   mvK v47 h fun v4_1 h =>
   retV [some v4_1] R h
def lv55 (q : Nat) : List Nat := bif Nat.beq q 8 then [140737488225120, 5, 6, 17] else bif Nat.beq q 21 then [140737488323424, 5] else []
theorem ok55 : lkOK Try.prog lv55 Try.f55 2 (Try.f55.body.getD .skip) 55 = true := by kernel_rfl
theorem e55 (a0 a1 : Value) (h : Heap) (R : Value → Heap → Prop) : n55 a0 a1 h R = wpK Try.prog lv55 (Try.f55.body.getD .skip) (endK Try.prog [.tmp 4] R) (argT [a0, a1]) h := by kernel_rfl
theorem w55 {a0 a1 : Value} {h : Heap} {R : Value → Heap → Prop} (hn : n55 a0 a1 h R) : DetP Try.prog 55 [a0, a1] h R :=
  DetP.of_code (rs := [.tmp 4]) (n := 2) Try.func55 (by kernel_rfl) (by kernel_rfl) lv55 ok55 rfl ((e55 a0 a1 h R) ▸ hn)

/-! ### examiner/cover.CheckRound$1: function 56 -/
def n56 (a0 a1 : Value) (h : Heap) (R : Value → Heap → Prop) : Prop :=
  mvK (Value.bool false) h fun v3 h =>
  vK (aLoad Try.prog 25 a1 h) h fun v4 h =>
  mvK a0 h fun v5 h =>
  cK Try.prog 57 [v4, v5] h fun v6 h =>
  vK (aUn UnOp.not v6) h fun v7 h =>
  mvK v7 h fun v3_1 h =>
  retV [some v3_1] R h
def lv56 (q : Nat) : List Nat := []
theorem ok56 : lkOK Try.prog lv56 Try.f56 2 (Try.f56.body.getD .skip) 56 = true := by kernel_rfl
theorem e56 (a0 a1 : Value) (h : Heap) (R : Value → Heap → Prop) : n56 a0 a1 h R = wpK Try.prog lv56 (Try.f56.body.getD .skip) (endK Try.prog [.tmp 3] R) (argT [a0, a1]) h := by kernel_rfl
theorem w56 {a0 a1 : Value} {h : Heap} {R : Value → Heap → Prop} (hn : n56 a0 a1 h R) : DetP Try.prog 56 [a0, a1] h R :=
  DetP.of_code (rs := [.tmp 3]) (n := 2) Try.func56 (by kernel_rfl) (by kernel_rfl) lv56 ok56 rfl ((e56 a0 a1 h R) ▸ hn)

/-! ### slices.Contains[[]int,int]: function 57 -/
def n57 (a0 a1 : Value) (h : Heap) (R : Value → Heap → Prop) : Prop :=
  mvK (Value.bool false) h fun v4 h =>
  mvK a0 h fun v5 h =>
  mvK a1 h fun v6 h =>
  cK Try.prog 90 [v5, v6] h fun v7 h =>
  vK (aBin Try.prog BinOp.geq 3 v7 (Value.int IntKind.i64 0)) h fun v8 h =>
  mvK v8 h fun v4_1 h =>
  retV [some v4_1] R h
def lv57 (q : Nat) : List Nat := []
theorem ok57 : lkOK Try.prog lv57 Try.f57 2 (Try.f57.body.getD .skip) 57 = true := by kernel_rfl
theorem e57 (a0 a1 : Value) (h : Heap) (R : Value → Heap → Prop) : n57 a0 a1 h R = wpK Try.prog lv57 (Try.f57.body.getD .skip) (endK Try.prog [.tmp 4] R) (argT [a0, a1]) h := by kernel_rfl
theorem w57 {a0 a1 : Value} {h : Heap} {R : Value → Heap → Prop} (hn : n57 a0 a1 h R) : DetP Try.prog 57 [a0, a1] h R :=
  DetP.of_code (rs := [.tmp 4]) (n := 2) Try.func57 (by kernel_rfl) (by kernel_rfl) lv57 ok57 rfl ((e57 a0 a1 h R) ▸ hn)

/-! ### examiner/cover.CheckRound$2: function 58 -/
def n58 (a0 : Value) (h : Heap) (R : Value → Heap → Prop) : Prop :=
  mvK (Value.bool false) h fun v2 h =>
  mvK a0 h fun v3 h =>
  cK Try.prog 59 [v3, (Value.int IntKind.i64 (-1000)), (Value.int IntKind.i64 1000)] h fun v4 h =>
  vK (aUn UnOp.not v4) h fun v5 h =>
  mvK v5 h fun v2_1 h =>
  retV [some v2_1] R h
def lv58 (q : Nat) : List Nat := []
theorem ok58 : lkOK Try.prog lv58 Try.f58 1 (Try.f58.body.getD .skip) 58 = true := by kernel_rfl
theorem e58 (a0 : Value) (h : Heap) (R : Value → Heap → Prop) : n58 a0 h R = wpK Try.prog lv58 (Try.f58.body.getD .skip) (endK Try.prog [.tmp 2] R) (argT [a0]) h := by kernel_rfl
theorem w58 {a0 : Value} {h : Heap} {R : Value → Heap → Prop} (hn : n58 a0 h R) : DetP Try.prog 58 [a0] h R :=
  DetP.of_code (rs := [.tmp 2]) (n := 1) Try.func58 (by kernel_rfl) (by kernel_rfl) lv58 ok58 rfl ((e58 a0 h R) ▸ hn)

/-! ### examiner/cover.spans: function 59 -/
def n59 (a0 a1 a2 : Value) (h : Heap) (R : Value → Heap → Prop) : Prop :=
  mvK (Value.bool false) h fun v6 h =>
  mvK a1 h fun v7 h =>
  mvK a0 h fun v8 h =>
  vK (aBin Try.prog BinOp.leq 3 v7 v8) h fun v9 h =>
  mvK v9 h fun v10 h =>
  gdK v10 true (fun k0 =>
   mvK a0 h fun v11 h =>
   k0 v11 h) (fun v11_1 h =>
   gdK v10 true (fun k1 =>
    mvK a2 h fun v12 h =>
    k1 v12 h) (fun v12_1 h =>
    gdK v10 true (fun k2 =>
     vK (aBin Try.prog BinOp.leq 3 v11_1 v12_1) h fun v13 h =>
     k2 v13 h) (fun v13_1 h =>
     vK (pickV v10 v13_1 (Value.bool false)) h fun v14 h =>
     mvK v14 h fun v6_1 h =>
     retV [some v6_1] R h) h) h) h
def lv59 (q : Nat) : List Nat := []
theorem ok59 : lkOK Try.prog lv59 Try.f59 3 (Try.f59.body.getD .skip) 59 = true := by kernel_rfl
theorem e59 (a0 a1 a2 : Value) (h : Heap) (R : Value → Heap → Prop) : n59 a0 a1 a2 h R = wpK Try.prog lv59 (Try.f59.body.getD .skip) (endK Try.prog [.tmp 6] R) (argT [a0, a1, a2]) h := by kernel_rfl
theorem w59 {a0 a1 a2 : Value} {h : Heap} {R : Value → Heap → Prop} (hn : n59 a0 a1 a2 h R) : DetP Try.prog 59 [a0, a1, a2] h R :=
  DetP.of_code (rs := [.tmp 6]) (n := 3) Try.func59 (by kernel_rfl) (by kernel_rfl) lv59 ok59 rfl ((e59 a0 a1 a2 h R) ▸ hn)

/-! ### (*examiner/cover.graph).steps: function 60 -/
def n60 (a0 : Value) (h : Heap) (R : Value → Heap → Prop) : Prop :=
  mvK (Value.slice none 0 0) h fun v2 h =>
  mvK a0 h fun v3 h =>
  mvK a0 h fun v4 h =>
  mvK a0 h fun v5 h =>
  vK (nilV v5) h fun v6 h =>
  vK (aFieldAddr Try.prog 92 v6 0) h fun v7 h =>
  vK (aFieldAddr Try.prog 24 v7 3) h fun v8 h =>
  vK (aLoad Try.prog 3 v8 h) h fun v9 h =>
  cK Try.prog 64 [v4, v9] h fun v10 h =>
  cK Try.prog 65 [v3, v10] h fun v11 h =>
  mvK v11 h fun v2_1 h =>
  retV [some v2_1] R h
def lv60 (q : Nat) : List Nat := []
theorem ok60 : lkOK Try.prog lv60 Try.f60 1 (Try.f60.body.getD .skip) 60 = true := by kernel_rfl
theorem e60 (a0 : Value) (h : Heap) (R : Value → Heap → Prop) : n60 a0 h R = wpK Try.prog lv60 (Try.f60.body.getD .skip) (endK Try.prog [.tmp 2] R) (argT [a0]) h := by kernel_rfl
theorem w60 {a0 : Value} {h : Heap} {R : Value → Heap → Prop} (hn : n60 a0 h R) : DetP Try.prog 60 [a0] h R :=
  DetP.of_code (rs := [.tmp 2]) (n := 1) Try.func60 (by kernel_rfl) (by kernel_rfl) lv60 ok60 rfl ((e60 a0 h R) ▸ hn)

/-! ### examiner/cover.unless: function 61 -/
def n61 (a0 a1 : Value) (h : Heap) (R : Value → Heap → Prop) : Prop :=
  mvK (Value.int IntKind.i64 0) h fun v4 h =>
  mvK a0 h fun v5 h =>
  cnd v5 (
   mvK (Value.int IntKind.i64 0) h fun v4_1 h =>
   retV [some v4_1] R h) (
   mvK a1 h fun v6 h =>
   mvK v6 h fun v4_2 h =>
   retV [some v4_2] R h)
def lv61 (q : Nat) : List Nat := []
theorem ok61 : lkOK Try.prog lv61 Try.f61 2 (Try.f61.body.getD .skip) 61 = true := by kernel_rfl
theorem e61 (a0 a1 : Value) (h : Heap) (R : Value → Heap → Prop) : n61 a0 a1 h R = wpK Try.prog lv61 (Try.f61.body.getD .skip) (endK Try.prog [.tmp 4] R) (argT [a0, a1]) h := by kernel_rfl
theorem w61 {a0 a1 : Value} {h : Heap} {R : Value → Heap → Prop} (hn : n61 a0 a1 h R) : DetP Try.prog 61 [a0, a1] h R :=
  DetP.of_code (rs := [.tmp 4]) (n := 2) Try.func61 (by kernel_rfl) (by kernel_rfl) lv61 ok61 rfl ((e61 a0 a1 h R) ▸ hn)

/-! ### slices.ContainsFunc[[]int,int]: function 62 -/
def n62 (a0 a1 : Value) (h : Heap) (R : Value → Heap → Prop) : Prop :=
  mvK (Value.bool false) h fun v4 h =>
  mvK a0 h fun v5 h =>
  mvK a1 h fun v6 h =>
  cK Try.prog 91 [v5, v6] h fun v7 h =>
  vK (aBin Try.prog BinOp.geq 3 v7 (Value.int IntKind.i64 0)) h fun v8 h =>
  mvK v8 h fun v4_1 h =>
  retV [some v4_1] R h
def lv62 (q : Nat) : List Nat := []
theorem ok62 : lkOK Try.prog lv62 Try.f62 2 (Try.f62.body.getD .skip) 62 = true := by kernel_rfl
theorem e62 (a0 a1 : Value) (h : Heap) (R : Value → Heap → Prop) : n62 a0 a1 h R = wpK Try.prog lv62 (Try.f62.body.getD .skip) (endK Try.prog [.tmp 4] R) (argT [a0, a1]) h := by kernel_rfl
theorem w62 {a0 a1 : Value} {h : Heap} {R : Value → Heap → Prop} (hn : n62 a0 a1 h R) : DetP Try.prog 62 [a0, a1] h R :=
  DetP.of_code (rs := [.tmp 4]) (n := 2) Try.func62 (by kernel_rfl) (by kernel_rfl) lv62 ok62 rfl ((e62 a0 a1 h R) ▸ hn)

/-! ### examiner/examinerref37.MachineErr: function 63 -/
def n63 (a0 : Value) (h : Heap) (R : Value → Heap → Prop) : Prop :=
  okK (some (aBox Try.prog 24 a0 h)) fun v1 h =>
  mvK (Value.int IntKind.i64 0) h fun v2 h =>
  mvK (Value.int IntKind.i64 0) h fun v3 h =>
  vK (aFieldAddr Try.prog 24 v1 0) h fun v6 h =>
  vK (aLoad Try.prog 3 v6 h) h fun v7 h =>
  cK Try.prog 22 [v7, (Value.int IntKind.i64 1), (Value.int IntKind.i64 40)] h fun v8 h =>
  vK (aUn UnOp.not v8) h fun v9 h =>
  mvK v9 h fun v10 h =>
  gdK v10 false (fun k0 =>
   vK (aFieldAddr Try.prog 24 v1 1) h fun v11 h =>
   k0 v11 h) (fun v11_1 h =>
   gdK v10 false (fun k1 =>
    vK (aLoad Try.prog 3 v11_1 h) h fun v12 h =>
    k1 v12 h) (fun v12_1 h =>
    gdK v10 false (fun k2 =>
     cK Try.prog 22 [v12_1, (Value.int IntKind.i64 1), (Value.int IntKind.i64 8)] h fun v13 h =>
     k2 v13 h) (fun v13_1 h =>
     gdK v10 false (fun k3 =>
      vK (aUn UnOp.not v13_1) h fun v14 h =>
      k3 v14 h) (fun v14_1 h =>
      vK (pickV v10 (Value.bool true) v14_1) h fun v15 h =>
      mvK v15 h fun v16 h =>
      gdK v16 false (fun k4 =>
       vK (aFieldAddr Try.prog 24 v1 2) h fun v17 h =>
       k4 v17 h) (fun v17_1 h =>
       gdK v16 false (fun k5 =>
        vK (aLoad Try.prog 3 v17_1 h) h fun v18 h =>
        k5 v18 h) (fun v18_1 h =>
        gdK v16 false (fun k6 =>
         cK Try.prog 22 [v18_1, (Value.int IntKind.i64 1), (Value.int IntKind.i64 8)] h fun v19 h =>
         k6 v19 h) (fun v19_1 h =>
         gdK v16 false (fun k7 =>
          vK (aUn UnOp.not v19_1) h fun v20 h =>
          k7 v20 h) (fun v20_1 h =>
          vK (pickV v16 (Value.bool true) v20_1) h fun v21 h =>
          mvK v21 h fun v22 h =>
          gdK v22 false (fun k8 =>
           vK (aFieldAddr Try.prog 24 v1 3) h fun v23 h =>
           k8 v23 h) (fun v23_1 h =>
           gdK v22 false (fun k9 =>
            vK (aLoad Try.prog 3 v23_1 h) h fun v24 h =>
            k9 v24 h) (fun v24_1 h =>
            gdK v22 false (fun k10 =>
             vK (aFieldAddr Try.prog 24 v1 0) h fun v25 h =>
             k10 v25 h) (fun v25_1 h =>
             gdK v22 false (fun k11 =>
              vK (aLoad Try.prog 3 v25_1 h) h fun v26 h =>
              k11 v26 h) (fun v26_1 h =>
              gdK v22 false (fun k12 =>
               vK (aBin Try.prog BinOp.sub 3 v26_1 (Value.int IntKind.i64 1)) h fun v27 h =>
               k12 v27 h) (fun v27_1 h =>
               gdK v22 false (fun k13 =>
                cK Try.prog 22 [v24_1, (Value.int IntKind.i64 0), v27_1] h fun v28 h =>
                k13 v28 h) (fun v28_1 h =>
                gdK v22 false (fun k14 =>
                 vK (aUn UnOp.not v28_1) h fun v29 h =>
                 k14 v29 h) (fun v29_1 h =>
                 vK (pickV v22 (Value.bool true) v29_1) h fun v30 h =>
                 cnd v30 (
                  mvK (Value.int IntKind.i64 0) h fun v2_1 h =>
                  mvK (Value.int IntKind.i64 3) h fun v3_1 h =>
                  retV [some v2_1, some v3_1] R h) (
                  vK (aFieldAddr Try.prog 24 v1 4) h fun v31 h =>
                  vK (aLoad Try.prog 22 v31 h) h fun v32 h =>
                  vK (aLen Try.prog 22 v32) h fun v33 h =>
                  vK (aFieldAddr Try.prog 24 v1 0) h fun v34 h =>
                  vK (aLoad Try.prog 3 v34 h) h fun v35 h =>
                  vK (aFieldAddr Try.prog 24 v1 1) h fun v36 h =>
                  vK (aLoad Try.prog 3 v36 h) h fun v37 h =>
                  vK (aBin Try.prog BinOp.mul 3 v35 v37) h fun v38 h =>
                  vK (aBin Try.prog BinOp.gtr 3 v33 v38) h fun v39 h =>
                  cnd v39 (
                   mvK (Value.int IntKind.i64 0) h fun v2_2 h =>
                   mvK (Value.int IntKind.i64 2) h fun v3_2 h =>
                   retV [some v2_2, some v3_2] R h) (
                   mvK (Value.int IntKind.i64 0) h fun v4 h =>
                   ∃ (I6 : List Value → Heap → Prop) (μ6 : List Value → Heap → Nat), I6 [v4] h ∧
                   ∀ (h6 : Heap) (j6 : Tmps) (v4_1 : Value), I6 [v4_1] h6 → (let h := h6
                    mvK v4_1 h fun v40 h =>
                    vK (aFieldAddr Try.prog 24 v1 4) h fun v41 h =>
                    vK (aLoad Try.prog 22 v41 h) h fun v42 h =>
                    vK (aLen Try.prog 22 v42) h fun v43 h =>
                    vK (aBin Try.prog BinOp.lss 3 v40 v43) h fun v44 h =>
                    cnd v44 (
                     vK (aFieldAddr Try.prog 24 v1 4) h fun v47 h =>
                     vK (aLoad Try.prog 22 v47 h) h fun v48 h =>
                     mvK v4_1 h fun v49 h =>
                     vK (aIndexAddr Try.prog 22 v48 v49) h fun v50 h =>
                     vK (aLoad Try.prog 76 v50 h) h fun v51 h =>
                     okK (aAlloc Try.prog 76 h) fun v5 h =>
                     okK ((aStore Try.prog 76 v5 v51 h).map (undef, ·)) fun _ h =>
                     vK (aFieldAddr Try.prog 76 v5 0) h fun v52 h =>
                     vK (aLoad Try.prog 3 v52 h) h fun v53 h =>
                     vK (aFieldAddr Try.prog 24 v1 0) h fun v54 h =>
                     vK (aLoad Try.prog 3 v54 h) h fun v55 h =>
                     vK (aBin Try.prog BinOp.sub 3 v55 (Value.int IntKind.i64 1)) h fun v56 h =>
                     cK Try.prog 22 [v53, (Value.int IntKind.i64 0), v56] h fun v57 h =>
                     vK (aUn UnOp.not v57) h fun v58 h =>
                     mvK v58 h fun v59 h =>
                     gdK v59 false (fun k15 =>
                      vK (aFieldAddr Try.prog 76 v5 3) h fun v60 h =>
                      k15 v60 h) (fun v60_1 h =>
                      gdK v59 false (fun k16 =>
                       vK (aLoad Try.prog 3 v60_1 h) h fun v61 h =>
                       k16 v61 h) (fun v61_1 h =>
                       gdK v59 false (fun k17 =>
                        vK (aFieldAddr Try.prog 24 v1 0) h fun v62 h =>
                        k17 v62 h) (fun v62_1 h =>
                        gdK v59 false (fun k18 =>
                         vK (aLoad Try.prog 3 v62_1 h) h fun v63 h =>
                         k18 v63 h) (fun v63_1 h =>
                         gdK v59 false (fun k19 =>
                          vK (aBin Try.prog BinOp.sub 3 v63_1 (Value.int IntKind.i64 1)) h fun v64 h =>
                          k19 v64 h) (fun v64_1 h =>
                          gdK v59 false (fun k20 =>
                           cK Try.prog 22 [v61_1, (Value.int IntKind.i64 0), v64_1] h fun v65 h =>
                           k20 v65 h) (fun v65_1 h =>
                           gdK v59 false (fun k21 =>
                            vK (aUn UnOp.not v65_1) h fun v66 h =>
                            k21 v66 h) (fun v66_1 h =>
                            vK (pickV v59 (Value.bool true) v66_1) h fun v67 h =>
                            mvK v67 h fun v68 h =>
                            gdK v68 false (fun k22 =>
                             vK (aFieldAddr Try.prog 76 v5 1) h fun v69 h =>
                             k22 v69 h) (fun v69_1 h =>
                             gdK v68 false (fun k23 =>
                              vK (aLoad Try.prog 3 v69_1 h) h fun v70 h =>
                              k23 v70 h) (fun v70_1 h =>
                              gdK v68 false (fun k24 =>
                               vK (aFieldAddr Try.prog 24 v1 1) h fun v71 h =>
                               k24 v71 h) (fun v71_1 h =>
                               gdK v68 false (fun k25 =>
                                vK (aLoad Try.prog 3 v71_1 h) h fun v72 h =>
                                k25 v72 h) (fun v72_1 h =>
                                gdK v68 false (fun k26 =>
                                 vK (aBin Try.prog BinOp.sub 3 v72_1 (Value.int IntKind.i64 1)) h fun v73 h =>
                                 k26 v73 h) (fun v73_1 h =>
                                 gdK v68 false (fun k27 =>
                                  cK Try.prog 22 [v70_1, (Value.int IntKind.i64 0), v73_1] h fun v74 h =>
                                  k27 v74 h) (fun v74_1 h =>
                                  gdK v68 false (fun k28 =>
                                   vK (aUn UnOp.not v74_1) h fun v75 h =>
                                   k28 v75 h) (fun v75_1 h =>
                                   vK (pickV v68 (Value.bool true) v75_1) h fun v76 h =>
                                   mvK v76 h fun v77 h =>
                                   gdK v77 false (fun k29 =>
                                    vK (aFieldAddr Try.prog 76 v5 2) h fun v78 h =>
                                    k29 v78 h) (fun v78_1 h =>
                                    gdK v77 false (fun k30 =>
                                     vK (aLoad Try.prog 3 v78_1 h) h fun v79 h =>
                                     k30 v79 h) (fun v79_1 h =>
                                     gdK v77 false (fun k31 =>
                                      vK (aFieldAddr Try.prog 24 v1 2) h fun v80 h =>
                                      k31 v80 h) (fun v80_1 h =>
                                      gdK v77 false (fun k32 =>
                                       vK (aLoad Try.prog 3 v80_1 h) h fun v81 h =>
                                       k32 v81 h) (fun v81_1 h =>
                                       gdK v77 false (fun k33 =>
                                        vK (aBin Try.prog BinOp.sub 3 v81_1 (Value.int IntKind.i64 1)) h fun v82 h =>
                                        k33 v82 h) (fun v82_1 h =>
                                        gdK v77 false (fun k34 =>
                                         cK Try.prog 22 [v79_1, (Value.int IntKind.i64 0), v82_1] h fun v83 h =>
                                         k34 v83 h) (fun v83_1 h =>
                                         gdK v77 false (fun k35 =>
                                          vK (aUn UnOp.not v83_1) h fun v84 h =>
                                          k35 v84 h) (fun v84_1 h =>
                                          vK (pickV v77 (Value.bool true) v84_1) h fun v85 h =>
                                          cnd v85 (
                                           mvK v4_1 h fun v86 h =>
                                           mvK v86 h fun v2_3 h =>
                                           mvK (Value.int IntKind.i64 3) h fun v3_3 h =>
                                           retV [some v2_3, some v3_3] R h) (
                                           mvK v4_1 h fun v87 h =>
                                           vK (aBin Try.prog BinOp.gtr 3 v87 (Value.int IntKind.i64 0)) h fun v88 h =>
                                           mvK v88 h fun v89 h =>
                                           gdK v89 true (fun k36 =>
                                            vK (aFieldAddr Try.prog 24 v1 4) h fun v90 h =>
                                            k36 v90 h) (fun v90_1 h =>
                                            gdK v89 true (fun k37 =>
                                             vK (aLoad Try.prog 22 v90_1 h) h fun v91 g =>
                                             VB h.length v91 ∧ (let h := g
                                              k37 v91 h)) (fun v91_1 h =>
                                             gdK v89 true (fun k38 =>
                                              mvK v4_1 h fun v92 h =>
                                              k38 v92 h) (fun v92_1 h =>
                                              gdK v89 true (fun k39 =>
                                               vK (aBin Try.prog BinOp.sub 3 v92_1 (Value.int IntKind.i64 1)) h fun v93 h =>
                                               k39 v93 h) (fun v93_1 h =>
                                               gdK v89 true (fun k40 =>
                                                vK (aIndexAddr Try.prog 22 v91_1 v93_1) h fun v94 h =>
                                                k40 v94 h) (fun v94_1 h =>
                                                gdK v89 true (fun k41 =>
                                                 vK (aFieldAddr Try.prog 76 v94_1 0) h fun v95 h =>
                                                 k41 v95 h) (fun v95_1 h =>
                                                 gdK v89 true (fun k42 =>
                                                  vK (aLoad Try.prog 3 v95_1 h) h fun v96 g =>
                                                  VB h.length v96 ∧ (let h := g
                                                   k42 v96 h)) (fun v96_1 h =>
                                                  gdK v89 true (fun k43 =>
                                                   vK (aFieldAddr Try.prog 24 v1 4) h fun v97 h =>
                                                   k43 v97 h) (fun v97_1 h =>
                                                   gdK v89 true (fun k44 =>
                                                    vK (aLoad Try.prog 22 v97_1 h) h fun v98 g =>
                                                    VB h.length v98 ∧ (let h := g
                                                     k44 v98 h)) (fun v98_1 h =>
                                                    gdK v89 true (fun k45 =>
                                                     mvK v4_1 h fun v99 h =>
                                                     k45 v99 h) (fun v99_1 h =>
                                                     gdK v89 true (fun k46 =>
                                                      vK (aBin Try.prog BinOp.sub 3 v99_1 (Value.int IntKind.i64 1)) h fun v100 h =>
                                                      k46 v100 h) (fun v100_1 h =>
                                                      gdK v89 true (fun k47 =>
                                                       vK (aIndexAddr Try.prog 22 v98_1 v100_1) h fun v101 h =>
                                                       k47 v101 h) (fun v101_1 h =>
                                                       gdK v89 true (fun k48 =>
                                                        vK (aFieldAddr Try.prog 76 v101_1 1) h fun v102 h =>
                                                        k48 v102 h) (fun v102_1 h =>
                                                        gdK v89 true (fun k49 =>
                                                         vK (aLoad Try.prog 3 v102_1 h) h fun v103 g =>
                                                         VB h.length v103 ∧ (let h := g
                                                          k49 v103 h)) (fun v103_1 h =>
                                                         gdK v89 true (fun k50 =>
                                                          okK (aBuildSlice Try.prog 25 2 [(0, v96_1), (1, v103_1)] h) fun v104 h =>
                                                          k50 v104 h) (fun v104_1 h =>
                                                          gdK v89 true (fun k51 =>
                                                           vK (aFieldAddr Try.prog 76 v5 0) h fun v105 h =>
                                                           k51 v105 h) (fun v105_1 h =>
                                                           gdK v89 true (fun k52 =>
                                                            vK (aLoad Try.prog 3 v105_1 h) h fun v106 g =>
                                                            VB h.length v106 ∧ (let h := g
                                                             k52 v106 h)) (fun v106_1 h =>
                                                            gdK v89 true (fun k53 =>
                                                             vK (aFieldAddr Try.prog 76 v5 1) h fun v107 h =>
                                                             k53 v107 h) (fun v107_1 h =>
                                                             gdK v89 true (fun k54 =>
                                                              vK (aLoad Try.prog 3 v107_1 h) h fun v108 g =>
                                                              VB h.length v108 ∧ (let h := g
                                                               k54 v108 h)) (fun v108_1 h =>
                                                              gdK v89 true (fun k55 =>
                                                               okK (aBuildSlice Try.prog 25 2 [(0, v106_1), (1, v108_1)] h) fun v109 h =>
                                                               k55 v109 h) (fun v109_1 h =>
                                                               gdK v89 true (fun k56 =>
                                                                cKD Try.prog 92 [v104_1, v109_1] h fun v110 g =>
                                                                (∃ new, g = h ++ new) ∧ (let h := g
                                                                 k56 v110 h)) (fun v110_1 h =>
                                                                gdK v89 true (fun k57 =>
                                                                 vK (aBin Try.prog BinOp.geq 3 v110_1 (Value.int IntKind.i64 0)) h fun v111 h =>
                                                                 k57 v111 h) (fun v111_1 h =>
                                                                 vK (pickV v89 v111_1 (Value.bool false)) h fun v112 h =>
                                                                 cnd v112 (
                                                                  mvK v4_1 h fun v113 h =>
                                                                  mvK v113 h fun v2_4 h =>
                                                                  mvK (Value.int IntKind.i64 14) h fun v3_4 h =>
                                                                  retV [some v2_4, some v3_4] R h) (
                                                                  mvK v4_1 h fun v45 h =>
                                                                  vK (aBin Try.prog BinOp.add 3 v45 (Value.int IntKind.i64 1)) h fun v46 h =>
                                                                  mvK v46 h fun v4_2 h =>
                                                                  I6 [v4_2] h ∧ μ6 [v4_2] h < μ6 [v4_1] h6)) h) h) h) h) h) h) h) h) h) h) h) h) h) h) h) h) h) h) h) h) h) h)) h) h) h) h) h) h) h) h) h) h) h) h) h) h) h) h) h) h) h) h) h) (
                     mvK (Value.int IntKind.i64 0) h fun v2_5 h =>
                     mvK (Value.int IntKind.i64 0) h fun v3_5 h =>
                     retV [some v2_5, some v3_5] R h))))) h) h) h) h) h) h) h) h) h) h) h) h) h) h) h
def lv63 (q : Nat) : List Nat := bif Nat.beq q 12 then [20769187434139310514120885805252668, 4] else []
theorem ok63 : lkOK Try.prog lv63 Try.f63 1 (Try.f63.body.getD .skip) 63 = true := by kernel_rfl
theorem e63 (a0 : Value) (h : Heap) (R : Value → Heap → Prop) : n63 a0 h R = wpK Try.prog lv63 (Try.f63.body.getD .skip) (endK Try.prog [.tmp 2, .tmp 3] R) (argT [a0]) h := by kernel_rfl
theorem w63 {a0 : Value} {h : Heap} {R : Value → Heap → Prop} (hn : n63 a0 h R) : DetP Try.prog 63 [a0] h R :=
  DetP.of_code (rs := [.tmp 2, .tmp 3]) (n := 1) Try.func63 (by kernel_rfl) (by kernel_rfl) lv63 ok63 rfl ((e63 a0 h R) ▸ hn)

/-! ### (*examiner/cover.graph).reached: function 64 -/
def n64 (a0 a1 : Value) (h : Heap) (R : Value → Heap → Prop) : Prop :=
  mvK (Value.slice none 0 0) h fun v4 h =>
  mvK a0 h fun v11 h =>
  vK (nilV v11) h fun v12 h =>
  vK (aFieldAddr Try.prog 92 v12 0) h fun v13 h =>
  vK (aFieldAddr Try.prog 24 v13 0) h fun v14 h =>
  vK (aLoad Try.prog 3 v14 h) h fun v15 h =>
  okK (aMakeSlice Try.prog 48 v15 v15 h) fun v16 h =>
  mvK v16 h fun v5 h =>
  mvK v5 h fun v17 h =>
  mvK a1 h fun v18 h =>
  vK (aIndexAddr Try.prog 48 v17 v18) h fun v19 h =>
  okK ((aStore Try.prog 4 v19 (Value.bool true) h).map (undef, ·)) fun _ h =>
  mvK a1 h fun v20 h =>
  okK (aBuildSlice Try.prog 25 1 [(0, v20)] h) fun v21 h =>
  mvK v21 h fun v6 h =>
  ∃ (I4 : List Value → Heap → Prop) (μ4 : List Value → Heap → Nat), I4 [v6] h ∧
  ∀ (h4 : Heap) (j4 : Tmps) (v6_1 : Value), I4 [v6_1] h4 → (let h := h4
   mvK v6_1 h fun v22 h =>
   vK (aLen Try.prog 25 v22) h fun v23 h =>
   vK (aBin Try.prog BinOp.gtr 3 v23 (Value.int IntKind.i64 0)) h fun v24 h =>
   cnd v24 (
    mvK v6_1 h fun v25 h =>
    vK (aIndexAddr Try.prog 25 v25 (Value.int IntKind.i64 0)) h fun v26 h =>
    vK (aLoad Try.prog 3 v26 h) h fun v27 h =>
    mvK v27 h fun v7 h =>
    mvK v6_1 h fun v28 h =>
    vK (aSlice Try.prog 25 v28 (some (Value.int IntKind.i64 1)) none none h) h fun v29 h =>
    mvK v29 h fun v6_2 h =>
    mvK a0 h fun v30 h =>
    vK (nilV v30) h fun v31 h =>
    vK (aFieldAddr Try.prog 92 v31 2) h fun v32 h =>
    vK (aLoad Try.prog 45 v32 h) h fun v33 h =>
    mvK v7 h fun v34 h =>
    vK (aIndexAddr Try.prog 45 v33 v34) h fun v35 h =>
    vK (aLoad Try.prog 25 v35 h) h fun v36 h =>
    vK (aLen Try.prog 25 v36) h fun v37 h =>
    mvK (Value.int IntKind.i64 0) h fun v38 h =>
    ∃ (I8 : List Value → Heap → Prop) (μ8 : List Value → Heap → Nat), I8 [v6_2, v38] h ∧
    ∀ (h8 : Heap) (j8 : Tmps) (v6_3 : Value) (v38_1 : Value), I8 [v6_3, v38_1] h8 → (let h := h8
     vK (aBin Try.prog BinOp.lss 3 v38_1 v37) h fun v39 h =>
     cnd v39 (
      seqK (fun k0 =>
       vK (aIndexAddr Try.prog 25 v36 v38_1) h fun v40 h =>
       vK (aLoad Try.prog 3 v40 h) h fun v41 h =>
       mvK v41 h fun v9 h =>
       mvK a0 h fun v42 h =>
       vK (nilV v42) h fun v43 h =>
       vK (aFieldAddr Try.prog 92 v43 0) h fun v44 h =>
       vK (aFieldAddr Try.prog 24 v44 4) h fun v45 h =>
       vK (aLoad Try.prog 22 v45 h) h fun v46 h =>
       mvK v9 h fun v47 h =>
       vK (aIndexAddr Try.prog 22 v46 v47) h fun v48 h =>
       vK (aFieldAddr Try.prog 76 v48 3) h fun v49 h =>
       vK (aLoad Try.prog 3 v49 h) h fun v50 h =>
       mvK v50 h fun v10 h =>
       mvK v5 h fun v51 h =>
       mvK v10 h fun v52 h =>
       vK (aIndexAddr Try.prog 48 v51 v52) h fun v53 h =>
       vK (aLoad Try.prog 4 v53 h) h fun v54 h =>
       vK (aUn UnOp.not v54) h fun v55 h =>
       cnd v55 (
        mvK v5 h fun v56 h =>
        mvK v10 h fun v57 h =>
        vK (aIndexAddr Try.prog 48 v56 v57) h fun v58 h =>
        okK ((aStore Try.prog 4 v58 (Value.bool true) h).map (undef, ·)) fun _ h =>
        mvK v6_3 h fun v59 h =>
        mvK v10 h fun v60 h =>
        okK (aBuildSlice Try.prog 25 1 [(0, v60)] h) fun v61 h =>
        okK (aAppend Try.prog 25 25 v59 v61 h) fun v62 h =>
        mvK v62 h fun v6_4 h =>
        k0 [v6_4] h) (
        k0 [v6_3] h)) fun x0 h => ∀ jx0 : Tmps,
       let v6_5 : Value := nth x0 0
       vK (aBin Try.prog BinOp.add 3 v38_1 (Value.int IntKind.i64 1)) h fun v63 h =>
       mvK v63 h fun v38_2 h =>
       I8 [v6_5, v38_2] h ∧ μ8 [v6_5, v38_2] h < μ8 [v6_3, v38_1] h8) (
      I4 [v6_3] h ∧ μ4 [v6_3] h < μ4 [v6_1] h4))) (
    mvK v5 h fun v64 h =>
    mvK v64 h fun v4_1 h =>
    retV [some v4_1] R h))
def lv64 (q : Nat) : List Nat := bif Nat.beq q 8 then [18446744073705359040, 6] else bif Nat.beq q 16 then [18446743798831646272, 6, 38] else bif Nat.beq q 29 then [9223370937343149632, 6] else []
theorem ok64 : lkOK Try.prog lv64 Try.f64 2 (Try.f64.body.getD .skip) 64 = true := by kernel_rfl
theorem e64 (a0 a1 : Value) (h : Heap) (R : Value → Heap → Prop) : n64 a0 a1 h R = wpK Try.prog lv64 (Try.f64.body.getD .skip) (endK Try.prog [.tmp 4] R) (argT [a0, a1]) h := by kernel_rfl
theorem w64 {a0 a1 : Value} {h : Heap} {R : Value → Heap → Prop} (hn : n64 a0 a1 h R) : DetP Try.prog 64 [a0, a1] h R :=
  DetP.of_code (rs := [.tmp 4]) (n := 2) Try.func64 (by kernel_rfl) (by kernel_rfl) lv64 ok64 rfl ((e64 a0 a1 h R) ▸ hn)

/-! ### (*examiner/cover.graph).leaving: function 65 -/
def n65 (a0 a1 : Value) (h : Heap) (R : Value → Heap → Prop) : Prop :=
  mvK (Value.slice none 0 0) h fun v4 h =>
  mvK (Value.slice none 0 0) h fun v5 h =>
  mvK a0 h fun v8 h =>
  vK (nilV v8) h fun v9 h =>
  vK (aFieldAddr Try.prog 92 v9 0) h fun v10 h =>
  vK (aFieldAddr Try.prog 24 v10 4) h fun v11 h =>
  vK (aLoad Try.prog 22 v11 h) h fun v12 h =>
  vK (aLen Try.prog 22 v12) h fun v13 h =>
  mvK (Value.int IntKind.i64 0) h fun v14 h =>
  ∃ (I3 : List Value → Heap → Prop) (μ3 : List Value → Heap → Nat), I3 [v5, v14] h ∧
  ∀ (h3 : Heap) (j3 : Tmps) (v5_1 : Value) (v14_1 : Value), I3 [v5_1, v14_1] h3 → (let h := h3
   vK (aBin Try.prog BinOp.lss 3 v14_1 v13) h fun v15 h =>
   cnd v15 (
    seqK (fun k0 =>
     mvK v14_1 h fun v16 h =>
     vK (aIndexAddr Try.prog 22 v12 v14_1) h fun v17 h =>
     vK (aLoad Try.prog 76 v17 h) h fun v18 h =>
     okK (aAlloc Try.prog 76 h) fun v7 h =>
     mvK v16 h fun v6 h =>
     okK ((aStore Try.prog 76 v7 v18 h).map (undef, ·)) fun _ h =>
     mvK a1 h fun v19 h =>
     vK (aFieldAddr Try.prog 76 v7 0) h fun v20 h =>
     vK (aLoad Try.prog 3 v20 h) h fun v21 h =>
     vK (aIndexAddr Try.prog 48 v19 v21) h fun v22 h =>
     vK (aLoad Try.prog 4 v22 h) h fun v23 h =>
     cnd v23 (
      mvK v5_1 h fun v24 h =>
      mvK v6 h fun v25 h =>
      okK (aBuildSlice Try.prog 25 1 [(0, v25)] h) fun v26 h =>
      okK (aAppend Try.prog 25 25 v24 v26 h) fun v27 h =>
      mvK v27 h fun v5_2 h =>
      k0 [v5_2] h) (
      k0 [v5_1] h)) fun x0 h => ∀ jx0 : Tmps,
     let v5_3 : Value := nth x0 0
     vK (aBin Try.prog BinOp.add 3 v14_1 (Value.int IntKind.i64 1)) h fun v28 h =>
     mvK v28 h fun v14_2 h =>
     I3 [v5_3, v14_2] h ∧ μ3 [v5_3, v14_2] h < μ3 [v5_1, v14_1] h3) (
    mvK v5_1 h fun v29 h =>
    mvK v29 h fun v4_1 h =>
    retV [some v4_1] R h))
def lv65 (q : Nat) : List Nat := bif Nat.beq q 6 then [536854752, 5, 14] else bif Nat.beq q 15 then [268370144, 5] else []
theorem ok65 : lkOK Try.prog lv65 Try.f65 2 (Try.f65.body.getD .skip) 65 = true := by kernel_rfl
theorem e65 (a0 a1 : Value) (h : Heap) (R : Value → Heap → Prop) : n65 a0 a1 h R = wpK Try.prog lv65 (Try.f65.body.getD .skip) (endK Try.prog [.tmp 4] R) (argT [a0, a1]) h := by kernel_rfl
theorem w65 {a0 a1 : Value} {h : Heap} {R : Value → Heap → Prop} (hn : n65 a0 a1 h R) : DetP Try.prog 65 [a0, a1] h R :=
  DetP.of_code (rs := [.tmp 4]) (n := 2) Try.func65 (by kernel_rfl) (by kernel_rfl) lv65 ok65 rfl ((e65 a0 a1 h R) ▸ hn)

/-! ### examiner/examinerref37.Access: function 66 -/
def n66 (a0 : Value) (h : Heap) (R : Value → Heap → Prop) : Prop :=
  okK (some (aBox Try.prog 24 a0 h)) fun v1 h =>
  mvK (Value.slice none 0 0) h fun v2 h =>
  mvK (Value.slice none 0 0) h fun v3 h =>
  vK (aFieldAddr Try.prog 24 v1 0) h fun v10 h =>
  vK (aLoad Try.prog 3 v10 h) h fun v11 g =>
  VB h.length v11 ∧ (let h := g
   okK (aMakeSlice Try.prog 45 v11 v11 h) fun v12 h =>
   vK (aFieldAddr Try.prog 24 v1 0) h fun v13 h =>
   vK (aLoad Try.prog 3 v13 h) h fun v14 g =>
   VB h.length v14 ∧ (let h := g
    okK (aMakeSlice Try.prog 48 v14 v14 h) fun v15 h =>
    mvK v12 h fun v4 h =>
    mvK v15 h fun v5 h =>
    vK (aFieldAddr Try.prog 24 v1 3) h fun v16 h =>
    vK (aLoad Try.prog 3 v16 h) h fun v17 h =>
    okK (aBuildSlice Try.prog 25 1 [(0, v17)] h) fun v18 h =>
    mvK v18 h fun v6 h =>
    mvK v5 h fun v19 h =>
    vK (aFieldAddr Try.prog 24 v1 3) h fun v20 h =>
    vK (aLoad Try.prog 3 v20 h) h fun v21 h =>
    vK (aIndexAddr Try.prog 48 v19 v21) h fun v22 h =>
    okK ((aStore Try.prog 4 v22 (Value.bool true) h).map (undef, ·)) fun _ h =>
    mvK (Value.int IntKind.i64 0) h fun v7 h =>
    ∃ (I5 : List Value → Heap → Prop) (μ5 : List Value → Heap → Nat), I5 [v6, v7] h ∧
    ∀ (h5 : Heap) (j5 : Tmps) (v6_1 : Value) (v7_1 : Value), I5 [v6_1, v7_1] h5 → (let h := h5
     mvK v7_1 h fun v23 h =>
     mvK v6_1 h fun v24 h =>
     vK (aLen Try.prog 25 v24) h fun v25 h =>
     vK (aBin Try.prog BinOp.lss 3 v23 v25) h fun v26 h =>
     cnd v26 (
      mvK (Value.int IntKind.i64 0) h fun v8 h =>
      ∃ (I8 : List Value → Heap → Prop) (μ8 : List Value → Heap → Nat), I8 [v6_1, v8] h ∧
      ∀ (h8 : Heap) (j8 : Tmps) (v6_2 : Value) (v8_1 : Value), I8 [v6_2, v8_1] h8 → (let h := h8
       mvK v8_1 h fun v29 h =>
       vK (aFieldAddr Try.prog 24 v1 1) h fun v30 h =>
       vK (aLoad Try.prog 3 v30 h) h fun v31 h =>
       vK (aBin Try.prog BinOp.lss 3 v29 v31) h fun v32 h =>
       cnd v32 (
        seqK (fun k0 =>
         vK (aLoad Try.prog 24 v1 h) h fun v35 g =>
         VB h.length v35 ∧ (let h := g
          mvK v6_2 h fun v36 h =>
          mvK v7_1 h fun v37 h =>
          vK (aIndexAddr Try.prog 25 v36 v37) h fun v38 h =>
          vK (aLoad Try.prog 3 v38 h) h fun v39 g =>
          VB h.length v39 ∧ (let h := g
           mvK v8_1 h fun v40 h =>
           cKD Try.prog 81 [v35, v39, v40] h fun v41 g =>
           (∃ new, g = h ++ new) ∧ (let h := g
            mvK v41 h fun v9 h =>
            mvK v9 h fun v42 h =>
            vK (aBin Try.prog BinOp.neq 3 v42 (Value.int IntKind.i64 (-1))) h fun v43 h =>
            mvK v43 h fun v44 h =>
            gdK v44 true (fun k1 =>
             mvK v5 h fun v45 h =>
             k1 v45 h) (fun v45_1 h =>
             gdK v44 true (fun k2 =>
              vK (aFieldAddr Try.prog 24 v1 4) h fun v46 h =>
              k2 v46 h) (fun v46_1 h =>
              gdK v44 true (fun k3 =>
               vK (aLoad Try.prog 22 v46_1 h) h fun v47 h =>
               k3 v47 h) (fun v47_1 h =>
               gdK v44 true (fun k4 =>
                mvK v9 h fun v48 h =>
                k4 v48 h) (fun v48_1 h =>
                gdK v44 true (fun k5 =>
                 vK (aIndexAddr Try.prog 22 v47_1 v48_1) h fun v49 h =>
                 k5 v49 h) (fun v49_1 h =>
                 gdK v44 true (fun k6 =>
                  vK (aFieldAddr Try.prog 76 v49_1 3) h fun v50 h =>
                  k6 v50 h) (fun v50_1 h =>
                  gdK v44 true (fun k7 =>
                   vK (aLoad Try.prog 3 v50_1 h) h fun v51 h =>
                   k7 v51 h) (fun v51_1 h =>
                   gdK v44 true (fun k8 =>
                    vK (aIndexAddr Try.prog 48 v45_1 v51_1) h fun v52 h =>
                    k8 v52 h) (fun v52_1 h =>
                    gdK v44 true (fun k9 =>
                     vK (aLoad Try.prog 4 v52_1 h) h fun v53 h =>
                     k9 v53 h) (fun v53_1 h =>
                     gdK v44 true (fun k10 =>
                      vK (aUn UnOp.not v53_1) h fun v54 h =>
                      k10 v54 h) (fun v54_1 h =>
                      vK (pickV v44 v54_1 (Value.bool false)) h fun v55 h =>
                      cnd v55 (
                       mvK v5 h fun v56 h =>
                       vK (aFieldAddr Try.prog 24 v1 4) h fun v57 h =>
                       vK (aLoad Try.prog 22 v57 h) h fun v58 h =>
                       mvK v9 h fun v59 h =>
                       vK (aIndexAddr Try.prog 22 v58 v59) h fun v60 h =>
                       vK (aFieldAddr Try.prog 76 v60 3) h fun v61 h =>
                       vK (aLoad Try.prog 3 v61 h) h fun v62 h =>
                       vK (aIndexAddr Try.prog 48 v56 v62) h fun v63 h =>
                       okK ((aStore Try.prog 4 v63 (Value.bool true) h).map (undef, ·)) fun _ h =>
                       mvK v4 h fun v64 h =>
                       vK (aFieldAddr Try.prog 24 v1 4) h fun v65 h =>
                       vK (aLoad Try.prog 22 v65 h) h fun v66 g =>
                       VB h.length v66 ∧ (let h := g
                        mvK v9 h fun v67 h =>
                        vK (aIndexAddr Try.prog 22 v66 v67) h fun v68 h =>
                        vK (aFieldAddr Try.prog 76 v68 3) h fun v69 h =>
                        vK (aLoad Try.prog 3 v69 h) h fun v70 g =>
                        VB h.length v70 ∧ (let h := g
                         mvK v4 h fun v71 h =>
                         mvK v6_2 h fun v72 h =>
                         mvK v7_1 h fun v73 h =>
                         vK (aIndexAddr Try.prog 25 v72 v73) h fun v74 h =>
                         vK (aLoad Try.prog 3 v74 h) h fun v75 g =>
                         VB h.length v75 ∧ (let h := g
                          vK (aIndexAddr Try.prog 45 v71 v75) h fun v76 h =>
                          vK (aLoad Try.prog 25 v76 h) h fun v77 g =>
                          VB h.length v77 ∧ (let h := g
                           cKD Try.prog 17 [v77] h fun v78 g =>
                           (∃ new, g = h ++ new) ∧ (let h := g
                            mvK v8_1 h fun v79 h =>
                            okK (aBuildSlice Try.prog 25 1 [(0, v79)] h) fun v80 h =>
                            okK (aAppend Try.prog 25 25 v78 v80 h) fun v81 h =>
                            ((aLoad Try.prog 3 v69 h).map (·, h) = some (v70, h) ∧ (aLoad Try.prog 22 v65 h).map (·, h) = some (v66, h) ∧ True) ∧ (
                             vK (aIndexAddr Try.prog 45 v64 v70) h fun v82 h =>
                             okK ((aStore Try.prog 25 v82 v81 h).map (undef, ·)) fun _ h =>
                             (True) ∧ (
                              mvK v6_2 h fun v83 h =>
                              vK (aFieldAddr Try.prog 24 v1 4) h fun v84 h =>
                              vK (aLoad Try.prog 22 v84 h) h fun v85 h =>
                              mvK v9 h fun v86 h =>
                              vK (aIndexAddr Try.prog 22 v85 v86) h fun v87 h =>
                              vK (aFieldAddr Try.prog 76 v87 3) h fun v88 h =>
                              vK (aLoad Try.prog 3 v88 h) h fun v89 h =>
                              okK (aBuildSlice Try.prog 25 1 [(0, v89)] h) fun v90 h =>
                              okK (aAppend Try.prog 25 25 v83 v90 h) fun v91 h =>
                              mvK v91 h fun v6_3 h =>
                              k0 [v6_3] h)))))))) (
                       k0 [v6_2] h)) h) h) h) h) h) h) h) h) h) h)))) fun x0 h => ∀ jx0 : Tmps,
         let v6_4 : Value := nth x0 0
         mvK v8_1 h fun v33 h =>
         vK (aBin Try.prog BinOp.add 3 v33 (Value.int IntKind.i64 1)) h fun v34 h =>
         mvK v34 h fun v8_2 h =>
         I8 [v6_4, v8_2] h ∧ μ8 [v6_4, v8_2] h < μ8 [v6_2, v8_1] h8) (
        mvK v7_1 h fun v27 h =>
        vK (aBin Try.prog BinOp.add 3 v27 (Value.int IntKind.i64 1)) h fun v28 h =>
        mvK v28 h fun v7_2 h =>
        I5 [v6_2, v7_2] h ∧ μ5 [v6_2, v7_2] h < μ5 [v6_1, v7_1] h5))) (
      mvK v4 h fun v92 h =>
      mvK v5 h fun v93 h =>
      mvK v92 h fun v2_1 h =>
      mvK v93 h fun v3_1 h =>
      retV [some v2_1, some v3_1] R h))))
def lv66 (q : Nat) : List Nat := bif Nat.beq q 10 then [4951760157141521099588109248, 6, 7] else bif Nat.beq q 16 then [4951760157141521099059626816, 6, 8] else bif Nat.beq q 19 then [4951760157141521065236759104, 6] else []
theorem ok66 : lkOK Try.prog lv66 Try.f66 1 (Try.f66.body.getD .skip) 66 = true := by kernel_rfl
theorem e66 (a0 : Value) (h : Heap) (R : Value → Heap → Prop) : n66 a0 h R = wpK Try.prog lv66 (Try.f66.body.getD .skip) (endK Try.prog [.tmp 2, .tmp 3] R) (argT [a0]) h := by kernel_rfl
theorem w66 {a0 : Value} {h : Heap} {R : Value → Heap → Prop} (hn : n66 a0 h R) : DetP Try.prog 66 [a0] h R :=
  DetP.of_code (rs := [.tmp 2, .tmp 3]) (n := 1) Try.func66 (by kernel_rfl) (by kernel_rfl) lv66 ok66 rfl ((e66 a0 h R) ▸ hn)

/-! ### slices.Repeat[[]int,int]: function 73 -/
def n73 (a0 a1 : Value) (h : Heap) (R : Value → Heap → Prop) : Prop :=
  mvK (Value.slice none 0 0) h fun v4 h =>
  seqK (fun k0 =>
   mvK a1 h fun v9 h =>
   vK (aBin Try.prog BinOp.lss 3 v9 (Value.int IntKind.i64 0)) h fun v10 h =>
   cnd v10 (
    False) (
    k0 [] h)) fun x0 h => ∀ jx0 : Tmps,
   mvK a0 h fun v13 h =>
   vK (aLen Try.prog 25 v13) h fun v14 h =>
   vK (aConvert Try.prog 3 139 v14) h fun v15 h =>
   mvK a1 h fun v16 h =>
   vK (aConvert Try.prog 3 139 v16) h fun v17 h =>
   cK Try.prog 96 [v15, v17] h fun v18 h =>
   mvK v18 h fun v12 h =>
   vK (aExtract v12 0) h fun v19 h =>
   vK (aExtract v12 1) h fun v20 h =>
   mvK v19 h fun v5 h =>
   mvK v20 h fun v6 h =>
   seqK (fun k1 =>
    mvK v5 h fun v21 h =>
    vK (aBin Try.prog BinOp.gtr 139 v21 (Value.int IntKind.u64 0)) h fun v22 h =>
    mvK v22 h fun v23 h =>
    gdK v23 false (fun k2 =>
     mvK v6 h fun v24 h =>
     k2 v24 h) (fun v24_1 h =>
     gdK v23 false (fun k3 =>
      vK (aBin Try.prog BinOp.gtr 139 v24_1 (Value.int IntKind.u64 9223372036854775807)) h fun v25 h =>
      k3 v25 h) (fun v25_1 h =>
      vK (pickV v23 (Value.bool true) v25_1) h fun v26 h =>
      cnd v26 (
       False) (
       k1 [] h)) h) h) fun x1 h => ∀ jx1 : Tmps,
    mvK v6 h fun v28 h =>
    vK (aConvert Try.prog 139 3 v28) h fun v29 h =>
    okK (aMakeSlice Try.prog 25 v29 v29 h) fun v30 h =>
    mvK v30 h fun v7 h =>
    mvK v7 h fun v31 h =>
    mvK a0 h fun v32 h =>
    okK (aCopy Try.prog 25 25 v31 v32 h) fun v33 h =>
    mvK v33 h fun v8 h =>
    ∃ (I8 : List Value → Heap → Prop) (μ8 : List Value → Heap → Nat), I8 [v8] h ∧
    ∀ (h8 : Heap) (j8 : Tmps) (v8_1 : Value), I8 [v8_1] h8 → (let h := h8
     mvK v8_1 h fun v34 h =>
     mvK v7 h fun v35 h =>
     vK (aLen Try.prog 25 v35) h fun v36 h =>
     vK (aBin Try.prog BinOp.lss 3 v34 v36) h fun v37 h =>
     cnd v37 (
      mvK v8_1 h fun v38 h =>
      mvK v7 h fun v39 h =>
      mvK v8_1 h fun v40 h =>
      vK (aSlice Try.prog 25 v39 (some v40) none none h) h fun v41 g =>
      VB h.length v41 ∧ (let h := g
       mvK v7 h fun v42 h =>
       mvK v8_1 h fun v43 h =>
       vK (aSlice Try.prog 25 v42 none (some v43) none h) h fun v44 g =>
       VB h.length v44 ∧ (let h := g
        okK (aCopy Try.prog 25 25 v41 v44 h) fun v45 h =>
        (True) ∧ (
         vK (aBin Try.prog BinOp.add 3 v38 v45) h fun v46 h =>
         mvK v46 h fun v8_2 h =>
         I8 [v8_2] h ∧ μ8 [v8_2] h < μ8 [v8_1] h8)))) (
      mvK v7 h fun v47 h =>
      mvK v47 h fun v4_1 h =>
      retV [some v4_1] R h))
def lv73 (q : Nat) : List Nat := bif Nat.beq q 7 then [3584] else bif Nat.beq q 13 then [266338304] else bif Nat.beq q 16 then [140720308486400, 8] else []
theorem ok73 : lkOK Try.prog lv73 Try.f73 2 (Try.f73.body.getD .skip) 73 = true := by kernel_rfl
theorem e73 (a0 a1 : Value) (h : Heap) (R : Value → Heap → Prop) : n73 a0 a1 h R = wpK Try.prog lv73 (Try.f73.body.getD .skip) (endK Try.prog [.tmp 4] R) (argT [a0, a1]) h := by kernel_rfl
theorem w73 {a0 a1 : Value} {h : Heap} {R : Value → Heap → Prop} (hn : n73 a0 a1 h R) : DetP Try.prog 73 [a0, a1] h R :=
  DetP.of_code (rs := [.tmp 4]) (n := 2) Try.func73 (by kernel_rfl) (by kernel_rfl) lv73 ok73 rfl ((e73 a0 a1 h R) ▸ hn)

/-! ### examiner/examinerref37.StepAt: function 81 -/
def n81 (a0 a1 a2 : Value) (h : Heap) (R : Value → Heap → Prop) : Prop :=
  okK (some (aBox Try.prog 24 a0 h)) fun v3 h =>
  mvK (Value.int IntKind.i64 0) h fun v6 h =>
  mvK (Value.int IntKind.i64 0) h fun v7 h =>
  ∃ (I2 : List Value → Heap → Prop) (μ2 : List Value → Heap → Nat), I2 [v7] h ∧
  ∀ (h2 : Heap) (j2 : Tmps) (v7_1 : Value), I2 [v7_1] h2 → (let h := h2
   mvK v7_1 h fun v8 h =>
   vK (aFieldAddr Try.prog 24 v3 4) h fun v9 h =>
   vK (aLoad Try.prog 22 v9 h) h fun v10 h =>
   vK (aLen Try.prog 22 v10) h fun v11 h =>
   vK (aBin Try.prog BinOp.lss 3 v8 v11) h fun v12 h =>
   cnd v12 (
    vK (aFieldAddr Try.prog 24 v3 4) h fun v15 h =>
    vK (aLoad Try.prog 22 v15 h) h fun v16 h =>
    mvK v7_1 h fun v17 h =>
    vK (aIndexAddr Try.prog 22 v16 v17) h fun v18 h =>
    vK (aFieldAddr Try.prog 76 v18 0) h fun v19 h =>
    vK (aLoad Try.prog 3 v19 h) h fun v20 h =>
    mvK a1 h fun v21 h =>
    vK (aBin Try.prog BinOp.eql 3 v20 v21) h fun v22 h =>
    mvK v22 h fun v23 h =>
    gdK v23 true (fun k0 =>
     vK (aFieldAddr Try.prog 24 v3 4) h fun v24 h =>
     k0 v24 h) (fun v24_1 h =>
     gdK v23 true (fun k1 =>
      vK (aLoad Try.prog 22 v24_1 h) h fun v25 h =>
      k1 v25 h) (fun v25_1 h =>
      gdK v23 true (fun k2 =>
       mvK v7_1 h fun v26 h =>
       k2 v26 h) (fun v26_1 h =>
       gdK v23 true (fun k3 =>
        vK (aIndexAddr Try.prog 22 v25_1 v26_1) h fun v27 h =>
        k3 v27 h) (fun v27_1 h =>
        gdK v23 true (fun k4 =>
         vK (aFieldAddr Try.prog 76 v27_1 1) h fun v28 h =>
         k4 v28 h) (fun v28_1 h =>
         gdK v23 true (fun k5 =>
          vK (aLoad Try.prog 3 v28_1 h) h fun v29 h =>
          k5 v29 h) (fun v29_1 h =>
          gdK v23 true (fun k6 =>
           mvK a2 h fun v30 h =>
           k6 v30 h) (fun v30_1 h =>
           gdK v23 true (fun k7 =>
            vK (aBin Try.prog BinOp.eql 3 v29_1 v30_1) h fun v31 h =>
            k7 v31 h) (fun v31_1 h =>
            vK (pickV v23 v31_1 (Value.bool false)) h fun v32 h =>
            cnd v32 (
             mvK v7_1 h fun v33 h =>
             mvK v33 h fun v6_1 h =>
             retV [some v6_1] R h) (
             mvK v7_1 h fun v13 h =>
             vK (aBin Try.prog BinOp.add 3 v13 (Value.int IntKind.i64 1)) h fun v14 h =>
             mvK v14 h fun v7_2 h =>
             I2 [v7_2] h ∧ μ2 [v7_2] h < μ2 [v7_1] h2)) h) h) h) h) h) h) h) h) (
    mvK (Value.int IntKind.i64 (-1)) h fun v6_2 h =>
    retV [some v6_2] R h))
def lv81 (q : Nat) : List Nat := bif Nat.beq q 4 then [17179869120, 7] else []
theorem ok81 : lkOK Try.prog lv81 Try.f81 3 (Try.f81.body.getD .skip) 81 = true := by kernel_rfl
theorem e81 (a0 a1 a2 : Value) (h : Heap) (R : Value → Heap → Prop) : n81 a0 a1 a2 h R = wpK Try.prog lv81 (Try.f81.body.getD .skip) (endK Try.prog [.tmp 6] R) (argT [a0, a1, a2]) h := by kernel_rfl
theorem w81 {a0 a1 a2 : Value} {h : Heap} {R : Value → Heap → Prop} (hn : n81 a0 a1 a2 h R) : DetP Try.prog 81 [a0, a1, a2] h R :=
  DetP.of_code (rs := [.tmp 6]) (n := 3) Try.func81 (by kernel_rfl) (by kernel_rfl) lv81 ok81 rfl ((e81 a0 a1 a2 h R) ▸ hn)

/-! ### examiner/model.CheckMachine: function 87 -/
def n87 (a0 : Value) (h : Heap) (R : Value → Heap → Prop) : Prop :=
  okK (some (aBox Try.prog 24 a0 h)) fun v1 h =>
  mvK (Value.int IntKind.i64 0) h fun v2 h =>
  mvK (Value.int IntKind.i64 0) h fun v3 h =>
  vK (aFieldAddr Try.prog 24 v1 0) h fun v6 h =>
  vK (aLoad Try.prog 3 v6 h) h fun v7 h =>
  cK Try.prog 107 [v7, (Value.int IntKind.i64 1), (Value.int IntKind.i64 40)] h fun v8 h =>
  vK (aUn UnOp.not v8) h fun v9 h =>
  mvK v9 h fun v10 h =>
  gdK v10 false (fun k0 =>
   vK (aFieldAddr Try.prog 24 v1 1) h fun v11 h =>
   k0 v11 h) (fun v11_1 h =>
   gdK v10 false (fun k1 =>
    vK (aLoad Try.prog 3 v11_1 h) h fun v12 h =>
    k1 v12 h) (fun v12_1 h =>
    gdK v10 false (fun k2 =>
     cK Try.prog 107 [v12_1, (Value.int IntKind.i64 1), (Value.int IntKind.i64 8)] h fun v13 h =>
     k2 v13 h) (fun v13_1 h =>
     gdK v10 false (fun k3 =>
      vK (aUn UnOp.not v13_1) h fun v14 h =>
      k3 v14 h) (fun v14_1 h =>
      vK (pickV v10 (Value.bool true) v14_1) h fun v15 h =>
      mvK v15 h fun v16 h =>
      gdK v16 false (fun k4 =>
       vK (aFieldAddr Try.prog 24 v1 2) h fun v17 h =>
       k4 v17 h) (fun v17_1 h =>
       gdK v16 false (fun k5 =>
        vK (aLoad Try.prog 3 v17_1 h) h fun v18 h =>
        k5 v18 h) (fun v18_1 h =>
        gdK v16 false (fun k6 =>
         cK Try.prog 107 [v18_1, (Value.int IntKind.i64 1), (Value.int IntKind.i64 8)] h fun v19 h =>
         k6 v19 h) (fun v19_1 h =>
         gdK v16 false (fun k7 =>
          vK (aUn UnOp.not v19_1) h fun v20 h =>
          k7 v20 h) (fun v20_1 h =>
          vK (pickV v16 (Value.bool true) v20_1) h fun v21 h =>
          mvK v21 h fun v22 h =>
          gdK v22 false (fun k8 =>
           vK (aFieldAddr Try.prog 24 v1 3) h fun v23 h =>
           k8 v23 h) (fun v23_1 h =>
           gdK v22 false (fun k9 =>
            vK (aLoad Try.prog 3 v23_1 h) h fun v24 h =>
            k9 v24 h) (fun v24_1 h =>
            gdK v22 false (fun k10 =>
             vK (aFieldAddr Try.prog 24 v1 0) h fun v25 h =>
             k10 v25 h) (fun v25_1 h =>
             gdK v22 false (fun k11 =>
              vK (aLoad Try.prog 3 v25_1 h) h fun v26 h =>
              k11 v26 h) (fun v26_1 h =>
              gdK v22 false (fun k12 =>
               vK (aBin Try.prog BinOp.sub 3 v26_1 (Value.int IntKind.i64 1)) h fun v27 h =>
               k12 v27 h) (fun v27_1 h =>
               gdK v22 false (fun k13 =>
                cK Try.prog 107 [v24_1, (Value.int IntKind.i64 0), v27_1] h fun v28 h =>
                k13 v28 h) (fun v28_1 h =>
                gdK v22 false (fun k14 =>
                 vK (aUn UnOp.not v28_1) h fun v29 h =>
                 k14 v29 h) (fun v29_1 h =>
                 vK (pickV v22 (Value.bool true) v29_1) h fun v30 h =>
                 cnd v30 (
                  mvK (Value.int IntKind.i64 0) h fun v2_1 h =>
                  mvK (Value.int IntKind.i64 3) h fun v3_1 h =>
                  retV [some v2_1, some v3_1] R h) (
                  vK (aFieldAddr Try.prog 24 v1 4) h fun v31 h =>
                  vK (aLoad Try.prog 22 v31 h) h fun v32 h =>
                  vK (aLen Try.prog 22 v32) h fun v33 h =>
                  vK (aFieldAddr Try.prog 24 v1 0) h fun v34 h =>
                  vK (aLoad Try.prog 3 v34 h) h fun v35 h =>
                  vK (aFieldAddr Try.prog 24 v1 1) h fun v36 h =>
                  vK (aLoad Try.prog 3 v36 h) h fun v37 h =>
                  vK (aBin Try.prog BinOp.mul 3 v35 v37) h fun v38 h =>
                  vK (aBin Try.prog BinOp.gtr 3 v33 v38) h fun v39 h =>
                  cnd v39 (
                   mvK (Value.int IntKind.i64 0) h fun v2_2 h =>
                   mvK (Value.int IntKind.i64 2) h fun v3_2 h =>
                   retV [some v2_2, some v3_2] R h) (
                   vK (aFieldAddr Try.prog 24 v1 4) h fun v40 h =>
                   vK (aLoad Try.prog 22 v40 h) h fun v41 h =>
                   vK (aLen Try.prog 22 v41) h fun v42 h =>
                   mvK (Value.int IntKind.i64 0) h fun v43 h =>
                   ∃ (I6 : List Value → Heap → Prop) (μ6 : List Value → Heap → Nat), I6 [v43] h ∧
                   ∀ (h6 : Heap) (j6 : Tmps) (v43_1 : Value), I6 [v43_1] h6 → (let h := h6
                    vK (aBin Try.prog BinOp.lss 3 v43_1 v42) h fun v44 h =>
                    cnd v44 (
                     mvK v43_1 h fun v45 h =>
                     vK (aIndexAddr Try.prog 22 v41 v43_1) h fun v46 h =>
                     vK (aLoad Try.prog 76 v46 h) h fun v47 h =>
                     okK (aAlloc Try.prog 76 h) fun v5 h =>
                     mvK v45 h fun v4 h =>
                     okK ((aStore Try.prog 76 v5 v47 h).map (undef, ·)) fun _ h =>
                     vK (aFieldAddr Try.prog 76 v5 0) h fun v48 h =>
                     vK (aLoad Try.prog 3 v48 h) h fun v49 h =>
                     vK (aFieldAddr Try.prog 24 v1 0) h fun v50 h =>
                     vK (aLoad Try.prog 3 v50 h) h fun v51 h =>
                     vK (aBin Try.prog BinOp.sub 3 v51 (Value.int IntKind.i64 1)) h fun v52 h =>
                     cK Try.prog 107 [v49, (Value.int IntKind.i64 0), v52] h fun v53 h =>
                     vK (aUn UnOp.not v53) h fun v54 h =>
                     mvK v54 h fun v55 h =>
                     gdK v55 false (fun k15 =>
                      vK (aFieldAddr Try.prog 76 v5 3) h fun v56 h =>
                      k15 v56 h) (fun v56_1 h =>
                      gdK v55 false (fun k16 =>
                       vK (aLoad Try.prog 3 v56_1 h) h fun v57 h =>
                       k16 v57 h) (fun v57_1 h =>
                       gdK v55 false (fun k17 =>
                        vK (aFieldAddr Try.prog 24 v1 0) h fun v58 h =>
                        k17 v58 h) (fun v58_1 h =>
                        gdK v55 false (fun k18 =>
                         vK (aLoad Try.prog 3 v58_1 h) h fun v59 h =>
                         k18 v59 h) (fun v59_1 h =>
                         gdK v55 false (fun k19 =>
                          vK (aBin Try.prog BinOp.sub 3 v59_1 (Value.int IntKind.i64 1)) h fun v60 h =>
                          k19 v60 h) (fun v60_1 h =>
                          gdK v55 false (fun k20 =>
                           cK Try.prog 107 [v57_1, (Value.int IntKind.i64 0), v60_1] h fun v61 h =>
                           k20 v61 h) (fun v61_1 h =>
                           gdK v55 false (fun k21 =>
                            vK (aUn UnOp.not v61_1) h fun v62 h =>
                            k21 v62 h) (fun v62_1 h =>
                            vK (pickV v55 (Value.bool true) v62_1) h fun v63 h =>
                            mvK v63 h fun v64 h =>
                            gdK v64 false (fun k22 =>
                             vK (aFieldAddr Try.prog 76 v5 1) h fun v65 h =>
                             k22 v65 h) (fun v65_1 h =>
                             gdK v64 false (fun k23 =>
                              vK (aLoad Try.prog 3 v65_1 h) h fun v66 h =>
                              k23 v66 h) (fun v66_1 h =>
                              gdK v64 false (fun k24 =>
                               vK (aFieldAddr Try.prog 24 v1 1) h fun v67 h =>
                               k24 v67 h) (fun v67_1 h =>
                               gdK v64 false (fun k25 =>
                                vK (aLoad Try.prog 3 v67_1 h) h fun v68 h =>
                                k25 v68 h) (fun v68_1 h =>
                                gdK v64 false (fun k26 =>
                                 vK (aBin Try.prog BinOp.sub 3 v68_1 (Value.int IntKind.i64 1)) h fun v69 h =>
                                 k26 v69 h) (fun v69_1 h =>
                                 gdK v64 false (fun k27 =>
                                  cK Try.prog 107 [v66_1, (Value.int IntKind.i64 0), v69_1] h fun v70 h =>
                                  k27 v70 h) (fun v70_1 h =>
                                  gdK v64 false (fun k28 =>
                                   vK (aUn UnOp.not v70_1) h fun v71 h =>
                                   k28 v71 h) (fun v71_1 h =>
                                   vK (pickV v64 (Value.bool true) v71_1) h fun v72 h =>
                                   mvK v72 h fun v73 h =>
                                   gdK v73 false (fun k29 =>
                                    vK (aFieldAddr Try.prog 76 v5 2) h fun v74 h =>
                                    k29 v74 h) (fun v74_1 h =>
                                    gdK v73 false (fun k30 =>
                                     vK (aLoad Try.prog 3 v74_1 h) h fun v75 h =>
                                     k30 v75 h) (fun v75_1 h =>
                                     gdK v73 false (fun k31 =>
                                      vK (aFieldAddr Try.prog 24 v1 2) h fun v76 h =>
                                      k31 v76 h) (fun v76_1 h =>
                                      gdK v73 false (fun k32 =>
                                       vK (aLoad Try.prog 3 v76_1 h) h fun v77 h =>
                                       k32 v77 h) (fun v77_1 h =>
                                       gdK v73 false (fun k33 =>
                                        vK (aBin Try.prog BinOp.sub 3 v77_1 (Value.int IntKind.i64 1)) h fun v78 h =>
                                        k33 v78 h) (fun v78_1 h =>
                                        gdK v73 false (fun k34 =>
                                         cK Try.prog 107 [v75_1, (Value.int IntKind.i64 0), v78_1] h fun v79 h =>
                                         k34 v79 h) (fun v79_1 h =>
                                         gdK v73 false (fun k35 =>
                                          vK (aUn UnOp.not v79_1) h fun v80 h =>
                                          k35 v80 h) (fun v80_1 h =>
                                          vK (pickV v73 (Value.bool true) v80_1) h fun v81 h =>
                                          cnd v81 (
                                           mvK v4 h fun v82 h =>
                                           mvK v82 h fun v2_3 h =>
                                           mvK (Value.int IntKind.i64 3) h fun v3_3 h =>
                                           retV [some v2_3, some v3_3] R h) (
                                           mvK v4 h fun v83 h =>
                                           vK (aBin Try.prog BinOp.gtr 3 v83 (Value.int IntKind.i64 0)) h fun v84 h =>
                                           mvK v84 h fun v85 h =>
                                           gdK v85 true (fun k36 =>
                                            vK (aFieldAddr Try.prog 24 v1 4) h fun v86 h =>
                                            k36 v86 h) (fun v86_1 h =>
                                            gdK v85 true (fun k37 =>
                                             vK (aLoad Try.prog 22 v86_1 h) h fun v87 g =>
                                             VB h.length v87 ∧ (let h := g
                                              k37 v87 h)) (fun v87_1 h =>
                                             gdK v85 true (fun k38 =>
                                              mvK v4 h fun v88 h =>
                                              k38 v88 h) (fun v88_1 h =>
                                              gdK v85 true (fun k39 =>
                                               vK (aBin Try.prog BinOp.sub 3 v88_1 (Value.int IntKind.i64 1)) h fun v89 h =>
                                               k39 v89 h) (fun v89_1 h =>
                                               gdK v85 true (fun k40 =>
                                                vK (aIndexAddr Try.prog 22 v87_1 v89_1) h fun v90 h =>
                                                k40 v90 h) (fun v90_1 h =>
                                                gdK v85 true (fun k41 =>
                                                 vK (aFieldAddr Try.prog 76 v90_1 0) h fun v91 h =>
                                                 k41 v91 h) (fun v91_1 h =>
                                                 gdK v85 true (fun k42 =>
                                                  vK (aLoad Try.prog 3 v91_1 h) h fun v92 g =>
                                                  VB h.length v92 ∧ (let h := g
                                                   k42 v92 h)) (fun v92_1 h =>
                                                  gdK v85 true (fun k43 =>
                                                   vK (aFieldAddr Try.prog 76 v5 0) h fun v93 h =>
                                                   k43 v93 h) (fun v93_1 h =>
                                                   gdK v85 true (fun k44 =>
                                                    vK (aLoad Try.prog 3 v93_1 h) h fun v94 g =>
                                                    VB h.length v94 ∧ (let h := g
                                                     k44 v94 h)) (fun v94_1 h =>
                                                    gdK v85 true (fun k45 =>
                                                     cKD Try.prog 94 [v92_1, v94_1] h fun v95 g =>
                                                     (∃ new, g = h ++ new) ∧ (let h := g
                                                      k45 v95 h)) (fun v95_1 h =>
                                                     gdK v85 true (fun k46 =>
                                                      vK (aFieldAddr Try.prog 24 v1 4) h fun v96 h =>
                                                      k46 v96 h) (fun v96_1 h =>
                                                      gdK v85 true (fun k47 =>
                                                       vK (aLoad Try.prog 22 v96_1 h) h fun v97 g =>
                                                       VB h.length v97 ∧ (let h := g
                                                        k47 v97 h)) (fun v97_1 h =>
                                                       gdK v85 true (fun k48 =>
                                                        mvK v4 h fun v98 h =>
                                                        k48 v98 h) (fun v98_1 h =>
                                                        gdK v85 true (fun k49 =>
                                                         vK (aBin Try.prog BinOp.sub 3 v98_1 (Value.int IntKind.i64 1)) h fun v99 h =>
                                                         k49 v99 h) (fun v99_1 h =>
                                                         gdK v85 true (fun k50 =>
                                                          vK (aIndexAddr Try.prog 22 v97_1 v99_1) h fun v100 h =>
                                                          k50 v100 h) (fun v100_1 h =>
                                                          gdK v85 true (fun k51 =>
                                                           vK (aFieldAddr Try.prog 76 v100_1 1) h fun v101 h =>
                                                           k51 v101 h) (fun v101_1 h =>
                                                           gdK v85 true (fun k52 =>
                                                            vK (aLoad Try.prog 3 v101_1 h) h fun v102 g =>
                                                            VB h.length v102 ∧ (let h := g
                                                             k52 v102 h)) (fun v102_1 h =>
                                                            gdK v85 true (fun k53 =>
                                                             vK (aFieldAddr Try.prog 76 v5 1) h fun v103 h =>
                                                             k53 v103 h) (fun v103_1 h =>
                                                             gdK v85 true (fun k54 =>
                                                              vK (aLoad Try.prog 3 v103_1 h) h fun v104 g =>
                                                              VB h.length v104 ∧ (let h := g
                                                               k54 v104 h)) (fun v104_1 h =>
                                                              gdK v85 true (fun k55 =>
                                                               cKD Try.prog 94 [v102_1, v104_1] h fun v105 g =>
                                                               (∃ new, g = h ++ new) ∧ (let h := g
                                                                k55 v105 h)) (fun v105_1 h =>
                                                               gdK v85 true (fun k56 =>
                                                                okK (aBuildSlice Try.prog 25 2 [(0, v95_1), (1, v105_1)] h) fun v106 h =>
                                                                k56 v106 h) (fun v106_1 h =>
                                                                gdK v85 true (fun k57 =>
                                                                 cKD Try.prog 93 [v106_1] h fun v107 g =>
                                                                 (∃ new, g = h ++ new) ∧ (let h := g
                                                                  k57 v107 h)) (fun v107_1 h =>
                                                                 gdK v85 true (fun k58 =>
                                                                  vK (aBin Try.prog BinOp.geq 3 v107_1 (Value.int IntKind.i64 0)) h fun v108 h =>
                                                                  k58 v108 h) (fun v108_1 h =>
                                                                  vK (pickV v85 v108_1 (Value.bool false)) h fun v109 h =>
                                                                  cnd v109 (
                                                                   mvK v4 h fun v110 h =>
                                                                   mvK v110 h fun v2_4 h =>
                                                                   mvK (Value.int IntKind.i64 14) h fun v3_4 h =>
                                                                   retV [some v2_4, some v3_4] R h) (
                                                                   vK (aBin Try.prog BinOp.add 3 v43_1 (Value.int IntKind.i64 1)) h fun v111 h =>
                                                                   mvK v111 h fun v43_2 h =>
                                                                   I6 [v43_2] h ∧ μ6 [v43_2] h < μ6 [v43_1] h6)) h) h) h) h) h) h) h) h) h) h) h) h) h) h) h) h) h) h) h) h) h) h) h)) h) h) h) h) h) h) h) h) h) h) h) h) h) h) h) h) h) h) h) h) h) (
                     mvK (Value.int IntKind.i64 0) h fun v2_5 h =>
                     mvK (Value.int IntKind.i64 0) h fun v3_5 h =>
                     retV [some v2_5, some v3_5] R h))))) h) h) h) h) h) h) h) h) h) h) h) h) h) h) h
def lv87 (q : Nat) : List Nat := bif Nat.beq q 12 then [5192296858534827628521700236197948, 43] else []
theorem ok87 : lkOK Try.prog lv87 Try.f87 1 (Try.f87.body.getD .skip) 87 = true := by kernel_rfl
theorem e87 (a0 : Value) (h : Heap) (R : Value → Heap → Prop) : n87 a0 h R = wpK Try.prog lv87 (Try.f87.body.getD .skip) (endK Try.prog [.tmp 2, .tmp 3] R) (argT [a0]) h := by kernel_rfl
theorem w87 {a0 : Value} {h : Heap} {R : Value → Heap → Prop} (hn : n87 a0 h R) : DetP Try.prog 87 [a0] h R :=
  DetP.of_code (rs := [.tmp 2, .tmp 3]) (n := 1) Try.func87 (by kernel_rfl) (by kernel_rfl) lv87 ok87 rfl ((e87 a0 h R) ▸ hn)

/-! ### examiner/cover.pricesErr$1: function 88 -/
def n88 (a0 : Value) (h : Heap) (R : Value → Heap → Prop) : Prop :=
  mvK (Value.bool false) h fun v2 h =>
  mvK a0 h fun v3 h =>
  cK Try.prog 59 [v3, (Value.int IntKind.i64 0), (Value.int IntKind.i64 20)] h fun v4 h =>
  vK (aUn UnOp.not v4) h fun v5 h =>
  mvK v5 h fun v2_1 h =>
  retV [some v2_1] R h
def lv88 (q : Nat) : List Nat := []
theorem ok88 : lkOK Try.prog lv88 Try.f88 1 (Try.f88.body.getD .skip) 88 = true := by kernel_rfl
theorem e88 (a0 : Value) (h : Heap) (R : Value → Heap → Prop) : n88 a0 h R = wpK Try.prog lv88 (Try.f88.body.getD .skip) (endK Try.prog [.tmp 2] R) (argT [a0]) h := by kernel_rfl
theorem w88 {a0 : Value} {h : Heap} {R : Value → Heap → Prop} (hn : n88 a0 h R) : DetP Try.prog 88 [a0] h R :=
  DetP.of_code (rs := [.tmp 2]) (n := 1) Try.func88 (by kernel_rfl) (by kernel_rfl) lv88 ok88 rfl ((e88 a0 h R) ▸ hn)

/-! ### examiner/cover.inputErr$1: function 89 -/
def n89 (a0 a1 : Value) (h : Heap) (R : Value → Heap → Prop) : Prop :=
  mvK (Value.bool false) h fun v3 h =>
  mvK a0 h fun v4 h =>
  vK (aFieldAddr Try.prog 24 a1 1) h fun v5 h =>
  vK (aLoad Try.prog 3 v5 h) h fun v6 h =>
  vK (aBin Try.prog BinOp.sub 3 v6 (Value.int IntKind.i64 1)) h fun v7 h =>
  cK Try.prog 59 [v4, (Value.int IntKind.i64 0), v7] h fun v8 h =>
  vK (aUn UnOp.not v8) h fun v9 h =>
  mvK v9 h fun v3_1 h =>
  retV [some v3_1] R h
def lv89 (q : Nat) : List Nat := []
theorem ok89 : lkOK Try.prog lv89 Try.f89 2 (Try.f89.body.getD .skip) 89 = true := by kernel_rfl
theorem e89 (a0 a1 : Value) (h : Heap) (R : Value → Heap → Prop) : n89 a0 a1 h R = wpK Try.prog lv89 (Try.f89.body.getD .skip) (endK Try.prog [.tmp 3] R) (argT [a0, a1]) h := by kernel_rfl
theorem w89 {a0 a1 : Value} {h : Heap} {R : Value → Heap → Prop} (hn : n89 a0 a1 h R) : DetP Try.prog 89 [a0, a1] h R :=
  DetP.of_code (rs := [.tmp 3]) (n := 2) Try.func89 (by kernel_rfl) (by kernel_rfl) lv89 ok89 rfl ((e89 a0 a1 h R) ▸ hn)

/-! ### slices.Index[[]int,int]: function 90 -/
def n90 (a0 a1 : Value) (h : Heap) (R : Value → Heap → Prop) : Prop :=
  mvK (Value.int IntKind.i64 0) h fun v4 h =>
  mvK a0 h fun v6 h =>
  vK (aLen Try.prog 25 v6) h fun v7 h =>
  mvK (Value.int IntKind.i64 0) h fun v8 h =>
  ∃ (I2 : List Value → Heap → Prop) (μ2 : List Value → Heap → Nat), I2 [v8] h ∧
  ∀ (h2 : Heap) (j2 : Tmps) (v8_1 : Value), I2 [v8_1] h2 → (let h := h2
   vK (aBin Try.prog BinOp.lss 3 v8_1 v7) h fun v9 h =>
   cnd v9 (
    mvK v8_1 h fun v10 h =>
    mvK v10 h fun v5 h =>
    mvK a1 h fun v11 h =>
    mvK a0 h fun v12 h =>
    mvK v5 h fun v13 h =>
    vK (aIndexAddr Try.prog 25 v12 v13) h fun v14 h =>
    vK (aLoad Try.prog 3 v14 h) h fun v15 h =>
    vK (aBin Try.prog BinOp.eql 3 v11 v15) h fun v16 h =>
    cnd v16 (
     mvK v5 h fun v17 h =>
     mvK v17 h fun v4_1 h =>
     retV [some v4_1] R h) (
     vK (aBin Try.prog BinOp.add 3 v8_1 (Value.int IntKind.i64 1)) h fun v18 h =>
     mvK v18 h fun v8_2 h =>
     I2 [v8_2] h ∧ μ2 [v8_2] h < μ2 [v8_1] h2)) (
    mvK (Value.int IntKind.i64 (-1)) h fun v4_2 h =>
    retV [some v4_2] R h))
def lv90 (q : Nat) : List Nat := bif Nat.beq q 4 then [524080, 8] else []
theorem ok90 : lkOK Try.prog lv90 Try.f90 2 (Try.f90.body.getD .skip) 90 = true := by kernel_rfl
theorem e90 (a0 a1 : Value) (h : Heap) (R : Value → Heap → Prop) : n90 a0 a1 h R = wpK Try.prog lv90 (Try.f90.body.getD .skip) (endK Try.prog [.tmp 4] R) (argT [a0, a1]) h := by kernel_rfl
theorem w90 {a0 a1 : Value} {h : Heap} {R : Value → Heap → Prop} (hn : n90 a0 a1 h R) : DetP Try.prog 90 [a0, a1] h R :=
  DetP.of_code (rs := [.tmp 4]) (n := 2) Try.func90 (by kernel_rfl) (by kernel_rfl) lv90 ok90 rfl ((e90 a0 a1 h R) ▸ hn)

/-! ### slices.IndexFunc[[]int,int]: function 91 -/
def n91 (a0 a1 : Value) (h : Heap) (R : Value → Heap → Prop) : Prop :=
  mvK (Value.int IntKind.i64 0) h fun v4 h =>
  mvK a0 h fun v6 h =>
  vK (aLen Try.prog 25 v6) h fun v7 h =>
  mvK (Value.int IntKind.i64 0) h fun v8 h =>
  ∃ (I2 : List Value → Heap → Prop) (μ2 : List Value → Heap → Nat), I2 [v8] h ∧
  ∀ (h2 : Heap) (j2 : Tmps) (v8_1 : Value), I2 [v8_1] h2 → (let h := h2
   vK (aBin Try.prog BinOp.lss 3 v8_1 v7) h fun v9 h =>
   cnd v9 (
    mvK v8_1 h fun v10 h =>
    mvK v10 h fun v5 h =>
    mvK a1 h fun v11 h =>
    mvK a0 h fun v12 h =>
    mvK v5 h fun v13 h =>
    vK (aIndexAddr Try.prog 25 v12 v13) h fun v14 h =>
    vK (aLoad Try.prog 3 v14 h) h fun v15 h =>
    callK Try.prog (fnOf v11 [v15]) h fun v16 h =>
    cnd v16 (
     mvK v5 h fun v17 h =>
     mvK v17 h fun v4_1 h =>
     retV [some v4_1] R h) (
     vK (aBin Try.prog BinOp.add 3 v8_1 (Value.int IntKind.i64 1)) h fun v18 h =>
     mvK v18 h fun v8_2 h =>
     I2 [v8_2] h ∧ μ2 [v8_2] h < μ2 [v8_1] h2)) (
    mvK (Value.int IntKind.i64 (-1)) h fun v4_2 h =>
    retV [some v4_2] R h))
def lv91 (q : Nat) : List Nat := bif Nat.beq q 4 then [524080, 8] else []
theorem ok91 : lkOK Try.prog lv91 Try.f91 2 (Try.f91.body.getD .skip) 91 = true := by kernel_rfl
theorem e91 (a0 a1 : Value) (h : Heap) (R : Value → Heap → Prop) : n91 a0 a1 h R = wpK Try.prog lv91 (Try.f91.body.getD .skip) (endK Try.prog [.tmp 4] R) (argT [a0, a1]) h := by kernel_rfl
theorem w91 {a0 a1 : Value} {h : Heap} {R : Value → Heap → Prop} (hn : n91 a0 a1 h R) : DetP Try.prog 91 [a0, a1] h R :=
  DetP.of_code (rs := [.tmp 4]) (n := 2) Try.func91 (by kernel_rfl) (by kernel_rfl) lv91 ok91 rfl ((e91 a0 a1 h R) ▸ hn)

/-! ### examiner/examinerbase.CompareInts: function 92 -/
def n92 (a0 a1 : Value) (h : Heap) (R : Value → Heap → Prop) : Prop :=
  mvK (Value.int IntKind.i64 0) h fun v4 h =>
  mvK (Value.int IntKind.i64 0) h fun v5 h =>
  ∃ (I2 : List Value → Heap → Prop) (μ2 : List Value → Heap → Nat), I2 [v5] h ∧
  ∀ (h2 : Heap) (j2 : Tmps) (v5_1 : Value), I2 [v5_1] h2 → (let h := h2
   mvK v5_1 h fun v6 h =>
   mvK a0 h fun v7 h =>
   vK (aLen Try.prog 25 v7) h fun v8 h =>
   vK (aBin Try.prog BinOp.lss 3 v6 v8) h fun v9 h =>
   mvK v9 h fun v10 h =>
   gdK v10 true (fun k0 =>
    mvK v5_1 h fun v11 h =>
    k0 v11 h) (fun v11_1 h =>
    gdK v10 true (fun k1 =>
     mvK a1 h fun v12 h =>
     k1 v12 h) (fun v12_1 h =>
     gdK v10 true (fun k2 =>
      vK (aLen Try.prog 25 v12_1) h fun v13 h =>
      k2 v13 h) (fun v13_1 h =>
      gdK v10 true (fun k3 =>
       vK (aBin Try.prog BinOp.lss 3 v11_1 v13_1) h fun v14 h =>
       k3 v14 h) (fun v14_1 h =>
       vK (pickV v10 v14_1 (Value.bool false)) h fun v15 h =>
       cnd v15 (
        mvK a0 h fun v18 h =>
        mvK v5_1 h fun v19 h =>
        vK (aIndexAddr Try.prog 25 v18 v19) h fun v20 h =>
        vK (aLoad Try.prog 3 v20 h) h fun v21 g =>
        VB h.length v21 ∧ (let h := g
         mvK a1 h fun v22 h =>
         mvK v5_1 h fun v23 h =>
         vK (aIndexAddr Try.prog 25 v22 v23) h fun v24 h =>
         vK (aLoad Try.prog 3 v24 h) h fun v25 g =>
         VB h.length v25 ∧ (let h := g
          vK (aBin Try.prog BinOp.neq 3 v21 v25) h fun v26 h =>
          cnd v26 (
           mvK a0 h fun v27 h =>
           mvK v5_1 h fun v28 h =>
           vK (aIndexAddr Try.prog 25 v27 v28) h fun v29 h =>
           vK (aLoad Try.prog 3 v29 h) h fun v30 g =>
           VB h.length v30 ∧ (let h := g
            mvK a1 h fun v31 h =>
            mvK v5_1 h fun v32 h =>
            vK (aIndexAddr Try.prog 25 v31 v32) h fun v33 h =>
            vK (aLoad Try.prog 3 v33 h) h fun v34 g =>
            VB h.length v34 ∧ (let h := g
             vK (aBin Try.prog BinOp.gtr 3 v30 v34) h fun v35 h =>
             cKD Try.prog 45 [v35] h fun v36 g =>
             (∃ new, g = h ++ new) ∧ (let h := g
              vK (aBin Try.prog BinOp.mul 3 (Value.int IntKind.i64 2) v36) h fun v37 h =>
              vK (aBin Try.prog BinOp.sub 3 v37 (Value.int IntKind.i64 1)) h fun v38 h =>
              mvK v38 h fun v4_1 h =>
              retV [some v4_1] R h)))) (
           mvK v5_1 h fun v16 h =>
           vK (aBin Try.prog BinOp.add 3 v16 (Value.int IntKind.i64 1)) h fun v17 h =>
           mvK v17 h fun v5_2 h =>
           I2 [v5_2] h ∧ μ2 [v5_2] h < μ2 [v5_1] h2)))) (
        mvK a0 h fun v39 h =>
        vK (aLen Try.prog 25 v39) h fun v40 h =>
        mvK a1 h fun v41 h =>
        vK (aLen Try.prog 25 v41) h fun v42 h =>
        vK (aBin Try.prog BinOp.gtr 3 v40 v42) h fun v43 h =>
        cK Try.prog 45 [v43] h fun v44 h =>
        mvK a0 h fun v45 h =>
        vK (aLen Try.prog 25 v45) h fun v46 h =>
        mvK a1 h fun v47 h =>
        vK (aLen Try.prog 25 v47) h fun v48 h =>
        vK (aBin Try.prog BinOp.lss 3 v46 v48) h fun v49 h =>
        cK Try.prog 45 [v49] h fun v50 h =>
        vK (aBin Try.prog BinOp.sub 3 v44 v50) h fun v51 h =>
        mvK v51 h fun v4_2 h =>
        retV [some v4_2] R h)) h) h) h) h)
def lv92 (q : Nat) : List Nat := bif Nat.beq q 4 then [549755813872, 5] else []
theorem ok92 : lkOK Try.prog lv92 Try.f92 2 (Try.f92.body.getD .skip) 92 = true := by kernel_rfl
theorem e92 (a0 a1 : Value) (h : Heap) (R : Value → Heap → Prop) : n92 a0 a1 h R = wpK Try.prog lv92 (Try.f92.body.getD .skip) (endK Try.prog [.tmp 4] R) (argT [a0, a1]) h := by kernel_rfl
theorem w92 {a0 a1 : Value} {h : Heap} {R : Value → Heap → Prop} (hn : n92 a0 a1 h R) : DetP Try.prog 92 [a0, a1] h R :=
  DetP.of_code (rs := [.tmp 4]) (n := 2) Try.func92 (by kernel_rfl) (by kernel_rfl) lv92 ok92 rfl ((e92 a0 a1 h R) ▸ hn)

/-! ### cmp.Or[int]: function 93 -/
def n93 (a0 : Value) (h : Heap) (R : Value → Heap → Prop) : Prop :=
  mvK (Value.int IntKind.i64 0) h fun v2 h =>
  mvK (Value.int IntKind.i64 0) h fun v3 h =>
  mvK a0 h fun v6 h =>
  vK (aLen Try.prog 25 v6) h fun v7 h =>
  mvK (Value.int IntKind.i64 0) h fun v8 h =>
  ∃ (I3 : List Value → Heap → Prop) (μ3 : List Value → Heap → Nat), I3 [v8] h ∧
  ∀ (h3 : Heap) (j3 : Tmps) (v8_1 : Value), I3 [v8_1] h3 → (let h := h3
   vK (aBin Try.prog BinOp.lss 3 v8_1 v7) h fun v9 h =>
   cnd v9 (
    vK (aIndexAddr Try.prog 25 v6 v8_1) h fun v10 h =>
    vK (aLoad Try.prog 3 v10 h) h fun v11 h =>
    mvK v11 h fun v5 h =>
    mvK v5 h fun v12 h =>
    mvK v3 h fun v13 h =>
    vK (aBin Try.prog BinOp.neq 3 v12 v13) h fun v14 h =>
    cnd v14 (
     mvK v5 h fun v15 h =>
     mvK v15 h fun v2_1 h =>
     retV [some v2_1] R h) (
     vK (aBin Try.prog BinOp.add 3 v8_1 (Value.int IntKind.i64 1)) h fun v16 h =>
     mvK v16 h fun v8_2 h =>
     I3 [v8_2] h ∧ μ3 [v8_2] h < μ3 [v8_1] h3)) (
    mvK v3 h fun v17 h =>
    mvK v17 h fun v2_2 h =>
    retV [some v2_2] R h))
def lv93 (q : Nat) : List Nat := bif Nat.beq q 6 then [130852, 8] else []
theorem ok93 : lkOK Try.prog lv93 Try.f93 1 (Try.f93.body.getD .skip) 93 = true := by kernel_rfl
theorem e93 (a0 : Value) (h : Heap) (R : Value → Heap → Prop) : n93 a0 h R = wpK Try.prog lv93 (Try.f93.body.getD .skip) (endK Try.prog [.tmp 2] R) (argT [a0]) h := by kernel_rfl
theorem w93 {a0 : Value} {h : Heap} {R : Value → Heap → Prop} (hn : n93 a0 h R) : DetP Try.prog 93 [a0] h R :=
  DetP.of_code (rs := [.tmp 2]) (n := 1) Try.func93 (by kernel_rfl) (by kernel_rfl) lv93 ok93 rfl ((e93 a0 h R) ▸ hn)

/-! ### cmp.Compare[int]: function 94 -/
def n94 (a0 a1 : Value) (h : Heap) (R : Value → Heap → Prop) : Prop :=
  mvK (Value.int IntKind.i64 0) h fun v4 h =>
  mvK a0 h fun v7 h =>
  cK Try.prog 108 [v7] h fun v8 h =>
  mvK v8 h fun v5 h =>
  mvK a1 h fun v9 h =>
  cK Try.prog 108 [v9] h fun v10 h =>
  mvK v10 h fun v6 h =>
  mvK v5 h fun v11 h =>
  cnd v11 (
   mvK v6 h fun v12 h =>
   cnd v12 (
    mvK (Value.int IntKind.i64 0) h fun v4_1 h =>
    retV [some v4_1] R h) (
    mvK (Value.int IntKind.i64 (-1)) h fun v4_2 h =>
    retV [some v4_2] R h)) (
   mvK v6 h fun v13 h =>
   cnd v13 (
    mvK (Value.int IntKind.i64 1) h fun v4_3 h =>
    retV [some v4_3] R h) (
    mvK a0 h fun v14 h =>
    mvK a1 h fun v15 h =>
    vK (aBin Try.prog BinOp.lss 3 v14 v15) h fun v16 h =>
    cnd v16 (
     mvK (Value.int IntKind.i64 (-1)) h fun v4_4 h =>
     retV [some v4_4] R h) (
     mvK a0 h fun v17 h =>
     mvK a1 h fun v18 h =>
     vK (aBin Try.prog BinOp.gtr 3 v17 v18) h fun v19 h =>
     cnd v19 (
      mvK (Value.int IntKind.i64 1) h fun v4_5 h =>
      retV [some v4_5] R h) (
      mvK (Value.int IntKind.i64 0) h fun v4_6 h =>
      retV [some v4_6] R h))))
def lv94 (q : Nat) : List Nat := []
theorem ok94 : lkOK Try.prog lv94 Try.f94 2 (Try.f94.body.getD .skip) 94 = true := by kernel_rfl
theorem e94 (a0 a1 : Value) (h : Heap) (R : Value → Heap → Prop) : n94 a0 a1 h R = wpK Try.prog lv94 (Try.f94.body.getD .skip) (endK Try.prog [.tmp 4] R) (argT [a0, a1]) h := by kernel_rfl
theorem w94 {a0 a1 : Value} {h : Heap} {R : Value → Heap → Prop} (hn : n94 a0 a1 h R) : DetP Try.prog 94 [a0, a1] h R :=
  DetP.of_code (rs := [.tmp 4]) (n := 2) Try.func94 (by kernel_rfl) (by kernel_rfl) lv94 ok94 rfl ((e94 a0 a1 h R) ▸ hn)

/-! ### math/bits.Mul: function 96 -/
def n96 (a0 a1 : Value) (h : Heap) (R : Value → Heap → Prop) : Prop :=
  mvK (Value.int IntKind.u64 0) h fun v4 h =>
  mvK (Value.int IntKind.u64 0) h fun v5 h =>
  cnd (Value.bool false) (
   mvK a0 h fun v11 h =>
   vK (aConvert Try.prog 139 152 v11) h fun v12 h =>
   mvK a1 h fun v13 h =>
   vK (aConvert Try.prog 139 152 v13) h fun v14 h =>
   cK Try.prog 109 [v12, v14] h fun v15 h =>
   mvK v15 h fun v10 h =>
   vK (aExtract v10 0) h fun v16 h =>
   vK (aExtract v10 1) h fun v17 h =>
   mvK v16 h fun v6 h =>
   mvK v17 h fun v7 h =>
   mvK v6 h fun v18 h =>
   vK (aConvert Try.prog 152 139 v18) h fun v19 h =>
   mvK v7 h fun v20 h =>
   vK (aConvert Try.prog 152 139 v20) h fun v21 h =>
   mvK v19 h fun v4_1 h =>
   mvK v21 h fun v5_1 h =>
   retV [some v4_1, some v5_1] R h) (
   mvK a0 h fun v23 h =>
   mvK a1 h fun v24 h =>
   cK Try.prog 110 [v23, v24] h fun v25 h =>
   mvK v25 h fun v22 h =>
   vK (aExtract v22 0) h fun v26 h =>
   vK (aExtract v22 1) h fun v27 h =>
   mvK v26 h fun v8 h =>
   mvK v27 h fun v9 h =>
   mvK v8 h fun v28 h =>
   mvK v9 h fun v29 h =>
   mvK v28 h fun v4_2 h =>
   mvK v29 h fun v5_2 h =>
   retV [some v4_2, some v5_2] R h)
def lv96 (q : Nat) : List Nat := []
theorem ok96 : lkOK Try.prog lv96 Try.f96 2 (Try.f96.body.getD .skip) 96 = true := by kernel_rfl
theorem e96 (a0 a1 : Value) (h : Heap) (R : Value → Heap → Prop) : n96 a0 a1 h R = wpK Try.prog lv96 (Try.f96.body.getD .skip) (endK Try.prog [.tmp 4, .tmp 5] R) (argT [a0, a1]) h := by kernel_rfl
theorem w96 {a0 a1 : Value} {h : Heap} {R : Value → Heap → Prop} (hn : n96 a0 a1 h R) : DetP Try.prog 96 [a0, a1] h R :=
  DetP.of_code (rs := [.tmp 4, .tmp 5]) (n := 2) Try.func96 (by kernel_rfl) (by kernel_rfl) lv96 ok96 rfl ((e96 a0 a1 h R) ▸ hn)

/-! ### examiner/model.spans: function 107 -/
def n107 (a0 a1 a2 : Value) (h : Heap) (R : Value → Heap → Prop) : Prop :=
  mvK (Value.bool false) h fun v6 h =>
  mvK a1 h fun v7 h =>
  mvK a0 h fun v8 h =>
  vK (aBin Try.prog BinOp.leq 3 v7 v8) h fun v9 h =>
  mvK v9 h fun v10 h =>
  gdK v10 true (fun k0 =>
   mvK a0 h fun v11 h =>
   k0 v11 h) (fun v11_1 h =>
   gdK v10 true (fun k1 =>
    mvK a2 h fun v12 h =>
    k1 v12 h) (fun v12_1 h =>
    gdK v10 true (fun k2 =>
     vK (aBin Try.prog BinOp.leq 3 v11_1 v12_1) h fun v13 h =>
     k2 v13 h) (fun v13_1 h =>
     vK (pickV v10 v13_1 (Value.bool false)) h fun v14 h =>
     mvK v14 h fun v6_1 h =>
     retV [some v6_1] R h) h) h) h
def lv107 (q : Nat) : List Nat := []
theorem ok107 : lkOK Try.prog lv107 Try.f107 3 (Try.f107.body.getD .skip) 107 = true := by kernel_rfl
theorem e107 (a0 a1 a2 : Value) (h : Heap) (R : Value → Heap → Prop) : n107 a0 a1 a2 h R = wpK Try.prog lv107 (Try.f107.body.getD .skip) (endK Try.prog [.tmp 6] R) (argT [a0, a1, a2]) h := by kernel_rfl
theorem w107 {a0 a1 a2 : Value} {h : Heap} {R : Value → Heap → Prop} (hn : n107 a0 a1 a2 h R) : DetP Try.prog 107 [a0, a1, a2] h R :=
  DetP.of_code (rs := [.tmp 6]) (n := 3) Try.func107 (by kernel_rfl) (by kernel_rfl) lv107 ok107 rfl ((e107 a0 a1 a2 h R) ▸ hn)

/-! ### cmp.isNaN[int]: function 108 -/
def n108 (a0 : Value) (h : Heap) (R : Value → Heap → Prop) : Prop :=
  mvK (Value.bool false) h fun v2 h =>
  mvK a0 h fun v3 h =>
  mvK a0 h fun v4 h =>
  vK (aBin Try.prog BinOp.neq 3 v3 v4) h fun v5 h =>
  mvK v5 h fun v2_1 h =>
  retV [some v2_1] R h
def lv108 (q : Nat) : List Nat := []
theorem ok108 : lkOK Try.prog lv108 Try.f108 1 (Try.f108.body.getD .skip) 108 = true := by kernel_rfl
theorem e108 (a0 : Value) (h : Heap) (R : Value → Heap → Prop) : n108 a0 h R = wpK Try.prog lv108 (Try.f108.body.getD .skip) (endK Try.prog [.tmp 2] R) (argT [a0]) h := by kernel_rfl
theorem w108 {a0 : Value} {h : Heap} {R : Value → Heap → Prop} (hn : n108 a0 h R) : DetP Try.prog 108 [a0] h R :=
  DetP.of_code (rs := [.tmp 2]) (n := 1) Try.func108 (by kernel_rfl) (by kernel_rfl) lv108 ok108 rfl ((e108 a0 h R) ▸ hn)

/-! ### math/bits.Mul64: function 110 -/
def n110 (a0 a1 : Value) (h : Heap) (R : Value → Heap → Prop) : Prop :=
  mvK (Value.int IntKind.u64 0) h fun v4 h =>
  mvK (Value.int IntKind.u64 0) h fun v5 h =>
  mvK a0 h fun v14 h =>
  vK (aBin Try.prog BinOp.and 155 v14 (Value.int IntKind.u64 4294967295)) h fun v15 h =>
  mvK v15 h fun v6 h =>
  mvK a0 h fun v16 h =>
  vK (aBin Try.prog BinOp.shr 155 v16 (Value.int IntKind.u64 32)) h fun v17 h =>
  mvK v17 h fun v7 h =>
  mvK a1 h fun v18 h =>
  vK (aBin Try.prog BinOp.and 155 v18 (Value.int IntKind.u64 4294967295)) h fun v19 h =>
  mvK v19 h fun v8 h =>
  mvK a1 h fun v20 h =>
  vK (aBin Try.prog BinOp.shr 155 v20 (Value.int IntKind.u64 32)) h fun v21 h =>
  mvK v21 h fun v9 h =>
  mvK v6 h fun v22 h =>
  mvK v8 h fun v23 h =>
  vK (aBin Try.prog BinOp.mul 155 v22 v23) h fun v24 h =>
  mvK v24 h fun v10 h =>
  mvK v7 h fun v25 h =>
  mvK v8 h fun v26 h =>
  vK (aBin Try.prog BinOp.mul 155 v25 v26) h fun v27 h =>
  mvK v10 h fun v28 h =>
  vK (aBin Try.prog BinOp.shr 155 v28 (Value.int IntKind.u64 32)) h fun v29 h =>
  vK (aBin Try.prog BinOp.add 155 v27 v29) h fun v30 h =>
  mvK v30 h fun v11 h =>
  mvK v11 h fun v31 h =>
  vK (aBin Try.prog BinOp.and 155 v31 (Value.int IntKind.u64 4294967295)) h fun v32 h =>
  mvK v32 h fun v12 h =>
  mvK v11 h fun v33 h =>
  vK (aBin Try.prog BinOp.shr 155 v33 (Value.int IntKind.u64 32)) h fun v34 h =>
  mvK v34 h fun v13 h =>
  mvK v12 h fun v35 h =>
  mvK v6 h fun v36 h =>
  mvK v9 h fun v37 h =>
  vK (aBin Try.prog BinOp.mul 155 v36 v37) h fun v38 h =>
  vK (aBin Try.prog BinOp.add 155 v35 v38) h fun v39 h =>
  mvK v39 h fun v12_1 h =>
  mvK v7 h fun v40 h =>
  mvK v9 h fun v41 h =>
  vK (aBin Try.prog BinOp.mul 155 v40 v41) h fun v42 h =>
  mvK v13 h fun v43 h =>
  vK (aBin Try.prog BinOp.add 155 v42 v43) h fun v44 h =>
  mvK v12_1 h fun v45 h =>
  vK (aBin Try.prog BinOp.shr 155 v45 (Value.int IntKind.u64 32)) h fun v46 h =>
  vK (aBin Try.prog BinOp.add 155 v44 v46) h fun v47 h =>
  mvK v47 h fun v4_1 h =>
  mvK a0 h fun v48 h =>
  mvK a1 h fun v49 h =>
  vK (aBin Try.prog BinOp.mul 155 v48 v49) h fun v50 h =>
  mvK v50 h fun v5_1 h =>
  retV [some v4_1, some v5_1] R h
def lv110 (q : Nat) : List Nat := []
theorem ok110 : lkOK Try.prog lv110 Try.f110 2 (Try.f110.body.getD .skip) 110 = true := by kernel_rfl
theorem e110 (a0 a1 : Value) (h : Heap) (R : Value → Heap → Prop) : n110 a0 a1 h R = wpK Try.prog lv110 (Try.f110.body.getD .skip) (endK Try.prog [.tmp 4, .tmp 5] R) (argT [a0, a1]) h := by kernel_rfl
theorem w110 {a0 a1 : Value} {h : Heap} {R : Value → Heap → Prop} (hn : n110 a0 a1 h R) : DetP Try.prog 110 [a0, a1] h R :=
  DetP.of_code (rs := [.tmp 4, .tmp 5]) (n := 2) Try.func110 (by kernel_rfl) (by kernel_rfl) lv110 ok110 rfl ((e110 a0 a1 h R) ▸ hn)

end Go.Proofs.Ytdjoednhfoligaa

set_option linter.unusedSimpArgs false
set_option linter.unusedVariables false
set_option maxRecDepth 100000
namespace Go.Proofs.Ytdjoednhfoligaa
open Go.AM
variable {h h' h0 : Heap} {K : Value → Heap → Prop}

theorem t23 : sliceT Try.prog 25 3 1 8 = true := by kernel_rfl

theorem t22 : sliceT Try.prog 45 25 1 24 = true := by kernel_rfl

theorem t94 : sliceT Try.prog 132 29 1 8 = true := by kernel_rfl

theorem r3 : isPlain Try.prog 3 = true := by kernel_rfl

theorem r23 : isPlain Try.prog 25 = true := by kernel_rfl

theorem r25 : isPlain Try.prog 29 = true := by kernel_rfl

theorem c61 (b : Bool) (e : Int) : Runs Try.prog 61 [.bool b, .int .i64 e] h (.int .i64 (if b then 0 else e)) h := by
  refine DetP.runs (w61 ?_)
  unfold n61
  cases b <;> (with_reducible repeat first|refine mv_i ?_|refine cnd_t ?_|refine cnd_f ?_|refine gd_tt ?_|refine gd_ff ?_|refine gd_tf ?_|refine gd_ft ?_|refine gd_u ?_|refine pick_t ?_|refine pick_f ?_|refine not_t ?_|refine not_f ?_|refine nil_i ?_|refine ret1 ?_|refine ret2 ?_|refine ret0 ?_|refine ret3 ?_|refine ex2_0 ?_|refine ex2_1 ?_|refine ex3_0 ?_|refine ex3_1 ?_|refine ex3_2 ?_) <;> exact ⟨rfl, rfl⟩

def inR (n a b : Int) : Bool := decide (a ≤ n ∧ n ≤ b)

theorem c59 (n a b : Int) : Runs Try.prog 59 [.int .i64 n, .int .i64 a, .int .i64 b] h (.bool (inR n a b)) h := by
  refine DetP.runs (w59 ?_)
  unfold n59
  with_reducible (refine mv_i ?_; refine mv_i ?_; refine mv_i ?_)
  refine leq_i (fun h1 => ?_) (fun h1 => ?_)
  · with_reducible (refine mv_i ?_; refine gd_tt ?_; refine mv_i ?_; refine gd_tt ?_; refine mv_i ?_; refine gd_tt ?_)
    refine leq_i (fun h2 => ?_) (fun h2 => ?_) <;> (with_reducible repeat first|refine mv_i ?_|refine cnd_t ?_|refine cnd_f ?_|refine gd_tt ?_|refine gd_ff ?_|refine gd_tf ?_|refine gd_ft ?_|refine gd_u ?_|refine pick_t ?_|refine pick_f ?_|refine not_t ?_|refine not_f ?_|refine nil_i ?_|refine ret1 ?_|refine ret2 ?_|refine ret0 ?_|refine ret3 ?_|refine ex2_0 ?_|refine ex2_1 ?_|refine ex3_0 ?_|refine ex3_1 ?_|refine ex3_2 ?_) <;> exact ⟨by simp [inR, h1, h2], rfl⟩
  · with_reducible (refine mv_i ?_; refine gd_ft ?_; refine gd_ft ?_; refine gd_ft ?_; refine pick_f ?_; refine mv_i ?_; refine ret1 ?_) 
    exact ⟨by simp [inR, h1], rfl⟩

theorem c22 (n a b : Int) : Runs Try.prog 22 [.int .i64 n, .int .i64 a, .int .i64 b] h (.bool (inR n a b)) h := by
  refine DetP.runs (w22 ?_)
  unfold n22
  with_reducible (refine mv_i ?_; refine mv_i ?_; refine mv_i ?_)
  refine leq_i (fun h1 => ?_) (fun h1 => ?_)
  · with_reducible (refine mv_i ?_; refine gd_tt ?_; refine mv_i ?_; refine gd_tt ?_; refine mv_i ?_; refine gd_tt ?_)
    refine leq_i (fun h2 => ?_) (fun h2 => ?_) <;> (with_reducible repeat first|refine mv_i ?_|refine cnd_t ?_|refine cnd_f ?_|refine gd_tt ?_|refine gd_ff ?_|refine gd_tf ?_|refine gd_ft ?_|refine gd_u ?_|refine pick_t ?_|refine pick_f ?_|refine not_t ?_|refine not_f ?_|refine nil_i ?_|refine ret1 ?_|refine ret2 ?_|refine ret0 ?_|refine ret3 ?_|refine ex2_0 ?_|refine ex2_1 ?_|refine ex3_0 ?_|refine ex3_1 ?_|refine ex3_2 ?_) <;> exact ⟨by simp [inR, h1, h2], rfl⟩
  · with_reducible (refine mv_i ?_; refine gd_ft ?_; refine gd_ft ?_; refine gd_ft ?_; refine pick_f ?_; refine mv_i ?_; refine ret1 ?_) 
    exact ⟨by simp [inR, h1], rfl⟩

theorem c47 {a : Value} {xs : List Int} {n : Int} (s : IntS h a xs) : Runs Try.prog 47 [a, .int .i64 n] h (.bool (decide (n ∈ xs))) h := by
  have lt := s.lt
  refine DetP.runs (w47 ?_)
  unfold n47
  with_reducible (refine mv_i ?_; refine mv_i ?_)
  refine loop1 xs.length (fun k h2 => h2 = h ∧ ∀ j, j < k → xs.getD j 0 ≠ n) ⟨rfl, fun j hj => by omega⟩ ?_
  rintro k _ _ hk ⟨rfl, hJ⟩
  with_reducible (refine mv_i ?_; refine mv_i ?_)
  with_reducible (refine leni_i t23 (by assumption) ?_)
  refine lss_i (fun hlt => ?_) (fun hge => ?_)
  · with_reducible (refine cnd_t ?_; refine mv_i ?_; refine mv_i ?_)
    with_reducible (refine idxi_i t23 (by assumption) (by omega) ?_)
    with_reducible (refine ldi_i t23 r3 (by assumption) (by omega) ?_)
    with_reducible (refine mv_i ?_)
    refine eql_i (fun he => ?_) (fun he => ?_)
    · with_reducible (refine cnd_t ?_; refine mv_i ?_; refine ret1 ?_)
      refine ⟨?_, rfl⟩
      have : n ∈ xs := he ▸ gd_mem 0 (by omega)
      simp [this]
    · with_reducible (refine cnd_f ?_; refine mv_i ?_)
      refine inc_i (by omega) ?_
      with_reducible (refine mv_i ?_)
      refine next1 (by omega) ⟨rfl, fun j hj => ?_⟩
      by_cases e : j = k
      · subst e; exact he
      · exact hJ j (by omega)
  · with_reducible (refine cnd_f ?_; refine mv_i ?_; refine ret1 ?_)
    refine ⟨?_, rfl⟩
    have : ¬ n ∈ xs := by
      intro hm
      obtain ⟨j, hj, e⟩ := mem_gd 0 hm
      exact hJ j (by omega) e
    simp [this]

def tErrAt (xs : List Int) (i : Nat) : Option Int := if inR (xs.getD i 0) 0 11 = false then some 3 else if 0 < i ∧ xs.getD i 0 ≤ xs.getD (i - 1) 0 then some 14 else none

def tErr (xs : List Int) : Int := (firstOf (tErrAt xs) xs.length).getD 0

theorem tErr_none {xs : List Int} (hf : ∀ j, j < xs.length → tErrAt xs j = none) : tErr xs = 0 := by unfold tErr; rw [firstOf_none hf]; rfl

theorem tErr_some {xs : List Int} {k : Nat} {e : Int} (hf : ∀ j, j < k → tErrAt xs j = none) (hk : k < xs.length) (he : tErrAt xs k = some e) : tErr xs = e := by unfold tErr; rw [firstOf_some hf hk he]; rfl

def nz (e : Int) : Option Int := if e = 0 then none else some e

def orOf (es : List Int) : Int := (firstOf (fun i => nz (es.getD i 0)) es.length).getD 0

theorem c50 {a : Value} {xs : List Int} (s : IntS h a xs) : Runs Try.prog 50 [a] h (.int .i64 (orOf xs)) h := by
  have lt := s.lt
  refine DetP.runs (w50 ?_)
  unfold n50
  with_reducible (refine mv_i ?_; refine mv_i ?_; refine mv_i ?_)
  with_reducible (refine leni_i t94 (by assumption) ?_)
  with_reducible (refine mv_i ?_)
  refine loop1 xs.length (fun k h2 => h2 = h ∧ ∀ j, j < k → nz (xs.getD j 0) = none) ⟨rfl, fun j hj => by omega⟩ ?_
  rintro k _ _ hk ⟨rfl, hJ⟩
  skip
  refine lss_i (fun hlt => ?_) (fun hge => ?_)
  · with_reducible (refine cnd_t ?_)
    with_reducible (refine idxi_i t94 (by assumption) (by omega) ?_)
    with_reducible (refine ldi_i t94 r25 (by assumption) (by omega) ?_)
    with_reducible (refine mv_i ?_; refine mv_i ?_; refine mv_i ?_)
    refine neq_i (fun he => ?_) (fun he => ?_)
    · with_reducible (refine cnd_f ?_)
      refine inc_i (by omega) ?_
      with_reducible (refine mv_i ?_)
      refine next1 (by omega) ⟨rfl, fun j hj => ?_⟩
      by_cases q : j = k
      · subst q; unfold nz; rw [if_pos he]
      · exact hJ j (by omega)
    · with_reducible (refine cnd_t ?_; refine mv_i ?_; refine mv_i ?_; refine ret1 ?_)
      refine ⟨?_, rfl⟩
      unfold orOf
      rw [firstOf_some (f := fun i => nz (xs.getD i 0)) hJ (by omega) (by unfold nz; exact if_neg he)]
      rfl
  · with_reducible (refine cnd_f ?_; refine mv_i ?_; refine mv_i ?_; refine ret1 ?_)
    refine ⟨?_, rfl⟩
    unfold orOf
    rw [firstOf_none (f := fun i => nz (xs.getD i 0)) (fun j hj => hJ j (by omega))]
    rfl

theorem or2 (a b : Int) : orOf [a, b] = if a = 0 then b else a := by
  have e : List.range 2 = [0, 1] := rfl
  simp only [orOf, List.length_cons, List.length_nil, firstOf, nz]
  by_cases ha : a = 0 <;> by_cases hb : b = 0 <;> simp [ha, hb, e]

theorem or3 (a b c : Int) : orOf [a, b, c] = if a = 0 then (if b = 0 then c else b) else a := by
  have e : List.range 3 = [0, 1, 2] := rfl
  simp only [orOf, List.length_cons, List.length_nil, firstOf, nz]
  by_cases ha : a = 0 <;> by_cases hb : b = 0 <;> by_cases hc : c = 0 <;> simp [ha, hb, hc, e]

theorem bs94_2 (a b : Int) (h : Heap) : aBuildSlice Try.prog 132 2 [(0, .int .i64 a), (1, .int .i64 b)] h = some (.slice (some ⟨h.length, 0, none⟩) 2 3, newArr h [.int .i64 a, .int .i64 b] 1) := by kernel_rfl

theorem bs94_3 (a b c : Int) (h : Heap) : aBuildSlice Try.prog 132 3 [(0, .int .i64 a), (1, .int .i64 b), (2, .int .i64 c)] h = some (.slice (some ⟨h.length, 0, none⟩) 3 4, newArr h [.int .i64 a, .int .i64 b, .int .i64 c] 1) := by kernel_rfl

theorem bs23_1 (a : Int) (h : Heap) : aBuildSlice Try.prog 25 1 [(0, .int .i64 a)] h = some (.slice (some ⟨h.length, 0, none⟩) 1 2, newArr h [.int .i64 a] 1) := by kernel_rfl

theorem bs23_0 (h : Heap) : aBuildSlice Try.prog 25 0 [] h = some (.slice (some ⟨h.length, 0, none⟩) 0 1, newArr h [] 1) := by kernel_rfl

theorem bs22_1 (o : Option Addr) (l c : Nat) (h : Heap) : aBuildSlice Try.prog 45 1 [(0, .slice o l c)] h = some (.slice (some ⟨h.length, 0, none⟩) 1 2, newArr h [.slice o l c] 1) := by kernel_rfl

def rErr (xs : List Int) : Int := if xs.length = 0 then 1 else tErr xs

def rowAt (xss : List (List Int)) (i : Nat) : Option (Int × Int) := if rErr (xss.getD i []) = 0 then none else some ((i : Int), rErr (xss.getD i []))

def tabErr (xss : List (List Int)) : Int × Int := if 12 < xss.length then (0, 2) else (firstOf (rowAt xss) xss.length).getD (0, 0)

theorem tabErr_none {xss : List (List Int)} (hl : ¬ 12 < xss.length) (hf : ∀ j, j < xss.length → rowAt xss j = none) : tabErr xss = (0, 0) := by unfold tabErr; rw [if_neg hl, firstOf_none hf]; rfl

theorem tabErr_some {xss : List (List Int)} {k : Nat} {e : Int × Int} (hl : ¬ 12 < xss.length) (hf : ∀ j, j < k → rowAt xss j = none) (hk : k < xss.length) (he : rowAt xss k = some e) : tabErr xss = e := by unfold tabErr; rw [if_neg hl, firstOf_some hf hk he]; rfl

def pairV (p : Int × Int) : Value := .tuple #[.int .i64 p.1, .int .i64 p.2]

def ownV (h : Heap) (xs : List Int) : Value := if xs.length = 0 then .slice (some ⟨h.length, 0, none⟩) 0 1 else .slice (some ⟨h.length + 1, 0, none⟩) xs.length 0

def ownH (h : Heap) (xs : List Int) : Heap := if xs.length = 0 then newArr h [] 1 else newArr (newArr h [] 1) (xs.map (.int .i64)) 1

theorem ints_one (xs : List Int) : (xs.map (Value.int .i64)).all (·.oneCell') = true := by simp [Value.oneCell']

theorem ownV_slice (h : Heap) (xs : List Int) : ∃ o l c, ownV h xs = .slice o l c := by unfold ownV; split <;> exact ⟨_, _, _, rfl⟩

theorem ownH_pre (h : Heap) (xs : List Int) : h <+: ownH h xs := by
  unfold ownH
  split
  · exact pre_new _ _ _
  · exact (pre_new _ _ _).trans (pre_new _ _ _)

theorem own_only (h : Heap) {xs : List Int} (hb : xs.length ≤ 2 ^ 50) : Only h (ownH h xs) fun g => IntS g (ownV h xs) xs := by
  intro g hg
  unfold ownV
  by_cases h0 : xs.length = 0
  · rw [if_pos h0]
    refine ⟨⟨by simp, hb⟩, .inl ⟨some (h.length, 0), 1, by simp, fun p hp => ?_, h0⟩⟩
    cases hp
    have := hg h.length ⟨[], 1, false⟩ (Nat.le_refl _) (by unfold ownH; rw [if_pos h0]; exact newArr_get _ _ _)
    exact (List.getElem?_eq_some_iff.mp this).1
  · rw [if_neg h0]
    refine ⟨⟨by simp, hb⟩, .inr ⟨h.length + 1, 0, 0, ⟨xs.map (.int .i64), 1, false⟩, rfl, ?_, rfl, by simp, by rw [List.drop_zero, List.take_of_length_le (by simp)]⟩⟩
    refine hg _ _ (by omega) ?_
    unfold ownH
    rw [if_neg h0]
    have := newArr_get (newArr h [] 1) (xs.map (.int .i64)) 1
    rwa [newArr_length] at this

theorem c17 {a : Value} {xs : List Int} (s : IntS h a xs) (hb : xs.length ≤ 2 ^ 40) : Runs Try.prog 17 [a] h (ownV h xs) (ownH h xs) := by
  refine DetP.runs (w17 ?_)
  unfold n17
  with_reducible (refine mv_i ?_)
  refine ok_i (bs23_0 _) ?_
  with_reducible (refine mv_i ?_)
  have e := own_app t23 h.length (h := newArr h [] 1) (s.mono (Sub.of_pre (pre_new _ _ _))) (ints_one xs) ⟨by omega, by omega⟩
  by_cases h0 : xs.length = 0
  · rw [if_pos h0] at e
    refine ok_i e ?_
    with_reducible (refine mv_i ?_; refine ret1 ?_)
    unfold ownV ownH
    rw [if_pos h0, if_pos h0]
    exact ⟨rfl, rfl⟩
  · rw [if_neg h0] at e
    refine ok_i e ?_
    with_reducible (refine mv_i ?_; refine ret1 ?_)
    unfold ownV ownH
    rw [if_neg h0, if_neg h0, newArr_length]
    exact ⟨rfl, rfl⟩

def Few (xss : List (List Int)) : Prop := xss.length ≤ 2 ^ 40 ∧ ∀ xs ∈ xss, xs.length ≤ 2 ^ 40

def RowsK (g : Heap) (rs : List Value) (k : Nat) (xss : List (List Int)) : Prop := ∀ j, j < k → (rs.getD j undef).oneCell' = true ∧ IntS g (rs.getD j undef) (xss.getD j [])

theorem RowsK.mono {g g' : Heap} {rs : List Value} {k : Nat} {xss : List (List Int)} (r : RowsK g rs k xss) (hs : Sub g g') : RowsK g' rs k xss := fun j hj => ⟨(r j hj).1, (r j hj).2.mono hs⟩

theorem c30 {a : Value} {xss : List (List Int)} (s : RowsS h a xss) (hf : Few xss) : DetP Try.prog 30 [a] h fun v h' => h <+: h' ∧ RowsS h' v xss ∧ ∃ o l, v = .slice o l 0 := by
  have lt := s.lt
  refine w30 ?_
  unfold n30
  with_reducible (refine mv_i ?_; refine mv_i ?_; refine mv_i ?_)
  refine loop2 xss.length (fun k v h2 => ∃ rs, Own 1 h h2 v k rs ∧ RowsK (kill v h2) rs k xss) ⟨[], Own.nil 1 (List.prefix_refl _), fun j hj => by omega⟩ ?_
  rintro k v h2 _ hk ⟨rs, o, hr⟩
  have s2 := s.mono (Sub.of_pre o.pre)
  with_reducible (refine mv_i ?_; refine mv_i ?_)
  with_reducible (refine lenr_i t22 (by assumption) ?_)
  refine lss_i (fun hlt => ?_) (fun hge => ?_)
  · with_reducible (refine cnd_t ?_; refine mv_i ?_; refine mv_i ?_; refine mv_i ?_)
    refine idxr_i t22 s2 (by omega) ?_
    refine ldr_i t22 r23 s2 (by omega) fun r hrow => ?_
    have hrl : (xss.getD k []).length ≤ 2 ^ 40 := hf.2 _ (gd_mem [] (by omega))
    refine call_r (c17 hrow hrl) ?_
    obtain ⟨o3, sk3⟩ := o.ext (ownH_pre h2 (xss.getD k []))
    obtain ⟨p, l, c, ev⟩ := ownV_slice h2 (xss.getD k [])
    rw [ev]
    refine ok_i (bs22_1 p l c _) ?_
    obtain ⟨o4, sk4⟩ := o3.ext (pre_new (ownH h2 (xss.getD k [])) [.slice p l c] 1)
    refine app_i t22 o4 (Seg.new (n := 1) 2 (by simp) (by omega)) (by simp [Value.oneCell']) (by omega) ⟨by have := hf.1; omega, by have := hf.1; omega⟩ fun v' h' o5 sk5 => ?_
    with_reducible (refine mv_i ?_; refine mv_i ?_)
    refine inc_i (by omega) ?_
    with_reducible (refine mv_i ?_)
    refine next2 (by omega) ⟨_, o5, fun j hj => ?_⟩
    have hlen : rs.length = k := by have := o.1.1; omega
    by_cases q : j = k
    · subst q
      have e : (rs ++ [Value.slice p l c]).getD j undef = .slice p l c := by rw [getD_append_right (by omega), hlen, Nat.sub_self]; rfl
      rw [e]
      refine ⟨rfl, ?_⟩
      have := o.kill (own_only h2 (xs := xss.getD j []) (by omega))
      rw [ev] at this
      exact (this.mono sk4).mono sk5
    · rw [getD_append_left (by omega)]
      obtain ⟨q1, q2⟩ := hr j (by omega)
      exact ⟨q1, ((q2.mono sk3).mono sk4).mono sk5⟩
  · with_reducible (refine cnd_f ?_; refine mv_i ?_; refine mv_i ?_; refine ret1 ?_)
    refine ⟨o.pre, ⟨rs, ?_, ?_, ?_⟩, ?_⟩
    rotate_left 3
    · rcases o.2.2 with ⟨rfl, _⟩ | ⟨i, rfl, _⟩ <;> exact ⟨_, _, rfl⟩
    · have := o.1.1; omega
    · have e : k = xss.length := by omega
      subst e; exact o.seg
    · intro j hj
      exact ((hr j (by omega)).2).mono (kill_sub _ _)

def Tests (xs : List Int) : Prop := ∀ x ∈ xs, 0 ≤ x ∧ x ≤ 11

theorem Tests.lt {xs : List Int} (t : Tests xs) : bitsOf xs < 2 ^ 64 := bitsOf_lt fun x hx => by have := t x hx; omega

theorem Tests.take {xs : List Int} (t : Tests xs) (k : Nat) : Tests (xs.take k) := fun x hx => t x (List.mem_of_mem_take hx)

theorem words_one (ws : List Nat) : (ws.map fun n : Nat => Value.int .u64 (n : Int)).all (·.oneCell') = true := by simp [Value.oneCell']

def hits (row ts : List Int) : Bool := row.any fun x => decide (x ∈ ts)

def isChoice (xss : List (List Int)) (ts : List Int) : Bool := xss.all fun r => hits r ts

theorem c45 (b : Bool) : Runs Try.prog 45 [.bool b] h (.int .i64 (if b then 1 else 0)) h := by
  refine DetP.runs (w45 ?_)
  unfold n45
  cases b <;> (with_reducible repeat first|refine mv_i ?_|refine cnd_t ?_|refine cnd_f ?_|refine gd_tt ?_|refine gd_ff ?_|refine gd_tf ?_|refine gd_ft ?_|refine gd_u ?_|refine pick_t ?_|refine pick_f ?_|refine not_t ?_|refine not_f ?_|refine nil_i ?_|refine ret1 ?_|refine ret2 ?_|refine ret0 ?_|refine ret3 ?_|refine ex2_0 ?_|refine ex2_1 ?_|refine ex3_0 ?_|refine ex3_1 ?_|refine ex3_2 ?_) <;> exact ⟨rfl, rfl⟩

theorem c23 {a b : Value} {xs ys : List Int} (s : IntS h a xs) (s2 : IntS h b ys) : Runs Try.prog 23 [a, b] h (.bool (decide (xs = ys))) h := by
  have lt := s.lt
  have lt2 := s2.lt
  refine DetP.runs (w23 ?_)
  unfold n23
  with_reducible (refine mv_i ?_; refine mv_i ?_)
  refine leni_i t23 s ?_
  with_reducible (refine mv_i ?_)
  refine leni_i t23 s2 ?_
  refine neq_i (fun hl => ?_) (fun hl => ?_)
  · with_reducible (refine cnd_f ?_; refine mv_i ?_)
    refine loop1 xs.length (fun k h2 => h2 = h ∧ ∀ j, j < k → xs.getD j 0 = ys.getD j 0) ⟨rfl, fun j hj => by omega⟩ ?_
    rintro k _ _ hk ⟨rfl, hJ⟩
    with_reducible (refine mv_i ?_; refine mv_i ?_)
    refine leni_i t23 s ?_
    refine lss_i (fun hlt => ?_) (fun hge => ?_)
    · with_reducible (refine cnd_t ?_; refine mv_i ?_; refine mv_i ?_)
      refine idxi_i t23 s (by omega) ?_
      refine ldi_i t23 r3 s (by omega) ?_
      refine ⟨trivial, ?_⟩
      with_reducible (refine mv_i ?_; refine mv_i ?_)
      refine idxi_i (k := k) t23 s2 (by omega) ?_
      refine ldi_i (k := k) t23 r3 s2 (by omega) ?_
      refine ⟨trivial, ?_⟩
      refine neq_i (fun he => ?_) (fun he => ?_)
      · with_reducible (refine cnd_f ?_; refine mv_i ?_)
        refine inc_i (by omega) ?_
        with_reducible (refine mv_i ?_)
        refine next1 (by omega) ⟨rfl, fun j hj => ?_⟩
        by_cases q : j = k
        · subst q; exact he
        · exact hJ j (by omega)
      · with_reducible (refine cnd_t ?_; refine mv_i ?_; refine ret1 ?_)
        refine ⟨?_, rfl⟩
        have : ¬ xs = ys := fun e => he (by rw [e])
        simp [this]
    · with_reducible (refine cnd_f ?_; refine mv_i ?_; refine ret1 ?_)
      refine ⟨?_, rfl⟩
      have : xs = ys := by
        refine List.ext_getElem (by omega) fun j h1 h2 => ?_
        have := hJ j (by omega)
        rw [gd_at 0 h1, gd_at 0 h2] at this
        exact this
      simp [this]
  · with_reducible (refine cnd_t ?_; refine mv_i ?_; refine ret1 ?_)
    refine ⟨?_, rfl⟩
    have : ¬ xs = ys := fun e => hl (by rw [e])
    simp [this]

theorem t34 : sliceT Try.prog 22 76 4 32 = true := by kernel_rfl

theorem r34 : isPlain Try.prog 22 = true := by kernel_rfl

theorem st63 : rowT4 Try.prog 76 3 = true := by kernel_rfl

def dst : St := ⟨0, 0, 0, 0⟩

theorem fa36_0 (i : Nat) : aFieldAddr Try.prog 24 (.pointer (some ⟨i, 0, none⟩)) 0 = some (.pointer (some ⟨i, 0, none⟩)) := by kernel_rfl

theorem fa36_1 (i : Nat) : aFieldAddr Try.prog 24 (.pointer (some ⟨i, 0, none⟩)) 1 = some (.pointer (some ⟨i, 1, none⟩)) := by kernel_rfl

theorem fa36_2 (i : Nat) : aFieldAddr Try.prog 24 (.pointer (some ⟨i, 0, none⟩)) 2 = some (.pointer (some ⟨i, 2, none⟩)) := by kernel_rfl

theorem fa36_3 (i : Nat) : aFieldAddr Try.prog 24 (.pointer (some ⟨i, 0, none⟩)) 3 = some (.pointer (some ⟨i, 3, none⟩)) := by kernel_rfl

theorem fa36_4 (i : Nat) : aFieldAddr Try.prog 24 (.pointer (some ⟨i, 0, none⟩)) 4 = some (.pointer (some ⟨i, 4, none⟩)) := by kernel_rfl

theorem fa63_0 (i : Nat) : aFieldAddr Try.prog 76 (.pointer (some ⟨i, 0, none⟩)) 0 = some (.pointer (some ⟨i, 0, none⟩)) := by kernel_rfl

theorem fa63_1 (i : Nat) : aFieldAddr Try.prog 76 (.pointer (some ⟨i, 0, none⟩)) 1 = some (.pointer (some ⟨i, 1, none⟩)) := by kernel_rfl

theorem fa63_2 (i : Nat) : aFieldAddr Try.prog 76 (.pointer (some ⟨i, 0, none⟩)) 2 = some (.pointer (some ⟨i, 2, none⟩)) := by kernel_rfl

theorem fa63_3 (i : Nat) : aFieldAddr Try.prog 76 (.pointer (some ⟨i, 0, none⟩)) 3 = some (.pointer (some ⟨i, 3, none⟩)) := by kernel_rfl

theorem vbi (n : Nat) (z : Int) : VB n (.int .i64 z) := trivial

theorem box36 (a b c d e : Value) (h : Heap) : aBox Try.prog 24 (.agg #[a, b, c, d, e]) h = (.pointer (some ⟨h.length, 0, none⟩), newArr h [a, b, c, d, e] 5) := by kernel_rfl

theorem box3 (a : Int) (h : Heap) : aBox Try.prog 3 (.int .i64 a) h = (.pointer (some ⟨h.length, 0, none⟩), newArr h [.int .i64 a] 1) := by kernel_rfl

theorem al63 (h : Heap) : aAlloc Try.prog 76 h = some (.pointer (some ⟨h.length, 0, none⟩), newArr h [.int .i64 0, .int .i64 0, .int .i64 0, .int .i64 0] 4) := by kernel_rfl

theorem row36 : (match Try.prog.underlying 24 with | some d => d.isRow | none => false) = true := by kernel_rfl

theorem sz36 : szOf Try.prog 24 = some 5 := by kernel_rfl

theorem sz63 : szOf Try.prog 76 = some 4 := by kernel_rfl

theorem ld36 {i : Nat} {a b c d e : Value} (hi : h[i]? = some (.arr ⟨[a, b, c, d, e], 5, false⟩)) : aLoad Try.prog 24 (.pointer (some ⟨i, 0, none⟩)) h = some (.agg #[a, b, c, d, e]) := by
  have hr := row36
  split at hr
  · rename_i dd hd
    simp only [aLoad, hi, hd, sz36]
    rw [if_pos hr, if_pos (by simp)]
    rfl
  · cases hr

theorem sto63 (g : Heap) (s : St) : aStore Try.prog 76 (.pointer (some ⟨g.length, 0, none⟩)) (.agg s.cells.toArray) (newArr g [.int .i64 0, .int .i64 0, .int .i64 0, .int .i64 0] 4) = some (newArr g s.cells 4) := by
  simp only [aStore, newArr_get, sz63]
  rw [if_pos (by simp [Value.cells, St.cells, Value.oneCell'])]
  congr 1
  simp only [newArr]
  rw [List.set_append_right _ _ (Nat.le_refl _), Nat.sub_self]
  rfl

theorem c107 (n a b : Int) : Runs Try.prog 107 [.int .i64 n, .int .i64 a, .int .i64 b] h (.bool (inR n a b)) h := by
  refine DetP.runs (w107 ?_)
  unfold n107
  with_reducible (refine mv_i ?_; refine mv_i ?_; refine mv_i ?_)
  refine leq_i (fun h1 => ?_) (fun h1 => ?_)
  · with_reducible (refine mv_i ?_; refine gd_tt ?_; refine mv_i ?_; refine gd_tt ?_; refine mv_i ?_; refine gd_tt ?_)
    refine leq_i (fun h2 => ?_) (fun h2 => ?_) <;> (with_reducible repeat first|refine mv_i ?_|refine cnd_t ?_|refine cnd_f ?_|refine gd_tt ?_|refine gd_ff ?_|refine gd_tf ?_|refine gd_ft ?_|refine gd_u ?_|refine pick_t ?_|refine pick_f ?_|refine not_t ?_|refine not_f ?_|refine nil_i ?_|refine ret1 ?_|refine ret2 ?_|refine ret0 ?_|refine ret3 ?_|refine ex2_0 ?_|refine ex2_1 ?_|refine ex3_0 ?_|refine ex3_1 ?_|refine ex3_2 ?_) <;> exact ⟨by simp [inR, h1, h2], rfl⟩
  · with_reducible (refine mv_i ?_; refine gd_ft ?_; refine gd_ft ?_; refine gd_ft ?_; refine pick_f ?_; refine mv_i ?_; refine ret1 ?_) 
    exact ⟨by simp [inR, h1], rfl⟩

theorem c108 (n : Int) : Runs Try.prog 108 [.int .i64 n] h (.bool false) h := by
  refine DetP.runs (w108 ?_)
  unfold n108
  with_reducible (refine mv_i ?_; refine mv_i ?_; refine mv_i ?_)
  refine neq_i (fun _ => ?_) (fun hne => absurd rfl hne)
  with_reducible (refine mv_i ?_; refine ret1 ?_)
  exact ⟨rfl, rfl⟩

def cmpI (a b : Int) : Int := if a < b then -1 else if b < a then 1 else 0

theorem c94 (a b : Int) : Runs Try.prog 94 [.int .i64 a, .int .i64 b] h (.int .i64 (cmpI a b)) h := by
  refine DetP.runs (w94 ?_)
  unfold n94
  with_reducible (refine mv_i ?_; refine mv_i ?_)
  refine call_r (c108 a) ?_
  with_reducible (refine mv_i ?_; refine mv_i ?_)
  refine call_r (c108 b) ?_
  with_reducible (refine mv_i ?_; refine mv_i ?_; refine cnd_f ?_; refine mv_i ?_; refine cnd_f ?_; refine mv_i ?_; refine mv_i ?_)
  refine lss_i (fun h1 => ?_) (fun h1 => ?_)
  · with_reducible (refine cnd_t ?_; refine mv_i ?_; refine ret1 ?_)
    exact ⟨by unfold cmpI; rw [if_pos h1], rfl⟩
  · with_reducible (refine cnd_f ?_; refine mv_i ?_; refine mv_i ?_)
    refine gtr_i (fun h2 => ?_) (fun h2 => ?_)
    · with_reducible (refine cnd_t ?_; refine mv_i ?_; refine ret1 ?_)
      exact ⟨by unfold cmpI; rw [if_neg h1, if_pos h2], rfl⟩
    · with_reducible (refine cnd_f ?_; refine mv_i ?_; refine ret1 ?_)
      exact ⟨by unfold cmpI; rw [if_neg h1, if_neg h2], rfl⟩

theorem c93 {a : Value} {xs : List Int} (s : IntS h a xs) : Runs Try.prog 93 [a] h (.int .i64 (orOf xs)) h := by
  have lt := s.lt
  refine DetP.runs (w93 ?_)
  unfold n93
  with_reducible (refine mv_i ?_; refine mv_i ?_; refine mv_i ?_)
  with_reducible (refine leni_i t23 (by assumption) ?_)
  with_reducible (refine mv_i ?_)
  refine loop1 xs.length (fun k h2 => h2 = h ∧ ∀ j, j < k → nz (xs.getD j 0) = none) ⟨rfl, fun j hj => by omega⟩ ?_
  rintro k _ _ hk ⟨rfl, hJ⟩
  skip
  refine lss_i (fun hlt => ?_) (fun hge => ?_)
  · with_reducible (refine cnd_t ?_)
    with_reducible (refine idxi_i t23 (by assumption) (by omega) ?_)
    with_reducible (refine ldi_i t23 r3 (by assumption) (by omega) ?_)
    with_reducible (refine mv_i ?_; refine mv_i ?_; refine mv_i ?_)
    refine neq_i (fun he => ?_) (fun he => ?_)
    · with_reducible (refine cnd_f ?_)
      refine inc_i (by omega) ?_
      with_reducible (refine mv_i ?_)
      refine next1 (by omega) ⟨rfl, fun j hj => ?_⟩
      by_cases q : j = k
      · subst q; unfold nz; rw [if_pos he]
      · exact hJ j (by omega)
    · with_reducible (refine cnd_t ?_; refine mv_i ?_; refine mv_i ?_; refine ret1 ?_)
      refine ⟨?_, rfl⟩
      unfold orOf
      rw [firstOf_some (f := fun i => nz (xs.getD i 0)) hJ (by omega) (by unfold nz; exact if_neg he)]
      rfl
  · with_reducible (refine cnd_f ?_; refine mv_i ?_; refine mv_i ?_; refine ret1 ?_)
    refine ⟨?_, rfl⟩
    unfold orOf
    rw [firstOf_none (f := fun i => nz (xs.getD i 0)) (fun j hj => hJ j (by omega))]
    rfl

theorem bs23_2 (a b : Int) (h : Heap) : aBuildSlice Try.prog 25 2 [(0, .int .i64 a), (1, .int .i64 b)] h = some (.slice (some ⟨h.length, 0, none⟩) 2 3, newArr h [.int .i64 a, .int .i64 b] 1) := by kernel_rfl

def okSt (m : Mac) (s : St) : Bool := inR s.fr 0 (m.states - 1) && inR s.to 0 (m.states - 1) && inR s.inp 0 (m.inputs - 1) && inR s.out 0 (m.outputs - 1)

def ltKey (a b : St) : Bool := decide (a.fr < b.fr ∨ a.fr = b.fr ∧ a.inp < b.inp)

def mAt (m : Mac) (i : Nat) : Option (Int × Int) :=
  if okSt m (m.steps.getD i dst) = false then some ((i : Int), 3) else if 0 < i ∧ ltKey (m.steps.getD (i - 1) dst) (m.steps.getD i dst) = false then some ((i : Int), 14) else none

def mHead (m : Mac) : Bool := inR m.states 1 40 && inR m.inputs 1 8 && inR m.outputs 1 8 && inR m.start 0 (m.states - 1)

def mErr (m : Mac) : Int × Int := if mHead m = false then (0, 3) else if m.states * m.inputs < m.steps.length then (0, 2) else (firstOf (mAt m) m.steps.length).getD (0, 0)

theorem mErr_none {m : Mac} (h1 : mHead m = true) (h2 : ¬ m.states * m.inputs < m.steps.length) (hf : ∀ j, j < m.steps.length → mAt m j = none) : mErr m = (0, 0) := by
  unfold mErr; rw [if_neg (by rw [h1]; simp), if_neg h2, firstOf_none hf]; rfl

theorem mErr_some {m : Mac} {k : Nat} {e : Int × Int} (h1 : mHead m = true) (h2 : ¬ m.states * m.inputs < m.steps.length) (hf : ∀ j, j < k → mAt m j = none) (hk : k < m.steps.length) (he : mAt m k = some e) : mErr m = e := by
  unfold mErr; rw [if_neg (by rw [h1]; simp), if_neg h2, firstOf_some hf hk he]; rfl

theorem cmp_key (a b : St) : (0 ≤ orOf [cmpI a.fr b.fr, cmpI a.inp b.inp]) ↔ ltKey a b = false := by
  rw [or2]
  unfold ltKey cmpI
  rw [decide_eq_false_iff_not]
  by_cases h1 : a.fr < b.fr
  · rw [if_pos h1]; simp [h1]
  · rw [if_neg h1]
    by_cases h2 : b.fr < a.fr
    · rw [if_pos h2]; simp; omega
    · rw [if_neg h2]
      simp only [if_true]
      by_cases h3 : a.inp < b.inp
      · rw [if_pos h3]; simp; omega
      · rw [if_neg h3]
        by_cases h4 : b.inp < a.inp
        · rw [if_pos h4]; simp; omega
        · rw [if_neg h4]; simp; omega

theorem mul_b {a b : Int} (ha : inR a 1 40 = true) (hb : inR b 1 8 = true) : 1 ≤ a * b ∧ a * b ≤ 320 := by
  simp [inR] at ha hb
  constructor
  · have := Int.mul_le_mul ha.1 hb.1 (by omega) (by omega); simpa using this
  · have := Int.mul_le_mul ha.2 hb.2 (by omega) (by omega); simpa using this

theorem mul_i {t : TypeId} {a b : Int} {K : Value → Heap → Prop} (hx : R64 (a * b)) (hk : K (.int .i64 (a * b)) h) : vK (aBin Try.prog .mul t (.int .i64 a) (.int .i64 b)) h K :=
  vk_i (v := .int .i64 (a * b)) (by simp [aBin, aInt, wrap_i64 hx]) hk

theorem c87 {a : Value} {m : Mac} (s : MacV h a m) : Runs Try.prog 87 [a] h (pairV (mErr m)) h := by
  refine DetP.forget rfl ?_
  refine w87 ?_
  unfold n87
  obtain ⟨o, l, c, rfl, ss⟩ := s
  have lt := ss.lt
  rw [box36]
  refine ok_i rfl ?_
  have p1 := pre_new h [.int .i64 m.states, .int .i64 m.inputs, .int .i64 m.outputs, .int .i64 m.start, .slice o l c] 5
  have hb1 := newArr_get h [.int .i64 m.states, .int .i64 m.inputs, .int .i64 m.outputs, .int .i64 m.start, .slice o l c] 5
  have hbad : mHead m = false → pairV (mErr m) = .tuple #[.int .i64 0, .int .i64 3] := fun e => by unfold mErr; rw [if_pos e]; rfl
  generalize hg1 : newArr h [.int .i64 m.states, .int .i64 m.inputs, .int .i64 m.outputs, .int .i64 m.start, .slice o l c] 5 = g1 at p1 hb1 ⊢
  with_reducible (refine mv_i ?_; refine mv_i ?_; refine vk_i (fa36_0 _) ?_; refine ld5_0 r3 (by assumption) ?_)
  refine call_r (c107 _ _ _) ?_
  cases e1 : inR m.states 1 40 with
  | false => 
    with_reducible (refine not_f ?_; refine mv_i ?_; refine gd_tf ?_; refine gd_tf ?_; refine gd_tf ?_; refine gd_tf ?_; refine pick_t ?_; refine mv_i ?_; refine gd_tf ?_; refine gd_tf ?_; refine gd_tf ?_; refine gd_tf ?_; refine pick_t ?_; refine mv_i ?_; refine gd_tf ?_; refine gd_tf ?_; refine gd_tf ?_; refine gd_tf ?_; refine gd_tf ?_; refine gd_tf ?_; refine gd_tf ?_; refine pick_t ?_; refine cnd_t ?_; refine mv_i ?_; refine mv_i ?_; refine ret2 ?_)
    exact ⟨(hbad (by simp [mHead, e1])).symm, p1⟩
  | true =>
    have f1 : 1 ≤ m.states ∧ m.states ≤ 40 := by simpa [inR] using e1
    with_reducible (refine not_t ?_; refine mv_i ?_; refine gd_ff ?_; refine vk_i (fa36_1 _) ?_; refine gd_ff ?_; refine ld5_1 r3 (by assumption) ?_; refine gd_ff ?_)
    refine call_r (c107 _ _ _) ?_
    cases e2 : inR m.inputs 1 8 with
    | false => 
      with_reducible (refine gd_ff ?_; refine not_f ?_; refine pick_f ?_; refine mv_i ?_; refine gd_tf ?_; refine gd_tf ?_; refine gd_tf ?_; refine gd_tf ?_; refine pick_t ?_; refine mv_i ?_; refine gd_tf ?_; refine gd_tf ?_; refine gd_tf ?_; refine gd_tf ?_; refine gd_tf ?_; refine gd_tf ?_; refine gd_tf ?_; refine pick_t ?_; refine cnd_t ?_; refine mv_i ?_; refine mv_i ?_; refine ret2 ?_)
      exact ⟨(hbad (by simp [mHead, e1, e2])).symm, p1⟩
    | true =>
      have f2 : 1 ≤ m.inputs ∧ m.inputs ≤ 8 := by simpa [inR] using e2
      with_reducible (refine gd_ff ?_; refine not_t ?_; refine pick_f ?_; refine mv_i ?_; refine gd_ff ?_; refine vk_i (fa36_2 _) ?_; refine gd_ff ?_; refine ld5_2 r3 (by assumption) ?_; refine gd_ff ?_)
      refine call_r (c107 _ _ _) ?_
      cases e3 : inR m.outputs 1 8 with
      | false => 
        with_reducible (refine gd_ff ?_; refine not_f ?_; refine pick_f ?_; refine mv_i ?_; refine gd_tf ?_; refine gd_tf ?_; refine gd_tf ?_; refine gd_tf ?_; refine gd_tf ?_; refine gd_tf ?_; refine gd_tf ?_; refine pick_t ?_; refine cnd_t ?_; refine mv_i ?_; refine mv_i ?_; refine ret2 ?_)
        exact ⟨(hbad (by simp [mHead, e1, e2, e3])).symm, p1⟩
      | true =>
        have f3 : 1 ≤ m.outputs ∧ m.outputs ≤ 8 := by simpa [inR] using e3
        with_reducible (refine gd_ff ?_; refine not_t ?_; refine pick_f ?_; refine mv_i ?_; refine gd_ff ?_; refine vk_i (fa36_3 _) ?_; refine gd_ff ?_; refine ld5_3 r3 (by assumption) ?_; refine gd_ff ?_; refine vk_i (fa36_0 _) ?_; refine gd_ff ?_; refine ld5_0 r3 (by assumption) ?_; refine gd_ff ?_)
        refine sub_i ⟨by omega, by omega⟩ ?_
        with_reducible (refine gd_ff ?_)
        refine call_r (c107 _ _ _) ?_
        cases e4 : inR m.start 0 (m.states - 1) with
        | false => 
          with_reducible (refine gd_ff ?_; refine not_f ?_; refine pick_f ?_; refine cnd_t ?_; refine mv_i ?_; refine mv_i ?_; refine ret2 ?_)
          exact ⟨(hbad (by simp [mHead, e1, e2, e3, e4])).symm, p1⟩
        | true =>
          have hhead : mHead m = true := by simp [mHead, e1, e2, e3, e4]
          have hmb := mul_b e1 e2
          have ss1 := ss.mono (Sub.of_pre p1)
          with_reducible (refine gd_ff ?_; refine not_t ?_; refine pick_f ?_; refine cnd_f ?_; refine vk_i (fa36_4 _) ?_; refine ld5_4 r34 (by assumption) ?_)
          refine len_i t34 ss1 ?_
          with_reducible (refine vk_i (fa36_0 _) ?_; refine ld5_0 r3 (by assumption) ?_; refine vk_i (fa36_1 _) ?_; refine ld5_1 r3 (by assumption) ?_)
          refine mul_i ⟨by omega, by omega⟩ ?_
          refine gtr_i (fun hgt => ?_) (fun hgt => ?_)
          · with_reducible (refine cnd_t ?_; refine mv_i ?_; refine mv_i ?_; refine ret2 ?_)
            exact ⟨by unfold mErr; rw [if_neg (by rw [hhead]; simp), if_pos hgt]; rfl, p1⟩
          · with_reducible (refine cnd_f ?_; refine vk_i (fa36_4 _) ?_; refine ld5_4 r34 (by assumption) ?_)
            refine len_i t34 ss1 ?_
            with_reducible (refine mv_i ?_)
            refine loop1 m.steps.length (fun k h2 => g1 <+: h2 ∧ ∀ j, j < k → mAt m j = none) ⟨List.prefix_refl _, fun j hj => by omega⟩ ?_
            rintro k h2 _ hk ⟨p2, hJ⟩
            have ss2 := ss1.mono (Sub.of_pre p2)
            skip
            refine lss_i (fun hlt => ?_) (fun hge => ?_)
            · have hk2 : k < m.steps.length := by omega
              with_reducible (refine cnd_t ?_; refine mv_i ?_)
              refine idx_i (k := k) t34 ss2 hk2 ?_
              refine ldst_i st63 ss2 hk2 dst ?_
              refine ok_i (al63 _) ?_
              with_reducible (refine mv_i ?_)
              refine ok_i (v := undef) (h' := newArr h2 (m.steps.getD k dst).cells 4) (by rw [sto63]; rfl) ?_
              have p3 := pre_new h2 (m.steps.getD k dst).cells 4
              have hb3 := (Sub.of_pre p3).2 _ _ ((Sub.of_pre p2).2 _ _ hb1)
              have ss3 := ss2.mono (Sub.of_pre p3)
              have p03 := (p1.trans p2).trans p3
              have nextJ : mAt m k = none → ∀ j, j < k + 1 → mAt m j = none := fun e j hj => by
                by_cases q : j = k
                · subst q; exact e
                · exact hJ j (by omega)
              have hs3 : (newArr h2 (m.steps.getD k dst).cells 4)[h2.length]? = some (.arr ⟨[.int .i64 (m.steps.getD k dst).fr, .int .i64 (m.steps.getD k dst).inp, .int .i64 (m.steps.getD k dst).out, .int .i64 (m.steps.getD k dst).to], 4, false⟩) := newArr_get _ _ _
              generalize newArr h2 (m.steps.getD k dst).cells 4 = h3 at p3 hs3 hb3 ss3 p03 ⊢
              generalize hsk : m.steps.getD k dst = sk at hs3 ⊢
              have hret : okSt m sk = false → pairV (mErr m) = .tuple #[.int .i64 (k : Int), .int .i64 3] := fun e => by
                rw [mErr_some hhead hgt hJ hk2 (e := ((k : Int), 3)) (by unfold mAt; rw [hsk, if_pos e])]; rfl
              with_reducible (refine vk_i (fa63_0 _) ?_; refine ld4_0 r3 (by assumption) ?_; refine vk_i (fa36_0 _) ?_; refine ld5_0 r3 (by assumption) ?_)
              refine sub_i ⟨by omega, by omega⟩ ?_
              refine call_r (c107 _ _ _) ?_
              cases q1 : inR sk.fr 0 (m.states - 1) with
              | false => 
                with_reducible (refine not_f ?_; refine mv_i ?_; refine gd_tf ?_; refine gd_tf ?_; refine gd_tf ?_; refine gd_tf ?_; refine gd_tf ?_; refine gd_tf ?_; refine gd_tf ?_; refine pick_t ?_; refine mv_i ?_; refine gd_tf ?_; refine gd_tf ?_; refine gd_tf ?_; refine gd_tf ?_; refine gd_tf ?_; refine gd_tf ?_; refine gd_tf ?_; refine pick_t ?_; refine mv_i ?_; refine gd_tf ?_; refine gd_tf ?_; refine gd_tf ?_; refine gd_tf ?_; refine gd_tf ?_; refine gd_tf ?_; refine gd_tf ?_; refine pick_t ?_; refine cnd_t ?_; refine mv_i ?_; refine mv_i ?_; refine mv_i ?_; refine ret2 ?_)
                exact ⟨(hret (by simp [okSt, q1])).symm, p03⟩
              | true =>
                with_reducible (refine not_t ?_; refine mv_i ?_; refine gd_ff ?_; refine vk_i (fa63_3 _) ?_; refine gd_ff ?_; refine ld4_3 r3 (by assumption) ?_; refine gd_ff ?_; refine vk_i (fa36_0 _) ?_; refine gd_ff ?_; refine ld5_0 r3 (by assumption) ?_; refine gd_ff ?_)
                refine sub_i ⟨by omega, by omega⟩ ?_
                with_reducible (refine gd_ff ?_)
                refine call_r (c107 _ _ _) ?_
                cases q2 : inR sk.to 0 (m.states - 1) with
                | false => 
                  with_reducible (refine gd_ff ?_; refine not_f ?_; refine pick_f ?_; refine mv_i ?_; refine gd_tf ?_; refine gd_tf ?_; refine gd_tf ?_; refine gd_tf ?_; refine gd_tf ?_; refine gd_tf ?_; refine gd_tf ?_; refine pick_t ?_; refine mv_i ?_; refine gd_tf ?_; refine gd_tf ?_; refine gd_tf ?_; refine gd_tf ?_; refine gd_tf ?_; refine gd_tf ?_; refine gd_tf ?_; refine pick_t ?_; refine cnd_t ?_; refine mv_i ?_; refine mv_i ?_; refine mv_i ?_; refine ret2 ?_)
                  exact ⟨(hret (by simp [okSt, q1, q2])).symm, p03⟩
                | true =>
                  with_reducible (refine gd_ff ?_; refine not_t ?_; refine pick_f ?_; refine mv_i ?_; refine gd_ff ?_; refine vk_i (fa63_1 _) ?_; refine gd_ff ?_; refine ld4_1 r3 (by assumption) ?_; refine gd_ff ?_; refine vk_i (fa36_1 _) ?_; refine gd_ff ?_; refine ld5_1 r3 (by assumption) ?_; refine gd_ff ?_)
                  refine sub_i ⟨by omega, by omega⟩ ?_
                  with_reducible (refine gd_ff ?_)
                  refine call_r (c107 _ _ _) ?_
                  cases q3 : inR sk.inp 0 (m.inputs - 1) with
                  | false => 
                    with_reducible (refine gd_ff ?_; refine not_f ?_; refine pick_f ?_; refine mv_i ?_; refine gd_tf ?_; refine gd_tf ?_; refine gd_tf ?_; refine gd_tf ?_; refine gd_tf ?_; refine gd_tf ?_; refine gd_tf ?_; refine pick_t ?_; refine cnd_t ?_; refine mv_i ?_; refine mv_i ?_; refine mv_i ?_; refine ret2 ?_)
                    exact ⟨(hret (by simp [okSt, q1, q2, q3])).symm, p03⟩
                  | true =>
                    with_reducible (refine gd_ff ?_; refine not_t ?_; refine pick_f ?_; refine mv_i ?_; refine gd_ff ?_; refine vk_i (fa63_2 _) ?_; refine gd_ff ?_; refine ld4_2 r3 (by assumption) ?_; refine gd_ff ?_; refine vk_i (fa36_2 _) ?_; refine gd_ff ?_; refine ld5_2 r3 (by assumption) ?_; refine gd_ff ?_)
                    refine sub_i ⟨by omega, by omega⟩ ?_
                    with_reducible (refine gd_ff ?_)
                    refine call_r (c107 _ _ _) ?_
                    cases q4 : inR sk.out 0 (m.outputs - 1) with
                    | false => 
                      with_reducible (refine gd_ff ?_; refine not_f ?_; refine pick_f ?_; refine cnd_t ?_; refine mv_i ?_; refine mv_i ?_; refine mv_i ?_; refine ret2 ?_)
                      exact ⟨(hret (by simp [okSt, q1, q2, q3, q4])).symm, p03⟩
                    | true =>
                      have hok : okSt m sk = true := by simp [okSt, q1, q2, q3, q4]
                      with_reducible (refine gd_ff ?_; refine not_t ?_; refine pick_f ?_; refine cnd_f ?_; refine mv_i ?_)
                      refine gtr_i (fun h0 => ?_) (fun h0 => ?_)
                      · have hpk : k - 1 < m.steps.length := by omega
                        with_reducible (refine mv_i ?_; refine gd_tt ?_; refine vk_i (fa36_4 _) ?_; refine gd_tt ?_; refine ld5_4 r34 (by assumption) ?_)
                        refine ⟨seg_vb ss3, ?_⟩
                        with_reducible (refine gd_tt ?_; refine mv_i ?_; refine gd_tt ?_)
                        refine sub_i ⟨by omega, by omega⟩ ?_
                        rw [show (k : Int) - 1 = ((k - 1 : Nat) : Int) by omega]
                        with_reducible (refine gd_tt ?_)
                        refine idx_i (k := k - 1) t34 ss3 hpk ?_
                        with_reducible (refine gd_tt ?_; refine fae_i st63 (by assumption) (by omega) (by omega) ?_; refine gd_tt ?_; refine ldf_i st63 (by assumption) (by omega) (by omega) dst ?_; refine ⟨vbi _ _, ?_⟩; refine gd_tt ?_; refine vk_i (fa63_0 _) ?_; refine gd_tt ?_; refine ld4_0 r3 (by assumption) ?_; refine ⟨vbi _ _, ?_⟩; refine gd_tt ?_)
                        refine calld_r (c94 _ _) ⟨⟨[], by simp⟩, ?_⟩
                        with_reducible (refine gd_tt ?_; refine vk_i (fa36_4 _) ?_; refine gd_tt ?_; refine ld5_4 r34 (by assumption) ?_)
                        refine ⟨seg_vb ss3, ?_⟩
                        with_reducible (refine gd_tt ?_; refine mv_i ?_; refine gd_tt ?_)
                        refine sub_i ⟨by omega, by omega⟩ ?_
                        rw [show (k : Int) - 1 = ((k - 1 : Nat) : Int) by omega]
                        with_reducible (refine gd_tt ?_)
                        refine idx_i (k := k - 1) t34 ss3 hpk ?_
                        with_reducible (refine gd_tt ?_; refine fae_i st63 (by assumption) (by omega) (by omega) ?_; refine gd_tt ?_; refine ldf_i st63 (by assumption) (by omega) (by omega) dst ?_; refine ⟨vbi _ _, ?_⟩; refine gd_tt ?_; refine vk_i (fa63_1 _) ?_; refine gd_tt ?_; refine ld4_1 r3 (by assumption) ?_; refine ⟨vbi _ _, ?_⟩; refine gd_tt ?_)
                        refine calld_r (c94 _ _) ⟨⟨[], by simp⟩, ?_⟩
                        with_reducible (refine gd_tt ?_)
                        refine ok_i (bs23_2 _ _ _) ?_
                        with_reducible (refine gd_tt ?_)
                        have p4 := p03.trans (pre_new h3 [.int .i64 (cmpI (St.get (m.steps.getD (k - 1) dst) 0) sk.fr), .int .i64 (cmpI (St.get (m.steps.getD (k - 1) dst) 1) sk.inp)] 1)
                        refine calld_r (c93 (xs := [_, _]) (Seg.new 3 (by rfl) (by simp))) ⟨⟨[], by simp⟩, ?_⟩
                        with_reducible (refine gd_tt ?_)
                        have hck := cmp_key (m.steps.getD (k - 1) dst) sk
                        refine geq_i (fun hc => ?_) (fun hc => ?_)
                        · with_reducible (refine pick_t ?_; refine cnd_t ?_; refine mv_i ?_; refine mv_i ?_; refine mv_i ?_; refine ret2 ?_)
                          refine ⟨?_, p4⟩
                          rw [mErr_some hhead hgt hJ hk2 (e := ((k : Int), 14)) (by unfold mAt; rw [hsk, if_neg (by rw [hok]; simp), if_pos ⟨by omega, hck.mp hc⟩])]; rfl
                        · with_reducible (refine pick_t ?_; refine cnd_f ?_)
                          refine inc_i (by omega) ?_
                          with_reducible (refine mv_i ?_)
                          refine next1 hk2 ⟨(p2.trans p3).trans (pre_new _ _ _), nextJ ?_⟩
                          unfold mAt
                          rw [hsk, if_neg (by rw [hok]; simp), if_neg (fun hh => hc (hck.mpr hh.2))]
                      · with_reducible (refine mv_i ?_; refine gd_ft ?_; refine gd_ft ?_; refine gd_ft ?_; refine gd_ft ?_; refine gd_ft ?_; refine gd_ft ?_; refine gd_ft ?_; refine gd_ft ?_; refine gd_ft ?_; refine gd_ft ?_; refine gd_ft ?_; refine gd_ft ?_; refine gd_ft ?_; refine gd_ft ?_; refine gd_ft ?_; refine gd_ft ?_; refine gd_ft ?_; refine gd_ft ?_; refine gd_ft ?_; refine gd_ft ?_; refine gd_ft ?_; refine gd_ft ?_; refine gd_ft ?_; refine pick_f ?_; refine cnd_f ?_)
                        refine inc_i (by omega) ?_
                        with_reducible (refine mv_i ?_)
                        refine next1 hk2 ⟨p2.trans p3, nextJ ?_⟩
                        unfold mAt
                        rw [hsk, if_neg (by rw [hok]; simp), if_neg (fun hh => h0 (by omega))]
            · with_reducible (refine cnd_f ?_; refine mv_i ?_; refine mv_i ?_; refine ret2 ?_)
              exact ⟨by rw [mErr_none hhead hgt (fun j hj => hJ j (by omega))]; rfl, p1.trans p2⟩

def cmpL : List Int → List Int → Int
  | [], [] => 0
  | [], _ :: _ => -1
  | _ :: _, [] => 1
  | a :: l, b :: m => if a = b then cmpL l m else if b < a then 1 else -1

theorem drop_cons' {row : List Int} {k : Nat} (hk : k < row.length) : row.drop k = row.getD k 0 :: row.drop (k + 1) := by
  rw [gd_at 0 hk]; exact List.drop_eq_getElem_cons hk

theorem cmpL_drop : ∀ (k : Nat) (xs ys : List Int), k ≤ xs.length → k ≤ ys.length → (∀ j, j < k → xs.getD j 0 = ys.getD j 0) → cmpL xs ys = cmpL (xs.drop k) (ys.drop k)
  | 0, _, _, _, _, _ => rfl
  | k + 1, [], _, h, _, _ => by simp at h
  | k + 1, _ :: _, [], _, h, _ => by simp at h
  | k + 1, a :: l, b :: m, h1, h2, h3 => by
    have e := h3 0 (by omega)
    simp at e
    subst e
    simp only [cmpL, if_true, List.drop_succ_cons]
    exact cmpL_drop k l m (by simpa using h1) (by simpa using h2) (fun j hj => by have := h3 (j + 1) (by omega); simpa using this)

theorem c92 {a b : Value} {xs ys : List Int} (s : IntS h a xs) (s2 : IntS h b ys) : Runs Try.prog 92 [a, b] h (.int .i64 (cmpL xs ys)) h := by
  have lt := s.lt
  have lt2 := s2.lt
  refine DetP.runs (w92 ?_)
  unfold n92
  with_reducible (refine mv_i ?_; refine mv_i ?_)
  refine loop1 xs.length (fun k h2 => h2 = h ∧ k ≤ ys.length ∧ ∀ j, j < k → xs.getD j 0 = ys.getD j 0) ⟨rfl, by omega, fun j hj => by omega⟩ ?_
  rintro k _ _ hk ⟨rfl, hk2, hJ⟩
  have hd := cmpL_drop k xs ys hk hk2 hJ
  with_reducible (refine mv_i ?_; refine mv_i ?_)
  refine leni_i t23 s ?_
  refine lss_i (fun hlt => ?_) (fun hge => ?_)
  · with_reducible (refine mv_i ?_; refine gd_tt ?_; refine mv_i ?_; refine gd_tt ?_; refine mv_i ?_; refine gd_tt ?_)
    refine leni_i t23 s2 ?_
    with_reducible (refine gd_tt ?_)
    refine lss_i (fun hlt2 => ?_) (fun hge2 => ?_)
    · with_reducible (refine pick_t ?_; refine cnd_t ?_; refine mv_i ?_; refine mv_i ?_)
      refine idxi_i (k := k) t23 s (by omega) ?_
      refine ldi_i (k := k) t23 r3 s (by omega) ?_
      refine ⟨trivial, ?_⟩
      with_reducible (refine mv_i ?_; refine mv_i ?_)
      refine idxi_i (k := k) t23 s2 (by omega) ?_
      refine ldi_i (k := k) t23 r3 s2 (by omega) ?_
      refine ⟨trivial, ?_⟩
      refine neq_i (fun he => ?_) (fun he => ?_)
      · with_reducible (refine cnd_f ?_; refine mv_i ?_)
        refine inc_i (by omega) ?_
        with_reducible (refine mv_i ?_)
        refine next1 (by omega) ⟨rfl, by omega, fun j hj => ?_⟩
        by_cases q : j = k
        · subst q; exact he
        · exact hJ j (by omega)
      · with_reducible (refine cnd_t ?_; refine mv_i ?_; refine mv_i ?_)
        refine idxi_i (k := k) t23 s (by omega) ?_
        refine ldi_i (k := k) t23 r3 s (by omega) ?_
        refine ⟨trivial, ?_⟩
        with_reducible (refine mv_i ?_; refine mv_i ?_)
        refine idxi_i (k := k) t23 s2 (by omega) ?_
        refine ldi_i (k := k) t23 r3 s2 (by omega) ?_
        refine ⟨trivial, ?_⟩
        refine gtr_b ?_
        refine calld_r (c45 _) ⟨⟨[], by simp⟩, ?_⟩
        refine mul_i ⟨by split <;> omega, by split <;> omega⟩ ?_
        refine sub_i ⟨by split <;> omega, by split <;> omega⟩ ?_
        with_reducible (refine mv_i ?_; refine ret1 ?_)
        refine ⟨?_, rfl⟩
        rw [hd, drop_cons' (show k < xs.length by omega), drop_cons' (show k < ys.length by omega)]
        simp only [cmpL]
        rw [if_neg he]
        by_cases hg : ys.getD k 0 < xs.getD k 0
        · rw [if_pos hg, decide_eq_true hg]; rfl
        · rw [if_neg hg, decide_eq_false hg]; rfl
    · with_reducible (refine pick_t ?_; refine cnd_f ?_; refine mv_i ?_)
      have hfin : (xs.length = k ∨ ys.length = k) → cmpL xs ys = (if decide ((ys.length : Int) < xs.length) = true then 1 else 0) - (if decide ((xs.length : Int) < ys.length) = true then 1 else 0) := by
        intro hor
        rw [hd]
        rcases hor with e | e
        · rw [List.drop_of_length_le (by omega)]
          cases hq : ys.drop k with
          | nil => have := congrArg List.length hq; simp at this; simp [cmpL]; omega
          | cons y l => have := congrArg List.length hq; simp at this; simp [cmpL]; omega
        · rw [List.drop_of_length_le (show ys.length ≤ k by omega)]
          cases hq : xs.drop k with
          | nil => have := congrArg List.length hq; simp at this; simp [cmpL]; omega
          | cons y l => have := congrArg List.length hq; simp at this; simp [cmpL]; omega
      refine leni_i t23 s ?_
      with_reducible (refine mv_i ?_)
      refine leni_i t23 s2 ?_
      refine gtr_b ?_
      refine call_r (c45 _) ?_
      with_reducible (refine mv_i ?_)
      refine leni_i t23 s ?_
      with_reducible (refine mv_i ?_)
      refine leni_i t23 s2 ?_
      refine lss_b ?_
      refine call_r (c45 _) ?_
      refine sub_i ⟨by split <;> split <;> omega, by split <;> split <;> omega⟩ ?_
      with_reducible (refine mv_i ?_; refine ret1 ?_)
      exact ⟨by rw [hfin (by omega)], rfl⟩
  · with_reducible (refine mv_i ?_; refine gd_ft ?_; refine gd_ft ?_; refine gd_ft ?_; refine gd_ft ?_; refine pick_f ?_; refine cnd_f ?_; refine mv_i ?_)
    have hfin : (xs.length = k ∨ ys.length = k) → cmpL xs ys = (if decide ((ys.length : Int) < xs.length) = true then 1 else 0) - (if decide ((xs.length : Int) < ys.length) = true then 1 else 0) := by
      intro hor
      rw [hd]
      rcases hor with e | e
      · rw [List.drop_of_length_le (by omega)]
        cases hq : ys.drop k with
        | nil => have := congrArg List.length hq; simp at this; simp [cmpL]; omega
        | cons y l => have := congrArg List.length hq; simp at this; simp [cmpL]; omega
      · rw [List.drop_of_length_le (show ys.length ≤ k by omega)]
        cases hq : xs.drop k with
        | nil => have := congrArg List.length hq; simp at this; simp [cmpL]; omega
        | cons y l => have := congrArg List.length hq; simp at this; simp [cmpL]; omega
    refine leni_i t23 s ?_
    with_reducible (refine mv_i ?_)
    refine leni_i t23 s2 ?_
    refine gtr_b ?_
    refine call_r (c45 _) ?_
    with_reducible (refine mv_i ?_)
    refine leni_i t23 s ?_
    with_reducible (refine mv_i ?_)
    refine leni_i t23 s2 ?_
    refine lss_b ?_
    refine call_r (c45 _) ?_
    refine sub_i ⟨by split <;> split <;> omega, by split <;> split <;> omega⟩ ?_
    with_reducible (refine mv_i ?_; refine ret1 ?_)
    exact ⟨by rw [hfin (by omega)], rfl⟩

theorem cmp_key2 (a b : St) : (0 ≤ cmpL [a.fr, a.inp] [b.fr, b.inp]) ↔ ltKey a b = false := by
  unfold ltKey
  rw [decide_eq_false_iff_not]
  simp only [cmpL]
  by_cases h1 : a.fr = b.fr
  · rw [if_pos h1]
    by_cases h2 : a.inp = b.inp
    · rw [if_pos h2]; simp; omega
    · rw [if_neg h2]
      by_cases h3 : b.inp < a.inp
      · rw [if_pos h3]; simp; omega
      · rw [if_neg h3]; simp; omega
  · rw [if_neg h1]
    by_cases h3 : b.fr < a.fr
    · rw [if_pos h3]; simp; omega
    · rw [if_neg h3]; simp; omega

theorem c63 {a : Value} {m : Mac} (s : MacV h a m) : Runs Try.prog 63 [a] h (pairV (mErr m)) h := by
  refine DetP.forget rfl ?_
  refine w63 ?_
  unfold n63
  obtain ⟨o, l, c, rfl, ss⟩ := s
  have lt := ss.lt
  rw [box36]
  refine ok_i rfl ?_
  have p1 := pre_new h [.int .i64 m.states, .int .i64 m.inputs, .int .i64 m.outputs, .int .i64 m.start, .slice o l c] 5
  have hb1 := newArr_get h [.int .i64 m.states, .int .i64 m.inputs, .int .i64 m.outputs, .int .i64 m.start, .slice o l c] 5
  have hbad : mHead m = false → pairV (mErr m) = .tuple #[.int .i64 0, .int .i64 3] := fun e => by unfold mErr; rw [if_pos e]; rfl
  generalize hg1 : newArr h [.int .i64 m.states, .int .i64 m.inputs, .int .i64 m.outputs, .int .i64 m.start, .slice o l c] 5 = g1 at p1 hb1 ⊢
  with_reducible (refine mv_i ?_; refine mv_i ?_; refine vk_i (fa36_0 _) ?_; refine ld5_0 r3 (by assumption) ?_)
  refine call_r (c22 _ _ _) ?_
  cases e1 : inR m.states 1 40 with
  | false => 
    with_reducible (refine not_f ?_; refine mv_i ?_; refine gd_tf ?_; refine gd_tf ?_; refine gd_tf ?_; refine gd_tf ?_; refine pick_t ?_; refine mv_i ?_; refine gd_tf ?_; refine gd_tf ?_; refine gd_tf ?_; refine gd_tf ?_; refine pick_t ?_; refine mv_i ?_; refine gd_tf ?_; refine gd_tf ?_; refine gd_tf ?_; refine gd_tf ?_; refine gd_tf ?_; refine gd_tf ?_; refine gd_tf ?_; refine pick_t ?_; refine cnd_t ?_; refine mv_i ?_; refine mv_i ?_; refine ret2 ?_)
    exact ⟨(hbad (by simp [mHead, e1])).symm, p1⟩
  | true =>
    have f1 : 1 ≤ m.states ∧ m.states ≤ 40 := by simpa [inR] using e1
    with_reducible (refine not_t ?_; refine mv_i ?_; refine gd_ff ?_; refine vk_i (fa36_1 _) ?_; refine gd_ff ?_; refine ld5_1 r3 (by assumption) ?_; refine gd_ff ?_)
    refine call_r (c22 _ _ _) ?_
    cases e2 : inR m.inputs 1 8 with
    | false => 
      with_reducible (refine gd_ff ?_; refine not_f ?_; refine pick_f ?_; refine mv_i ?_; refine gd_tf ?_; refine gd_tf ?_; refine gd_tf ?_; refine gd_tf ?_; refine pick_t ?_; refine mv_i ?_; refine gd_tf ?_; refine gd_tf ?_; refine gd_tf ?_; refine gd_tf ?_; refine gd_tf ?_; refine gd_tf ?_; refine gd_tf ?_; refine pick_t ?_; refine cnd_t ?_; refine mv_i ?_; refine mv_i ?_; refine ret2 ?_)
      exact ⟨(hbad (by simp [mHead, e1, e2])).symm, p1⟩
    | true =>
      have f2 : 1 ≤ m.inputs ∧ m.inputs ≤ 8 := by simpa [inR] using e2
      with_reducible (refine gd_ff ?_; refine not_t ?_; refine pick_f ?_; refine mv_i ?_; refine gd_ff ?_; refine vk_i (fa36_2 _) ?_; refine gd_ff ?_; refine ld5_2 r3 (by assumption) ?_; refine gd_ff ?_)
      refine call_r (c22 _ _ _) ?_
      cases e3 : inR m.outputs 1 8 with
      | false => 
        with_reducible (refine gd_ff ?_; refine not_f ?_; refine pick_f ?_; refine mv_i ?_; refine gd_tf ?_; refine gd_tf ?_; refine gd_tf ?_; refine gd_tf ?_; refine gd_tf ?_; refine gd_tf ?_; refine gd_tf ?_; refine pick_t ?_; refine cnd_t ?_; refine mv_i ?_; refine mv_i ?_; refine ret2 ?_)
        exact ⟨(hbad (by simp [mHead, e1, e2, e3])).symm, p1⟩
      | true =>
        have f3 : 1 ≤ m.outputs ∧ m.outputs ≤ 8 := by simpa [inR] using e3
        with_reducible (refine gd_ff ?_; refine not_t ?_; refine pick_f ?_; refine mv_i ?_; refine gd_ff ?_; refine vk_i (fa36_3 _) ?_; refine gd_ff ?_; refine ld5_3 r3 (by assumption) ?_; refine gd_ff ?_; refine vk_i (fa36_0 _) ?_; refine gd_ff ?_; refine ld5_0 r3 (by assumption) ?_; refine gd_ff ?_)
        refine sub_i ⟨by omega, by omega⟩ ?_
        with_reducible (refine gd_ff ?_)
        refine call_r (c22 _ _ _) ?_
        cases e4 : inR m.start 0 (m.states - 1) with
        | false => 
          with_reducible (refine gd_ff ?_; refine not_f ?_; refine pick_f ?_; refine cnd_t ?_; refine mv_i ?_; refine mv_i ?_; refine ret2 ?_)
          exact ⟨(hbad (by simp [mHead, e1, e2, e3, e4])).symm, p1⟩
        | true =>
          have hhead : mHead m = true := by simp [mHead, e1, e2, e3, e4]
          have hmb := mul_b e1 e2
          have ss1 := ss.mono (Sub.of_pre p1)
          with_reducible (refine gd_ff ?_; refine not_t ?_; refine pick_f ?_; refine cnd_f ?_; refine vk_i (fa36_4 _) ?_; refine ld5_4 r34 (by assumption) ?_)
          refine len_i t34 ss1 ?_
          with_reducible (refine vk_i (fa36_0 _) ?_; refine ld5_0 r3 (by assumption) ?_; refine vk_i (fa36_1 _) ?_; refine ld5_1 r3 (by assumption) ?_)
          refine mul_i ⟨by omega, by omega⟩ ?_
          refine gtr_i (fun hgt => ?_) (fun hgt => ?_)
          · with_reducible (refine cnd_t ?_; refine mv_i ?_; refine mv_i ?_; refine ret2 ?_)
            exact ⟨by unfold mErr; rw [if_neg (by rw [hhead]; simp), if_pos hgt]; rfl, p1⟩
          · with_reducible (refine cnd_f ?_; refine mv_i ?_)
            refine loop1 m.steps.length (fun k h2 => g1 <+: h2 ∧ ∀ j, j < k → mAt m j = none) ⟨List.prefix_refl _, fun j hj => by omega⟩ ?_
            rintro k h2 _ hk ⟨p2, hJ⟩
            have ss2 := ss1.mono (Sub.of_pre p2)
            have hbL := (Sub.of_pre p2).2 _ _ hb1
            with_reducible (refine mv_i ?_; refine vk_i (fa36_4 _) ?_; refine ld5_4 r34 (by assumption) ?_)
            refine len_i t34 ss2 ?_
            refine lss_i (fun hlt => ?_) (fun hge => ?_)
            · have hk2 : k < m.steps.length := by omega
              with_reducible (refine cnd_t ?_; refine vk_i (fa36_4 _) ?_; refine ld5_4 r34 (by assumption) ?_; refine mv_i ?_)
              refine idx_i (k := k) t34 ss2 hk2 ?_
              refine ldst_i st63 ss2 hk2 dst ?_
              refine ok_i (al63 _) ?_
              skip
              refine ok_i (v := undef) (h' := newArr h2 (m.steps.getD k dst).cells 4) (by rw [sto63]; rfl) ?_
              have p3 := pre_new h2 (m.steps.getD k dst).cells 4
              have hb3 := (Sub.of_pre p3).2 _ _ ((Sub.of_pre p2).2 _ _ hb1)
              have ss3 := ss2.mono (Sub.of_pre p3)
              have p03 := (p1.trans p2).trans p3
              have nextJ : mAt m k = none → ∀ j, j < k + 1 → mAt m j = none := fun e j hj => by
                by_cases q : j = k
                · subst q; exact e
                · exact hJ j (by omega)
              have hs3 : (newArr h2 (m.steps.getD k dst).cells 4)[h2.length]? = some (.arr ⟨[.int .i64 (m.steps.getD k dst).fr, .int .i64 (m.steps.getD k dst).inp, .int .i64 (m.steps.getD k dst).out, .int .i64 (m.steps.getD k dst).to], 4, false⟩) := newArr_get _ _ _
              generalize newArr h2 (m.steps.getD k dst).cells 4 = h3 at p3 hs3 hb3 ss3 p03 ⊢
              generalize hsk : m.steps.getD k dst = sk at hs3 ⊢
              have hret : okSt m sk = false → pairV (mErr m) = .tuple #[.int .i64 (k : Int), .int .i64 3] := fun e => by
                rw [mErr_some hhead hgt hJ hk2 (e := ((k : Int), 3)) (by unfold mAt; rw [hsk, if_pos e])]; rfl
              with_reducible (refine vk_i (fa63_0 _) ?_; refine ld4_0 r3 (by assumption) ?_; refine vk_i (fa36_0 _) ?_; refine ld5_0 r3 (by assumption) ?_)
              refine sub_i ⟨by omega, by omega⟩ ?_
              refine call_r (c22 _ _ _) ?_
              cases q1 : inR sk.fr 0 (m.states - 1) with
              | false => 
                with_reducible (refine not_f ?_; refine mv_i ?_; refine gd_tf ?_; refine gd_tf ?_; refine gd_tf ?_; refine gd_tf ?_; refine gd_tf ?_; refine gd_tf ?_; refine gd_tf ?_; refine pick_t ?_; refine mv_i ?_; refine gd_tf ?_; refine gd_tf ?_; refine gd_tf ?_; refine gd_tf ?_; refine gd_tf ?_; refine gd_tf ?_; refine gd_tf ?_; refine pick_t ?_; refine mv_i ?_; refine gd_tf ?_; refine gd_tf ?_; refine gd_tf ?_; refine gd_tf ?_; refine gd_tf ?_; refine gd_tf ?_; refine gd_tf ?_; refine pick_t ?_; refine cnd_t ?_; refine mv_i ?_; refine mv_i ?_; refine mv_i ?_; refine ret2 ?_)
                exact ⟨(hret (by simp [okSt, q1])).symm, p03⟩
              | true =>
                with_reducible (refine not_t ?_; refine mv_i ?_; refine gd_ff ?_; refine vk_i (fa63_3 _) ?_; refine gd_ff ?_; refine ld4_3 r3 (by assumption) ?_; refine gd_ff ?_; refine vk_i (fa36_0 _) ?_; refine gd_ff ?_; refine ld5_0 r3 (by assumption) ?_; refine gd_ff ?_)
                refine sub_i ⟨by omega, by omega⟩ ?_
                with_reducible (refine gd_ff ?_)
                refine call_r (c22 _ _ _) ?_
                cases q2 : inR sk.to 0 (m.states - 1) with
                | false => 
                  with_reducible (refine gd_ff ?_; refine not_f ?_; refine pick_f ?_; refine mv_i ?_; refine gd_tf ?_; refine gd_tf ?_; refine gd_tf ?_; refine gd_tf ?_; refine gd_tf ?_; refine gd_tf ?_; refine gd_tf ?_; refine pick_t ?_; refine mv_i ?_; refine gd_tf ?_; refine gd_tf ?_; refine gd_tf ?_; refine gd_tf ?_; refine gd_tf ?_; refine gd_tf ?_; refine gd_tf ?_; refine pick_t ?_; refine cnd_t ?_; refine mv_i ?_; refine mv_i ?_; refine mv_i ?_; refine ret2 ?_)
                  exact ⟨(hret (by simp [okSt, q1, q2])).symm, p03⟩
                | true =>
                  with_reducible (refine gd_ff ?_; refine not_t ?_; refine pick_f ?_; refine mv_i ?_; refine gd_ff ?_; refine vk_i (fa63_1 _) ?_; refine gd_ff ?_; refine ld4_1 r3 (by assumption) ?_; refine gd_ff ?_; refine vk_i (fa36_1 _) ?_; refine gd_ff ?_; refine ld5_1 r3 (by assumption) ?_; refine gd_ff ?_)
                  refine sub_i ⟨by omega, by omega⟩ ?_
                  with_reducible (refine gd_ff ?_)
                  refine call_r (c22 _ _ _) ?_
                  cases q3 : inR sk.inp 0 (m.inputs - 1) with
                  | false => 
                    with_reducible (refine gd_ff ?_; refine not_f ?_; refine pick_f ?_; refine mv_i ?_; refine gd_tf ?_; refine gd_tf ?_; refine gd_tf ?_; refine gd_tf ?_; refine gd_tf ?_; refine gd_tf ?_; refine gd_tf ?_; refine pick_t ?_; refine cnd_t ?_; refine mv_i ?_; refine mv_i ?_; refine mv_i ?_; refine ret2 ?_)
                    exact ⟨(hret (by simp [okSt, q1, q2, q3])).symm, p03⟩
                  | true =>
                    with_reducible (refine gd_ff ?_; refine not_t ?_; refine pick_f ?_; refine mv_i ?_; refine gd_ff ?_; refine vk_i (fa63_2 _) ?_; refine gd_ff ?_; refine ld4_2 r3 (by assumption) ?_; refine gd_ff ?_; refine vk_i (fa36_2 _) ?_; refine gd_ff ?_; refine ld5_2 r3 (by assumption) ?_; refine gd_ff ?_)
                    refine sub_i ⟨by omega, by omega⟩ ?_
                    with_reducible (refine gd_ff ?_)
                    refine call_r (c22 _ _ _) ?_
                    cases q4 : inR sk.out 0 (m.outputs - 1) with
                    | false => 
                      with_reducible (refine gd_ff ?_; refine not_f ?_; refine pick_f ?_; refine cnd_t ?_; refine mv_i ?_; refine mv_i ?_; refine mv_i ?_; refine ret2 ?_)
                      exact ⟨(hret (by simp [okSt, q1, q2, q3, q4])).symm, p03⟩
                    | true =>
                      have hok : okSt m sk = true := by simp [okSt, q1, q2, q3, q4]
                      with_reducible (refine gd_ff ?_; refine not_t ?_; refine pick_f ?_; refine cnd_f ?_; refine mv_i ?_)
                      refine gtr_i (fun h0 => ?_) (fun h0 => ?_)
                      · have hpk : k - 1 < m.steps.length := by omega
                        with_reducible (refine mv_i ?_; refine gd_tt ?_; refine vk_i (fa36_4 _) ?_; refine gd_tt ?_; refine ld5_4 r34 (by assumption) ?_)
                        refine ⟨seg_vb ss3, ?_⟩
                        with_reducible (refine gd_tt ?_; refine mv_i ?_; refine gd_tt ?_)
                        refine sub_i ⟨by omega, by omega⟩ ?_
                        rw [show (k : Int) - 1 = ((k - 1 : Nat) : Int) by omega]
                        with_reducible (refine gd_tt ?_)
                        refine idx_i (k := k - 1) t34 ss3 hpk ?_
                        with_reducible (refine gd_tt ?_; refine fae_i st63 (by assumption) (by omega) (by omega) ?_; refine gd_tt ?_; refine ldf_i st63 (by assumption) (by omega) (by omega) dst ?_; refine ⟨vbi _ _, ?_⟩; refine gd_tt ?_; refine vk_i (fa36_4 _) ?_; refine gd_tt ?_; refine ld5_4 r34 (by assumption) ?_)
                        refine ⟨seg_vb ss3, ?_⟩
                        with_reducible (refine gd_tt ?_; refine mv_i ?_; refine gd_tt ?_)
                        refine sub_i ⟨by omega, by omega⟩ ?_
                        rw [show (k : Int) - 1 = ((k - 1 : Nat) : Int) by omega]
                        with_reducible (refine gd_tt ?_)
                        refine idx_i (k := k - 1) t34 ss3 hpk ?_
                        with_reducible (refine gd_tt ?_; refine fae_i st63 (by assumption) (by omega) (by omega) ?_; refine gd_tt ?_; refine ldf_i st63 (by assumption) (by omega) (by omega) dst ?_; refine ⟨vbi _ _, ?_⟩; refine gd_tt ?_)
                        refine ok_i (bs23_2 _ _ _) ?_
                        have pa := pre_new h3 [.int .i64 (St.get (m.steps.getD (k - 1) dst) 0), .int .i64 (St.get (m.steps.getD (k - 1) dst) 1)] 1
                        have sa : IntS (newArr h3 [.int .i64 (St.get (m.steps.getD (k - 1) dst) 0), .int .i64 (St.get (m.steps.getD (k - 1) dst) 1)] 1) (.slice (some ⟨h3.length, 0, none⟩) 2 3) [(m.steps.getD (k - 1) dst).fr, (m.steps.getD (k - 1) dst).inp] := Seg.new (n := 2) 3 rfl (by omega)
                        have hs4 := (Sub.of_pre pa).2 _ _ hs3
                        generalize newArr h3 [.int .i64 (St.get (m.steps.getD (k - 1) dst) 0), .int .i64 (St.get (m.steps.getD (k - 1) dst) 1)] 1 = h4 at pa sa hs4 ⊢
                        with_reducible (refine gd_tt ?_; refine vk_i (fa63_0 _) ?_; refine gd_tt ?_; refine ld4_0 r3 (by assumption) ?_; refine ⟨vbi _ _, ?_⟩; refine gd_tt ?_; refine vk_i (fa63_1 _) ?_; refine gd_tt ?_; refine ld4_1 r3 (by assumption) ?_; refine ⟨vbi _ _, ?_⟩; refine gd_tt ?_)
                        refine ok_i (bs23_2 _ _ _) ?_
                        have pb := pre_new h4 [.int .i64 sk.fr, .int .i64 sk.inp] 1
                        have sb : IntS (newArr h4 [.int .i64 sk.fr, .int .i64 sk.inp] 1) (.slice (some ⟨h4.length, 0, none⟩) 2 3) [sk.fr, sk.inp] := Seg.new (n := 2) 3 rfl (by omega)
                        with_reducible (refine gd_tt ?_)
                        refine calld_r (c92 (sa.mono (Sub.of_pre pb)) sb) ⟨⟨[], by simp⟩, ?_⟩
                        have p4 := (p03.trans pa).trans pb
                        with_reducible (refine gd_tt ?_)
                        have hck := cmp_key2 (m.steps.getD (k - 1) dst) sk
                        refine geq_i (fun hc => ?_) (fun hc => ?_)
                        · with_reducible (refine pick_t ?_; refine cnd_t ?_; refine mv_i ?_; refine mv_i ?_; refine mv_i ?_; refine ret2 ?_)
                          refine ⟨?_, p4⟩
                          rw [mErr_some hhead hgt hJ hk2 (e := ((k : Int), 14)) (by unfold mAt; rw [hsk, if_neg (by rw [hok]; simp), if_pos ⟨by omega, hck.mp hc⟩])]; rfl
                        · with_reducible (refine pick_t ?_; refine cnd_f ?_; refine mv_i ?_)
                          refine inc_i (by omega) ?_
                          with_reducible (refine mv_i ?_)
                          refine next1 hk2 ⟨((p2.trans p3).trans pa).trans pb, nextJ ?_⟩
                          unfold mAt
                          rw [hsk, if_neg (by rw [hok]; simp), if_neg (fun hh => hc (hck.mpr hh.2))]
                      · with_reducible (refine mv_i ?_; refine gd_ft ?_; refine gd_ft ?_; refine gd_ft ?_; refine gd_ft ?_; refine gd_ft ?_; refine gd_ft ?_; refine gd_ft ?_; refine gd_ft ?_; refine gd_ft ?_; refine gd_ft ?_; refine gd_ft ?_; refine gd_ft ?_; refine gd_ft ?_; refine gd_ft ?_; refine gd_ft ?_; refine gd_ft ?_; refine gd_ft ?_; refine gd_ft ?_; refine gd_ft ?_; refine gd_ft ?_; refine gd_ft ?_; refine gd_ft ?_; refine pick_f ?_; refine cnd_f ?_; refine mv_i ?_)
                        refine inc_i (by omega) ?_
                        with_reducible (refine mv_i ?_)
                        refine next1 hk2 ⟨p2.trans p3, nextJ ?_⟩
                        unfold mAt
                        rw [hsk, if_neg (by rw [hok]; simp), if_neg (fun hh => h0 (by omega))]
            · with_reducible (refine cnd_f ?_; refine mv_i ?_; refine mv_i ?_; refine ret2 ?_)
              exact ⟨by rw [mErr_none hhead hgt (fun j hj => hJ j (by omega))]; rfl, p1.trans p2⟩

theorem macv_of {h : Heap} {m : Mac} {o : Option Addr} {l c : Nat} (s : StepsS h (.slice o l c) m.steps) : MacV h (.agg #[.int .i64 m.states, .int .i64 m.inputs, .int .i64 m.outputs, .int .i64 m.start, .slice o l c]) m := ⟨o, l, c, rfl, s⟩

theorem c18 {a : Value} {m : Mac} (s : MacV h a m) : Runs Try.prog 18 [a] h (.int .i64 (mErr m).2) h := by
  refine DetP.forget rfl ?_
  refine w18 ?_
  unfold n18
  obtain ⟨o, l, c, rfl, ss⟩ := s
  rw [box36]
  refine ok_i rfl ?_
  have p1 := pre_new h [.int .i64 m.states, .int .i64 m.inputs, .int .i64 m.outputs, .int .i64 m.start, .slice o l c] 5
  have hb1 := newArr_get h [.int .i64 m.states, .int .i64 m.inputs, .int .i64 m.outputs, .int .i64 m.start, .slice o l c] 5
  with_reducible (refine mv_i ?_)
  refine vk_i (ld36 hb1) ?_
  refine call_r (c63 (macv_of (ss.mono (Sub.of_pre p1)))) ?_
  unfold pairV
  with_reducible (refine mv_i ?_; refine ex2_0 ?_; refine ex2_1 ?_; refine mv_i ?_; refine mv_i ?_; refine mv_i ?_; refine mv_i ?_; refine ret1 ?_)
  exact ⟨rfl, p1⟩

theorem c51 {a : Value} {m : Mac} (s : MacV h a m) : Runs Try.prog 51 [a] h (.int .i64 (mErr m).2) h := by
  refine DetP.forget rfl ?_
  refine w51 ?_
  unfold n51
  obtain ⟨o, l, c, rfl, ss⟩ := s
  rw [box36]
  refine ok_i rfl ?_
  have p1 := pre_new h [.int .i64 m.states, .int .i64 m.inputs, .int .i64 m.outputs, .int .i64 m.start, .slice o l c] 5
  have hb1 := newArr_get h [.int .i64 m.states, .int .i64 m.inputs, .int .i64 m.outputs, .int .i64 m.start, .slice o l c] 5
  with_reducible (refine mv_i ?_)
  refine vk_i (ld36 hb1) ?_
  refine call_r (c87 (macv_of (ss.mono (Sub.of_pre p1)))) ?_
  unfold pairV
  with_reducible (refine mv_i ?_; refine ex2_0 ?_; refine ex2_1 ?_; refine mv_i ?_; refine mv_i ?_; refine mv_i ?_; refine mv_i ?_; refine ret1 ?_)
  exact ⟨rfl, p1⟩

def pm (n : Int) : Int := IntKind.i64.wrap (n - 1)

theorem subw_i {t : TypeId} {n : Int} {K : Value → Heap → Prop} (hk : K (.int .i64 (pm n)) h) : vK (aBin Try.prog .sub t (.int .i64 n) (.int .i64 1)) h K := vk_i (v := .int .i64 (pm n)) (by simp [aBin, aInt, pm]) hk

theorem pm_eq {n : Int} (h1 : 1 ≤ n) (h2 : n ≤ 2 ^ 40) : pm n = n - 1 := wrap_i64 ⟨by omega, by omega⟩

def wErr (w : List Int) (inputs most : Int) : Int := if most < (w.length : Int) then 2 else if w.all (fun x => inR x 0 (pm inputs)) = true then 0 else 3

theorem all_gd {xs : List Int} {p : Int → Bool} (hJ : ∀ j, j < xs.length → p (xs.getD j 0) = true) : xs.all p = true := by
  rw [List.all_eq_true]
  intro x hx
  obtain ⟨j, hj, rfl⟩ := mem_gd 0 hx
  exact hJ j hj

theorem not_all {xs : List Int} {p : Int → Bool} {k : Nat} (hk : k < xs.length) (hp : p (xs.getD k 0) = false) : xs.all p = false := by
  rw [List.all_eq_false]
  exact ⟨_, gd_mem 0 hk, by rw [hp]; simp⟩

theorem c41 {a : Value} {w : List Int} {n most : Int} (s : IntS h a w) : Runs Try.prog 41 [a, .int .i64 n, .int .i64 most] h (.int .i64 (wErr w n most)) h := by
  have lt := s.lt
  refine DetP.runs (w41 ?_)
  unfold n41
  with_reducible (refine mv_i ?_; refine mv_i ?_)
  refine leni_i t23 s ?_
  with_reducible (refine mv_i ?_)
  refine gtr_i (fun hg => ?_) (fun hg => ?_)
  · with_reducible (refine cnd_t ?_; refine mv_i ?_; refine ret1 ?_)
    exact ⟨by unfold wErr; rw [if_pos hg], rfl⟩
  · with_reducible (refine cnd_f ?_; refine mv_i ?_)
    refine loop1 w.length (fun k h2 => h2 = h ∧ ∀ j, j < k → inR (w.getD j 0) 0 (pm n) = true) ⟨rfl, fun j hj => by omega⟩ ?_
    rintro k _ _ hk ⟨rfl, hJ⟩
    with_reducible (refine mv_i ?_; refine mv_i ?_)
    refine leni_i t23 s ?_
    refine lss_i (fun hlt => ?_) (fun hge => ?_)
    · with_reducible (refine cnd_t ?_; refine mv_i ?_; refine mv_i ?_)
      refine idxi_i (k := k) t23 s (by omega) ?_
      refine ldi_i (k := k) t23 r3 s (by omega) ?_
      with_reducible (refine mv_i ?_)
      refine subw_i ?_
      refine call_r (c22 _ _ _) ?_
      cases hr : inR (w.getD k 0) 0 (pm n) with
      | false =>
        with_reducible (refine not_f ?_; refine cnd_t ?_; refine mv_i ?_; refine ret1 ?_)
        exact ⟨by unfold wErr; rw [if_neg hg, if_neg (by rw [not_all (show k < w.length by omega) hr]; simp)], rfl⟩
      | true =>
        with_reducible (refine not_t ?_; refine cnd_f ?_; refine mv_i ?_)
        refine inc_i (by omega) ?_
        with_reducible (refine mv_i ?_)
        refine next1 (by omega) ⟨rfl, fun j hj => ?_⟩
        by_cases q : j = k
        · subst q; exact hr
        · exact hJ j (by omega)
    · with_reducible (refine cnd_f ?_; refine mv_i ?_; refine ret1 ?_)
      exact ⟨by unfold wErr; rw [if_neg hg, if_pos (all_gd fun j hj => hJ j (by omega))], rfl⟩

theorem c91 {a : Value} {w : List Int} {i : Nat} {g : FuncId} {p : Int → Bool} (s : IntS h a w) (hg : ∀ x : Int, Runs Try.prog g [.int .i64 x, .pointer (some ⟨i, 0, none⟩)] h (.bool (p x)) h) :
    ∃ n : Int, (0 ≤ n ↔ w.any p = true) ∧ Runs Try.prog 91 [a, .func (.func g) #[] #[.pointer (some ⟨i, 0, none⟩)]] h (.int .i64 n) h := by
  have lt := s.lt
  have walk : ∀ n : Int, ((∃ k : Nat, n = k ∧ k < w.length ∧ (∀ j, j < k → p (w.getD j 0) = false) ∧ p (w.getD k 0) = true) ∨ (n = -1 ∧ ∀ j, j < w.length → p (w.getD j 0) = false)) →
      Runs Try.prog 91 [a, .func (.func g) #[] #[.pointer (some ⟨i, 0, none⟩)]] h (.int .i64 n) h := by
    intro n hn
    refine DetP.runs (w91 ?_)
    unfold n91
    with_reducible (refine mv_i ?_; refine mv_i ?_)
    refine leni_i t23 s ?_
    with_reducible (refine mv_i ?_)
    refine loop1 w.length (fun k h2 => h = h2 ∧ ∀ j, j < k → p (w.getD j 0) = false) ⟨rfl, fun j hj => by omega⟩ ?_
    rintro k _ _ hk ⟨rfl, hJ⟩
    skip
    refine lss_i (fun hlt => ?_) (fun hge => ?_)
    · with_reducible (refine cnd_t ?_; refine mv_i ?_; refine mv_i ?_; refine mv_i ?_; refine mv_i ?_; refine mv_i ?_)
      refine idxi_i (k := k) t23 s (by omega) ?_
      refine ldi_i (k := k) t23 r3 s (by omega) ?_
      refine call_r (f := g) (args := [.int .i64 (w.getD k 0), .pointer (some ⟨i, 0, none⟩)]) (hg _) ?_
      cases hz : p (w.getD k 0) with
      | true =>
        with_reducible (refine cnd_t ?_; refine mv_i ?_; refine mv_i ?_; refine ret1 ?_)
        refine ⟨?_, rfl⟩
        rcases hn with ⟨k', rfl, h1, h2, h3⟩ | ⟨_, h1⟩
        · have : k = k' := by
            rcases Nat.lt_trichotomy k k' with q | q | q
            · have := h2 k q; rw [hz] at this; cases this
            · exact q
            · have := hJ k' q; rw [h3] at this; cases this
          rw [this]
        · have := h1 k (by omega); rw [hz] at this; cases this
      | false =>
        with_reducible (refine cnd_f ?_)
        refine inc_i (by omega) ?_
        with_reducible (refine mv_i ?_)
        refine next1 (by omega) ⟨rfl, fun j hj => ?_⟩
        by_cases q : j = k
        · subst q; exact hz
        · exact hJ j (by omega)
    · with_reducible (refine cnd_f ?_; refine mv_i ?_; refine ret1 ?_)
      refine ⟨?_, rfl⟩
      rcases hn with ⟨k', rfl, h1, h2, h3⟩ | ⟨rfl, _⟩
      · have := hJ k' (by omega); rw [h3] at this; cases this
      · rfl
  by_cases hex : ∃ k, k < w.length ∧ p (w.getD k 0) = true
  · obtain ⟨k, hk, hmin⟩ := least hex
    have hprev : ∀ j, j < k → p (w.getD j 0) = false := fun j hj => by
      cases e : p (w.getD j 0) with
      | false => rfl
      | true => have := hmin j ⟨by omega, e⟩; omega
    exact ⟨k, ⟨fun _ => List.any_eq_true.mpr ⟨_, gd_mem 0 hk.1, hk.2⟩, fun _ => by omega⟩, walk k (.inl ⟨k, rfl, hk.1, hprev, hk.2⟩)⟩
  · have hno : ∀ j, j < w.length → p (w.getD j 0) = false := fun j hj => by
      cases e : p (w.getD j 0) with
      | false => rfl
      | true => exact absurd ⟨j, hj, e⟩ hex
    refine ⟨-1, ⟨fun h => by omega, fun ha => ?_⟩, walk (-1) (.inr ⟨rfl, hno⟩)⟩
    obtain ⟨x, hx, hpx⟩ := List.any_eq_true.mp ha
    obtain ⟨j, hj, rfl⟩ := mem_gd 0 hx
    have := hno j hj
    rw [hpx] at this; cases this

theorem c62 {a : Value} {w : List Int} {i : Nat} {g : FuncId} {p : Int → Bool} (s : IntS h a w) (hg : ∀ x : Int, Runs Try.prog g [.int .i64 x, .pointer (some ⟨i, 0, none⟩)] h (.bool (p x)) h) :
    Runs Try.prog 62 [a, .func (.func g) #[] #[.pointer (some ⟨i, 0, none⟩)]] h (.bool (w.any p)) h := by
  obtain ⟨n, hn, hr⟩ := c91 s hg
  refine DetP.runs (w62 ?_)
  unfold n62
  with_reducible (refine mv_i ?_; refine mv_i ?_; refine mv_i ?_)
  refine call_r hr ?_
  refine geq_b ?_
  with_reducible (refine mv_i ?_; refine ret1 ?_)
  refine ⟨?_, rfl⟩
  congr 1
  rw [Bool.eq_iff_iff, decide_eq_true_eq]
  exact hn

theorem any_all (w : List Int) (n : Int) : (!(w.any fun x => !inR x 0 (pm n))) = w.all fun x => inR x 0 (pm n) := by
  rw [List.not_any_eq_all_not]; simp

def sErr (ws : List (List Int)) (n : Int) : Int := if 2000 < ws.length then 2 else (firstOf (fun i => nz (wErr (ws.getD i []) n 60)) ws.length).getD 0

theorem sErr_none {ws : List (List Int)} {n : Int} (hg : ¬ 2000 < ws.length) (hJ : ∀ j, j < ws.length → wErr (ws.getD j []) n 60 = 0) : sErr ws n = 0 := by
  unfold sErr
  rw [if_neg hg, firstOf_none (f := fun i => nz (wErr (ws.getD i []) n 60)) (fun j hj => by unfold nz; rw [if_pos (hJ j hj)])]; rfl

theorem sErr_some {ws : List (List Int)} {n : Int} {k : Nat} (hg : ¬ 2000 < ws.length) (hJ : ∀ j, j < k → wErr (ws.getD j []) n 60 = 0) (hk : k < ws.length) (he : ¬ wErr (ws.getD k []) n 60 = 0) : sErr ws n = wErr (ws.getD k []) n 60 := by
  unfold sErr
  rw [if_neg hg, firstOf_some (f := fun i => nz (wErr (ws.getD i []) n 60)) (fun j hj => by unfold nz; rw [if_pos (hJ j hj)]) hk (by unfold nz; exact if_neg he)]; rfl

def stAt (l : List St) (f n : Int) (i : Nat) : Option Nat := if (l.getD i dst).fr = f ∧ (l.getD i dst).inp = n then some i else none

def stepAt (l : List St) (f n : Int) : Option Nat := firstOf (stAt l f n) l.length

def takenI (l : List St) : Int → List Int → List Nat
  | _, [] => []
  | f, n :: w => match stepAt l f n with | none => [] | some k => k :: takenI l (l.getD k dst).to w

theorem stepAt_lt {l : List St} {f n : Int} {k : Nat} (he : stepAt l f n = some k) : k < l.length ∧ (l.getD k dst).fr = f ∧ (l.getD k dst).inp = n := by
  obtain ⟨j, hj, hs⟩ := firstOf_is he
  unfold stAt at hs
  split at hs
  · rename_i hc; cases hs; exact ⟨hj, hc⟩
  · cases hs

def optI : Option Nat → Int | some k => (k : Int) | none => -1

theorem c81 {a : Value} {m : Mac} {f n : Int} (s : MacV h a m) : Runs Try.prog 81 [a, .int .i64 f, .int .i64 n] h (.int .i64 (optI (stepAt m.steps f n))) h := by
  refine DetP.forget rfl ?_
  refine w81 ?_
  unfold n81
  obtain ⟨o, l, c, rfl, ss⟩ := s
  have lt := ss.lt
  rw [box36]
  refine ok_i rfl ?_
  have p1 := pre_new h [.int .i64 m.states, .int .i64 m.inputs, .int .i64 m.outputs, .int .i64 m.start, .slice o l c] 5
  have hb1 := newArr_get h [.int .i64 m.states, .int .i64 m.inputs, .int .i64 m.outputs, .int .i64 m.start, .slice o l c] 5
  have ss1 := ss.mono (Sub.of_pre p1)
  generalize newArr h [.int .i64 m.states, .int .i64 m.inputs, .int .i64 m.outputs, .int .i64 m.start, .slice o l c] 5 = g1 at p1 hb1 ss1 ⊢
  with_reducible (refine mv_i ?_; refine mv_i ?_)
  refine loop1 m.steps.length (fun k h2 => g1 = h2 ∧ ∀ j, j < k → stAt m.steps f n j = none) ⟨rfl, fun j hj => by omega⟩ ?_
  rintro k _ _ hk ⟨rfl, hJ⟩
  with_reducible (refine mv_i ?_; refine vk_i (fa36_4 _) ?_; refine ld5_4 r34 (by assumption) ?_)
  refine len_i t34 ss1 ?_
  refine lss_i (fun hlt => ?_) (fun hge => ?_)
  · have hk2 : k < m.steps.length := by omega
    have next : stAt m.steps f n k = none → ∀ j, j < k + 1 → stAt m.steps f n j = none := fun e j hj => by
      by_cases q : j = k
      · subst q; exact e
      · exact hJ j (by omega)
    with_reducible (refine cnd_t ?_; refine vk_i (fa36_4 _) ?_; refine ld5_4 r34 (by assumption) ?_; refine mv_i ?_)
    refine idx_i (k := k) t34 ss1 hk2 ?_
    with_reducible (refine fae_i st63 (by assumption) (by omega) (by omega) ?_; refine ldf_i st63 (by assumption) (by omega) (by omega) dst ?_; refine mv_i ?_)
    refine eql_i (fun he => ?_) (fun he => ?_)
    · with_reducible (refine mv_i ?_; refine gd_tt ?_; refine vk_i (fa36_4 _) ?_; refine gd_tt ?_; refine ld5_4 r34 (by assumption) ?_; refine gd_tt ?_; refine mv_i ?_; refine gd_tt ?_)
      refine idx_i (k := k) t34 ss1 hk2 ?_
      with_reducible (refine gd_tt ?_; refine fae_i st63 (by assumption) (by omega) (by omega) ?_; refine gd_tt ?_; refine ldf_i st63 (by assumption) (by omega) (by omega) dst ?_; refine gd_tt ?_; refine mv_i ?_; refine gd_tt ?_)
      refine eql_i (fun he2 => ?_) (fun he2 => ?_)
      · with_reducible (refine pick_t ?_; refine cnd_t ?_; refine mv_i ?_; refine mv_i ?_; refine ret1 ?_)
        refine ⟨?_, p1⟩
        unfold stepAt
        rw [firstOf_some hJ hk2 (e := k) (by unfold stAt; exact if_pos ⟨he, he2⟩)]; rfl
      · with_reducible (refine pick_t ?_; refine cnd_f ?_; refine mv_i ?_)
        refine inc_i (by omega) ?_
        with_reducible (refine mv_i ?_)
        exact next1 hk2 ⟨rfl, next (by unfold stAt; exact if_neg fun h => he2 h.2)⟩
    · with_reducible (refine mv_i ?_; refine gd_ft ?_; refine gd_ft ?_; refine gd_ft ?_; refine gd_ft ?_; refine gd_ft ?_; refine gd_ft ?_; refine gd_ft ?_; refine gd_ft ?_; refine pick_f ?_; refine cnd_f ?_; refine mv_i ?_)
      refine inc_i (by omega) ?_
      with_reducible (refine mv_i ?_)
      exact next1 hk2 ⟨rfl, next (by unfold stAt; exact if_neg fun h => he h.1)⟩
  · with_reducible (refine cnd_f ?_; refine mv_i ?_; refine ret1 ?_)
    refine ⟨?_, p1⟩
    unfold stepAt
    rw [firstOf_none (fun j hj => hJ j (by omega))]; rfl

inductive Walk (l : List St) : Int → List Int → List Nat → Int → Prop
  | nil (f : Int) : Walk l f [] [] f
  | snoc {f g : Int} {w : List Int} {ks : List Nat} {n : Int} {k : Nat} (h : Walk l f w ks g) (hs : stepAt l g n = some k) : Walk l f (w ++ [n]) (ks ++ [k]) (l.getD k dst).to

theorem Walk.rest {l : List St} {f g : Int} {w : List Int} {ks : List Nat} (h : Walk l f w ks g) : ∀ v, takenI l f (w ++ v) = ks ++ takenI l g v := by
  induction h with
  | nil => intro v; rfl
  | snoc h hs ih =>
    intro v
    rw [List.append_assoc, ih]
    simp only [List.singleton_append, takenI, hs, List.append_assoc]

theorem Walk.length {l : List St} {f g : Int} {w : List Int} {ks : List Nat} (h : Walk l f w ks g) : ks.length = w.length := by
  induction h with
  | nil => rfl
  | snoc h hs ih => simp [ih]

theorem c46 {a b : Value} {m : Mac} {f : Int} {w : List Int} (s : MacV h a m) (sw : IntS h b w) (hw : w.length ≤ 2 ^ 40) :
    DetP Try.prog 46 [a, .int .i64 f, b] h fun v h' => h <+: h' ∧ Only h h' fun g => IntS g v ((takenI m.steps f w).map fun k : Nat => (k : Int)) := by
  refine w46 ?_
  unfold n46
  obtain ⟨o, l, c, rfl, ss⟩ := s
  have lt := ss.lt
  rw [box36]
  refine ok_i rfl ?_
  have p1 := pre_new h [.int .i64 m.states, .int .i64 m.inputs, .int .i64 m.outputs, .int .i64 m.start, .slice o l c] 5
  have hb1 := newArr_get h [.int .i64 m.states, .int .i64 m.inputs, .int .i64 m.outputs, .int .i64 m.start, .slice o l c] 5
  have ss1 := ss.mono (Sub.of_pre p1)
  have sw1 := sw.mono (Sub.of_pre p1)
  generalize newArr h [.int .i64 m.states, .int .i64 m.inputs, .int .i64 m.outputs, .int .i64 m.start, .slice o l c] 5 = g1 at p1 hb1 ss1 sw1 ⊢
  with_reducible (refine mv_i ?_; refine mv_i ?_; refine mv_i ?_)
  refine loop3 w.length (fun k fv v h2 => ∃ (ks : List Nat) (g : Int), fv = .int .i64 g ∧ Walk m.steps f (w.take k) ks g ∧ Own 1 g1 h2 v k ((ks.map fun k : Nat => (k : Int)).map (.int .i64))) ⟨[], f, rfl, .nil f, Own.nil 1 (List.prefix_refl _)⟩ ?_
  rintro k _ v h2 _ hk ⟨ks, g, rfl, hwk, ow⟩
  have ss2 := ss1.mono (Sub.of_pre ow.pre)
  have sw2 := sw1.mono (Sub.of_pre ow.pre)
  have hb2 := (Sub.of_pre ow.pre).2 _ _ hb1
  have hkl := hwk.length
  rw [List.length_take] at hkl
  have hres : ∀ (r : List Nat), takenI m.steps f w = r → r = ks → Only h h2 fun g => IntS g v (r.map fun k : Nat => (k : Int)) := by
    intro r _ e
    subst e
    intro q hq
    have := ow.only q fun j a hj e => hq j a (Nat.le_trans p1.length_le hj) e
    have e2 : k = ((r.map fun k : Nat => (k : Int))).length := by simp; omega
    rw [e2] at this
    exact this
  with_reducible (refine mv_i ?_; refine mv_i ?_)
  refine leni_i t23 sw2 ?_
  refine lss_i (fun hlt => ?_) (fun hge => ?_)
  · have hk2 : k < w.length := by omega
    have hrest := hwk.rest (w.drop k)
    rw [List.take_append_drop, drop_cons' hk2] at hrest
    have mv2 : MacV h2 (.agg #[.int .i64 m.states, .int .i64 m.inputs, .int .i64 m.outputs, .int .i64 m.start, .slice o l c]) m := macv_of ss2
    with_reducible (refine cnd_t ?_)
    refine vk_i (ld36 hb2) ?_
    refine ⟨?_, ?_⟩
    · intro x hx
      simp at hx
      rcases hx with rfl | rfl | rfl | rfl | rfl
      · trivial
      · trivial
      · trivial
      · trivial
      · rcases ss2.2 with ⟨oo, cc, e, e2, _⟩ | ⟨i, oo, cc, a, e, e1, _⟩
        · cases e
          cases oo with
          | none => trivial
          | some p => exact e2 p rfl
        · cases e
          exact (List.getElem?_eq_some_iff.mp e1).1
    with_reducible (refine mv_i ?_; refine mv_i ?_; refine mv_i ?_)
    refine idxi_i (k := k) t23 sw2 hk2 ?_
    refine ldi_i (k := k) t23 r3 sw2 hk2 ?_
    refine ⟨trivial, ?_⟩
    refine calld_r (c81 mv2) ⟨⟨[], by simp⟩, ?_⟩
    with_reducible (refine mv_i ?_; refine mv_i ?_)
    cases hst : stepAt m.steps g (w.getD k 0) with
    | none =>
      refine eql_i (fun _ => ?_) (fun hne => absurd rfl hne)
      with_reducible (refine cnd_t ?_; refine mv_i ?_; refine mv_i ?_; refine ret1 ?_)
      have e : takenI m.steps f w = ks := by rw [hrest]; simp only [takenI, hst, List.append_nil]
      rw [e]
      exact ⟨p1.trans ow.pre, hres ks e rfl⟩
    | some j =>
      obtain ⟨hj, _⟩ := stepAt_lt hst
      refine eql_i (fun he => absurd he (by simp only [optI]; omega)) (fun _ => ?_)
      with_reducible (refine cnd_f ?_; refine mv_i ?_; refine mv_i ?_)
      simp only [optI]
      refine ok_i (bs23_1 _ _) ?_
      obtain ⟨o4, _⟩ := ow.ext (pre_new h2 [.int .i64 (j : Int)] 1)
      refine app_i t23 o4 (Seg.new (n := 1) 2 (by simp) (by omega)) (by simp [Value.oneCell']) (by omega) ⟨by omega, by omega⟩ fun v' h' o5 _ => ?_
      have hb5 := (Sub.of_pre o5.pre).2 _ _ hb1
      have ss5 := ss1.mono (Sub.of_pre o5.pre)
      with_reducible (refine mv_i ?_; refine vk_i (fa36_4 _) ?_; refine ld5_4 r34 (by assumption) ?_; refine mv_i ?_)
      refine idx_i (k := j) t34 ss5 hj ?_
      with_reducible (refine fae_i st63 (by assumption) (by omega) (by omega) ?_; refine ldf_i st63 (by assumption) (by omega) (by omega) dst ?_; refine mv_i ?_; refine mv_i ?_)
      refine inc_i (by omega) ?_
      with_reducible (refine mv_i ?_)
      refine next3 hk2 ⟨ks ++ [j], _, rfl, ?_, ?_⟩
      · rw [take_gd 0 hk2]
        exact .snoc hwk hst
      · simpa using o5
  · have ek : k = w.length := by omega
    subst ek
    have hrest := hwk.rest []
    rw [List.take_of_length_le (Nat.le_refl _)] at hrest
    with_reducible (refine cnd_f ?_; refine mv_i ?_; refine mv_i ?_; refine ret1 ?_)
    have e : takenI m.steps f w = ks := by simpa [takenI] using hrest
    rw [e]
    exact ⟨p1.trans ow.pre, hres ks e rfl⟩

theorem takenI_lt {l : List St} : ∀ (w : List Int) (f : Int), ∀ k ∈ takenI l f w, k < l.length
  | [], f, k, h => by simp [takenI] at h
  | n :: w, f, k, h => by
    simp only [takenI] at h
    split at h
    · cases h
    · rename_i j hj
      rcases List.mem_cons.mp h with rfl | h
      · exact (stepAt_lt hj).1
      · exact takenI_lt w _ k h

theorem takenI_len {l : List St} : ∀ (w : List Int) (f : Int), (takenI l f w).length ≤ w.length
  | [], f => by simp [takenI]
  | n :: w, f => by
    simp only [takenI]
    split
    · simp
    · simp; exact takenI_len w _

def outsOf (m : Mac) (f : Int) (w : List Int) : List Int := (takenI m.steps f w).map fun k => (m.steps.getD k dst).out

def stsOf (m : Mac) (f : Int) (w : List Int) : List Int := (takenI m.steps f w).map fun k => (m.steps.getD k dst).to

theorem ltKey_trans {a b c : St} (h1 : ltKey a b = true) (h2 : ltKey b c = true) : ltKey a c = true := by
  unfold ltKey at *
  simp only [decide_eq_true_eq] at *
  omega

structure Right (m : Mac) : Prop where
  head : mHead m = true
  few : (m.steps.length : Int) ≤ m.states * m.inputs
  ok : ∀ k, k < m.steps.length → okSt m (m.steps.getD k dst) = true
  lt : ∀ j k, j < k → k < m.steps.length → ltKey (m.steps.getD j dst) (m.steps.getD k dst) = true

theorem right_of {m : Mac} (he : (mErr m).2 = 0) : Right m := by
  unfold mErr at he
  split at he
  · simp at he
  · rename_i hh
    split at he
    · simp at he
    · rename_i hg
      have hn : firstOf (mAt m) m.steps.length = none := by
        cases hf : firstOf (mAt m) m.steps.length with
        | none => rfl
        | some e =>
          exfalso
          rw [hf] at he
          obtain ⟨k, _, hk⟩ := firstOf_is hf
          unfold mAt at hk
          split at hk
          · cases hk; simp at he
          · split at hk
            · cases hk; simp at he
            · cases hk
      have hat := firstOf_not hn
      have hok : ∀ k, k < m.steps.length → okSt m (m.steps.getD k dst) = true ∧ (0 < k → ltKey (m.steps.getD (k - 1) dst) (m.steps.getD k dst) = true) := by
        intro k hk
        have := hat k hk
        unfold mAt at this
        split at this
        · cases this
        · rename_i h1
          split at this
          · cases this
          · rename_i h2
            refine ⟨by simpa using h1, fun h0 => ?_⟩
            cases q : ltKey (m.steps.getD (k - 1) dst) (m.steps.getD k dst) with
            | true => rfl
            | false => exact absurd ⟨h0, q⟩ h2
      refine ⟨by simpa using hh, by omega, fun k hk => (hok k hk).1, ?_⟩
      intro j k
      induction k with
      | zero => intro h; omega
      | succ k ih =>
        intro hjk hk
        have h1 := (hok (k + 1) hk).2 (by omega)
        simp only [Nat.add_sub_cancel] at h1
        by_cases e : j = k
        · subst e; exact h1
        · exact ltKey_trans (ih (by omega) (by omega)) h1

theorem mErr_zero {m : Mac} (he : (mErr m).2 = 0) : mErr m = (0, 0) := by
  unfold mErr at he ⊢
  split at he
  · simp at he
  · rename_i hh
    split at he
    · simp at he
    · rename_i hg
      rw [if_neg hh, if_neg hg]
      cases hf : firstOf (mAt m) m.steps.length with
      | none => rfl
      | some e =>
        exfalso
        rw [hf] at he
        obtain ⟨k, _, hk⟩ := firstOf_is hf
        unfold mAt at hk
        split at hk
        · cases hk; simp at he
        · split at hk
          · cases hk; simp at he
          · cases hk

theorem Right.bounds {m : Mac} (r : Right m) : 1 ≤ m.states ∧ m.states ≤ 40 ∧ 1 ≤ m.inputs ∧ m.inputs ≤ 8 ∧ 0 ≤ m.start ∧ m.start < m.states := by
  have := r.head
  simp only [mHead, inR, Bool.and_eq_true, decide_eq_true_eq] at this
  omega

theorem Right.st {m : Mac} (r : Right m) {k : Nat} (hk : k < m.steps.length) : 0 ≤ (m.steps.getD k dst).fr ∧ (m.steps.getD k dst).fr < m.states ∧ 0 ≤ (m.steps.getD k dst).to ∧ (m.steps.getD k dst).to < m.states ∧
    0 ≤ (m.steps.getD k dst).inp ∧ (m.steps.getD k dst).inp < m.inputs := by
  have := r.ok k hk
  simp only [okSt, inR, Bool.and_eq_true, decide_eq_true_eq] at this
  omega

theorem Right.key {m : Mac} (r : Right m) {j k : Nat} (hj : j < k) (hk : k < m.steps.length) : ¬ ((m.steps.getD j dst).fr = (m.steps.getD k dst).fr ∧ (m.steps.getD j dst).inp = (m.steps.getD k dst).inp) := by
  have := r.lt j k hj hk
  unfold ltKey at this
  simp only [decide_eq_true_eq] at this
  omega

def stepTo (l : List St) (k : Nat) (f n : Int) : Option Nat := firstOf (stAt l f n) k

theorem stepTo_succ (l : List St) (k : Nat) (f n : Int) : stepTo l (k + 1) f n = (stepTo l k f n).or (stAt l f n k) := firstOf_succ _ _

def cellP (N S : Nat) (l : List St) (k : Nat) (f n : Nat) : Value := match stepTo l k (f : Int) (n : Int) with | none => .pointer none | some j => .pointer (some ⟨N + 2 + S + j, 0, none⟩)

structure TInv (h : Heap) (N S I : Nat) (l : List St) (box : Arr) (k : Nat) (h2 : Heap) : Prop where
  len : h2.length = N + 2 + S + k
  pre : h <+: h2
  bx : h2[N]? = some (.arr box)
  tb : h2[N + 1]? = some (.arr ⟨(List.range S).map fun f => .slice (some ⟨N + 2 + f, 0, none⟩) I (I + 1), 1, false⟩)
  rw : ∀ f, f < S → h2[N + 2 + f]? = some (.arr ⟨(List.range I).map fun n => cellP N S l k f n, 1, false⟩)
  ob : ∀ j, j < k → h2[N + 2 + S + j]? = some (.arr ⟨(l.getD j dst).cells, 4, false⟩)

structure PInv (h : Heap) (N S I : Nat) (box : Arr) (i : Nat) (h2 : Heap) : Prop where
  len : h2.length = N + 2 + i
  pre : h <+: h2
  bx : h2[N]? = some (.arr box)
  tb : h2[N + 1]? = some (.arr ⟨(List.range S).map fun f => if f < i then .slice (some ⟨N + 2 + f, 0, none⟩) I (I + 1) else .slice none 0 0, 1, false⟩)
  rw : ∀ f, f < i → h2[N + 2 + f]? = some (.arr ⟨List.replicate I (.pointer none), 1, false⟩)

theorem set_ne {i j : Nat} {x : Ob} {g : Heap} (hne : i ≠ j) : (g.set i x)[j]? = g[j]? := List.getElem?_set_ne hne

theorem app_at {g : Heap} {cs : List Value} {z j : Nat} (hj : j < g.length) : (newArr g cs z)[j]? = g[j]? := by unfold newArr; rw [List.getElem?_append_left hj]

theorem range_set {S i : Nat} (f g : Nat → Value) (hi : i < S) (hg : ∀ k, k ≠ i → g k = f k) : ((List.range S).map f).set i (g i) = (List.range S).map g := by
  refine List.ext_getElem? fun k => ?_
  rw [List.getElem?_set]
  by_cases e : i = k
  · subst e; simp [hi]
  · rw [if_neg e]
    simp only [List.getElem?_map]
    cases hk : (List.range S)[k]? with
    | none => rfl
    | some y =>
      obtain ⟨hlt, rfl⟩ := List.getElem?_eq_some_iff.mp hk
      simp only [List.getElem_range, Option.map_some]
      rw [hg k (Ne.symm e)]

def tabV (N S : Nat) : Value := .slice (some ⟨N + 1, 0, none⟩) S (S + 1)

theorem seg_range {g : Heap} {i S c : Nat} {f : Nat → Value} (hi : g[i]? = some (.arr ⟨(List.range S).map f, 1, false⟩)) (hb : S ≤ 2 ^ 50) : Seg 1 g (.slice (some ⟨i, 0, none⟩) S c) S ((List.range S).map f) :=
  ⟨⟨by simp, hb⟩, .inr ⟨i, 0, c, _, rfl, hi, rfl, by simp, by rw [List.drop_zero, List.take_of_length_le (by simp)]⟩⟩

theorem vb_mac {m : Mac} {o : Option Addr} {l c : Nat} (s : StepsS h (.slice o l c) m.steps) : VB h.length (.agg #[.int .i64 m.states, .int .i64 m.inputs, .int .i64 m.outputs, .int .i64 m.start, .slice o l c]) := by
  intro x hx
  simp at hx
  rcases hx with rfl | rfl | rfl | rfl | rfl
  · trivial
  · trivial
  · trivial
  · trivial
  · rcases s.2 with ⟨oo, cc, e, e2, _⟩ | ⟨i, oo, cc, a, e, e1, _⟩
    · cases e
      cases oo with
      | none => trivial
      | some p => exact e2 p rfl
    · cases e
      exact (List.getElem?_eq_some_iff.mp e1).1

theorem stepAt_to (l : List St) (f n : Int) : stepTo l l.length f n = stepAt l f n := rfl

theorem w_in {w : List Int} {n : Int} (hz : wErr w n 60 = 0) : w.length ≤ 60 ∧ ∀ k, k < w.length → inR (w.getD k 0) 0 (pm n) = true := by
  unfold wErr at hz
  split at hz
  · cases hz
  · split at hz
    · rename_i h1 h2
      refine ⟨by omega, fun k hk => ?_⟩
      rw [List.all_eq_true] at h2
      exact h2 _ (gd_mem 0 hk)
    · cases hz

theorem al36 (h : Heap) : aAlloc Try.prog 24 h = some (.pointer (some ⟨h.length, 0, none⟩), newArr h [.int .i64 0, .int .i64 0, .int .i64 0, .int .i64 0, .slice none 0 0] 5) := by kernel_rfl

theorem bs34_0 (h : Heap) : aBuildSlice Try.prog 22 0 [] h = some (.slice (some ⟨h.length, 0, none⟩) 0 1, newArr h [] 4) := by kernel_rfl

theorem s34 : szOf Try.prog 22 = some 1 := by kernel_rfl

theorem sto36 {g : Heap} {i : Nat} {a b c d e a' b' c' d' : Value} {o : Option Addr} {l k : Nat} (hi : g[i]? = some (.arr ⟨[a, b, c, d, e], 5, false⟩)) {x1 x2 x3 x4 : Int} (h1 : a' = .int .i64 x1) (h2 : b' = .int .i64 x2) (h3 : c' = .int .i64 x3) (h4 : d' = .int .i64 x4) :
    aStore Try.prog 24 (.pointer (some ⟨i, 0, none⟩)) (.agg #[a', b', c', d', .slice o l k]) g = some (g.set i (.arr ⟨[a', b', c', d', .slice o l k], 5, false⟩)) := by
  subst h1 h2 h3 h4
  simp only [aStore, hi, sz36]
  rw [if_pos (by simp [Value.cells, Value.oneCell'])]
  rfl

theorem flat_one (l : List St) : (l.flatMap St.cells).all (·.oneCell') = true := by
  rw [List.all_eq_true]
  intro x hx
  obtain ⟨s, _, hs⟩ := List.mem_flatMap.mp hx
  simp [St.cells] at hs
  rcases hs with rfl | rfl | rfl | rfl <;> rfl

theorem c16 {a : Value} {m : Mac} (s : MacV h a m) (hl : m.steps.length ≤ 2 ^ 40) : DetP Try.prog 16 [a] h fun v h' => h <+: h' ∧ MacV h' v m := by
  refine w16 ?_
  unfold n16
  obtain ⟨o, l, c, rfl, ss⟩ := s
  rw [box36]
  refine ok_i rfl ?_
  have p1 := pre_new h [.int .i64 m.states, .int .i64 m.inputs, .int .i64 m.outputs, .int .i64 m.start, .slice o l c] 5
  have hb1 := newArr_get h [.int .i64 m.states, .int .i64 m.inputs, .int .i64 m.outputs, .int .i64 m.start, .slice o l c] 5
  have L1 := newArr_length h [.int .i64 m.states, .int .i64 m.inputs, .int .i64 m.outputs, .int .i64 m.start, .slice o l c] 5
  generalize newArr h [.int .i64 m.states, .int .i64 m.inputs, .int .i64 m.outputs, .int .i64 m.start, .slice o l c] 5 = g1 at p1 hb1 L1 ⊢
  refine ok_i (al36 _) ?_
  have p2 := pre_new g1 [.int .i64 0, .int .i64 0, .int .i64 0, .int .i64 0, .slice none 0 0] 5
  have hb2 := newArr_get g1 [.int .i64 0, .int .i64 0, .int .i64 0, .int .i64 0, .slice none 0 0] 5
  have L2 := newArr_length g1 [.int .i64 0, .int .i64 0, .int .i64 0, .int .i64 0, .slice none 0 0] 5
  generalize newArr g1 [.int .i64 0, .int .i64 0, .int .i64 0, .int .i64 0, .slice none 0 0] 5 = g2 at p2 hb2 L2 ⊢
  refine ok_i (bs34_0 _) ?_
  have p3 := pre_new g2 [] 4
  have hb3 := newArr_get g2 [] 4
  have L3 := newArr_length g2 [] 4
  generalize newArr g2 [] 4 = g3 at p3 hb3 L3 ⊢
  have p13 := (p1.trans p2).trans p3
  have h1b := (Sub.of_pre (p2.trans p3)).2 _ _ hb1
  have h2b := (Sub.of_pre p3).2 _ _ hb2
  have ss3 := ss.mono (Sub.of_pre p13)
  with_reducible (refine vk_i (fa36_4 _) ?_; refine ld5_4 r34 (by assumption) ?_)
  have happ : ∃ v6 g4, aAppend Try.prog 22 22 (.slice (some ⟨g2.length, 0, none⟩) 0 1) (.slice o l c) g3 = some (v6, g4) ∧ g3 <+: g4 ∧ StepsS g4 v6 m.steps ∧ ∃ o' l' c', v6 = .slice o' l' c' := by
    have e := own_app t34 g2.length ss3 (flat_one _) ⟨by omega, by omega⟩
    by_cases h0 : m.steps.length = 0
    · rw [if_pos h0] at e
      refine ⟨_, _, e, List.prefix_refl _, ⟨⟨by simp [h0, List.length_eq_zero_iff.mp h0], by omega⟩, .inl ⟨some (g2.length, 0), 1, rfl, fun p hp => ?_, h0⟩⟩, _, _, _, rfl⟩
      cases hp
      show g2.length < g3.length
      omega
    · rw [if_neg h0] at e
      refine ⟨_, _, e, pre_new _ _ _, ?_, _, _, _, rfl⟩
      exact Seg.new 0 ss3.1.1 ss3.1.2
  obtain ⟨v6, g4, eapp, p4, s6, o6, l6, cp6, rfl⟩ := happ
  refine ok_i eapp ?_
  have h1b4 := (Sub.of_pre p4).2 _ _ h1b
  have h2b4 := (Sub.of_pre p4).2 _ _ h2b
  with_reducible (refine vk_i (fa36_4 _) ?_)
  refine st_i s34 h1b4 rfl (by simp) rfl rfl ?_
  have hlt1 := (List.getElem?_eq_some_iff.mp h1b4).1
  have h1c : (g4.set h.length (.arr { (⟨[.int .i64 m.states, .int .i64 m.inputs, .int .i64 m.outputs, .int .i64 m.start, .slice o l c], 5, false⟩ : Arr) with cells := [.int .i64 m.states, .int .i64 m.inputs, .int .i64 m.outputs, .int .i64 m.start, .slice o l c].set 4 (.slice o6 l6 cp6) }))[h.length]? = some (.arr ⟨[.int .i64 m.states, .int .i64 m.inputs, .int .i64 m.outputs, .int .i64 m.start, .slice o6 l6 cp6], 5, false⟩) := by simp [hlt1]
  have k1 := KeptB.set h.length g4 (.arr { (⟨[.int .i64 m.states, .int .i64 m.inputs, .int .i64 m.outputs, .int .i64 m.start, .slice o l c], 5, false⟩ : Arr) with cells := [.int .i64 m.states, .int .i64 m.inputs, .int .i64 m.outputs, .int .i64 m.start, .slice o l c].set 4 (.slice o6 l6 cp6) })
  have p5 := pre_set (p13.trans p4) (Nat.le_refl _) (.arr { (⟨[.int .i64 m.states, .int .i64 m.inputs, .int .i64 m.outputs, .int .i64 m.start, .slice o l c], 5, false⟩ : Arr) with cells := [.int .i64 m.states, .int .i64 m.inputs, .int .i64 m.outputs, .int .i64 m.start, .slice o l c].set 4 (.slice o6 l6 cp6) })
  have s7 := s6.keep k1 h1b4 (by simp)
  have h2c := k1.2 g1.length _ (by omega) h2b4
  generalize g4.set h.length (.arr { (⟨[.int .i64 m.states, .int .i64 m.inputs, .int .i64 m.outputs, .int .i64 m.start, .slice o l c], 5, false⟩ : Arr) with cells := [.int .i64 m.states, .int .i64 m.inputs, .int .i64 m.outputs, .int .i64 m.start, .slice o l c].set 4 (.slice o6 l6 cp6) }) = g5 at h1c p5 s7 h2c ⊢
  refine vk_i (ld36 h1c) ?_
  refine ok_i (v := undef) (h' := g5.set g1.length (.arr ⟨[.int .i64 m.states, .int .i64 m.inputs, .int .i64 m.outputs, .int .i64 m.start, .slice o6 l6 cp6], 5, false⟩)) (by rw [sto36 h2c rfl rfl rfl rfl]; rfl) ?_
  have k2 := KeptB.set g1.length g5 (.arr ⟨[.int .i64 m.states, .int .i64 m.inputs, .int .i64 m.outputs, .int .i64 m.start, .slice o6 l6 cp6], 5, false⟩)
  have p6 := pre_set p5 (by omega : h.length ≤ g1.length) (.arr ⟨[.int .i64 m.states, .int .i64 m.inputs, .int .i64 m.outputs, .int .i64 m.start, .slice o6 l6 cp6], 5, false⟩)
  have s8 := s7.keep k2 h2c (by simp)
  have hlt2 := (List.getElem?_eq_some_iff.mp h2c).1
  have h2d : (g5.set g1.length (.arr ⟨[.int .i64 m.states, .int .i64 m.inputs, .int .i64 m.outputs, .int .i64 m.start, .slice o6 l6 cp6], 5, false⟩))[g1.length]? = some (.arr ⟨[.int .i64 m.states, .int .i64 m.inputs, .int .i64 m.outputs, .int .i64 m.start, .slice o6 l6 cp6], 5, false⟩) := by simp [hlt2]
  rw [ld36 h2d]
  refine ret1 ?_
  exact ⟨p6, macv_of s8⟩

theorem c36 {a b : Value} {xs ys : List (List Int)} (s : RowsS h a xs) (s2 : RowsS h b ys) : Runs Try.prog 36 [a, b] h (.bool (decide (xs = ys))) h := by
  have lt := s.lt
  have lt2 := s2.lt
  refine DetP.runs (w36 ?_)
  unfold n36
  with_reducible (refine mv_i ?_; refine mv_i ?_)
  refine lenr_i t22 s ?_
  with_reducible (refine mv_i ?_)
  refine lenr_i t22 s2 ?_
  refine neq_i (fun hl => ?_) (fun hl => ?_)
  · with_reducible (refine cnd_f ?_; refine mv_i ?_)
    refine loop1 xs.length (fun k h2 => h2 = h ∧ ∀ j, j < k → xs.getD j [] = ys.getD j []) ⟨rfl, fun j hj => by omega⟩ ?_
    rintro k _ _ hk ⟨rfl, hJ⟩
    with_reducible (refine mv_i ?_; refine mv_i ?_)
    refine lenr_i t22 s ?_
    refine lss_i (fun hlt => ?_) (fun hge => ?_)
    · with_reducible (refine cnd_t ?_; refine mv_i ?_; refine mv_i ?_)
      refine idxr_i (k := k) t22 s (by omega) ?_
      refine ldr_i (k := k) t22 r23 s (by omega) fun r hr => ?_
      refine ⟨seg_vb hr, ?_⟩
      with_reducible (refine mv_i ?_; refine mv_i ?_)
      refine idxr_i (k := k) t22 s2 (by omega) ?_
      refine ldr_i (k := k) t22 r23 s2 (by omega) fun r2 hr2 => ?_
      refine ⟨seg_vb hr2, ?_⟩
      refine calld_r (c23 hr hr2) ⟨⟨[], by simp⟩, ?_⟩
      by_cases he : xs.getD k [] = ys.getD k []
      · rw [decide_eq_true he]
        with_reducible (refine not_t ?_; refine cnd_f ?_; refine mv_i ?_)
        refine inc_i (by omega) ?_
        with_reducible (refine mv_i ?_)
        refine next1 (by omega) ⟨rfl, fun j hj => ?_⟩
        by_cases q : j = k
        · subst q; exact he
        · exact hJ j (by omega)
      · rw [decide_eq_false he]
        with_reducible (refine not_f ?_; refine cnd_t ?_; refine mv_i ?_; refine ret1 ?_)
        refine ⟨?_, rfl⟩
        have : ¬ xs = ys := fun e => he (by rw [e])
        simp [this]
    · with_reducible (refine cnd_f ?_; refine mv_i ?_; refine ret1 ?_)
      refine ⟨?_, rfl⟩
      have : xs = ys := by
        refine List.ext_getElem (by omega) fun j h1 h2 => ?_
        have := hJ j (by omega)
        rw [gd_at [] h1, gd_at [] h2] at this
        exact this
      simp [this]
  · with_reducible (refine cnd_t ?_; refine mv_i ?_; refine ret1 ?_)
    refine ⟨?_, rfl⟩
    have : ¬ xs = ys := fun e => hl (by rw [e])
    simp [this]

theorem drop_consV {row : List Value} {k : Nat} (hk : k < row.length) : row.drop k = row.getD k undef :: row.drop (k + 1) := by
  rw [gd_at undef hk]; exact List.drop_eq_getElem_cons hk

theorem sub1_i {x : Value} {xss : List (List Int)} {k : Nat} {o : Option Addr} {l : Nat} {K : Value → Heap → Prop} (s : RowsS h x xss) (hx : x = .slice o l 0) (hk : k < xss.length)
    (hK : ∀ y, RowsS h y [xss.getD k []] → K y h) : vK (aSlice Try.prog 45 x (some (.int .i64 (k : Int))) (some (.int .i64 ((k + 1 : Nat) : Int))) none h) h K := by
  obtain ⟨rs, h1, h2, h3⟩ := s
  obtain ⟨hu, hsz, _⟩ := sliceT_of t22
  have lt := h2.1.2
  rcases h2.2 with ⟨_, _, _, _, e⟩ | ⟨i, oo, c, a, rfl, e1, e2, e3, e4⟩
  · omega
  · cases hx
    simp only [Nat.mul_one] at e3 e4
    have hr := h3 k hk
    refine vk_i (v := .slice (some ⟨i, oo + k, none⟩) 1 0) ?_ (hK _ ⟨[rs.getD k undef], rfl, ⟨⟨rfl, by simp⟩, .inr ⟨i, oo + k, 0, a, rfl, e1, e2, by simp; omega, ?_⟩⟩, ?_⟩)
    · simp only [aSlice, hu, hsz, e1, e2, if_true, aBoundO, aBound, capOf]
      rw [if_pos ⟨by omega, by omega⟩]
      simp only
      rw [if_pos ⟨by omega, by omega⟩]
      simp
    · simp only [List.length_singleton, Nat.mul_one]
      rw [← List.drop_drop]
      have := congrArg (List.drop k) e4
      rw [List.drop_take] at this
      have e5 := congrArg (List.take 1) this
      rw [List.take_take, Nat.min_eq_left (by omega)] at e5
      rw [e5, drop_consV (show k < rs.length by omega)]
      rfl
    · intro j hj
      have : j = 0 := by simpa using hj
      subst this
      exact hr

end Go.Proofs.Ytdjoednhfoligaa
