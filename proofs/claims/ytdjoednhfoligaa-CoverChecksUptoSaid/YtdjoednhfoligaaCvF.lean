import Derived.Test.YtdjoednhfoligaaAmW
import Derived.Test.YtdjoednhfoligaaProg
import Derived.KernelRfl
set_option linter.unusedVariables false
set_option maxRecDepth 100000
namespace Go.Proofs.Ytdjoednhfoligaa
open Go.AM

/-! ### examiner/examinerlaw38.CoverChecks: function 3 -/
def n3 (a0 a1 a2 : Value) (h : Heap) (R : Value → Heap → Prop) : Prop :=
  okK (some (aBox Try.prog 24 a0 h)) fun v3 h =>
  okK (some (aBox Try.prog 27 a2 h)) fun v5 h =>
  mvK (Value.bool false) h fun v6 h =>
  cK Try.prog 14 [] h fun v11 h =>
  vK (aUn UnOp.not v11) h fun v12 h =>
  cnd v12 (
   mvK (Value.bool false) h fun v6_1 h =>
   retV [some v6_1] R h) (
   vK (aLoad Try.prog 24 v3 h) h fun v14 g =>
   VB h.length v14 ∧ (let h := g
    cKD Try.prog 16 [v14] h fun v15 g =>
    (∃ new, g = h ++ new) ∧ (let h := g
     mvK a1 h fun v16 h =>
     cKD Try.prog 17 [v16] h fun v17 g =>
     (∃ new, g = h ++ new) ∧ (let h := g
      vK (aFieldAddr Try.prog 27 v5 0) h fun v18 h =>
      vK (aLoad Try.prog 25 v18 h) h fun v19 g =>
      VB h.length v19 ∧ (let h := g
       cKD Try.prog 17 [v19] h fun v20 g =>
       (∃ new, g = h ++ new) ∧ (let h := g
        vK (aFieldAddr Try.prog 27 v5 1) h fun v21 h =>
        vK (aLoad Try.prog 25 v21 h) h fun v22 g =>
        VB h.length v22 ∧ (let h := g
         cKD Try.prog 17 [v22] h fun v23 g =>
         (∃ new, g = h ++ new) ∧ (let h := g
          vK (aBuild Try.prog 27 [(0, v20), (1, v23)]) h fun v24 h =>
          cKD Try.prog 15 [v15, v17, v24] h fun v25 g =>
          (∃ new, g = h ++ new) ∧ (let h := g
           mvK v25 h fun v13 h =>
           vK (aExtract v13 0) h fun v26 h =>
           vK (aExtract v13 1) h fun v27 h =>
           mvK v26 h fun v7 h =>
           mvK v27 h fun v8 h =>
           vK (aLoad Try.prog 24 v3 h) h fun v28 h =>
           cK Try.prog 18 [v28] h fun v29 h =>
           mvK v29 h fun v9 h =>
           seqK (fun k0 =>
            mvK v9 h fun v30 h =>
            vK (aBin Try.prog BinOp.eql 3 v30 (Value.int IntKind.i64 0)) h fun v31 h =>
            cnd v31 (
             vK (aLoad Try.prog 24 v3 h) h fun v32 h =>
             mvK a1 h fun v33 h =>
             cK Try.prog 19 [v32, v33] h fun v34 h =>
             mvK v34 h fun v9_1 h =>
             k0 [v9_1] h) (
             k0 [v9] h)) fun x0 h => ∀ jx0 : Tmps,
            let v9_2 : Value := nth x0 0
            mvK (Value.int IntKind.i64 0) h fun v10 h =>
            seqK (fun k1 =>
             mvK v9_2 h fun v35 h =>
             vK (aBin Try.prog BinOp.eql 3 v35 (Value.int IntKind.i64 0)) h fun v36 h =>
             cnd v36 (
              vK (aLoad Try.prog 24 v3 h) h fun v38 h =>
              mvK a1 h fun v39 h =>
              vK (aLoad Try.prog 27 v5 h) h fun v40 h =>
              cK Try.prog 20 [v38, v39, v40] h fun v41 h =>
              mvK v41 h fun v37 h =>
              vK (aExtract v37 0) h fun v42 h =>
              vK (aExtract v37 1) h fun v43 h =>
              mvK v42 h fun v10_1 h =>
              mvK v43 h fun v9_3 h =>
              k1 [v9_3, v10_1] h) (
              k1 [v9_2, v10] h)) fun x1 h => ∀ jx1 : Tmps,
             let v9_4 : Value := nth x1 0
             let v10_2 : Value := nth x1 1
             mvK v8 h fun v44 h =>
             mvK v9_4 h fun v45 h =>
             vK (aBin Try.prog BinOp.eql 3 v44 v45) h fun v46 h =>
             mvK v46 h fun v47 h =>
             gdK v47 true (fun k2 =>
              mvK v7 h fun v48 h =>
              k2 v48 h) (fun v48_1 h =>
              gdK v47 true (fun k3 =>
               mvK v10_2 h fun v49 h =>
               k3 v49 h) (fun v49_1 h =>
               gdK v47 true (fun k4 =>
                vK (aBin Try.prog BinOp.eql 3 v48_1 v49_1) h fun v50 h =>
                k4 v50 h) (fun v50_1 h =>
                vK (pickV v47 v50_1 (Value.bool false)) h fun v51 h =>
                mvK v51 h fun v6_2 h =>
                retV [some v6_2] R h) h) h) h)))))))))
def lv3 (q : Nat) : List Nat := bif Nat.beq q 15 then [33285997056, 9] else bif Nat.beq q 21 then [17557826307584, 9, 10] else []
theorem ok3 : lkOK Try.prog lv3 Try.f3 3 (Try.f3.body.getD .skip) 3 = true := by kernel_rfl
theorem e3 (a0 a1 a2 : Value) (h : Heap) (R : Value → Heap → Prop) : n3 a0 a1 a2 h R = wpK Try.prog lv3 (Try.f3.body.getD .skip) (endK Try.prog [.tmp 6] R) (argT [a0, a1, a2]) h := by kernel_rfl
theorem w3 {a0 a1 a2 : Value} {h : Heap} {R : Value → Heap → Prop} (hn : n3 a0 a1 a2 h R) : DetP Try.prog 3 [a0, a1, a2] h R :=
  DetP.of_code (rs := [.tmp 6]) (n := 3) Try.func3 (by kernel_rfl) (by kernel_rfl) lv3 ok3 rfl ((e3 a0 a1 a2 h R) ▸ hn)

/-! ### examiner/cover.CheckRound: function 15 -/
def n15 (a0 a1 a2 : Value) (h : Heap) (R : Value → Heap → Prop) : Prop :=
  okK (some (aBox Try.prog 24 a0 h)) fun v3 h =>
  okK (some (aBox Try.prog 27 a2 h)) fun v5 h =>
  mvK (Value.int IntKind.i64 0) h fun v6 h =>
  mvK (Value.int IntKind.i64 0) h fun v7 h =>
  vK (aLoad Try.prog 24 v3 h) h fun v23 g =>
  VB h.length v23 ∧ (let h := g
   cKD Try.prog 51 [v23] h fun v24 g =>
   (∃ new, g = h ++ new) ∧ (let h := g
    vK (aLoad Try.prog 24 v3 h) h fun v25 g =>
    VB h.length v25 ∧ (let h := g
     mvK a1 h fun v26 h =>
     cKD Try.prog 52 [v25, v26] h fun v27 g =>
     (∃ new, g = h ++ new) ∧ (let h := g
      vK (aLoad Try.prog 24 v3 h) h fun v28 g =>
      VB h.length v28 ∧ (let h := g
       vK (aFieldAddr Try.prog 27 v5 0) h fun v29 h =>
       vK (aLoad Try.prog 25 v29 h) h fun v30 g =>
       VB h.length v30 ∧ (let h := g
        cKD Try.prog 53 [v28, v30] h fun v31 g =>
        (∃ new, g = h ++ new) ∧ (let h := g
         okK (aBuildSlice Try.prog 132 3 [(0, v24), (1, v27), (2, v31)] h) fun v32 h =>
         cKD Try.prog 50 [v32] h fun v33 g =>
         (∃ new, g = h ++ new) ∧ (let h := g
          mvK v33 h fun v8 h =>
          mvK v8 h fun v34 h =>
          vK (aBin Try.prog BinOp.neq 29 v34 (Value.int IntKind.i64 0)) h fun v35 h =>
          cnd v35 (
           mvK v8 h fun v36 h =>
           mvK (Value.int IntKind.i64 0) h fun v6_1 h =>
           mvK v36 h fun v7_1 h =>
           retV [some v6_1, some v7_1] R h) (
           vK (aLoad Try.prog 24 v3 h) h fun v37 h =>
           cK Try.prog 54 [v37] h fun v38 h =>
           mvK v38 h fun v9 h =>
           mvK v9 h fun v39 h =>
           vK (aFieldAddr Try.prog 27 v5 0) h fun v40 h =>
           vK (aLoad Try.prog 25 v40 h) h fun v41 h =>
           cK Try.prog 55 [v39, v41] h fun v42 h =>
           okK (aAlloc Try.prog 25 h) fun v10 h =>
           okK ((aStore Try.prog 25 v10 v42 h).map (undef, ·)) fun _ h =>
           vK (aLoad Try.prog 25 v10 h) h fun v43 h =>
           vK (aLen Try.prog 25 v43) h fun v44 h =>
           vK (aFieldAddr Try.prog 27 v5 0) h fun v45 h =>
           vK (aLoad Try.prog 25 v45 h) h fun v46 h =>
           vK (aLen Try.prog 25 v46) h fun v47 h =>
           vK (aBin Try.prog BinOp.lss 3 v44 v47) h fun v48 h =>
           cnd v48 (
            mvK (Value.int IntKind.i64 0) h fun v6_2 h =>
            mvK (Value.int IntKind.i64 23) h fun v7_2 h =>
            retV [some v6_2, some v7_2] R h) (
            mvK v9 h fun v49 h =>
            vK (nilV v49) h fun v50 h =>
            vK (aFieldAddr Try.prog 92 v50 0) h fun v51 h =>
            vK (aFieldAddr Try.prog 24 v51 3) h fun v52 h =>
            vK (aLoad Try.prog 3 v52 h) h fun v53 h =>
            mvK v53 h fun v11 h =>
            mvK (Value.int IntKind.i64 0) h fun v12 h =>
            vK (aLoad Try.prog 25 v10 h) h fun v54 h =>
            vK (aLen Try.prog 25 v54) h fun v55 h =>
            mvK (Value.int IntKind.i64 0) h fun v56 h =>
            ∃ (I10 : List Value → Heap → Prop) (μ10 : List Value → Heap → Nat), I10 [v11, v12, v56] h ∧
            ∀ (h10 : Heap) (j10 : Tmps) (v11_1 : Value) (v12_1 : Value) (v56_1 : Value), I10 [v11_1, v12_1, v56_1] h10 → (let h := h10
             vK (aBin Try.prog BinOp.lss 3 v56_1 v55) h fun v57 h =>
             cnd v57 (
              vK (aIndexAddr Try.prog 25 v54 v56_1) h fun v58 h =>
              vK (aLoad Try.prog 3 v58 h) h fun v59 h =>
              mvK v59 h fun v14 h =>
              mvK v9 h fun v60 h =>
              vK (nilV v60) h fun v61 h =>
              vK (aFieldAddr Try.prog 92 v61 0) h fun v62 h =>
              vK (aFieldAddr Try.prog 24 v62 4) h fun v63 h =>
              vK (aLoad Try.prog 22 v63 h) h fun v64 g =>
              VB h.length v64 ∧ (let h := g
               mvK v14 h fun v65 h =>
               vK (aIndexAddr Try.prog 22 v64 v65) h fun v66 h =>
               vK (aFieldAddr Try.prog 76 v66 3) h fun v67 h =>
               vK (aLoad Try.prog 3 v67 h) h fun v68 g =>
               VB h.length v68 ∧ (let h := g
                mvK v12_1 h fun v69 h =>
                mvK a1 h fun v70 h =>
                mvK v14 h fun v71 h =>
                vK (aIndexAddr Try.prog 25 v70 v71) h fun v72 h =>
                vK (aLoad Try.prog 3 v72 h) h fun v73 g =>
                VB h.length v73 ∧ (let h := g
                 vK (aBin Try.prog BinOp.add 3 v69 v73) h fun v74 h =>
                 mvK v68 h fun v11_2 h =>
                 mvK v74 h fun v12_2 h =>
                 vK (aBin Try.prog BinOp.add 3 v56_1 (Value.int IntKind.i64 1)) h fun v75 h =>
                 mvK v75 h fun v56_2 h =>
                 I10 [v11_2, v12_2, v56_2] h ∧ μ10 [v11_2, v12_2, v56_2] h < μ10 [v11_1, v12_1, v56_1] h10)))) (
              mvK (Value.func (Fn.func 56) #[] #[v10]) h fun v76 h =>
              mvK v76 h fun v15 h =>
              mvK (Value.func (Fn.func 58) #[] #[]) h fun v16 h =>
              mvK v9 h fun v77 h =>
              cK Try.prog 60 [v77] h fun v78 h =>
              mvK v78 h fun v17 h =>
              mvK v11_1 h fun v79 h =>
              mvK v9 h fun v80 h =>
              vK (nilV v80) h fun v81 h =>
              vK (aFieldAddr Try.prog 92 v81 0) h fun v82 h =>
              vK (aFieldAddr Try.prog 24 v82 3) h fun v83 h =>
              vK (aLoad Try.prog 3 v83 h) h fun v84 g =>
              VB h.length v84 ∧ (let h := g
               vK (aBin Try.prog BinOp.eql 3 v79 v84) h fun v85 h =>
               cKD Try.prog 61 [v85, (Value.int IntKind.i64 39)] h fun v86 g =>
               (∃ new, g = h ++ new) ∧ (let h := g
                mvK v17 h fun v87 h =>
                mvK v15 h fun v88 h =>
                cKD Try.prog 62 [v87, v88] h fun v89 g =>
                (∃ new, g = h ++ new) ∧ (let h := g
                 vK (aUn UnOp.not v89) h fun v90 h =>
                 cKD Try.prog 61 [v90, (Value.int IntKind.i64 11)] h fun v91 g =>
                 (∃ new, g = h ++ new) ∧ (let h := g
                  vK (aFieldAddr Try.prog 27 v5 1) h fun v92 h =>
                  vK (aLoad Try.prog 25 v92 h) h fun v93 g =>
                  VB h.length v93 ∧ (let h := g
                   vK (aLen Try.prog 25 v93) h fun v94 h =>
                   vK (aFieldAddr Try.prog 24 v3 0) h fun v95 h =>
                   vK (aLoad Try.prog 3 v95 h) h fun v96 g =>
                   VB h.length v96 ∧ (let h := g
                    vK (aBin Try.prog BinOp.eql 3 v94 v96) h fun v97 h =>
                    cKD Try.prog 61 [v97, (Value.int IntKind.i64 6)] h fun v98 g =>
                    (∃ new, g = h ++ new) ∧ (let h := g
                     vK (aFieldAddr Try.prog 27 v5 1) h fun v99 h =>
                     vK (aLoad Try.prog 25 v99 h) h fun v100 g =>
                     VB h.length v100 ∧ (let h := g
                      mvK v16 h fun v101 h =>
                      cKD Try.prog 62 [v100, v101] h fun v102 g =>
                      (∃ new, g = h ++ new) ∧ (let h := g
                       vK (aUn UnOp.not v102) h fun v103 h =>
                       cKD Try.prog 61 [v103, (Value.int IntKind.i64 21)] h fun v104 g =>
                       (∃ new, g = h ++ new) ∧ (let h := g
                        okK (aBuildSlice Try.prog 132 4 [(0, v86), (1, v91), (2, v98), (3, v104)] h) fun v105 h =>
                        cKD Try.prog 50 [v105] h fun v106 g =>
                        (∃ new, g = h ++ new) ∧ (let h := g
                         mvK v106 h fun v18 h =>
                         mvK v18 h fun v107 h =>
                         vK (aBin Try.prog BinOp.neq 29 v107 (Value.int IntKind.i64 0)) h fun v108 h =>
                         cnd v108 (
                          mvK v18 h fun v109 h =>
                          mvK (Value.int IntKind.i64 0) h fun v6_3 h =>
                          mvK v109 h fun v7_3 h =>
                          retV [some v6_3, some v7_3] R h) (
                          mvK (Value.int IntKind.i64 0) h fun v19 h =>
                          mvK v17 h fun v110 h =>
                          vK (aLen Try.prog 25 v110) h fun v111 h =>
                          mvK (Value.int IntKind.i64 0) h fun v112 h =>
                          ∃ (I22 : List Value → Heap → Prop) (μ22 : List Value → Heap → Nat), I22 [v19, v112] h ∧
                          ∀ (h22 : Heap) (j22 : Tmps) (v19_1 : Value) (v112_1 : Value), I22 [v19_1, v112_1] h22 → (let h := h22
                           vK (aBin Try.prog BinOp.lss 3 v112_1 v111) h fun v113 h =>
                           cnd v113 (
                            vK (aIndexAddr Try.prog 25 v110 v112_1) h fun v114 h =>
                            vK (aLoad Try.prog 3 v114 h) h fun v115 h =>
                            mvK v115 h fun v21 h =>
                            mvK a1 h fun v116 h =>
                            mvK v21 h fun v117 h =>
                            vK (aIndexAddr Try.prog 25 v116 v117) h fun v118 h =>
                            vK (aLoad Try.prog 3 v118 h) h fun v119 g =>
                            VB h.length v119 ∧ (let h := g
                             vK (aFieldAddr Try.prog 27 v5 1) h fun v120 h =>
                             vK (aLoad Try.prog 25 v120 h) h fun v121 g =>
                             VB h.length v121 ∧ (let h := g
                              vK (aFieldAddr Try.prog 24 v3 4) h fun v122 h =>
                              vK (aLoad Try.prog 22 v122 h) h fun v123 g =>
                              VB h.length v123 ∧ (let h := g
                               mvK v21 h fun v124 h =>
                               vK (aIndexAddr Try.prog 22 v123 v124) h fun v125 h =>
                               vK (aFieldAddr Try.prog 76 v125 0) h fun v126 h =>
                               vK (aLoad Try.prog 3 v126 h) h fun v127 g =>
                               VB h.length v127 ∧ (let h := g
                                vK (aIndexAddr Try.prog 25 v121 v127) h fun v128 h =>
                                vK (aLoad Try.prog 3 v128 h) h fun v129 g =>
                                VB h.length v129 ∧ (let h := g
                                 vK (aBin Try.prog BinOp.add 3 v119 v129) h fun v130 h =>
                                 vK (aFieldAddr Try.prog 27 v5 1) h fun v131 h =>
                                 vK (aLoad Try.prog 25 v131 h) h fun v132 g =>
                                 VB h.length v132 ∧ (let h := g
                                  vK (aFieldAddr Try.prog 24 v3 4) h fun v133 h =>
                                  vK (aLoad Try.prog 22 v133 h) h fun v134 g =>
                                  VB h.length v134 ∧ (let h := g
                                   mvK v21 h fun v135 h =>
                                   vK (aIndexAddr Try.prog 22 v134 v135) h fun v136 h =>
                                   vK (aFieldAddr Try.prog 76 v136 3) h fun v137 h =>
                                   vK (aLoad Try.prog 3 v137 h) h fun v138 g =>
                                   VB h.length v138 ∧ (let h := g
                                    vK (aIndexAddr Try.prog 25 v132 v138) h fun v139 h =>
                                    vK (aLoad Try.prog 3 v139 h) h fun v140 g =>
                                    VB h.length v140 ∧ (let h := g
                                     vK (aBin Try.prog BinOp.sub 3 v130 v140) h fun v141 h =>
                                     mvK v141 h fun v22 h =>
                                     mvK v22 h fun v142 h =>
                                     vK (aBin Try.prog BinOp.lss 3 v142 (Value.int IntKind.i64 0)) h fun v143 h =>
                                     cnd v143 (
                                      mvK (Value.int IntKind.i64 0) h fun v6_4 h =>
                                      mvK (Value.int IntKind.i64 30) h fun v7_4 h =>
                                      retV [some v6_4, some v7_4] R h) (
                                      mvK v19_1 h fun v144 h =>
                                      mvK v22 h fun v145 h =>
                                      vK (aBin Try.prog BinOp.add 3 v144 v145) h fun v146 h =>
                                      mvK v146 h fun v19_2 h =>
                                      vK (aBin Try.prog BinOp.add 3 v112_1 (Value.int IntKind.i64 1)) h fun v147 h =>
                                      mvK v147 h fun v112_2 h =>
                                      I22 [v19_2, v112_2] h ∧ μ22 [v19_2, v112_2] h < μ22 [v19_1, v112_1] h22))))))))))) (
                            mvK v19_1 h fun v148 h =>
                            mvK v12_1 h fun v149 h =>
                            vK (aBin Try.prog BinOp.neq 3 v148 v149) h fun v150 h =>
                            cnd v150 (
                             mvK (Value.int IntKind.i64 0) h fun v6_5 h =>
                             mvK (Value.int IntKind.i64 30) h fun v7_5 h =>
                             retV [some v6_5, some v7_5] R h) (
                             mvK v12_1 h fun v151 h =>
                             mvK v151 h fun v6_6 h =>
                             mvK (Value.int IntKind.i64 0) h fun v7_6 h =>
                             retV [some v6_6, some v7_6] R h)))))))))))))))))))))))))))
def lv15 (q : Nat) : List Nat := bif Nat.beq q 20 then [75557791668320285513728, 11, 12, 56] else bif Nat.beq q 44 then [356811923171297673406036664733843287773282496, 19, 112] else []
theorem ok15 : lkOK Try.prog lv15 Try.f15 3 (Try.f15.body.getD .skip) 15 = true := by kernel_rfl
theorem e15 (a0 a1 a2 : Value) (h : Heap) (R : Value → Heap → Prop) : n15 a0 a1 a2 h R = wpK Try.prog lv15 (Try.f15.body.getD .skip) (endK Try.prog [.tmp 6, .tmp 7] R) (argT [a0, a1, a2]) h := by kernel_rfl
theorem w15 {a0 a1 a2 : Value} {h : Heap} {R : Value → Heap → Prop} (hn : n15 a0 a1 a2 h R) : DetP Try.prog 15 [a0, a1, a2] h R :=
  DetP.of_code (rs := [.tmp 6, .tmp 7]) (n := 3) Try.func15 (by kernel_rfl) (by kernel_rfl) lv15 ok15 rfl ((e15 a0 a1 a2 h R) ▸ hn)

/-! ### examiner/examinerref37.Own: function 16 -/
def n16 (a0 : Value) (h : Heap) (R : Value → Heap → Prop) : Prop :=
  okK (some (aBox Try.prog 24 a0 h)) fun v1 h =>
  okK (aAlloc Try.prog 24 h) fun v2 h =>
  okK (aBuildSlice Try.prog 22 0 [] h) fun v3 h =>
  vK (aFieldAddr Try.prog 24 v1 4) h fun v4 h =>
  vK (aLoad Try.prog 22 v4 h) h fun v5 h =>
  okK (aAppend Try.prog 22 22 v3 v5 h) fun v6 h =>
  vK (aFieldAddr Try.prog 24 v1 4) h fun v7 h =>
  okK ((aStore Try.prog 22 v7 v6 h).map (undef, ·)) fun _ h =>
  vK (aLoad Try.prog 24 v1 h) h fun v8 h =>
  okK ((aStore Try.prog 24 v2 v8 h).map (undef, ·)) fun _ h =>
  retV [aLoad Try.prog 24 v2 h] R h
def lv16 (q : Nat) : List Nat := []
theorem ok16 : lkOK Try.prog lv16 Try.f16 1 (Try.f16.body.getD .skip) 16 = true := by kernel_rfl
theorem e16 (a0 : Value) (h : Heap) (R : Value → Heap → Prop) : n16 a0 h R = wpK Try.prog lv16 (Try.f16.body.getD .skip) (endK Try.prog [.cell 2 24] R) (argT [a0]) h := by kernel_rfl
theorem w16 {a0 : Value} {h : Heap} {R : Value → Heap → Prop} (hn : n16 a0 h R) : DetP Try.prog 16 [a0] h R :=
  DetP.of_code (rs := [.cell 2 24]) (n := 1) Try.func16 (by kernel_rfl) (by kernel_rfl) lv16 ok16 rfl ((e16 a0 h R) ▸ hn)

/-! ### examiner/examinerbase.OwnInts: function 17 -/
def n17 (a0 : Value) (h : Heap) (R : Value → Heap → Prop) : Prop :=
  mvK (Value.slice none 0 0) h fun v2 h =>
  okK (aBuildSlice Try.prog 25 0 [] h) fun v3 h =>
  mvK a0 h fun v4 h =>
  okK (aAppend Try.prog 25 25 v3 v4 h) fun v5 h =>
  mvK v5 h fun v2_1 h =>
  retV [some v2_1] R h
def lv17 (q : Nat) : List Nat := []
theorem ok17 : lkOK Try.prog lv17 Try.f17 1 (Try.f17.body.getD .skip) 17 = true := by kernel_rfl
theorem e17 (a0 : Value) (h : Heap) (R : Value → Heap → Prop) : n17 a0 h R = wpK Try.prog lv17 (Try.f17.body.getD .skip) (endK Try.prog [.tmp 2] R) (argT [a0]) h := by kernel_rfl
theorem w17 {a0 : Value} {h : Heap} {R : Value → Heap → Prop} (hn : n17 a0 h R) : DetP Try.prog 17 [a0] h R :=
  DetP.of_code (rs := [.tmp 2]) (n := 1) Try.func17 (by kernel_rfl) (by kernel_rfl) lv17 ok17 rfl ((e17 a0 h R) ▸ hn)

/-! ### examiner/examinerref37.Err: function 18 -/
def n18 (a0 : Value) (h : Heap) (R : Value → Heap → Prop) : Prop :=
  okK (some (aBox Try.prog 24 a0 h)) fun v1 h =>
  mvK (Value.int IntKind.i64 0) h fun v2 h =>
  vK (aLoad Try.prog 24 v1 h) h fun v6 h =>
  cK Try.prog 63 [v6] h fun v7 h =>
  mvK v7 h fun v5 h =>
  vK (aExtract v5 0) h fun v8 h =>
  vK (aExtract v5 1) h fun v9 h =>
  mvK v8 h fun v3 h =>
  mvK v9 h fun v4 h =>
  mvK v4 h fun v10 h =>
  mvK v10 h fun v2_1 h =>
  retV [some v2_1] R h
def lv18 (q : Nat) : List Nat := []
theorem ok18 : lkOK Try.prog lv18 Try.f18 1 (Try.f18.body.getD .skip) 18 = true := by kernel_rfl
theorem e18 (a0 : Value) (h : Heap) (R : Value → Heap → Prop) : n18 a0 h R = wpK Try.prog lv18 (Try.f18.body.getD .skip) (endK Try.prog [.tmp 2] R) (argT [a0]) h := by kernel_rfl
theorem w18 {a0 : Value} {h : Heap} {R : Value → Heap → Prop} (hn : n18 a0 h R) : DetP Try.prog 18 [a0] h R :=
  DetP.of_code (rs := [.tmp 2]) (n := 1) Try.func18 (by kernel_rfl) (by kernel_rfl) lv18 ok18 rfl ((e18 a0 h R) ▸ hn)

/-! ### examiner/examinerref38.PricesErr: function 19 -/
def n19 (a0 a1 : Value) (h : Heap) (R : Value → Heap → Prop) : Prop :=
  okK (some (aBox Try.prog 24 a0 h)) fun v2 h =>
  mvK (Value.int IntKind.i64 0) h fun v4 h =>
  mvK a1 h fun v6 h =>
  vK (aLen Try.prog 25 v6) h fun v7 h =>
  vK (aFieldAddr Try.prog 24 v2 4) h fun v8 h =>
  vK (aLoad Try.prog 22 v8 h) h fun v9 h =>
  vK (aLen Try.prog 22 v9) h fun v10 h =>
  vK (aBin Try.prog BinOp.neq 3 v7 v10) h fun v11 h =>
  cnd v11 (
   mvK (Value.int IntKind.i64 6) h fun v4_1 h =>
   retV [some v4_1] R h) (
   mvK (Value.int IntKind.i64 0) h fun v5 h =>
   ∃ (I4 : List Value → Heap → Prop) (μ4 : List Value → Heap → Nat), I4 [v5] h ∧
   ∀ (h4 : Heap) (j4 : Tmps) (v5_1 : Value), I4 [v5_1] h4 → (let h := h4
    mvK v5_1 h fun v12 h =>
    mvK a1 h fun v13 h =>
    vK (aLen Try.prog 25 v13) h fun v14 h =>
    vK (aBin Try.prog BinOp.lss 3 v12 v14) h fun v15 h =>
    cnd v15 (
     mvK a1 h fun v18 h =>
     mvK v5_1 h fun v19 h =>
     vK (aIndexAddr Try.prog 25 v18 v19) h fun v20 h =>
     vK (aLoad Try.prog 3 v20 h) h fun v21 h =>
     cK Try.prog 22 [v21, (Value.int IntKind.i64 0), (Value.int IntKind.i64 20)] h fun v22 h =>
     vK (aUn UnOp.not v22) h fun v23 h =>
     cnd v23 (
      mvK (Value.int IntKind.i64 3) h fun v4_2 h =>
      retV [some v4_2] R h) (
      mvK v5_1 h fun v16 h =>
      vK (aBin Try.prog BinOp.add 3 v16 (Value.int IntKind.i64 1)) h fun v17 h =>
      mvK v17 h fun v5_2 h =>
      I4 [v5_2] h ∧ μ4 [v5_2] h < μ4 [v5_1] h4)) (
     mvK (Value.int IntKind.i64 0) h fun v4_3 h =>
     retV [some v4_3] R h)))
def lv19 (q : Nat) : List Nat := bif Nat.beq q 8 then [16773168, 5] else []
theorem ok19 : lkOK Try.prog lv19 Try.f19 2 (Try.f19.body.getD .skip) 19 = true := by kernel_rfl
theorem e19 (a0 a1 : Value) (h : Heap) (R : Value → Heap → Prop) : n19 a0 a1 h R = wpK Try.prog lv19 (Try.f19.body.getD .skip) (endK Try.prog [.tmp 4] R) (argT [a0, a1]) h := by kernel_rfl
theorem w19 {a0 a1 : Value} {h : Heap} {R : Value → Heap → Prop} (hn : n19 a0 a1 h R) : DetP Try.prog 19 [a0, a1] h R :=
  DetP.of_code (rs := [.tmp 4]) (n := 2) Try.func19 (by kernel_rfl) (by kernel_rfl) lv19 ok19 rfl ((e19 a0 a1 h R) ▸ hn)

/-! ### examiner/examinerref38.RoundErr: function 20 -/
def n20 (a0 a1 a2 : Value) (h : Heap) (R : Value → Heap → Prop) : Prop :=
  okK (some (aBox Try.prog 24 a0 h)) fun v3 h =>
  okK (some (aBox Try.prog 27 a2 h)) fun v5 h =>
  mvK (Value.int IntKind.i64 0) h fun v6 h =>
  mvK (Value.int IntKind.i64 0) h fun v7 h =>
  vK (aFieldAddr Try.prog 27 v5 0) h fun v19 h =>
  vK (aLoad Try.prog 25 v19 h) h fun v20 h =>
  vK (aFieldAddr Try.prog 24 v3 1) h fun v21 h =>
  vK (aLoad Try.prog 3 v21 h) h fun v22 h =>
  cK Try.prog 41 [v20, v22, (Value.int IntKind.i64 1200)] h fun v23 h =>
  mvK v23 h fun v8 h =>
  mvK v8 h fun v24 h =>
  vK (aBin Try.prog BinOp.neq 3 v24 (Value.int IntKind.i64 0)) h fun v25 h =>
  cnd v25 (
   mvK v8 h fun v26 h =>
   mvK (Value.int IntKind.i64 0) h fun v6_1 h =>
   mvK v26 h fun v7_1 h =>
   retV [some v6_1, some v7_1] R h) (
   vK (aLoad Try.prog 24 v3 h) h fun v27 h =>
   vK (aFieldAddr Try.prog 24 v3 3) h fun v28 h =>
   vK (aLoad Try.prog 3 v28 h) h fun v29 h =>
   vK (aFieldAddr Try.prog 27 v5 0) h fun v30 h =>
   vK (aLoad Try.prog 25 v30 h) h fun v31 h =>
   cK Try.prog 46 [v27, v29, v31] h fun v32 h =>
   mvK v32 h fun v9 h =>
   mvK v9 h fun v33 h =>
   vK (aLen Try.prog 25 v33) h fun v34 h =>
   vK (aFieldAddr Try.prog 27 v5 0) h fun v35 h =>
   vK (aLoad Try.prog 25 v35 h) h fun v36 h =>
   vK (aLen Try.prog 25 v36) h fun v37 h =>
   vK (aBin Try.prog BinOp.neq 3 v34 v37) h fun v38 h =>
   cnd v38 (
    mvK (Value.int IntKind.i64 0) h fun v6_2 h =>
    mvK (Value.int IntKind.i64 23) h fun v7_2 h =>
    retV [some v6_2, some v7_2] R h) (
    mvK v9 h fun v39 h =>
    vK (aLen Try.prog 25 v39) h fun v40 h =>
    vK (aBin Try.prog BinOp.gtr 3 v40 (Value.int IntKind.i64 0)) h fun v41 h =>
    mvK v41 h fun v42 h =>
    gdK v42 true (fun k0 =>
     vK (aFieldAddr Try.prog 24 v3 4) h fun v43 h =>
     k0 v43 h) (fun v43_1 h =>
     gdK v42 true (fun k1 =>
      vK (aLoad Try.prog 22 v43_1 h) h fun v44 g =>
      VB h.length v44 ∧ (let h := g
       k1 v44 h)) (fun v44_1 h =>
      gdK v42 true (fun k2 =>
       mvK v9 h fun v45 h =>
       k2 v45 h) (fun v45_1 h =>
       gdK v42 true (fun k3 =>
        mvK v9 h fun v46 h =>
        k3 v46 h) (fun v46_1 h =>
        gdK v42 true (fun k4 =>
         vK (aLen Try.prog 25 v46_1) h fun v47 h =>
         k4 v47 h) (fun v47_1 h =>
         gdK v42 true (fun k5 =>
          vK (aBin Try.prog BinOp.sub 3 v47_1 (Value.int IntKind.i64 1)) h fun v48 h =>
          k5 v48 h) (fun v48_1 h =>
          gdK v42 true (fun k6 =>
           vK (aIndexAddr Try.prog 25 v45_1 v48_1) h fun v49 h =>
           k6 v49 h) (fun v49_1 h =>
           gdK v42 true (fun k7 =>
            vK (aLoad Try.prog 3 v49_1 h) h fun v50 g =>
            VB h.length v50 ∧ (let h := g
             k7 v50 h)) (fun v50_1 h =>
            gdK v42 true (fun k8 =>
             vK (aIndexAddr Try.prog 22 v44_1 v50_1) h fun v51 h =>
             k8 v51 h) (fun v51_1 h =>
             gdK v42 true (fun k9 =>
              vK (aFieldAddr Try.prog 76 v51_1 3) h fun v52 h =>
              k9 v52 h) (fun v52_1 h =>
              gdK v42 true (fun k10 =>
               vK (aLoad Try.prog 3 v52_1 h) h fun v53 g =>
               VB h.length v53 ∧ (let h := g
                k10 v53 h)) (fun v53_1 h =>
               gdK v42 true (fun k11 =>
                vK (aFieldAddr Try.prog 24 v3 3) h fun v54 h =>
                k11 v54 h) (fun v54_1 h =>
                gdK v42 true (fun k12 =>
                 vK (aLoad Try.prog 3 v54_1 h) h fun v55 g =>
                 VB h.length v55 ∧ (let h := g
                  k12 v55 h)) (fun v55_1 h =>
                 gdK v42 true (fun k13 =>
                  vK (aBin Try.prog BinOp.neq 3 v53_1 v55_1) h fun v56 h =>
                  k13 v56 h) (fun v56_1 h =>
                  vK (pickV v42 v56_1 (Value.bool false)) h fun v57 h =>
                  cnd v57 (
                   mvK (Value.int IntKind.i64 0) h fun v6_3 h =>
                   mvK (Value.int IntKind.i64 39) h fun v7_3 h =>
                   retV [some v6_3, some v7_3] R h) (
                   vK (aLoad Try.prog 24 v3 h) h fun v59 h =>
                   cK Try.prog 26 [v59] h fun v60 h =>
                   mvK v60 h fun v58 h =>
                   vK (aExtract v58 0) h fun v61 h =>
                   vK (aExtract v58 1) h fun v62 h =>
                   mvK v61 h fun v10 h =>
                   mvK v62 h fun v11 h =>
                   mvK (Value.int IntKind.i64 0) h fun v12 h =>
                   ∃ (I11 : List Value → Heap → Prop) (μ11 : List Value → Heap → Nat), I11 [v12] h ∧
                   ∀ (h11 : Heap) (j11 : Tmps) (v12_1 : Value), I11 [v12_1] h11 → (let h := h11
                    mvK v12_1 h fun v63 h =>
                    vK (aFieldAddr Try.prog 24 v3 4) h fun v64 h =>
                    vK (aLoad Try.prog 22 v64 h) h fun v65 h =>
                    vK (aLen Try.prog 22 v65) h fun v66 h =>
                    vK (aBin Try.prog BinOp.lss 3 v63 v66) h fun v67 h =>
                    cnd v67 (
                     mvK v11 h fun v70 h =>
                     mvK v12_1 h fun v71 h =>
                     vK (aIndexAddr Try.prog 48 v70 v71) h fun v72 h =>
                     vK (aLoad Try.prog 4 v72 h) h fun v73 h =>
                     mvK v73 h fun v74 h =>
                     gdK v74 true (fun k14 =>
                      mvK v9 h fun v75 h =>
                      k14 v75 h) (fun v75_1 h =>
                      gdK v74 true (fun k15 =>
                       mvK v12_1 h fun v76 h =>
                       k15 v76 h) (fun v76_1 h =>
                       gdK v74 true (fun k16 =>
                        cK Try.prog 47 [v75_1, v76_1] h fun v77 h =>
                        k16 v77 h) (fun v77_1 h =>
                        gdK v74 true (fun k17 =>
                         vK (aUn UnOp.not v77_1) h fun v78 h =>
                         k17 v78 h) (fun v78_1 h =>
                         vK (pickV v74 v78_1 (Value.bool false)) h fun v79 h =>
                         cnd v79 (
                          mvK (Value.int IntKind.i64 0) h fun v6_4 h =>
                          mvK (Value.int IntKind.i64 11) h fun v7_4 h =>
                          retV [some v6_4, some v7_4] R h) (
                          mvK v12_1 h fun v68 h =>
                          vK (aBin Try.prog BinOp.add 3 v68 (Value.int IntKind.i64 1)) h fun v69 h =>
                          mvK v69 h fun v12_2 h =>
                          I11 [v12_2] h ∧ μ11 [v12_2] h < μ11 [v12_1] h11)) h) h) h) h) (
                     vK (aFieldAddr Try.prog 27 v5 1) h fun v80 h =>
                     vK (aLoad Try.prog 25 v80 h) h fun v81 h =>
                     vK (aLen Try.prog 25 v81) h fun v82 h =>
                     vK (aFieldAddr Try.prog 24 v3 0) h fun v83 h =>
                     vK (aLoad Try.prog 3 v83 h) h fun v84 h =>
                     vK (aBin Try.prog BinOp.neq 3 v82 v84) h fun v85 h =>
                     cnd v85 (
                      mvK (Value.int IntKind.i64 0) h fun v6_5 h =>
                      mvK (Value.int IntKind.i64 6) h fun v7_5 h =>
                      retV [some v6_5, some v7_5] R h) (
                      mvK (Value.int IntKind.i64 0) h fun v13 h =>
                      ∃ (I18 : List Value → Heap → Prop) (μ18 : List Value → Heap → Nat), I18 [v13] h ∧
                      ∀ (h18 : Heap) (j18 : Tmps) (v13_1 : Value), I18 [v13_1] h18 → (let h := h18
                       mvK v13_1 h fun v86 h =>
                       vK (aFieldAddr Try.prog 24 v3 0) h fun v87 h =>
                       vK (aLoad Try.prog 3 v87 h) h fun v88 h =>
                       vK (aBin Try.prog BinOp.lss 3 v86 v88) h fun v89 h =>
                       cnd v89 (
                        vK (aFieldAddr Try.prog 27 v5 1) h fun v92 h =>
                        vK (aLoad Try.prog 25 v92 h) h fun v93 h =>
                        mvK v13_1 h fun v94 h =>
                        vK (aIndexAddr Try.prog 25 v93 v94) h fun v95 h =>
                        vK (aLoad Try.prog 3 v95 h) h fun v96 h =>
                        cK Try.prog 22 [v96, (Value.int IntKind.i64 (-1000)), (Value.int IntKind.i64 1000)] h fun v97 h =>
                        vK (aUn UnOp.not v97) h fun v98 h =>
                        cnd v98 (
                         mvK (Value.int IntKind.i64 0) h fun v6_6 h =>
                         mvK (Value.int IntKind.i64 21) h fun v7_6 h =>
                         retV [some v6_6, some v7_6] R h) (
                         mvK v13_1 h fun v90 h =>
                         vK (aBin Try.prog BinOp.add 3 v90 (Value.int IntKind.i64 1)) h fun v91 h =>
                         mvK v91 h fun v13_2 h =>
                         I18 [v13_2] h ∧ μ18 [v13_2] h < μ18 [v13_1] h18)) (
                        mvK (Value.int IntKind.i64 0) h fun v14 h =>
                        mvK (Value.int IntKind.i64 0) h fun v15 h =>
                        ∃ (I24 : List Value → Heap → Prop) (μ24 : List Value → Heap → Nat), I24 [v14, v15] h ∧
                        ∀ (h24 : Heap) (j24 : Tmps) (v14_1 : Value) (v15_1 : Value), I24 [v14_1, v15_1] h24 → (let h := h24
                         mvK v15_1 h fun v99 h =>
                         mvK v9 h fun v100 h =>
                         vK (aLen Try.prog 25 v100) h fun v101 h =>
                         vK (aBin Try.prog BinOp.lss 3 v99 v101) h fun v102 h =>
                         cnd v102 (
                          mvK v14_1 h fun v105 h =>
                          mvK a1 h fun v106 h =>
                          mvK v9 h fun v107 h =>
                          mvK v15_1 h fun v108 h =>
                          vK (aIndexAddr Try.prog 25 v107 v108) h fun v109 h =>
                          vK (aLoad Try.prog 3 v109 h) h fun v110 h =>
                          vK (aIndexAddr Try.prog 25 v106 v110) h fun v111 h =>
                          vK (aLoad Try.prog 3 v111 h) h fun v112 h =>
                          vK (aBin Try.prog BinOp.add 3 v105 v112) h fun v113 h =>
                          mvK v113 h fun v14_2 h =>
                          mvK v15_1 h fun v103 h =>
                          vK (aBin Try.prog BinOp.add 3 v103 (Value.int IntKind.i64 1)) h fun v104 h =>
                          mvK v104 h fun v15_2 h =>
                          I24 [v14_2, v15_2] h ∧ μ24 [v14_2, v15_2] h < μ24 [v14_1, v15_1] h24) (
                          mvK (Value.int IntKind.i64 0) h fun v16 h =>
                          mvK (Value.int IntKind.i64 0) h fun v17 h =>
                          ∃ (I29 : List Value → Heap → Prop) (μ29 : List Value → Heap → Nat), I29 [v16, v17] h ∧
                          ∀ (h29 : Heap) (j29 : Tmps) (v16_1 : Value) (v17_1 : Value), I29 [v16_1, v17_1] h29 → (let h := h29
                           mvK v17_1 h fun v114 h =>
                           vK (aFieldAddr Try.prog 24 v3 4) h fun v115 h =>
                           vK (aLoad Try.prog 22 v115 h) h fun v116 h =>
                           vK (aLen Try.prog 22 v116) h fun v117 h =>
                           vK (aBin Try.prog BinOp.lss 3 v114 v117) h fun v118 h =>
                           cnd v118 (
                            seqK (fun k18 =>
                             mvK a1 h fun v121 h =>
                             mvK v17_1 h fun v122 h =>
                             vK (aIndexAddr Try.prog 25 v121 v122) h fun v123 h =>
                             vK (aLoad Try.prog 3 v123 h) h fun v124 g =>
                             VB h.length v124 ∧ (let h := g
                              vK (aFieldAddr Try.prog 27 v5 1) h fun v125 h =>
                              vK (aLoad Try.prog 25 v125 h) h fun v126 g =>
                              VB h.length v126 ∧ (let h := g
                               vK (aFieldAddr Try.prog 24 v3 4) h fun v127 h =>
                               vK (aLoad Try.prog 22 v127 h) h fun v128 g =>
                               VB h.length v128 ∧ (let h := g
                                mvK v17_1 h fun v129 h =>
                                vK (aIndexAddr Try.prog 22 v128 v129) h fun v130 h =>
                                vK (aFieldAddr Try.prog 76 v130 0) h fun v131 h =>
                                vK (aLoad Try.prog 3 v131 h) h fun v132 g =>
                                VB h.length v132 ∧ (let h := g
                                 vK (aIndexAddr Try.prog 25 v126 v132) h fun v133 h =>
                                 vK (aLoad Try.prog 3 v133 h) h fun v134 g =>
                                 VB h.length v134 ∧ (let h := g
                                  vK (aBin Try.prog BinOp.add 3 v124 v134) h fun v135 h =>
                                  vK (aFieldAddr Try.prog 27 v5 1) h fun v136 h =>
                                  vK (aLoad Try.prog 25 v136 h) h fun v137 g =>
                                  VB h.length v137 ∧ (let h := g
                                   vK (aFieldAddr Try.prog 24 v3 4) h fun v138 h =>
                                   vK (aLoad Try.prog 22 v138 h) h fun v139 g =>
                                   VB h.length v139 ∧ (let h := g
                                    mvK v17_1 h fun v140 h =>
                                    vK (aIndexAddr Try.prog 22 v139 v140) h fun v141 h =>
                                    vK (aFieldAddr Try.prog 76 v141 3) h fun v142 h =>
                                    vK (aLoad Try.prog 3 v142 h) h fun v143 g =>
                                    VB h.length v143 ∧ (let h := g
                                     vK (aIndexAddr Try.prog 25 v137 v143) h fun v144 h =>
                                     vK (aLoad Try.prog 3 v144 h) h fun v145 g =>
                                     VB h.length v145 ∧ (let h := g
                                      vK (aBin Try.prog BinOp.sub 3 v135 v145) h fun v146 h =>
                                      mvK v146 h fun v18 h =>
                                      mvK v11 h fun v147 h =>
                                      mvK v17_1 h fun v148 h =>
                                      vK (aIndexAddr Try.prog 48 v147 v148) h fun v149 h =>
                                      vK (aLoad Try.prog 4 v149 h) h fun v150 h =>
                                      mvK v150 h fun v151 h =>
                                      gdK v151 true (fun k19 =>
                                       mvK v18 h fun v152 h =>
                                       k19 v152 h) (fun v152_1 h =>
                                       gdK v151 true (fun k20 =>
                                        vK (aBin Try.prog BinOp.lss 3 v152_1 (Value.int IntKind.i64 0)) h fun v153 h =>
                                        k20 v153 h) (fun v153_1 h =>
                                        vK (pickV v151 v153_1 (Value.bool false)) h fun v154 h =>
                                        cnd v154 (
                                         mvK (Value.int IntKind.i64 0) h fun v6_7 h =>
                                         mvK (Value.int IntKind.i64 30) h fun v7_7 h =>
                                         retV [some v6_7, some v7_7] R h) (
                                         mvK v11 h fun v155 h =>
                                         mvK v17_1 h fun v156 h =>
                                         vK (aIndexAddr Try.prog 48 v155 v156) h fun v157 h =>
                                         vK (aLoad Try.prog 4 v157 h) h fun v158 h =>
                                         cnd v158 (
                                          mvK v16_1 h fun v159 h =>
                                          mvK v18 h fun v160 h =>
                                          vK (aBin Try.prog BinOp.add 3 v159 v160) h fun v161 h =>
                                          mvK v161 h fun v16_2 h =>
                                          k18 [v16_2] h) (
                                          k18 [v16_1] h))) h) h)))))))))) fun x18 h => ∀ jx18 : Tmps,
                             let v16_3 : Value := nth x18 0
                             mvK v17_1 h fun v119 h =>
                             vK (aBin Try.prog BinOp.add 3 v119 (Value.int IntKind.i64 1)) h fun v120 h =>
                             mvK v120 h fun v17_2 h =>
                             I29 [v16_3, v17_2] h ∧ μ29 [v16_3, v17_2] h < μ29 [v16_1, v17_1] h29) (
                            mvK v16_1 h fun v162 h =>
                            mvK v14_1 h fun v163 h =>
                            vK (aBin Try.prog BinOp.neq 3 v162 v163) h fun v164 h =>
                            cnd v164 (
                             mvK (Value.int IntKind.i64 0) h fun v6_8 h =>
                             mvK (Value.int IntKind.i64 30) h fun v7_8 h =>
                             retV [some v6_8, some v7_8] R h) (
                             mvK v14_1 h fun v165 h =>
                             mvK v165 h fun v6_9 h =>
                             mvK (Value.int IntKind.i64 0) h fun v7_9 h =>
                             retV [some v6_9, some v7_9] R h)))))))))))) h) h) h) h) h) h) h) h) h) h) h) h) h) h))
def lv20 (q : Nat) : List Nat := bif Nat.beq q 22 then [1208916596242592319934656, 12] else bif Nat.beq q 36 then [633747928861659364481170415808, 13] else bif Nat.beq q 48 then [20768553608839196399421236965326848, 14, 15] else bif Nat.beq q 58 then [5846006549323590903627305191554617956638413750464, 16, 17] else bif Nat.beq q 61 then [5846006549320953216823169499119324464503169810624, 16] else []
theorem ok20 : lkOK Try.prog lv20 Try.f20 3 (Try.f20.body.getD .skip) 20 = true := by kernel_rfl
theorem e20 (a0 a1 a2 : Value) (h : Heap) (R : Value → Heap → Prop) : n20 a0 a1 a2 h R = wpK Try.prog lv20 (Try.f20.body.getD .skip) (endK Try.prog [.tmp 6, .tmp 7] R) (argT [a0, a1, a2]) h := by kernel_rfl
theorem w20 {a0 a1 a2 : Value} {h : Heap} {R : Value → Heap → Prop} (hn : n20 a0 a1 a2 h R) : DetP Try.prog 20 [a0, a1, a2] h R :=
  DetP.of_code (rs := [.tmp 6, .tmp 7]) (n := 3) Try.func20 (by kernel_rfl) (by kernel_rfl) lv20 ok20 rfl ((e20 a0 a1 a2 h R) ▸ hn)

/-! ### examiner/examinerbase.Within: function 22 -/
def n22 (a0 a1 a2 : Value) (h : Heap) (R : Value → Heap → Prop) : Prop :=
  mvK (Value.bool false) h fun v6 h =>
  mvK a1 h fun v7 h =>
  mvK a0 h fun v8 h =>
  vK (aBin Try.prog BinOp.leq 3 v7 v8) h fun v9 h =>
  mvK v9 h fun v10 h =>
  gdK v10 true (fun k0 =>
   mvK a0 h fun v11 h =>
   k0 v11 h) (fun v11_1 h =>
   gdK v10 true (fun k1 =>
    mvK a2 h fun v12 h =>
    k1 v12 h) (fun v12_1 h =>
    gdK v10 true (fun k2 =>
     vK (aBin Try.prog BinOp.leq 3 v11_1 v12_1) h fun v13 h =>
     k2 v13 h) (fun v13_1 h =>
     vK (pickV v10 v13_1 (Value.bool false)) h fun v14 h =>
     mvK v14 h fun v6_1 h =>
     retV [some v6_1] R h) h) h) h
def lv22 (q : Nat) : List Nat := []
theorem ok22 : lkOK Try.prog lv22 Try.f22 3 (Try.f22.body.getD .skip) 22 = true := by kernel_rfl
theorem e22 (a0 a1 a2 : Value) (h : Heap) (R : Value → Heap → Prop) : n22 a0 a1 a2 h R = wpK Try.prog lv22 (Try.f22.body.getD .skip) (endK Try.prog [.tmp 6] R) (argT [a0, a1, a2]) h := by kernel_rfl
theorem w22 {a0 a1 a2 : Value} {h : Heap} {R : Value → Heap → Prop} (hn : n22 a0 a1 a2 h R) : DetP Try.prog 22 [a0, a1, a2] h R :=
  DetP.of_code (rs := [.tmp 6]) (n := 3) Try.func22 (by kernel_rfl) (by kernel_rfl) lv22 ok22 rfl ((e22 a0 a1 a2 h R) ▸ hn)

/-! ### examiner/examinerbase.SameInts: function 23 -/
def n23 (a0 a1 : Value) (h : Heap) (R : Value → Heap → Prop) : Prop :=
  mvK (Value.bool false) h fun v4 h =>
  mvK a0 h fun v6 h =>
  vK (aLen Try.prog 25 v6) h fun v7 h =>
  mvK a1 h fun v8 h =>
  vK (aLen Try.prog 25 v8) h fun v9 h =>
  vK (aBin Try.prog BinOp.neq 3 v7 v9) h fun v10 h =>
  cnd v10 (
   mvK (Value.bool false) h fun v4_1 h =>
   retV [some v4_1] R h) (
   mvK (Value.int IntKind.i64 0) h fun v5 h =>
   ∃ (I4 : List Value → Heap → Prop) (μ4 : List Value → Heap → Nat), I4 [v5] h ∧
   ∀ (h4 : Heap) (j4 : Tmps) (v5_1 : Value), I4 [v5_1] h4 → (let h := h4
    mvK v5_1 h fun v11 h =>
    mvK a0 h fun v12 h =>
    vK (aLen Try.prog 25 v12) h fun v13 h =>
    vK (aBin Try.prog BinOp.lss 3 v11 v13) h fun v14 h =>
    cnd v14 (
     mvK a0 h fun v17 h =>
     mvK v5_1 h fun v18 h =>
     vK (aIndexAddr Try.prog 25 v17 v18) h fun v19 h =>
     vK (aLoad Try.prog 3 v19 h) h fun v20 g =>
     VB h.length v20 ∧ (let h := g
      mvK a1 h fun v21 h =>
      mvK v5_1 h fun v22 h =>
      vK (aIndexAddr Try.prog 25 v21 v22) h fun v23 h =>
      vK (aLoad Try.prog 3 v23 h) h fun v24 g =>
      VB h.length v24 ∧ (let h := g
       vK (aBin Try.prog BinOp.neq 3 v20 v24) h fun v25 h =>
       cnd v25 (
        mvK (Value.bool false) h fun v4_2 h =>
        retV [some v4_2] R h) (
        mvK v5_1 h fun v15 h =>
        vK (aBin Try.prog BinOp.add 3 v15 (Value.int IntKind.i64 1)) h fun v16 h =>
        mvK v16 h fun v5_2 h =>
        I4 [v5_2] h ∧ μ4 [v5_2] h < μ4 [v5_1] h4)))) (
     mvK (Value.bool true) h fun v4_3 h =>
     retV [some v4_3] R h)))
def lv23 (q : Nat) : List Nat := bif Nat.beq q 8 then [67106864, 5] else []
theorem ok23 : lkOK Try.prog lv23 Try.f23 2 (Try.f23.body.getD .skip) 23 = true := by kernel_rfl
theorem e23 (a0 a1 : Value) (h : Heap) (R : Value → Heap → Prop) : n23 a0 a1 h R = wpK Try.prog lv23 (Try.f23.body.getD .skip) (endK Try.prog [.tmp 4] R) (argT [a0, a1]) h := by kernel_rfl
theorem w23 {a0 a1 : Value} {h : Heap} {R : Value → Heap → Prop} (hn : n23 a0 a1 h R) : DetP Try.prog 23 [a0, a1] h R :=
  DetP.of_code (rs := [.tmp 4]) (n := 2) Try.func23 (by kernel_rfl) (by kernel_rfl) lv23 ok23 rfl ((e23 a0 a1 h R) ▸ hn)

/-! ### examiner/examinerref38.Reached: function 26 -/
def n26 (a0 : Value) (h : Heap) (R : Value → Heap → Prop) : Prop :=
  okK (some (aBox Try.prog 24 a0 h)) fun v1 h =>
  mvK (Value.slice none 0 0) h fun v2 h =>
  mvK (Value.slice none 0 0) h fun v3 h =>
  vK (aLoad Try.prog 24 v1 h) h fun v9 h =>
  cK Try.prog 66 [v9] h fun v10 h =>
  mvK v10 h fun v8 h =>
  vK (aExtract v8 0) h fun v11 h =>
  vK (aExtract v8 1) h fun v12 h =>
  mvK v11 h fun v4 h =>
  mvK v12 h fun v5 h =>
  vK (aFieldAddr Try.prog 24 v1 4) h fun v13 h =>
  vK (aLoad Try.prog 22 v13 h) h fun v14 h =>
  vK (aLen Try.prog 22 v14) h fun v15 h =>
  okK (aMakeSlice Try.prog 48 v15 v15 h) fun v16 h =>
  mvK v16 h fun v6 h =>
  mvK (Value.int IntKind.i64 0) h fun v7 h =>
  ∃ (I4 : List Value → Heap → Prop) (μ4 : List Value → Heap → Nat), I4 [v7] h ∧
  ∀ (h4 : Heap) (j4 : Tmps) (v7_1 : Value), I4 [v7_1] h4 → (let h := h4
   mvK v7_1 h fun v17 h =>
   vK (aFieldAddr Try.prog 24 v1 4) h fun v18 h =>
   vK (aLoad Try.prog 22 v18 h) h fun v19 h =>
   vK (aLen Try.prog 22 v19) h fun v20 h =>
   vK (aBin Try.prog BinOp.lss 3 v17 v20) h fun v21 h =>
   cnd v21 (
    mvK v6 h fun v24 h =>
    mvK v7_1 h fun v25 h =>
    mvK v5 h fun v26 h =>
    vK (aFieldAddr Try.prog 24 v1 4) h fun v27 h =>
    vK (aLoad Try.prog 22 v27 h) h fun v28 h =>
    mvK v7_1 h fun v29 h =>
    vK (aIndexAddr Try.prog 22 v28 v29) h fun v30 h =>
    vK (aFieldAddr Try.prog 76 v30 0) h fun v31 h =>
    vK (aLoad Try.prog 3 v31 h) h fun v32 h =>
    vK (aIndexAddr Try.prog 48 v26 v32) h fun v33 h =>
    vK (aLoad Try.prog 4 v33 h) h fun v34 h =>
    vK (aIndexAddr Try.prog 48 v24 v25) h fun v35 h =>
    okK ((aStore Try.prog 4 v35 v34 h).map (undef, ·)) fun _ h =>
    mvK v7_1 h fun v22 h =>
    vK (aBin Try.prog BinOp.add 3 v22 (Value.int IntKind.i64 1)) h fun v23 h =>
    mvK v23 h fun v7_2 h =>
    I4 [v7_2] h ∧ μ4 [v7_2] h < μ4 [v7_1] h4) (
    mvK v5 h fun v36 h =>
    mvK v6 h fun v37 h =>
    mvK v36 h fun v2_1 h =>
    mvK v37 h fun v3_1 h =>
    retV [some v2_1, some v3_1] R h))
def lv26 (q : Nat) : List Nat := bif Nat.beq q 8 then [68719345792, 7] else []
theorem ok26 : lkOK Try.prog lv26 Try.f26 1 (Try.f26.body.getD .skip) 26 = true := by kernel_rfl
theorem e26 (a0 : Value) (h : Heap) (R : Value → Heap → Prop) : n26 a0 h R = wpK Try.prog lv26 (Try.f26.body.getD .skip) (endK Try.prog [.tmp 2, .tmp 3] R) (argT [a0]) h := by kernel_rfl
theorem w26 {a0 : Value} {h : Heap} {R : Value → Heap → Prop} (hn : n26 a0 h R) : DetP Try.prog 26 [a0] h R :=
  DetP.of_code (rs := [.tmp 2, .tmp 3]) (n := 1) Try.func26 (by kernel_rfl) (by kernel_rfl) lv26 ok26 rfl ((e26 a0 h R) ▸ hn)

/-! ### examiner/examinerref38.OwnWords: function 30 -/
def n30 (a0 : Value) (h : Heap) (R : Value → Heap → Prop) : Prop :=
  mvK (Value.slice none 0 0) h fun v2 h =>
  mvK (Value.slice none 0 0) h fun v3 h =>
  mvK (Value.int IntKind.i64 0) h fun v4 h =>
  ∃ (I3 : List Value → Heap → Prop) (μ3 : List Value → Heap → Nat), I3 [v3, v4] h ∧
  ∀ (h3 : Heap) (j3 : Tmps) (v3_1 : Value) (v4_1 : Value), I3 [v3_1, v4_1] h3 → (let h := h3
   mvK v4_1 h fun v5 h =>
   mvK a0 h fun v6 h =>
   vK (aLen Try.prog 45 v6) h fun v7 h =>
   vK (aBin Try.prog BinOp.lss 3 v5 v7) h fun v8 h =>
   cnd v8 (
    mvK v3_1 h fun v11 h =>
    mvK a0 h fun v12 h =>
    mvK v4_1 h fun v13 h =>
    vK (aIndexAddr Try.prog 45 v12 v13) h fun v14 h =>
    vK (aLoad Try.prog 25 v14 h) h fun v15 h =>
    cK Try.prog 17 [v15] h fun v16 h =>
    okK (aBuildSlice Try.prog 45 1 [(0, v16)] h) fun v17 h =>
    okK (aAppend Try.prog 45 45 v11 v17 h) fun v18 h =>
    mvK v18 h fun v3_2 h =>
    mvK v4_1 h fun v9 h =>
    vK (aBin Try.prog BinOp.add 3 v9 (Value.int IntKind.i64 1)) h fun v10 h =>
    mvK v10 h fun v4_2 h =>
    I3 [v3_2, v4_2] h ∧ μ3 [v3_2, v4_2] h < μ3 [v3_1, v4_1] h3) (
    mvK v3_1 h fun v19 h =>
    mvK v19 h fun v2_1 h =>
    retV [some v2_1] R h))
def lv30 (q : Nat) : List Nat := bif Nat.beq q 6 then [524280, 3, 4] else []
theorem ok30 : lkOK Try.prog lv30 Try.f30 1 (Try.f30.body.getD .skip) 30 = true := by kernel_rfl
theorem e30 (a0 : Value) (h : Heap) (R : Value → Heap → Prop) : n30 a0 h R = wpK Try.prog lv30 (Try.f30.body.getD .skip) (endK Try.prog [.tmp 2] R) (argT [a0]) h := by kernel_rfl
theorem w30 {a0 : Value} {h : Heap} {R : Value → Heap → Prop} (hn : n30 a0 h R) : DetP Try.prog 30 [a0] h R :=
  DetP.of_code (rs := [.tmp 2]) (n := 1) Try.func30 (by kernel_rfl) (by kernel_rfl) lv30 ok30 rfl ((e30 a0 h R) ▸ hn)

/-! ### examiner/examinerlaw38.same: function 36 -/
def n36 (a0 a1 : Value) (h : Heap) (R : Value → Heap → Prop) : Prop :=
  mvK (Value.bool false) h fun v4 h =>
  mvK a0 h fun v6 h =>
  vK (aLen Try.prog 45 v6) h fun v7 h =>
  mvK a1 h fun v8 h =>
  vK (aLen Try.prog 45 v8) h fun v9 h =>
  vK (aBin Try.prog BinOp.neq 3 v7 v9) h fun v10 h =>
  cnd v10 (
   mvK (Value.bool false) h fun v4_1 h =>
   retV [some v4_1] R h) (
   mvK (Value.int IntKind.i64 0) h fun v5 h =>
   ∃ (I4 : List Value → Heap → Prop) (μ4 : List Value → Heap → Nat), I4 [v5] h ∧
   ∀ (h4 : Heap) (j4 : Tmps) (v5_1 : Value), I4 [v5_1] h4 → (let h := h4
    mvK v5_1 h fun v11 h =>
    mvK a0 h fun v12 h =>
    vK (aLen Try.prog 45 v12) h fun v13 h =>
    vK (aBin Try.prog BinOp.lss 3 v11 v13) h fun v14 h =>
    cnd v14 (
     mvK a0 h fun v17 h =>
     mvK v5_1 h fun v18 h =>
     vK (aIndexAddr Try.prog 45 v17 v18) h fun v19 h =>
     vK (aLoad Try.prog 25 v19 h) h fun v20 g =>
     VB h.length v20 ∧ (let h := g
      mvK a1 h fun v21 h =>
      mvK v5_1 h fun v22 h =>
      vK (aIndexAddr Try.prog 45 v21 v22) h fun v23 h =>
      vK (aLoad Try.prog 25 v23 h) h fun v24 g =>
      VB h.length v24 ∧ (let h := g
       cKD Try.prog 23 [v20, v24] h fun v25 g =>
       (∃ new, g = h ++ new) ∧ (let h := g
        vK (aUn UnOp.not v25) h fun v26 h =>
        cnd v26 (
         mvK (Value.bool false) h fun v4_2 h =>
         retV [some v4_2] R h) (
         mvK v5_1 h fun v15 h =>
         vK (aBin Try.prog BinOp.add 3 v15 (Value.int IntKind.i64 1)) h fun v16 h =>
         mvK v16 h fun v5_2 h =>
         I4 [v5_2] h ∧ μ4 [v5_2] h < μ4 [v5_1] h4))))) (
     mvK (Value.bool true) h fun v4_3 h =>
     retV [some v4_3] R h)))
def lv36 (q : Nat) : List Nat := bif Nat.beq q 8 then [134215728, 5] else []
theorem ok36 : lkOK Try.prog lv36 Try.f36 2 (Try.f36.body.getD .skip) 36 = true := by kernel_rfl
theorem e36 (a0 a1 : Value) (h : Heap) (R : Value → Heap → Prop) : n36 a0 a1 h R = wpK Try.prog lv36 (Try.f36.body.getD .skip) (endK Try.prog [.tmp 4] R) (argT [a0, a1]) h := by kernel_rfl
theorem w36 {a0 a1 : Value} {h : Heap} {R : Value → Heap → Prop} (hn : n36 a0 a1 h R) : DetP Try.prog 36 [a0, a1] h R :=
  DetP.of_code (rs := [.tmp 4]) (n := 2) Try.func36 (by kernel_rfl) (by kernel_rfl) lv36 ok36 rfl ((e36 a0 a1 h R) ▸ hn)

/-! ### examiner/examinerref37.WordErr: function 41 -/
def n41 (a0 a1 a2 : Value) (h : Heap) (R : Value → Heap → Prop) : Prop :=
  mvK (Value.int IntKind.i64 0) h fun v6 h =>
  mvK a0 h fun v8 h =>
  vK (aLen Try.prog 25 v8) h fun v9 h =>
  mvK a2 h fun v10 h =>
  vK (aBin Try.prog BinOp.gtr 3 v9 v10) h fun v11 h =>
  cnd v11 (
   mvK (Value.int IntKind.i64 2) h fun v6_1 h =>
   retV [some v6_1] R h) (
   mvK (Value.int IntKind.i64 0) h fun v7 h =>
   ∃ (I4 : List Value → Heap → Prop) (μ4 : List Value → Heap → Nat), I4 [v7] h ∧
   ∀ (h4 : Heap) (j4 : Tmps) (v7_1 : Value), I4 [v7_1] h4 → (let h := h4
    mvK v7_1 h fun v12 h =>
    mvK a0 h fun v13 h =>
    vK (aLen Try.prog 25 v13) h fun v14 h =>
    vK (aBin Try.prog BinOp.lss 3 v12 v14) h fun v15 h =>
    cnd v15 (
     mvK a0 h fun v18 h =>
     mvK v7_1 h fun v19 h =>
     vK (aIndexAddr Try.prog 25 v18 v19) h fun v20 h =>
     vK (aLoad Try.prog 3 v20 h) h fun v21 h =>
     mvK a1 h fun v22 h =>
     vK (aBin Try.prog BinOp.sub 3 v22 (Value.int IntKind.i64 1)) h fun v23 h =>
     cK Try.prog 22 [v21, (Value.int IntKind.i64 0), v23] h fun v24 h =>
     vK (aUn UnOp.not v24) h fun v25 h =>
     cnd v25 (
      mvK (Value.int IntKind.i64 3) h fun v6_2 h =>
      retV [some v6_2] R h) (
      mvK v7_1 h fun v16 h =>
      vK (aBin Try.prog BinOp.add 3 v16 (Value.int IntKind.i64 1)) h fun v17 h =>
      mvK v17 h fun v7_2 h =>
      I4 [v7_2] h ∧ μ4 [v7_2] h < μ4 [v7_1] h4)) (
     mvK (Value.int IntKind.i64 0) h fun v6_3 h =>
     retV [some v6_3] R h)))
def lv41 (q : Nat) : List Nat := bif Nat.beq q 8 then [67104960, 7] else []
theorem ok41 : lkOK Try.prog lv41 Try.f41 3 (Try.f41.body.getD .skip) 41 = true := by kernel_rfl
theorem e41 (a0 a1 a2 : Value) (h : Heap) (R : Value → Heap → Prop) : n41 a0 a1 a2 h R = wpK Try.prog lv41 (Try.f41.body.getD .skip) (endK Try.prog [.tmp 6] R) (argT [a0, a1, a2]) h := by kernel_rfl
theorem w41 {a0 a1 a2 : Value} {h : Heap} {R : Value → Heap → Prop} (hn : n41 a0 a1 a2 h R) : DetP Try.prog 41 [a0, a1, a2] h R :=
  DetP.of_code (rs := [.tmp 6]) (n := 3) Try.func41 (by kernel_rfl) (by kernel_rfl) lv41 ok41 rfl ((e41 a0 a1 a2 h R) ▸ hn)

/-! ### examiner/examinerbase.Count: function 45 -/
def n45 (a0 : Value) (h : Heap) (R : Value → Heap → Prop) : Prop :=
  mvK (Value.int IntKind.i64 0) h fun v2 h =>
  mvK a0 h fun v3 h =>
  cnd v3 (
   mvK (Value.int IntKind.i64 1) h fun v2_1 h =>
   retV [some v2_1] R h) (
   mvK (Value.int IntKind.i64 0) h fun v2_2 h =>
   retV [some v2_2] R h)
def lv45 (q : Nat) : List Nat := []
theorem ok45 : lkOK Try.prog lv45 Try.f45 1 (Try.f45.body.getD .skip) 45 = true := by kernel_rfl
theorem e45 (a0 : Value) (h : Heap) (R : Value → Heap → Prop) : n45 a0 h R = wpK Try.prog lv45 (Try.f45.body.getD .skip) (endK Try.prog [.tmp 2] R) (argT [a0]) h := by kernel_rfl
theorem w45 {a0 : Value} {h : Heap} {R : Value → Heap → Prop} (hn : n45 a0 h R) : DetP Try.prog 45 [a0] h R :=
  DetP.of_code (rs := [.tmp 2]) (n := 1) Try.func45 (by kernel_rfl) (by kernel_rfl) lv45 ok45 rfl ((e45 a0 h R) ▸ hn)

/-! ### examiner/examinerref37.Taken: function 46 -/
def n46 (a0 a1 a2 : Value) (h : Heap) (R : Value → Heap → Prop) : Prop :=
  okK (some (aBox Try.prog 24 a0 h)) fun v3 h =>
  mvK (Value.slice none 0 0) h fun v6 h =>
  mvK (Value.slice none 0 0) h fun v7 h =>
  mvK (Value.int IntKind.i64 0) h fun v8 h =>
  ∃ (I3 : List Value → Heap → Prop) (μ3 : List Value → Heap → Nat), I3 [a1, v7, v8] h ∧
  ∀ (h3 : Heap) (j3 : Tmps) (v1 : Value) (v7_1 : Value) (v8_1 : Value), I3 [v1, v7_1, v8_1] h3 → (let h := h3
   mvK v8_1 h fun v10 h =>
   mvK a2 h fun v11 h =>
   vK (aLen Try.prog 25 v11) h fun v12 h =>
   vK (aBin Try.prog BinOp.lss 3 v10 v12) h fun v13 h =>
   cnd v13 (
    vK (aLoad Try.prog 24 v3 h) h fun v16 g =>
    VB h.length v16 ∧ (let h := g
     mvK v1 h fun v17 h =>
     mvK a2 h fun v18 h =>
     mvK v8_1 h fun v19 h =>
     vK (aIndexAddr Try.prog 25 v18 v19) h fun v20 h =>
     vK (aLoad Try.prog 3 v20 h) h fun v21 g =>
     VB h.length v21 ∧ (let h := g
      cKD Try.prog 81 [v16, v17, v21] h fun v22 g =>
      (∃ new, g = h ++ new) ∧ (let h := g
       mvK v22 h fun v9 h =>
       mvK v9 h fun v23 h =>
       vK (aBin Try.prog BinOp.eql 3 v23 (Value.int IntKind.i64 (-1))) h fun v24 h =>
       cnd v24 (
        mvK v7_1 h fun v25 h =>
        mvK v25 h fun v6_1 h =>
        retV [some v6_1] R h) (
        mvK v7_1 h fun v26 h =>
        mvK v9 h fun v27 h =>
        okK (aBuildSlice Try.prog 25 1 [(0, v27)] h) fun v28 h =>
        okK (aAppend Try.prog 25 25 v26 v28 h) fun v29 h =>
        mvK v29 h fun v7_2 h =>
        vK (aFieldAddr Try.prog 24 v3 4) h fun v30 h =>
        vK (aLoad Try.prog 22 v30 h) h fun v31 h =>
        mvK v9 h fun v32 h =>
        vK (aIndexAddr Try.prog 22 v31 v32) h fun v33 h =>
        vK (aFieldAddr Try.prog 76 v33 3) h fun v34 h =>
        vK (aLoad Try.prog 3 v34 h) h fun v35 h =>
        mvK v35 h fun v1_1 h =>
        mvK v8_1 h fun v14 h =>
        vK (aBin Try.prog BinOp.add 3 v14 (Value.int IntKind.i64 1)) h fun v15 h =>
        mvK v15 h fun v8_2 h =>
        I3 [v1_1, v7_2, v8_2] h ∧ μ3 [v1_1, v7_2, v8_2] h < μ3 [v1, v7_1, v8_1] h3))))) (
    mvK v7_1 h fun v36 h =>
    mvK v36 h fun v6_2 h =>
    retV [some v6_2] R h))
def lv46 (q : Nat) : List Nat := bif Nat.beq q 6 then [68719476674, 1, 7, 8] else []
theorem ok46 : lkOK Try.prog lv46 Try.f46 3 (Try.f46.body.getD .skip) 46 = true := by kernel_rfl
theorem e46 (a0 a1 a2 : Value) (h : Heap) (R : Value → Heap → Prop) : n46 a0 a1 a2 h R = wpK Try.prog lv46 (Try.f46.body.getD .skip) (endK Try.prog [.tmp 6] R) (argT [a0, a1, a2]) h := by kernel_rfl
theorem w46 {a0 a1 a2 : Value} {h : Heap} {R : Value → Heap → Prop} (hn : n46 a0 a1 a2 h R) : DetP Try.prog 46 [a0, a1, a2] h R :=
  DetP.of_code (rs := [.tmp 6]) (n := 3) Try.func46 (by kernel_rfl) (by kernel_rfl) lv46 ok46 rfl ((e46 a0 a1 a2 h R) ▸ hn)

/-! ### examiner/examinerbase.Has: function 47 -/
def n47 (a0 a1 : Value) (h : Heap) (R : Value → Heap → Prop) : Prop :=
  mvK (Value.bool false) h fun v4 h =>
  mvK (Value.int IntKind.i64 0) h fun v5 h =>
  ∃ (I2 : List Value → Heap → Prop) (μ2 : List Value → Heap → Nat), I2 [v5] h ∧
  ∀ (h2 : Heap) (j2 : Tmps) (v5_1 : Value), I2 [v5_1] h2 → (let h := h2
   mvK v5_1 h fun v6 h =>
   mvK a0 h fun v7 h =>
   vK (aLen Try.prog 25 v7) h fun v8 h =>
   vK (aBin Try.prog BinOp.lss 3 v6 v8) h fun v9 h =>
   cnd v9 (
    mvK a0 h fun v12 h =>
    mvK v5_1 h fun v13 h =>
    vK (aIndexAddr Try.prog 25 v12 v13) h fun v14 h =>
    vK (aLoad Try.prog 3 v14 h) h fun v15 h =>
    mvK a1 h fun v16 h =>
    vK (aBin Try.prog BinOp.eql 3 v15 v16) h fun v17 h =>
    cnd v17 (
     mvK (Value.bool true) h fun v4_1 h =>
     retV [some v4_1] R h) (
     mvK v5_1 h fun v10 h =>
     vK (aBin Try.prog BinOp.add 3 v10 (Value.int IntKind.i64 1)) h fun v11 h =>
     mvK v11 h fun v5_2 h =>
     I2 [v5_2] h ∧ μ2 [v5_2] h < μ2 [v5_1] h2)) (
    mvK (Value.bool false) h fun v4_2 h =>
    retV [some v4_2] R h))
def lv47 (q : Nat) : List Nat := bif Nat.beq q 4 then [262128, 5] else []
theorem ok47 : lkOK Try.prog lv47 Try.f47 2 (Try.f47.body.getD .skip) 47 = true := by kernel_rfl
theorem e47 (a0 a1 : Value) (h : Heap) (R : Value → Heap → Prop) : n47 a0 a1 h R = wpK Try.prog lv47 (Try.f47.body.getD .skip) (endK Try.prog [.tmp 4] R) (argT [a0, a1]) h := by kernel_rfl
theorem w47 {a0 a1 : Value} {h : Heap} {R : Value → Heap → Prop} (hn : n47 a0 a1 h R) : DetP Try.prog 47 [a0, a1] h R :=
  DetP.of_code (rs := [.tmp 4]) (n := 2) Try.func47 (by kernel_rfl) (by kernel_rfl) lv47 ok47 rfl ((e47 a0 a1 h R) ▸ hn)

/-! ### cmp.Or[examiner/api.Errno]: function 50 -/
def n50 (a0 : Value) (h : Heap) (R : Value → Heap → Prop) : Prop :=
  mvK (Value.int IntKind.i64 0) h fun v2 h =>
  mvK (Value.int IntKind.i64 0) h fun v3 h =>
  mvK a0 h fun v6 h =>
  vK (aLen Try.prog 132 v6) h fun v7 h =>
  mvK (Value.int IntKind.i64 0) h fun v8 h =>
  ∃ (I3 : List Value → Heap → Prop) (μ3 : List Value → Heap → Nat), I3 [v8] h ∧
  ∀ (h3 : Heap) (j3 : Tmps) (v8_1 : Value), I3 [v8_1] h3 → (let h := h3
   vK (aBin Try.prog BinOp.lss 3 v8_1 v7) h fun v9 h =>
   cnd v9 (
    vK (aIndexAddr Try.prog 132 v6 v8_1) h fun v10 h =>
    vK (aLoad Try.prog 29 v10 h) h fun v11 h =>
    mvK v11 h fun v5 h =>
    mvK v5 h fun v12 h =>
    mvK v3 h fun v13 h =>
    vK (aBin Try.prog BinOp.neq 29 v12 v13) h fun v14 h =>
    cnd v14 (
     mvK v5 h fun v15 h =>
     mvK v15 h fun v2_1 h =>
     retV [some v2_1] R h) (
     vK (aBin Try.prog BinOp.add 3 v8_1 (Value.int IntKind.i64 1)) h fun v16 h =>
     mvK v16 h fun v8_2 h =>
     I3 [v8_2] h ∧ μ3 [v8_2] h < μ3 [v8_1] h3)) (
    mvK v3 h fun v17 h =>
    mvK v17 h fun v2_2 h =>
    retV [some v2_2] R h))
def lv50 (q : Nat) : List Nat := bif Nat.beq q 6 then [130852, 8] else []
theorem ok50 : lkOK Try.prog lv50 Try.f50 1 (Try.f50.body.getD .skip) 50 = true := by kernel_rfl
theorem e50 (a0 : Value) (h : Heap) (R : Value → Heap → Prop) : n50 a0 h R = wpK Try.prog lv50 (Try.f50.body.getD .skip) (endK Try.prog [.tmp 2] R) (argT [a0]) h := by kernel_rfl
theorem w50 {a0 : Value} {h : Heap} {R : Value → Heap → Prop} (hn : n50 a0 h R) : DetP Try.prog 50 [a0] h R :=
  DetP.of_code (rs := [.tmp 2]) (n := 1) Try.func50 (by kernel_rfl) (by kernel_rfl) lv50 ok50 rfl ((e50 a0 h R) ▸ hn)

/-! ### examiner/cover.machineErr: function 51 -/
def n51 (a0 : Value) (h : Heap) (R : Value → Heap → Prop) : Prop :=
  okK (some (aBox Try.prog 24 a0 h)) fun v1 h =>
  mvK (Value.int IntKind.i64 0) h fun v2 h =>
  vK (aLoad Try.prog 24 v1 h) h fun v6 h =>
  cK Try.prog 87 [v6] h fun v7 h =>
  mvK v7 h fun v5 h =>
  vK (aExtract v5 0) h fun v8 h =>
  vK (aExtract v5 1) h fun v9 h =>
  mvK v8 h fun v3 h =>
  mvK v9 h fun v4 h =>
  mvK v4 h fun v10 h =>
  mvK v10 h fun v2_1 h =>
  retV [some v2_1] R h
def lv51 (q : Nat) : List Nat := []
theorem ok51 : lkOK Try.prog lv51 Try.f51 1 (Try.f51.body.getD .skip) 51 = true := by kernel_rfl
theorem e51 (a0 : Value) (h : Heap) (R : Value → Heap → Prop) : n51 a0 h R = wpK Try.prog lv51 (Try.f51.body.getD .skip) (endK Try.prog [.tmp 2] R) (argT [a0]) h := by kernel_rfl
theorem w51 {a0 : Value} {h : Heap} {R : Value → Heap → Prop} (hn : n51 a0 h R) : DetP Try.prog 51 [a0] h R :=
  DetP.of_code (rs := [.tmp 2]) (n := 1) Try.func51 (by kernel_rfl) (by kernel_rfl) lv51 ok51 rfl ((e51 a0 h R) ▸ hn)

/-! ### examiner/cover.pricesErr: function 52 -/
def n52 (a0 a1 : Value) (h : Heap) (R : Value → Heap → Prop) : Prop :=
  okK (some (aBox Try.prog 24 a0 h)) fun v2 h =>
  mvK (Value.int IntKind.i64 0) h fun v4 h =>
  mvK (Value.func (Fn.func 88) #[] #[]) h fun v5 h =>
  mvK a1 h fun v6 h =>
  vK (aLen Try.prog 25 v6) h fun v7 h =>
  vK (aFieldAddr Try.prog 24 v2 4) h fun v8 h =>
  vK (aLoad Try.prog 22 v8 h) h fun v9 h =>
  vK (aLen Try.prog 22 v9) h fun v10 h =>
  vK (aBin Try.prog BinOp.neq 3 v7 v10) h fun v11 h =>
  cnd v11 (
   mvK (Value.int IntKind.i64 6) h fun v4_1 h =>
   retV [some v4_1] R h) (
   mvK a1 h fun v12 h =>
   mvK v5 h fun v13 h =>
   cK Try.prog 62 [v12, v13] h fun v14 h =>
   vK (aUn UnOp.not v14) h fun v15 h =>
   cK Try.prog 61 [v15, (Value.int IntKind.i64 3)] h fun v16 h =>
   mvK v16 h fun v4_2 h =>
   retV [some v4_2] R h)
def lv52 (q : Nat) : List Nat := []
theorem ok52 : lkOK Try.prog lv52 Try.f52 2 (Try.f52.body.getD .skip) 52 = true := by kernel_rfl
theorem e52 (a0 a1 : Value) (h : Heap) (R : Value → Heap → Prop) : n52 a0 a1 h R = wpK Try.prog lv52 (Try.f52.body.getD .skip) (endK Try.prog [.tmp 4] R) (argT [a0, a1]) h := by kernel_rfl
theorem w52 {a0 a1 : Value} {h : Heap} {R : Value → Heap → Prop} (hn : n52 a0 a1 h R) : DetP Try.prog 52 [a0, a1] h R :=
  DetP.of_code (rs := [.tmp 4]) (n := 2) Try.func52 (by kernel_rfl) (by kernel_rfl) lv52 ok52 rfl ((e52 a0 a1 h R) ▸ hn)

/-! ### examiner/cover.inputErr: function 53 -/
def n53 (a0 a1 : Value) (h : Heap) (R : Value → Heap → Prop) : Prop :=
  okK (some (aBox Try.prog 24 a0 h)) fun v2 h =>
  mvK (Value.int IntKind.i64 0) h fun v4 h =>
  mvK (Value.func (Fn.func 89) #[] #[v2]) h fun v6 h =>
  mvK v6 h fun v5 h =>
  mvK a1 h fun v7 h =>
  vK (aLen Try.prog 25 v7) h fun v8 h =>
  vK (aBin Try.prog BinOp.gtr 3 v8 (Value.int IntKind.i64 1200)) h fun v9 h =>
  cnd v9 (
   mvK (Value.int IntKind.i64 2) h fun v4_1 h =>
   retV [some v4_1] R h) (
   mvK a1 h fun v10 h =>
   mvK v5 h fun v11 h =>
   cK Try.prog 62 [v10, v11] h fun v12 h =>
   vK (aUn UnOp.not v12) h fun v13 h =>
   cK Try.prog 61 [v13, (Value.int IntKind.i64 3)] h fun v14 h =>
   mvK v14 h fun v4_2 h =>
   retV [some v4_2] R h)
def lv53 (q : Nat) : List Nat := []
theorem ok53 : lkOK Try.prog lv53 Try.f53 2 (Try.f53.body.getD .skip) 53 = true := by kernel_rfl
theorem e53 (a0 a1 : Value) (h : Heap) (R : Value → Heap → Prop) : n53 a0 a1 h R = wpK Try.prog lv53 (Try.f53.body.getD .skip) (endK Try.prog [.tmp 4] R) (argT [a0, a1]) h := by kernel_rfl
theorem w53 {a0 a1 : Value} {h : Heap} {R : Value → Heap → Prop} (hn : n53 a0 a1 h R) : DetP Try.prog 53 [a0, a1] h R :=
  DetP.of_code (rs := [.tmp 4]) (n := 2) Try.func53 (by kernel_rfl) (by kernel_rfl) lv53 ok53 rfl ((e53 a0 a1 h R) ▸ hn)

/-! ### examiner/cover.graphOf: function 54 -/
def n54 (a0 : Value) (h : Heap) (R : Value → Heap → Prop) : Prop :=
  okK (some (aBox Try.prog 24 a0 h)) fun v1 h =>
  mvK (Value.pointer none) h fun v2 h =>
  vK (aLoad Try.prog 24 v1 h) h fun v7 g =>
  VB h.length v7 ∧ (let h := g
   vK (aFieldAddr Try.prog 24 v1 0) h fun v8 h =>
   vK (aLoad Try.prog 3 v8 h) h fun v9 g =>
   VB h.length v9 ∧ (let h := g
    okK (aMakeSlice Try.prog 45 v9 v9 h) fun v10 h =>
    vK (aFieldAddr Try.prog 24 v1 0) h fun v11 h =>
    vK (aLoad Try.prog 3 v11 h) h fun v12 g =>
    VB h.length v12 ∧ (let h := g
     okK (aMakeSlice Try.prog 45 v12 v12 h) fun v13 h =>
     vK (aBuild Try.prog 92 [(0, v7), (1, v10), (2, v13)]) h fun v14 h =>
     okK (some (aBox Try.prog 92 v14 h)) fun v15 h =>
     mvK v15 h fun v3 h =>
     mvK v3 h fun v16 h =>
     vK (nilV v16) h fun v17 h =>
     vK (aFieldAddr Try.prog 92 v17 1) h fun v18 h =>
     vK (aLoad Try.prog 45 v18 h) h fun v19 h =>
     vK (aLen Try.prog 45 v19) h fun v20 h =>
     mvK (Value.int IntKind.i64 0) h fun v21 h =>
     ∃ (I3 : List Value → Heap → Prop) (μ3 : List Value → Heap → Nat), I3 [v21] h ∧
     ∀ (h3 : Heap) (j3 : Tmps) (v21_1 : Value), I3 [v21_1] h3 → (let h := h3
      vK (aBin Try.prog BinOp.lss 3 v21_1 v20) h fun v22 h =>
      cnd v22 (
       mvK v21_1 h fun v23 h =>
       mvK v23 h fun v4 h =>
       mvK v3 h fun v24 h =>
       vK (nilV v24) h fun v25 h =>
       vK (aFieldAddr Try.prog 92 v25 1) h fun v26 h =>
       vK (aLoad Try.prog 45 v26 h) h fun v27 g =>
       VB h.length v27 ∧ (let h := g
        mvK v4 h fun v28 h =>
        okK (aBuildSlice Try.prog 25 1 [(0, (Value.int IntKind.i64 (-1)))] h) fun v29 h =>
        vK (aFieldAddr Try.prog 24 v1 1) h fun v30 h =>
        vK (aLoad Try.prog 3 v30 h) h fun v31 g =>
        VB h.length v31 ∧ (let h := g
         cKD Try.prog 73 [v29, v31] h fun v32 g =>
         (∃ new, g = h ++ new) ∧ (let h := g
          vK (aIndexAddr Try.prog 45 v27 v28) h fun v33 h =>
          okK ((aStore Try.prog 25 v33 v32 h).map (undef, ·)) fun _ h =>
          (True) ∧ (
           vK (aBin Try.prog BinOp.add 3 v21_1 (Value.int IntKind.i64 1)) h fun v34 h =>
           mvK v34 h fun v21_2 h =>
           I3 [v21_2] h ∧ μ3 [v21_2] h < μ3 [v21_1] h3))))) (
       vK (aFieldAddr Try.prog 24 v1 4) h fun v35 h =>
       vK (aLoad Try.prog 22 v35 h) h fun v36 h =>
       vK (aLen Try.prog 22 v36) h fun v37 h =>
       mvK (Value.int IntKind.i64 0) h fun v38 h =>
       ∃ (I8 : List Value → Heap → Prop) (μ8 : List Value → Heap → Nat), I8 [v38] h ∧
       ∀ (h8 : Heap) (j8 : Tmps) (v38_1 : Value), I8 [v38_1] h8 → (let h := h8
        vK (aBin Try.prog BinOp.lss 3 v38_1 v37) h fun v39 h =>
        cnd v39 (
         mvK v38_1 h fun v40 h =>
         vK (aIndexAddr Try.prog 22 v36 v38_1) h fun v41 h =>
         vK (aLoad Try.prog 76 v41 h) h fun v42 h =>
         okK (aAlloc Try.prog 76 h) fun v6 h =>
         mvK v40 h fun v5 h =>
         okK ((aStore Try.prog 76 v6 v42 h).map (undef, ·)) fun _ h =>
         mvK v3 h fun v43 h =>
         vK (nilV v43) h fun v44 h =>
         vK (aFieldAddr Try.prog 92 v44 1) h fun v45 h =>
         vK (aLoad Try.prog 45 v45 h) h fun v46 g =>
         VB h.length v46 ∧ (let h := g
          vK (aFieldAddr Try.prog 76 v6 0) h fun v47 h =>
          vK (aLoad Try.prog 3 v47 h) h fun v48 g =>
          VB h.length v48 ∧ (let h := g
           vK (aIndexAddr Try.prog 45 v46 v48) h fun v49 h =>
           vK (aLoad Try.prog 25 v49 h) h fun v50 g =>
           VB h.length v50 ∧ (let h := g
            vK (aFieldAddr Try.prog 76 v6 1) h fun v51 h =>
            vK (aLoad Try.prog 3 v51 h) h fun v52 g =>
            VB h.length v52 ∧ (let h := g
             mvK v5 h fun v53 h =>
             vK (aIndexAddr Try.prog 25 v50 v52) h fun v54 h =>
             okK ((aStore Try.prog 3 v54 v53 h).map (undef, ·)) fun _ h =>
             (True) ∧ (
              mvK v3 h fun v55 h =>
              vK (nilV v55) h fun v56 h =>
              vK (aFieldAddr Try.prog 92 v56 2) h fun v57 h =>
              vK (aLoad Try.prog 45 v57 h) h fun v58 g =>
              VB h.length v58 ∧ (let h := g
               vK (aFieldAddr Try.prog 76 v6 0) h fun v59 h =>
               vK (aLoad Try.prog 3 v59 h) h fun v60 g =>
               VB h.length v60 ∧ (let h := g
                mvK v3 h fun v61 h =>
                vK (nilV v61) h fun v62 h =>
                vK (aFieldAddr Try.prog 92 v62 2) h fun v63 h =>
                vK (aLoad Try.prog 45 v63 h) h fun v64 g =>
                VB h.length v64 ∧ (let h := g
                 vK (aFieldAddr Try.prog 76 v6 0) h fun v65 h =>
                 vK (aLoad Try.prog 3 v65 h) h fun v66 g =>
                 VB h.length v66 ∧ (let h := g
                  vK (aIndexAddr Try.prog 45 v64 v66) h fun v67 h =>
                  vK (aLoad Try.prog 25 v67 h) h fun v68 g =>
                  VB h.length v68 ∧ (let h := g
                   mvK v5 h fun v69 h =>
                   okK (aBuildSlice Try.prog 25 1 [(0, v69)] h) fun v70 h =>
                   okK (aAppend Try.prog 25 25 v68 v70 h) fun v71 h =>
                   ((aLoad Try.prog 3 v59 h).map (·, h) = some (v60, h) ∧ (aLoad Try.prog 45 v57 h).map (·, h) = some (v58, h) ∧ True) ∧ (
                    vK (aIndexAddr Try.prog 45 v58 v60) h fun v72 h =>
                    okK ((aStore Try.prog 25 v72 v71 h).map (undef, ·)) fun _ h =>
                    (True) ∧ (
                     vK (aBin Try.prog BinOp.add 3 v38_1 (Value.int IntKind.i64 1)) h fun v73 h =>
                     mvK v73 h fun v38_2 h =>
                     I8 [v38_2] h ∧ μ8 [v38_2] h < μ8 [v38_1] h8))))))))))))) (
         mvK v3 h fun v74 h =>
         mvK v74 h fun v2_1 h =>
         retV [some v2_1] R h)))))))
def lv54 (q : Nat) : List Nat := bif Nat.beq q 6 then [34357641232, 21] else bif Nat.beq q 16 then [18889465931203702947936, 38] else []
theorem ok54 : lkOK Try.prog lv54 Try.f54 1 (Try.f54.body.getD .skip) 54 = true := by kernel_rfl
theorem e54 (a0 : Value) (h : Heap) (R : Value → Heap → Prop) : n54 a0 h R = wpK Try.prog lv54 (Try.f54.body.getD .skip) (endK Try.prog [.tmp 2] R) (argT [a0]) h := by kernel_rfl
theorem w54 {a0 : Value} {h : Heap} {R : Value → Heap → Prop} (hn : n54 a0 h R) : DetP Try.prog 54 [a0] h R :=
  DetP.of_code (rs := [.tmp 2]) (n := 1) Try.func54 (by kernel_rfl) (by kernel_rfl) lv54 ok54 rfl ((e54 a0 h R) ▸ hn)

/-! ### (*examiner/cover.graph).taken: function 55 -/
def n55 (a0 a1 : Value) (h : Heap) (R : Value → Heap → Prop) : Prop :=
  mvK (Value.slice none 0 0) h fun v4 h =>
  mvK (Value.slice none 0 0) h fun v5 h =>
  mvK a0 h fun v10 h =>
  vK (nilV v10) h fun v11 h =>
  vK (aFieldAddr Try.prog 92 v11 0) h fun v12 h =>
  vK (aFieldAddr Try.prog 24 v12 3) h fun v13 h =>
  vK (aLoad Try.prog 3 v13 h) h fun v14 h =>
  mvK v14 h fun v6 h =>
  seqK (fun k0 =>
   mvK a1 h fun v15 h =>
   vK (aLen Try.prog 25 v15) h fun v16 h =>
   mvK (Value.int IntKind.i64 0) h fun v17 h =>
   ∃ (I4 : List Value → Heap → Prop) (μ4 : List Value → Heap → Nat), I4 [v5, v6, v17] h ∧
   ∀ (h4 : Heap) (j4 : Tmps) (v5_1 : Value) (v6_1 : Value) (v17_1 : Value), I4 [v5_1, v6_1, v17_1] h4 → (let h := h4
    vK (aBin Try.prog BinOp.lss 3 v17_1 v16) h fun v18 h =>
    cnd v18 (
     vK (aIndexAddr Try.prog 25 v15 v17_1) h fun v19 h =>
     vK (aLoad Try.prog 3 v19 h) h fun v20 h =>
     mvK v20 h fun v8 h =>
     mvK a0 h fun v21 h =>
     vK (nilV v21) h fun v22 h =>
     vK (aFieldAddr Try.prog 92 v22 1) h fun v23 h =>
     vK (aLoad Try.prog 45 v23 h) h fun v24 h =>
     mvK v6_1 h fun v25 h =>
     vK (aIndexAddr Try.prog 45 v24 v25) h fun v26 h =>
     vK (aLoad Try.prog 25 v26 h) h fun v27 h =>
     mvK v8 h fun v28 h =>
     vK (aIndexAddr Try.prog 25 v27 v28) h fun v29 h =>
     vK (aLoad Try.prog 3 v29 h) h fun v30 h =>
     mvK v30 h fun v9 h =>
     mvK v9 h fun v31 h =>
     vK (aBin Try.prog BinOp.eql 3 v31 (Value.int IntKind.i64 (-1))) h fun v32 h =>
     cnd v32 (
      k0 [v5_1] h) (
      mvK a0 h fun v33 h =>
      vK (nilV v33) h fun v34 h =>
      vK (aFieldAddr Try.prog 92 v34 0) h fun v35 h =>
      vK (aFieldAddr Try.prog 24 v35 4) h fun v36 h =>
      vK (aLoad Try.prog 22 v36 h) h fun v37 g =>
      VB h.length v37 ∧ (let h := g
       mvK v9 h fun v38 h =>
       vK (aIndexAddr Try.prog 22 v37 v38) h fun v39 h =>
       vK (aFieldAddr Try.prog 76 v39 3) h fun v40 h =>
       vK (aLoad Try.prog 3 v40 h) h fun v41 g =>
       VB h.length v41 ∧ (let h := g
        mvK v5_1 h fun v42 h =>
        mvK v9 h fun v43 h =>
        okK (aBuildSlice Try.prog 25 1 [(0, v43)] h) fun v44 h =>
        okK (aAppend Try.prog 25 25 v42 v44 h) fun v45 h =>
        ((aLoad Try.prog 3 v40 h).map (·, h) = some (v41, h) ∧ (aLoad Try.prog 22 v36 h).map (·, h) = some (v37, h) ∧ True) ∧ (
         mvK v41 h fun v6_2 h =>
         mvK v45 h fun v5_2 h =>
         vK (aBin Try.prog BinOp.add 3 v17_1 (Value.int IntKind.i64 1)) h fun v46 h =>
         mvK v46 h fun v17_2 h =>
         I4 [v5_2, v6_2, v17_2] h ∧ μ4 [v5_2, v6_2, v17_2] h < μ4 [v5_1, v6_1, v17_1] h4))))) (
     k0 [v5_1] h))) fun x0 h => ∀ jx0 : Tmps,
   let v5_3 : Value := nth x0 0
   mvK v5_3 h fun v47 h =>
   mvK v47 h fun v4_1 h =>
   retV [some v4_1] R h
def lv55 (q : Nat) : List Nat := bif Nat.beq q 8 then [140737488225120, 5, 6, 17] else bif Nat.beq q 21 then [140737488323424, 5] else []
theorem ok55 : lkOK Try.prog lv55 Try.f55 2 (Try.f55.body.getD .skip) 55 = true := by kernel_rfl
theorem e55 (a0 a1 : Value) (h : Heap) (R : Value → Heap → Prop) : n55 a0 a1 h R = wpK Try.prog lv55 (Try.f55.body.getD .skip) (endK Try.prog [.tmp 4] R) (argT [a0, a1]) h := by kernel_rfl
theorem w55 {a0 a1 : Value} {h : Heap} {R : Value → Heap → Prop} (hn : n55 a0 a1 h R) : DetP Try.prog 55 [a0, a1] h R :=
  DetP.of_code (rs := [.tmp 4]) (n := 2) Try.func55 (by kernel_rfl) (by kernel_rfl) lv55 ok55 rfl ((e55 a0 a1 h R) ▸ hn)

/-! ### examiner/cover.CheckRound$1: function 56 -/
def n56 (a0 a1 : Value) (h : Heap) (R : Value → Heap → Prop) : Prop :=
  mvK (Value.bool false) h fun v3 h =>
  vK (aLoad Try.prog 25 a1 h) h fun v4 h =>
  mvK a0 h fun v5 h =>
  cK Try.prog 57 [v4, v5] h fun v6 h =>
  vK (aUn UnOp.not v6) h fun v7 h =>
  mvK v7 h fun v3_1 h =>
  retV [some v3_1] R h
def lv56 (q : Nat) : List Nat := []
theorem ok56 : lkOK Try.prog lv56 Try.f56 2 (Try.f56.body.getD .skip) 56 = true := by kernel_rfl
theorem e56 (a0 a1 : Value) (h : Heap) (R : Value → Heap → Prop) : n56 a0 a1 h R = wpK Try.prog lv56 (Try.f56.body.getD .skip) (endK Try.prog [.tmp 3] R) (argT [a0, a1]) h := by kernel_rfl
theorem w56 {a0 a1 : Value} {h : Heap} {R : Value → Heap → Prop} (hn : n56 a0 a1 h R) : DetP Try.prog 56 [a0, a1] h R :=
  DetP.of_code (rs := [.tmp 3]) (n := 2) Try.func56 (by kernel_rfl) (by kernel_rfl) lv56 ok56 rfl ((e56 a0 a1 h R) ▸ hn)

/-! ### slices.Contains[[]int,int]: function 57 -/
def n57 (a0 a1 : Value) (h : Heap) (R : Value → Heap → Prop) : Prop :=
  mvK (Value.bool false) h fun v4 h =>
  mvK a0 h fun v5 h =>
  mvK a1 h fun v6 h =>
  cK Try.prog 90 [v5, v6] h fun v7 h =>
  vK (aBin Try.prog BinOp.geq 3 v7 (Value.int IntKind.i64 0)) h fun v8 h =>
  mvK v8 h fun v4_1 h =>
  retV [some v4_1] R h
def lv57 (q : Nat) : List Nat := []
theorem ok57 : lkOK Try.prog lv57 Try.f57 2 (Try.f57.body.getD .skip) 57 = true := by kernel_rfl
theorem e57 (a0 a1 : Value) (h : Heap) (R : Value → Heap → Prop) : n57 a0 a1 h R = wpK Try.prog lv57 (Try.f57.body.getD .skip) (endK Try.prog [.tmp 4] R) (argT [a0, a1]) h := by kernel_rfl
theorem w57 {a0 a1 : Value} {h : Heap} {R : Value → Heap → Prop} (hn : n57 a0 a1 h R) : DetP Try.prog 57 [a0, a1] h R :=
  DetP.of_code (rs := [.tmp 4]) (n := 2) Try.func57 (by kernel_rfl) (by kernel_rfl) lv57 ok57 rfl ((e57 a0 a1 h R) ▸ hn)

/-! ### examiner/cover.CheckRound$2: function 58 -/
def n58 (a0 : Value) (h : Heap) (R : Value → Heap → Prop) : Prop :=
  mvK (Value.bool false) h fun v2 h =>
  mvK a0 h fun v3 h =>
  cK Try.prog 59 [v3, (Value.int IntKind.i64 (-1000)), (Value.int IntKind.i64 1000)] h fun v4 h =>
  vK (aUn UnOp.not v4) h fun v5 h =>
  mvK v5 h fun v2_1 h =>
  retV [some v2_1] R h
def lv58 (q : Nat) : List Nat := []
theorem ok58 : lkOK Try.prog lv58 Try.f58 1 (Try.f58.body.getD .skip) 58 = true := by kernel_rfl
theorem e58 (a0 : Value) (h : Heap) (R : Value → Heap → Prop) : n58 a0 h R = wpK Try.prog lv58 (Try.f58.body.getD .skip) (endK Try.prog [.tmp 2] R) (argT [a0]) h := by kernel_rfl
theorem w58 {a0 : Value} {h : Heap} {R : Value → Heap → Prop} (hn : n58 a0 h R) : DetP Try.prog 58 [a0] h R :=
  DetP.of_code (rs := [.tmp 2]) (n := 1) Try.func58 (by kernel_rfl) (by kernel_rfl) lv58 ok58 rfl ((e58 a0 h R) ▸ hn)

/-! ### examiner/cover.spans: function 59 -/
def n59 (a0 a1 a2 : Value) (h : Heap) (R : Value → Heap → Prop) : Prop :=
  mvK (Value.bool false) h fun v6 h =>
  mvK a1 h fun v7 h =>
  mvK a0 h fun v8 h =>
  vK (aBin Try.prog BinOp.leq 3 v7 v8) h fun v9 h =>
  mvK v9 h fun v10 h =>
  gdK v10 true (fun k0 =>
   mvK a0 h fun v11 h =>
   k0 v11 h) (fun v11_1 h =>
   gdK v10 true (fun k1 =>
    mvK a2 h fun v12 h =>
    k1 v12 h) (fun v12_1 h =>
    gdK v10 true (fun k2 =>
     vK (aBin Try.prog BinOp.leq 3 v11_1 v12_1) h fun v13 h =>
     k2 v13 h) (fun v13_1 h =>
     vK (pickV v10 v13_1 (Value.bool false)) h fun v14 h =>
     mvK v14 h fun v6_1 h =>
     retV [some v6_1] R h) h) h) h
def lv59 (q : Nat) : List Nat := []
theorem ok59 : lkOK Try.prog lv59 Try.f59 3 (Try.f59.body.getD .skip) 59 = true := by kernel_rfl
theorem e59 (a0 a1 a2 : Value) (h : Heap) (R : Value → Heap → Prop) : n59 a0 a1 a2 h R = wpK Try.prog lv59 (Try.f59.body.getD .skip) (endK Try.prog [.tmp 6] R) (argT [a0, a1, a2]) h := by kernel_rfl
theorem w59 {a0 a1 a2 : Value} {h : Heap} {R : Value → Heap → Prop} (hn : n59 a0 a1 a2 h R) : DetP Try.prog 59 [a0, a1, a2] h R :=
  DetP.of_code (rs := [.tmp 6]) (n := 3) Try.func59 (by kernel_rfl) (by kernel_rfl) lv59 ok59 rfl ((e59 a0 a1 a2 h R) ▸ hn)

/-! ### (*examiner/cover.graph).steps: function 60 -/
def n60 (a0 : Value) (h : Heap) (R : Value → Heap → Prop) : Prop :=
  mvK (Value.slice none 0 0) h fun v2 h =>
  mvK a0 h fun v3 h =>
  mvK a0 h fun v4 h =>
  mvK a0 h fun v5 h =>
  vK (nilV v5) h fun v6 h =>
  vK (aFieldAddr Try.prog 92 v6 0) h fun v7 h =>
  vK (aFieldAddr Try.prog 24 v7 3) h fun v8 h =>
  vK (aLoad Try.prog 3 v8 h) h fun v9 h =>
  cK Try.prog 64 [v4, v9] h fun v10 h =>
  cK Try.prog 65 [v3, v10] h fun v11 h =>
  mvK v11 h fun v2_1 h =>
  retV [some v2_1] R h
def lv60 (q : Nat) : List Nat := []
theorem ok60 : lkOK Try.prog lv60 Try.f60 1 (Try.f60.body.getD .skip) 60 = true := by kernel_rfl
theorem e60 (a0 : Value) (h : Heap) (R : Value → Heap → Prop) : n60 a0 h R = wpK Try.prog lv60 (Try.f60.body.getD .skip) (endK Try.prog [.tmp 2] R) (argT [a0]) h := by kernel_rfl
theorem w60 {a0 : Value} {h : Heap} {R : Value → Heap → Prop} (hn : n60 a0 h R) : DetP Try.prog 60 [a0] h R :=
  DetP.of_code (rs := [.tmp 2]) (n := 1) Try.func60 (by kernel_rfl) (by kernel_rfl) lv60 ok60 rfl ((e60 a0 h R) ▸ hn)

/-! ### examiner/cover.unless: function 61 -/
def n61 (a0 a1 : Value) (h : Heap) (R : Value → Heap → Prop) : Prop :=
  mvK (Value.int IntKind.i64 0) h fun v4 h =>
  mvK a0 h fun v5 h =>
  cnd v5 (
   mvK (Value.int IntKind.i64 0) h fun v4_1 h =>
   retV [some v4_1] R h) (
   mvK a1 h fun v6 h =>
   mvK v6 h fun v4_2 h =>
   retV [some v4_2] R h)
def lv61 (q : Nat) : List Nat := []
theorem ok61 : lkOK Try.prog lv61 Try.f61 2 (Try.f61.body.getD .skip) 61 = true := by kernel_rfl
theorem e61 (a0 a1 : Value) (h : Heap) (R : Value → Heap → Prop) : n61 a0 a1 h R = wpK Try.prog lv61 (Try.f61.body.getD .skip) (endK Try.prog [.tmp 4] R) (argT [a0, a1]) h := by kernel_rfl
theorem w61 {a0 a1 : Value} {h : Heap} {R : Value → Heap → Prop} (hn : n61 a0 a1 h R) : DetP Try.prog 61 [a0, a1] h R :=
  DetP.of_code (rs := [.tmp 4]) (n := 2) Try.func61 (by kernel_rfl) (by kernel_rfl) lv61 ok61 rfl ((e61 a0 a1 h R) ▸ hn)

/-! ### slices.ContainsFunc[[]int,int]: function 62 -/
def n62 (a0 a1 : Value) (h : Heap) (R : Value → Heap → Prop) : Prop :=
  mvK (Value.bool false) h fun v4 h =>
  mvK a0 h fun v5 h =>
  mvK a1 h fun v6 h =>
  cK Try.prog 91 [v5, v6] h fun v7 h =>
  vK (aBin Try.prog BinOp.geq 3 v7 (Value.int IntKind.i64 0)) h fun v8 h =>
  mvK v8 h fun v4_1 h =>
  retV [some v4_1] R h
def lv62 (q : Nat) : List Nat := []
theorem ok62 : lkOK Try.prog lv62 Try.f62 2 (Try.f62.body.getD .skip) 62 = true := by kernel_rfl
theorem e62 (a0 a1 : Value) (h : Heap) (R : Value → Heap → Prop) : n62 a0 a1 h R = wpK Try.prog lv62 (Try.f62.body.getD .skip) (endK Try.prog [.tmp 4] R) (argT [a0, a1]) h := by kernel_rfl
theorem w62 {a0 a1 : Value} {h : Heap} {R : Value → Heap → Prop} (hn : n62 a0 a1 h R) : DetP Try.prog 62 [a0, a1] h R :=
  DetP.of_code (rs := [.tmp 4]) (n := 2) Try.func62 (by kernel_rfl) (by kernel_rfl) lv62 ok62 rfl ((e62 a0 a1 h R) ▸ hn)

/-! ### examiner/examinerref37.MachineErr: function 63 -/
def n63 (a0 : Value) (h : Heap) (R : Value → Heap → Prop) : Prop :=
  okK (some (aBox Try.prog 24 a0 h)) fun v1 h =>
  mvK (Value.int IntKind.i64 0) h fun v2 h =>
  mvK (Value.int IntKind.i64 0) h fun v3 h =>
  vK (aFieldAddr Try.prog 24 v1 0) h fun v6 h =>
  vK (aLoad Try.prog 3 v6 h) h fun v7 h =>
  cK Try.prog 22 [v7, (Value.int IntKind.i64 1), (Value.int IntKind.i64 40)] h fun v8 h =>
  vK (aUn UnOp.not v8) h fun v9 h =>
  mvK v9 h fun v10 h =>
  gdK v10 false (fun k0 =>
   vK (aFieldAddr Try.prog 24 v1 1) h fun v11 h =>
   k0 v11 h) (fun v11_1 h =>
   gdK v10 false (fun k1 =>
    vK (aLoad Try.prog 3 v11_1 h) h fun v12 h =>
    k1 v12 h) (fun v12_1 h =>
    gdK v10 false (fun k2 =>
     cK Try.prog 22 [v12_1, (Value.int IntKind.i64 1), (Value.int IntKind.i64 8)] h fun v13 h =>
     k2 v13 h) (fun v13_1 h =>
     gdK v10 false (fun k3 =>
      vK (aUn UnOp.not v13_1) h fun v14 h =>
      k3 v14 h) (fun v14_1 h =>
      vK (pickV v10 (Value.bool true) v14_1) h fun v15 h =>
      mvK v15 h fun v16 h =>
      gdK v16 false (fun k4 =>
       vK (aFieldAddr Try.prog 24 v1 2) h fun v17 h =>
       k4 v17 h) (fun v17_1 h =>
       gdK v16 false (fun k5 =>
        vK (aLoad Try.prog 3 v17_1 h) h fun v18 h =>
        k5 v18 h) (fun v18_1 h =>
        gdK v16 false (fun k6 =>
         cK Try.prog 22 [v18_1, (Value.int IntKind.i64 1), (Value.int IntKind.i64 8)] h fun v19 h =>
         k6 v19 h) (fun v19_1 h =>
         gdK v16 false (fun k7 =>
          vK (aUn UnOp.not v19_1) h fun v20 h =>
          k7 v20 h) (fun v20_1 h =>
          vK (pickV v16 (Value.bool true) v20_1) h fun v21 h =>
          mvK v21 h fun v22 h =>
          gdK v22 false (fun k8 =>
           vK (aFieldAddr Try.prog 24 v1 3) h fun v23 h =>
           k8 v23 h) (fun v23_1 h =>
           gdK v22 false (fun k9 =>
            vK (aLoad Try.prog 3 v23_1 h) h fun v24 h =>
            k9 v24 h) (fun v24_1 h =>
            gdK v22 false (fun k10 =>
             vK (aFieldAddr Try.prog 24 v1 0) h fun v25 h =>
             k10 v25 h) (fun v25_1 h =>
             gdK v22 false (fun k11 =>
              vK (aLoad Try.prog 3 v25_1 h) h fun v26 h =>
              k11 v26 h) (fun v26_1 h =>
              gdK v22 false (fun k12 =>
               vK (aBin Try.prog BinOp.sub 3 v26_1 (Value.int IntKind.i64 1)) h fun v27 h =>
               k12 v27 h) (fun v27_1 h =>
               gdK v22 false (fun k13 =>
                cK Try.prog 22 [v24_1, (Value.int IntKind.i64 0), v27_1] h fun v28 h =>
                k13 v28 h) (fun v28_1 h =>
                gdK v22 false (fun k14 =>
                 vK (aUn UnOp.not v28_1) h fun v29 h =>
                 k14 v29 h) (fun v29_1 h =>
                 vK (pickV v22 (Value.bool true) v29_1) h fun v30 h =>
                 cnd v30 (
                  mvK (Value.int IntKind.i64 0) h fun v2_1 h =>
                  mvK (Value.int IntKind.i64 3) h fun v3_1 h =>
                  retV [some v2_1, some v3_1] R h) (
                  vK (aFieldAddr Try.prog 24 v1 4) h fun v31 h =>
                  vK (aLoad Try.prog 22 v31 h) h fun v32 h =>
                  vK (aLen Try.prog 22 v32) h fun v33 h =>
                  vK (aFieldAddr Try.prog 24 v1 0) h fun v34 h =>
                  vK (aLoad Try.prog 3 v34 h) h fun v35 h =>
                  vK (aFieldAddr Try.prog 24 v1 1) h fun v36 h =>
                  vK (aLoad Try.prog 3 v36 h) h fun v37 h =>
                  vK (aBin Try.prog BinOp.mul 3 v35 v37) h fun v38 h =>
                  vK (aBin Try.prog BinOp.gtr 3 v33 v38) h fun v39 h =>
                  cnd v39 (
                   mvK (Value.int IntKind.i64 0) h fun v2_2 h =>
                   mvK (Value.int IntKind.i64 2) h fun v3_2 h =>
                   retV [some v2_2, some v3_2] R h) (
                   mvK (Value.int IntKind.i64 0) h fun v4 h =>
                   ∃ (I6 : List Value → Heap → Prop) (μ6 : List Value → Heap → Nat), I6 [v4] h ∧
                   ∀ (h6 : Heap) (j6 : Tmps) (v4_1 : Value), I6 [v4_1] h6 → (let h := h6
                    mvK v4_1 h fun v40 h =>
                    vK (aFieldAddr Try.prog 24 v1 4) h fun v41 h =>
                    vK (aLoad Try.prog 22 v41 h) h fun v42 h =>
                    vK (aLen Try.prog 22 v42) h fun v43 h =>
                    vK (aBin Try.prog BinOp.lss 3 v40 v43) h fun v44 h =>
                    cnd v44 (
                     vK (aFieldAddr Try.prog 24 v1 4) h fun v47 h =>
                     vK (aLoad Try.prog 22 v47 h) h fun v48 h =>
                     mvK v4_1 h fun v49 h =>
                     vK (aIndexAddr Try.prog 22 v48 v49) h fun v50 h =>
                     vK (aLoad Try.prog 76 v50 h) h fun v51 h =>
                     okK (aAlloc Try.prog 76 h) fun v5 h =>
                     okK ((aStore Try.prog 76 v5 v51 h).map (undef, ·)) fun _ h =>
                     vK (aFieldAddr Try.prog 76 v5 0) h fun v52 h =>
                     vK (aLoad Try.prog 3 v52 h) h fun v53 h =>
                     vK (aFieldAddr Try.prog 24 v1 0) h fun v54 h =>
                     vK (aLoad Try.prog 3 v54 h) h fun v55 h =>
                     vK (aBin Try.prog BinOp.sub 3 v55 (Value.int IntKind.i64 1)) h fun v56 h =>
                     cK Try.prog 22 [v53, (Value.int IntKind.i64 0), v56] h fun v57 h =>
                     vK (aUn UnOp.not v57) h fun v58 h =>
                     mvK v58 h fun v59 h =>
                     gdK v59 false (fun k15 =>
                      vK (aFieldAddr Try.prog 76 v5 3) h fun v60 h =>
                      k15 v60 h) (fun v60_1 h =>
                      gdK v59 false (fun k16 =>
                       vK (aLoad Try.prog 3 v60_1 h) h fun v61 h =>
                       k16 v61 h) (fun v61_1 h =>
                       gdK v59 false (fun k17 =>
                        vK (aFieldAddr Try.prog 24 v1 0) h fun v62 h =>
                        k17 v62 h) (fun v62_1 h =>
                        gdK v59 false (fun k18 =>
                         vK (aLoad Try.prog 3 v62_1 h) h fun v63 h =>
                         k18 v63 h) (fun v63_1 h =>
                         gdK v59 false (fun k19 =>
                          vK (aBin Try.prog BinOp.sub 3 v63_1 (Value.int IntKind.i64 1)) h fun v64 h =>
                          k19 v64 h) (fun v64_1 h =>
                          gdK v59 false (fun k20 =>
                           cK Try.prog 22 [v61_1, (Value.int IntKind.i64 0), v64_1] h fun v65 h =>
                           k20 v65 h) (fun v65_1 h =>
                           gdK v59 false (fun k21 =>
                            vK (aUn UnOp.not v65_1) h fun v66 h =>
                            k21 v66 h) (fun v66_1 h =>
                            vK (pickV v59 (Value.bool true) v66_1) h fun v67 h =>
                            mvK v67 h fun v68 h =>
                            gdK v68 false (fun k22 =>
                             vK (aFieldAddr Try.prog 76 v5 1) h fun v69 h =>
                             k22 v69 h) (fun v69_1 h =>
                             gdK v68 false (fun k23 =>
                              vK (aLoad Try.prog 3 v69_1 h) h fun v70 h =>
                              k23 v70 h) (fun v70_1 h =>
                              gdK v68 false (fun k24 =>
                               vK (aFieldAddr Try.prog 24 v1 1) h fun v71 h =>
                               k24 v71 h) (fun v71_1 h =>
                               gdK v68 false (fun k25 =>
                                vK (aLoad Try.prog 3 v71_1 h) h fun v72 h =>
                                k25 v72 h) (fun v72_1 h =>
                                gdK v68 false (fun k26 =>
                                 vK (aBin Try.prog BinOp.sub 3 v72_1 (Value.int IntKind.i64 1)) h fun v73 h =>
                                 k26 v73 h) (fun v73_1 h =>
                                 gdK v68 false (fun k27 =>
                                  cK Try.prog 22 [v70_1, (Value.int IntKind.i64 0), v73_1] h fun v74 h =>
                                  k27 v74 h) (fun v74_1 h =>
                                  gdK v68 false (fun k28 =>
                                   vK (aUn UnOp.not v74_1) h fun v75 h =>
                                   k28 v75 h) (fun v75_1 h =>
                                   vK (pickV v68 (Value.bool true) v75_1) h fun v76 h =>
                                   mvK v76 h fun v77 h =>
                                   gdK v77 false (fun k29 =>
                                    vK (aFieldAddr Try.prog 76 v5 2) h fun v78 h =>
                                    k29 v78 h) (fun v78_1 h =>
                                    gdK v77 false (fun k30 =>
                                     vK (aLoad Try.prog 3 v78_1 h) h fun v79 h =>
                                     k30 v79 h) (fun v79_1 h =>
                                     gdK v77 false (fun k31 =>
                                      vK (aFieldAddr Try.prog 24 v1 2) h fun v80 h =>
                                      k31 v80 h) (fun v80_1 h =>
                                      gdK v77 false (fun k32 =>
                                       vK (aLoad Try.prog 3 v80_1 h) h fun v81 h =>
                                       k32 v81 h) (fun v81_1 h =>
                                       gdK v77 false (fun k33 =>
                                        vK (aBin Try.prog BinOp.sub 3 v81_1 (Value.int IntKind.i64 1)) h fun v82 h =>
                                        k33 v82 h) (fun v82_1 h =>
                                        gdK v77 false (fun k34 =>
                                         cK Try.prog 22 [v79_1, (Value.int IntKind.i64 0), v82_1] h fun v83 h =>
                                         k34 v83 h) (fun v83_1 h =>
                                         gdK v77 false (fun k35 =>
                                          vK (aUn UnOp.not v83_1) h fun v84 h =>
                                          k35 v84 h) (fun v84_1 h =>
                                          vK (pickV v77 (Value.bool true) v84_1) h fun v85 h =>
                                          cnd v85 (
                                           mvK v4_1 h fun v86 h =>
                                           mvK v86 h fun v2_3 h =>
                                           mvK (Value.int IntKind.i64 3) h fun v3_3 h =>
                                           retV [some v2_3, some v3_3] R h) (
                                           mvK v4_1 h fun v87 h =>
                                           vK (aBin Try.prog BinOp.gtr 3 v87 (Value.int IntKind.i64 0)) h fun v88 h =>
                                           mvK v88 h fun v89 h =>
                                           gdK v89 true (fun k36 =>
                                            vK (aFieldAddr Try.prog 24 v1 4) h fun v90 h =>
                                            k36 v90 h) (fun v90_1 h =>
                                            gdK v89 true (fun k37 =>
                                             vK (aLoad Try.prog 22 v90_1 h) h fun v91 g =>
                                             VB h.length v91 ∧ (let h := g
                                              k37 v91 h)) (fun v91_1 h =>
                                             gdK v89 true (fun k38 =>
                                              mvK v4_1 h fun v92 h =>
                                              k38 v92 h) (fun v92_1 h =>
                                              gdK v89 true (fun k39 =>
                                               vK (aBin Try.prog BinOp.sub 3 v92_1 (Value.int IntKind.i64 1)) h fun v93 h =>
                                               k39 v93 h) (fun v93_1 h =>
                                               gdK v89 true (fun k40 =>
                                                vK (aIndexAddr Try.prog 22 v91_1 v93_1) h fun v94 h =>
                                                k40 v94 h) (fun v94_1 h =>
                                                gdK v89 true (fun k41 =>
                                                 vK (aFieldAddr Try.prog 76 v94_1 0) h fun v95 h =>
                                                 k41 v95 h) (fun v95_1 h =>
                                                 gdK v89 true (fun k42 =>
                                                  vK (aLoad Try.prog 3 v95_1 h) h fun v96 g =>
                                                  VB h.length v96 ∧ (let h := g
                                                   k42 v96 h)) (fun v96_1 h =>
                                                  gdK v89 true (fun k43 =>
                                                   vK (aFieldAddr Try.prog 24 v1 4) h fun v97 h =>
                                                   k43 v97 h) (fun v97_1 h =>
                                                   gdK v89 true (fun k44 =>
                                                    vK (aLoad Try.prog 22 v97_1 h) h fun v98 g =>
                                                    VB h.length v98 ∧ (let h := g
                                                     k44 v98 h)) (fun v98_1 h =>
                                                    gdK v89 true (fun k45 =>
                                                     mvK v4_1 h fun v99 h =>
                                                     k45 v99 h) (fun v99_1 h =>
                                                     gdK v89 true (fun k46 =>
                                                      vK (aBin Try.prog BinOp.sub 3 v99_1 (Value.int IntKind.i64 1)) h fun v100 h =>
                                                      k46 v100 h) (fun v100_1 h =>
                                                      gdK v89 true (fun k47 =>
                                                       vK (aIndexAddr Try.prog 22 v98_1 v100_1) h fun v101 h =>
                                                       k47 v101 h) (fun v101_1 h =>
                                                       gdK v89 true (fun k48 =>
                                                        vK (aFieldAddr Try.prog 76 v101_1 1) h fun v102 h =>
                                                        k48 v102 h) (fun v102_1 h =>
                                                        gdK v89 true (fun k49 =>
                                                         vK (aLoad Try.prog 3 v102_1 h) h fun v103 g =>
                                                         VB h.length v103 ∧ (let h := g
                                                          k49 v103 h)) (fun v103_1 h =>
                                                         gdK v89 true (fun k50 =>
                                                          okK (aBuildSlice Try.prog 25 2 [(0, v96_1), (1, v103_1)] h) fun v104 h =>
                                                          k50 v104 h) (fun v104_1 h =>
                                                          gdK v89 true (fun k51 =>
                                                           vK (aFieldAddr Try.prog 76 v5 0) h fun v105 h =>
                                                           k51 v105 h) (fun v105_1 h =>
                                                           gdK v89 true (fun k52 =>
                                                            vK (aLoad Try.prog 3 v105_1 h) h fun v106 g =>
                                                            VB h.length v106 ∧ (let h := g
                                                             k52 v106 h)) (fun v106_1 h =>
                                                            gdK v89 true (fun k53 =>
                                                             vK (aFieldAddr Try.prog 76 v5 1) h fun v107 h =>
                                                             k53 v107 h) (fun v107_1 h =>
                                                             gdK v89 true (fun k54 =>
                                                              vK (aLoad Try.prog 3 v107_1 h) h fun v108 g =>
                                                              VB h.length v108 ∧ (let h := g
                                                               k54 v108 h)) (fun v108_1 h =>
                                                              gdK v89 true (fun k55 =>
                                                               okK (aBuildSlice Try.prog 25 2 [(0, v106_1), (1, v108_1)] h) fun v109 h =>
                                                               k55 v109 h) (fun v109_1 h =>
                                                               gdK v89 true (fun k56 =>
                                                                cKD Try.prog 92 [v104_1, v109_1] h fun v110 g =>
                                                                (∃ new, g = h ++ new) ∧ (let h := g
                                                                 k56 v110 h)) (fun v110_1 h =>
                                                                gdK v89 true (fun k57 =>
                                                                 vK (aBin Try.prog BinOp.geq 3 v110_1 (Value.int IntKind.i64 0)) h fun v111 h =>
                                                                 k57 v111 h) (fun v111_1 h =>
                                                                 vK (pickV v89 v111_1 (Value.bool false)) h fun v112 h =>
                                                                 cnd v112 (
                                                                  mvK v4_1 h fun v113 h =>
                                                                  mvK v113 h fun v2_4 h =>
                                                                  mvK (Value.int IntKind.i64 14) h fun v3_4 h =>
                                                                  retV [some v2_4, some v3_4] R h) (
                                                                  mvK v4_1 h fun v45 h =>
                                                                  vK (aBin Try.prog BinOp.add 3 v45 (Value.int IntKind.i64 1)) h fun v46 h =>
                                                                  mvK v46 h fun v4_2 h =>
                                                                  I6 [v4_2] h ∧ μ6 [v4_2] h < μ6 [v4_1] h6)) h) h) h) h) h) h) h) h) h) h) h) h) h) h) h) h) h) h) h) h) h) h)) h) h) h) h) h) h) h) h) h) h) h) h) h) h) h) h) h) h) h) h) h) (
                     mvK (Value.int IntKind.i64 0) h fun v2_5 h =>
                     mvK (Value.int IntKind.i64 0) h fun v3_5 h =>
                     retV [some v2_5, some v3_5] R h))))) h) h) h) h) h) h) h) h) h) h) h) h) h) h) h
def lv63 (q : Nat) : List Nat := bif Nat.beq q 12 then [20769187434139310514120885805252668, 4] else []
theorem ok63 : lkOK Try.prog lv63 Try.f63 1 (Try.f63.body.getD .skip) 63 = true := by kernel_rfl
theorem e63 (a0 : Value) (h : Heap) (R : Value → Heap → Prop) : n63 a0 h R = wpK Try.prog lv63 (Try.f63.body.getD .skip) (endK Try.prog [.tmp 2, .tmp 3] R) (argT [a0]) h := by kernel_rfl
theorem w63 {a0 : Value} {h : Heap} {R : Value → Heap → Prop} (hn : n63 a0 h R) : DetP Try.prog 63 [a0] h R :=
  DetP.of_code (rs := [.tmp 2, .tmp 3]) (n := 1) Try.func63 (by kernel_rfl) (by kernel_rfl) lv63 ok63 rfl ((e63 a0 h R) ▸ hn)

/-! ### (*examiner/cover.graph).reached: function 64 -/
def n64 (a0 a1 : Value) (h : Heap) (R : Value → Heap → Prop) : Prop :=
  mvK (Value.slice none 0 0) h fun v4 h =>
  mvK a0 h fun v11 h =>
  vK (nilV v11) h fun v12 h =>
  vK (aFieldAddr Try.prog 92 v12 0) h fun v13 h =>
  vK (aFieldAddr Try.prog 24 v13 0) h fun v14 h =>
  vK (aLoad Try.prog 3 v14 h) h fun v15 h =>
  okK (aMakeSlice Try.prog 48 v15 v15 h) fun v16 h =>
  mvK v16 h fun v5 h =>
  mvK v5 h fun v17 h =>
  mvK a1 h fun v18 h =>
  vK (aIndexAddr Try.prog 48 v17 v18) h fun v19 h =>
  okK ((aStore Try.prog 4 v19 (Value.bool true) h).map (undef, ·)) fun _ h =>
  mvK a1 h fun v20 h =>
  okK (aBuildSlice Try.prog 25 1 [(0, v20)] h) fun v21 h =>
  mvK v21 h fun v6 h =>
  ∃ (I4 : List Value → Heap → Prop) (μ4 : List Value → Heap → Nat), I4 [v6] h ∧
  ∀ (h4 : Heap) (j4 : Tmps) (v6_1 : Value), I4 [v6_1] h4 → (let h := h4
   mvK v6_1 h fun v22 h =>
   vK (aLen Try.prog 25 v22) h fun v23 h =>
   vK (aBin Try.prog BinOp.gtr 3 v23 (Value.int IntKind.i64 0)) h fun v24 h =>
   cnd v24 (
    mvK v6_1 h fun v25 h =>
    vK (aIndexAddr Try.prog 25 v25 (Value.int IntKind.i64 0)) h fun v26 h =>
    vK (aLoad Try.prog 3 v26 h) h fun v27 h =>
    mvK v27 h fun v7 h =>
    mvK v6_1 h fun v28 h =>
    vK (aSlice Try.prog 25 v28 (some (Value.int IntKind.i64 1)) none none h) h fun v29 h =>
    mvK v29 h fun v6_2 h =>
    mvK a0 h fun v30 h =>
    vK (nilV v30) h fun v31 h =>
    vK (aFieldAddr Try.prog 92 v31 2) h fun v32 h =>
    vK (aLoad Try.prog 45 v32 h) h fun v33 h =>
    mvK v7 h fun v34 h =>
    vK (aIndexAddr Try.prog 45 v33 v34) h fun v35 h =>
    vK (aLoad Try.prog 25 v35 h) h fun v36 h =>
    vK (aLen Try.prog 25 v36) h fun v37 h =>
    mvK (Value.int IntKind.i64 0) h fun v38 h =>
    ∃ (I8 : List Value → Heap → Prop) (μ8 : List Value → Heap → Nat), I8 [v6_2, v38] h ∧
    ∀ (h8 : Heap) (j8 : Tmps) (v6_3 : Value) (v38_1 : Value), I8 [v6_3, v38_1] h8 → (let h := h8
     vK (aBin Try.prog BinOp.lss 3 v38_1 v37) h fun v39 h =>
     cnd v39 (
      seqK (fun k0 =>
       vK (aIndexAddr Try.prog 25 v36 v38_1) h fun v40 h =>
       vK (aLoad Try.prog 3 v40 h) h fun v41 h =>
       mvK v41 h fun v9 h =>
       mvK a0 h fun v42 h =>
       vK (nilV v42) h fun v43 h =>
       vK (aFieldAddr Try.prog 92 v43 0) h fun v44 h =>
       vK (aFieldAddr Try.prog 24 v44 4) h fun v45 h =>
       vK (aLoad Try.prog 22 v45 h) h fun v46 h =>
       mvK v9 h fun v47 h =>
       vK (aIndexAddr Try.prog 22 v46 v47) h fun v48 h =>
       vK (aFieldAddr Try.prog 76 v48 3) h fun v49 h =>
       vK (aLoad Try.prog 3 v49 h) h fun v50 h =>
       mvK v50 h fun v10 h =>
       mvK v5 h fun v51 h =>
       mvK v10 h fun v52 h =>
       vK (aIndexAddr Try.prog 48 v51 v52) h fun v53 h =>
       vK (aLoad Try.prog 4 v53 h) h fun v54 h =>
       vK (aUn UnOp.not v54) h fun v55 h =>
       cnd v55 (
        mvK v5 h fun v56 h =>
        mvK v10 h fun v57 h =>
        vK (aIndexAddr Try.prog 48 v56 v57) h fun v58 h =>
        okK ((aStore Try.prog 4 v58 (Value.bool true) h).map (undef, ·)) fun _ h =>
        mvK v6_3 h fun v59 h =>
        mvK v10 h fun v60 h =>
        okK (aBuildSlice Try.prog 25 1 [(0, v60)] h) fun v61 h =>
        okK (aAppend Try.prog 25 25 v59 v61 h) fun v62 h =>
        mvK v62 h fun v6_4 h =>
        k0 [v6_4] h) (
        k0 [v6_3] h)) fun x0 h => ∀ jx0 : Tmps,
       let v6_5 : Value := nth x0 0
       vK (aBin Try.prog BinOp.add 3 v38_1 (Value.int IntKind.i64 1)) h fun v63 h =>
       mvK v63 h fun v38_2 h =>
       I8 [v6_5, v38_2] h ∧ μ8 [v6_5, v38_2] h < μ8 [v6_3, v38_1] h8) (
      I4 [v6_3] h ∧ μ4 [v6_3] h < μ4 [v6_1] h4))) (
    mvK v5 h fun v64 h =>
    mvK v64 h fun v4_1 h =>
    retV [some v4_1] R h))
def lv64 (q : Nat) : List Nat := bif Nat.beq q 8 then [18446744073705359040, 6] else bif Nat.beq q 16 then [18446743798831646272, 6, 38] else bif Nat.beq q 29 then [9223370937343149632, 6] else []
theorem ok64 : lkOK Try.prog lv64 Try.f64 2 (Try.f64.body.getD .skip) 64 = true := by kernel_rfl
theorem e64 (a0 a1 : Value) (h : Heap) (R : Value → Heap → Prop) : n64 a0 a1 h R = wpK Try.prog lv64 (Try.f64.body.getD .skip) (endK Try.prog [.tmp 4] R) (argT [a0, a1]) h := by kernel_rfl
theorem w64 {a0 a1 : Value} {h : Heap} {R : Value → Heap → Prop} (hn : n64 a0 a1 h R) : DetP Try.prog 64 [a0, a1] h R :=
  DetP.of_code (rs := [.tmp 4]) (n := 2) Try.func64 (by kernel_rfl) (by kernel_rfl) lv64 ok64 rfl ((e64 a0 a1 h R) ▸ hn)

/-! ### (*examiner/cover.graph).leaving: function 65 -/
def n65 (a0 a1 : Value) (h : Heap) (R : Value → Heap → Prop) : Prop :=
  mvK (Value.slice none 0 0) h fun v4 h =>
  mvK (Value.slice none 0 0) h fun v5 h =>
  mvK a0 h fun v8 h =>
  vK (nilV v8) h fun v9 h =>
  vK (aFieldAddr Try.prog 92 v9 0) h fun v10 h =>
  vK (aFieldAddr Try.prog 24 v10 4) h fun v11 h =>
  vK (aLoad Try.prog 22 v11 h) h fun v12 h =>
  vK (aLen Try.prog 22 v12) h fun v13 h =>
  mvK (Value.int IntKind.i64 0) h fun v14 h =>
  ∃ (I3 : List Value → Heap → Prop) (μ3 : List Value → Heap → Nat), I3 [v5, v14] h ∧
  ∀ (h3 : Heap) (j3 : Tmps) (v5_1 : Value) (v14_1 : Value), I3 [v5_1, v14_1] h3 → (let h := h3
   vK (aBin Try.prog BinOp.lss 3 v14_1 v13) h fun v15 h =>
   cnd v15 (
    seqK (fun k0 =>
     mvK v14_1 h fun v16 h =>
     vK (aIndexAddr Try.prog 22 v12 v14_1) h fun v17 h =>
     vK (aLoad Try.prog 76 v17 h) h fun v18 h =>
     okK (aAlloc Try.prog 76 h) fun v7 h =>
     mvK v16 h fun v6 h =>
     okK ((aStore Try.prog 76 v7 v18 h).map (undef, ·)) fun _ h =>
     mvK a1 h fun v19 h =>
     vK (aFieldAddr Try.prog 76 v7 0) h fun v20 h =>
     vK (aLoad Try.prog 3 v20 h) h fun v21 h =>
     vK (aIndexAddr Try.prog 48 v19 v21) h fun v22 h =>
     vK (aLoad Try.prog 4 v22 h) h fun v23 h =>
     cnd v23 (
      mvK v5_1 h fun v24 h =>
      mvK v6 h fun v25 h =>
      okK (aBuildSlice Try.prog 25 1 [(0, v25)] h) fun v26 h =>
      okK (aAppend Try.prog 25 25 v24 v26 h) fun v27 h =>
      mvK v27 h fun v5_2 h =>
      k0 [v5_2] h) (
      k0 [v5_1] h)) fun x0 h => ∀ jx0 : Tmps,
     let v5_3 : Value := nth x0 0
     vK (aBin Try.prog BinOp.add 3 v14_1 (Value.int IntKind.i64 1)) h fun v28 h =>
     mvK v28 h fun v14_2 h =>
     I3 [v5_3, v14_2] h ∧ μ3 [v5_3, v14_2] h < μ3 [v5_1, v14_1] h3) (
    mvK v5_1 h fun v29 h =>
    mvK v29 h fun v4_1 h =>
    retV [some v4_1] R h))
def lv65 (q : Nat) : List Nat := bif Nat.beq q 6 then [536854752, 5, 14] else bif Nat.beq q 15 then [268370144, 5] else []
theorem ok65 : lkOK Try.prog lv65 Try.f65 2 (Try.f65.body.getD .skip) 65 = true := by kernel_rfl
theorem e65 (a0 a1 : Value) (h : Heap) (R : Value → Heap → Prop) : n65 a0 a1 h R = wpK Try.prog lv65 (Try.f65.body.getD .skip) (endK Try.prog [.tmp 4] R) (argT [a0, a1]) h := by kernel_rfl
theorem w65 {a0 a1 : Value} {h : Heap} {R : Value → Heap → Prop} (hn : n65 a0 a1 h R) : DetP Try.prog 65 [a0, a1] h R :=
  DetP.of_code (rs := [.tmp 4]) (n := 2) Try.func65 (by kernel_rfl) (by kernel_rfl) lv65 ok65 rfl ((e65 a0 a1 h R) ▸ hn)

/-! ### examiner/examinerref37.Access: function 66 -/
def n66 (a0 : Value) (h : Heap) (R : Value → Heap → Prop) : Prop :=
  okK (some (aBox Try.prog 24 a0 h)) fun v1 h =>
  mvK (Value.slice none 0 0) h fun v2 h =>
  mvK (Value.slice none 0 0) h fun v3 h =>
  vK (aFieldAddr Try.prog 24 v1 0) h fun v10 h =>
  vK (aLoad Try.prog 3 v10 h) h fun v11 g =>
  VB h.length v11 ∧ (let h := g
   okK (aMakeSlice Try.prog 45 v11 v11 h) fun v12 h =>
   vK (aFieldAddr Try.prog 24 v1 0) h fun v13 h =>
   vK (aLoad Try.prog 3 v13 h) h fun v14 g =>
   VB h.length v14 ∧ (let h := g
    okK (aMakeSlice Try.prog 48 v14 v14 h) fun v15 h =>
    mvK v12 h fun v4 h =>
    mvK v15 h fun v5 h =>
    vK (aFieldAddr Try.prog 24 v1 3) h fun v16 h =>
    vK (aLoad Try.prog 3 v16 h) h fun v17 h =>
    okK (aBuildSlice Try.prog 25 1 [(0, v17)] h) fun v18 h =>
    mvK v18 h fun v6 h =>
    mvK v5 h fun v19 h =>
    vK (aFieldAddr Try.prog 24 v1 3) h fun v20 h =>
    vK (aLoad Try.prog 3 v20 h) h fun v21 h =>
    vK (aIndexAddr Try.prog 48 v19 v21) h fun v22 h =>
    okK ((aStore Try.prog 4 v22 (Value.bool true) h).map (undef, ·)) fun _ h =>
    mvK (Value.int IntKind.i64 0) h fun v7 h =>
    ∃ (I5 : List Value → Heap → Prop) (μ5 : List Value → Heap → Nat), I5 [v6, v7] h ∧
    ∀ (h5 : Heap) (j5 : Tmps) (v6_1 : Value) (v7_1 : Value), I5 [v6_1, v7_1] h5 → (let h := h5
     mvK v7_1 h fun v23 h =>
     mvK v6_1 h fun v24 h =>
     vK (aLen Try.prog 25 v24) h fun v25 h =>
     vK (aBin Try.prog BinOp.lss 3 v23 v25) h fun v26 h =>
     cnd v26 (
      mvK (Value.int IntKind.i64 0) h fun v8 h =>
      ∃ (I8 : List Value → Heap → Prop) (μ8 : List Value → Heap → Nat), I8 [v6_1, v8] h ∧
      ∀ (h8 : Heap) (j8 : Tmps) (v6_2 : Value) (v8_1 : Value), I8 [v6_2, v8_1] h8 → (let h := h8
       mvK v8_1 h fun v29 h =>
       vK (aFieldAddr Try.prog 24 v1 1) h fun v30 h =>
       vK (aLoad Try.prog 3 v30 h) h fun v31 h =>
       vK (aBin Try.prog BinOp.lss 3 v29 v31) h fun v32 h =>
       cnd v32 (
        seqK (fun k0 =>
         vK (aLoad Try.prog 24 v1 h) h fun v35 g =>
         VB h.length v35 ∧ (let h := g
          mvK v6_2 h fun v36 h =>
          mvK v7_1 h fun v37 h =>
          vK (aIndexAddr Try.prog 25 v36 v37) h fun v38 h =>
          vK (aLoad Try.prog 3 v38 h) h fun v39 g =>
          VB h.length v39 ∧ (let h := g
           mvK v8_1 h fun v40 h =>
           cKD Try.prog 81 [v35, v39, v40] h fun v41 g =>
           (∃ new, g = h ++ new) ∧ (let h := g
            mvK v41 h fun v9 h =>
            mvK v9 h fun v42 h =>
            vK (aBin Try.prog BinOp.neq 3 v42 (Value.int IntKind.i64 (-1))) h fun v43 h =>
            mvK v43 h fun v44 h =>
            gdK v44 true (fun k1 =>
             mvK v5 h fun v45 h =>
             k1 v45 h) (fun v45_1 h =>
             gdK v44 true (fun k2 =>
              vK (aFieldAddr Try.prog 24 v1 4) h fun v46 h =>
              k2 v46 h) (fun v46_1 h =>
              gdK v44 true (fun k3 =>
               vK (aLoad Try.prog 22 v46_1 h) h fun v47 h =>
               k3 v47 h) (fun v47_1 h =>
               gdK v44 true (fun k4 =>
                mvK v9 h fun v48 h =>
                k4 v48 h) (fun v48_1 h =>
                gdK v44 true (fun k5 =>
                 vK (aIndexAddr Try.prog 22 v47_1 v48_1) h fun v49 h =>
                 k5 v49 h) (fun v49_1 h =>
                 gdK v44 true (fun k6 =>
                  vK (aFieldAddr Try.prog 76 v49_1 3) h fun v50 h =>
                  k6 v50 h) (fun v50_1 h =>
                  gdK v44 true (fun k7 =>
                   vK (aLoad Try.prog 3 v50_1 h) h fun v51 h =>
                   k7 v51 h) (fun v51_1 h =>
                   gdK v44 true (fun k8 =>
                    vK (aIndexAddr Try.prog 48 v45_1 v51_1) h fun v52 h =>
                    k8 v52 h) (fun v52_1 h =>
                    gdK v44 true (fun k9 =>
                     vK (aLoad Try.prog 4 v52_1 h) h fun v53 h =>
                     k9 v53 h) (fun v53_1 h =>
                     gdK v44 true (fun k10 =>
                      vK (aUn UnOp.not v53_1) h fun v54 h =>
                      k10 v54 h) (fun v54_1 h =>
                      vK (pickV v44 v54_1 (Value.bool false)) h fun v55 h =>
                      cnd v55 (
                       mvK v5 h fun v56 h =>
                       vK (aFieldAddr Try.prog 24 v1 4) h fun v57 h =>
                       vK (aLoad Try.prog 22 v57 h) h fun v58 h =>
                       mvK v9 h fun v59 h =>
                       vK (aIndexAddr Try.prog 22 v58 v59) h fun v60 h =>
                       vK (aFieldAddr Try.prog 76 v60 3) h fun v61 h =>
                       vK (aLoad Try.prog 3 v61 h) h fun v62 h =>
                       vK (aIndexAddr Try.prog 48 v56 v62) h fun v63 h =>
                       okK ((aStore Try.prog 4 v63 (Value.bool true) h).map (undef, ·)) fun _ h =>
                       mvK v4 h fun v64 h =>
                       vK (aFieldAddr Try.prog 24 v1 4) h fun v65 h =>
                       vK (aLoad Try.prog 22 v65 h) h fun v66 g =>
                       VB h.length v66 ∧ (let h := g
                        mvK v9 h fun v67 h =>
                        vK (aIndexAddr Try.prog 22 v66 v67) h fun v68 h =>
                        vK (aFieldAddr Try.prog 76 v68 3) h fun v69 h =>
                        vK (aLoad Try.prog 3 v69 h) h fun v70 g =>
                        VB h.length v70 ∧ (let h := g
                         mvK v4 h fun v71 h =>
                         mvK v6_2 h fun v72 h =>
                         mvK v7_1 h fun v73 h =>
                         vK (aIndexAddr Try.prog 25 v72 v73) h fun v74 h =>
                         vK (aLoad Try.prog 3 v74 h) h fun v75 g =>
                         VB h.length v75 ∧ (let h := g
                          vK (aIndexAddr Try.prog 45 v71 v75) h fun v76 h =>
                          vK (aLoad Try.prog 25 v76 h) h fun v77 g =>
                          VB h.length v77 ∧ (let h := g
                           cKD Try.prog 17 [v77] h fun v78 g =>
                           (∃ new, g = h ++ new) ∧ (let h := g
                            mvK v8_1 h fun v79 h =>
                            okK (aBuildSlice Try.prog 25 1 [(0, v79)] h) fun v80 h =>
                            okK (aAppend Try.prog 25 25 v78 v80 h) fun v81 h =>
                            ((aLoad Try.prog 3 v69 h).map (·, h) = some (v70, h) ∧ (aLoad Try.prog 22 v65 h).map (·, h) = some (v66, h) ∧ True) ∧ (
                             vK (aIndexAddr Try.prog 45 v64 v70) h fun v82 h =>
                             okK ((aStore Try.prog 25 v82 v81 h).map (undef, ·)) fun _ h =>
                             (True) ∧ (
                              mvK v6_2 h fun v83 h =>
                              vK (aFieldAddr Try.prog 24 v1 4) h fun v84 h =>
                              vK (aLoad Try.prog 22 v84 h) h fun v85 h =>
                              mvK v9 h fun v86 h =>
                              vK (aIndexAddr Try.prog 22 v85 v86) h fun v87 h =>
                              vK (aFieldAddr Try.prog 76 v87 3) h fun v88 h =>
                              vK (aLoad Try.prog 3 v88 h) h fun v89 h =>
                              okK (aBuildSlice Try.prog 25 1 [(0, v89)] h) fun v90 h =>
                              okK (aAppend Try.prog 25 25 v83 v90 h) fun v91 h =>
                              mvK v91 h fun v6_3 h =>
                              k0 [v6_3] h)))))))) (
                       k0 [v6_2] h)) h) h) h) h) h) h) h) h) h) h)))) fun x0 h => ∀ jx0 : Tmps,
         let v6_4 : Value := nth x0 0
         mvK v8_1 h fun v33 h =>
         vK (aBin Try.prog BinOp.add 3 v33 (Value.int IntKind.i64 1)) h fun v34 h =>
         mvK v34 h fun v8_2 h =>
         I8 [v6_4, v8_2] h ∧ μ8 [v6_4, v8_2] h < μ8 [v6_2, v8_1] h8) (
        mvK v7_1 h fun v27 h =>
        vK (aBin Try.prog BinOp.add 3 v27 (Value.int IntKind.i64 1)) h fun v28 h =>
        mvK v28 h fun v7_2 h =>
        I5 [v6_2, v7_2] h ∧ μ5 [v6_2, v7_2] h < μ5 [v6_1, v7_1] h5))) (
      mvK v4 h fun v92 h =>
      mvK v5 h fun v93 h =>
      mvK v92 h fun v2_1 h =>
      mvK v93 h fun v3_1 h =>
      retV [some v2_1, some v3_1] R h))))
def lv66 (q : Nat) : List Nat := bif Nat.beq q 10 then [4951760157141521099588109248, 6, 7] else bif Nat.beq q 16 then [4951760157141521099059626816, 6, 8] else bif Nat.beq q 19 then [4951760157141521065236759104, 6] else []
theorem ok66 : lkOK Try.prog lv66 Try.f66 1 (Try.f66.body.getD .skip) 66 = true := by kernel_rfl
theorem e66 (a0 : Value) (h : Heap) (R : Value → Heap → Prop) : n66 a0 h R = wpK Try.prog lv66 (Try.f66.body.getD .skip) (endK Try.prog [.tmp 2, .tmp 3] R) (argT [a0]) h := by kernel_rfl
theorem w66 {a0 : Value} {h : Heap} {R : Value → Heap → Prop} (hn : n66 a0 h R) : DetP Try.prog 66 [a0] h R :=
  DetP.of_code (rs := [.tmp 2, .tmp 3]) (n := 1) Try.func66 (by kernel_rfl) (by kernel_rfl) lv66 ok66 rfl ((e66 a0 h R) ▸ hn)

/-! ### slices.Repeat[[]int,int]: function 73 -/
def n73 (a0 a1 : Value) (h : Heap) (R : Value → Heap → Prop) : Prop :=
  mvK (Value.slice none 0 0) h fun v4 h =>
  seqK (fun k0 =>
   mvK a1 h fun v9 h =>
   vK (aBin Try.prog BinOp.lss 3 v9 (Value.int IntKind.i64 0)) h fun v10 h =>
   cnd v10 (
    False) (
    k0 [] h)) fun x0 h => ∀ jx0 : Tmps,
   mvK a0 h fun v13 h =>
   vK (aLen Try.prog 25 v13) h fun v14 h =>
   vK (aConvert Try.prog 3 139 v14) h fun v15 h =>
   mvK a1 h fun v16 h =>
   vK (aConvert Try.prog 3 139 v16) h fun v17 h =>
   cK Try.prog 96 [v15, v17] h fun v18 h =>
   mvK v18 h fun v12 h =>
   vK (aExtract v12 0) h fun v19 h =>
   vK (aExtract v12 1) h fun v20 h =>
   mvK v19 h fun v5 h =>
   mvK v20 h fun v6 h =>
   seqK (fun k1 =>
    mvK v5 h fun v21 h =>
    vK (aBin Try.prog BinOp.gtr 139 v21 (Value.int IntKind.u64 0)) h fun v22 h =>
    mvK v22 h fun v23 h =>
    gdK v23 false (fun k2 =>
     mvK v6 h fun v24 h =>
     k2 v24 h) (fun v24_1 h =>
     gdK v23 false (fun k3 =>
      vK (aBin Try.prog BinOp.gtr 139 v24_1 (Value.int IntKind.u64 9223372036854775807)) h fun v25 h =>
      k3 v25 h) (fun v25_1 h =>
      vK (pickV v23 (Value.bool true) v25_1) h fun v26 h =>
      cnd v26 (
       False) (
       k1 [] h)) h) h) fun x1 h => ∀ jx1 : Tmps,
    mvK v6 h fun v28 h =>
    vK (aConvert Try.prog 139 3 v28) h fun v29 h =>
    okK (aMakeSlice Try.prog 25 v29 v29 h) fun v30 h =>
    mvK v30 h fun v7 h =>
    mvK v7 h fun v31 h =>
    mvK a0 h fun v32 h =>
    okK (aCopy Try.prog 25 25 v31 v32 h) fun v33 h =>
    mvK v33 h fun v8 h =>
    ∃ (I8 : List Value → Heap → Prop) (μ8 : List Value → Heap → Nat), I8 [v8] h ∧
    ∀ (h8 : Heap) (j8 : Tmps) (v8_1 : Value), I8 [v8_1] h8 → (let h := h8
     mvK v8_1 h fun v34 h =>
     mvK v7 h fun v35 h =>
     vK (aLen Try.prog 25 v35) h fun v36 h =>
     vK (aBin Try.prog BinOp.lss 3 v34 v36) h fun v37 h =>
     cnd v37 (
      mvK v8_1 h fun v38 h =>
      mvK v7 h fun v39 h =>
      mvK v8_1 h fun v40 h =>
      vK (aSlice Try.prog 25 v39 (some v40) none none h) h fun v41 g =>
      VB h.length v41 ∧ (let h := g
       mvK v7 h fun v42 h =>
       mvK v8_1 h fun v43 h =>
       vK (aSlice Try.prog 25 v42 none (some v43) none h) h fun v44 g =>
       VB h.length v44 ∧ (let h := g
        okK (aCopy Try.prog 25 25 v41 v44 h) fun v45 h =>
        (True) ∧ (
         vK (aBin Try.prog BinOp.add 3 v38 v45) h fun v46 h =>
         mvK v46 h fun v8_2 h =>
         I8 [v8_2] h ∧ μ8 [v8_2] h < μ8 [v8_1] h8)))) (
      mvK v7 h fun v47 h =>
      mvK v47 h fun v4_1 h =>
      retV [some v4_1] R h))
def lv73 (q : Nat) : List Nat := bif Nat.beq q 7 then [3584] else bif Nat.beq q 13 then [266338304] else bif Nat.beq q 16 then [140720308486400, 8] else []
theorem ok73 : lkOK Try.prog lv73 Try.f73 2 (Try.f73.body.getD .skip) 73 = true := by kernel_rfl
theorem e73 (a0 a1 : Value) (h : Heap) (R : Value → Heap → Prop) : n73 a0 a1 h R = wpK Try.prog lv73 (Try.f73.body.getD .skip) (endK Try.prog [.tmp 4] R) (argT [a0, a1]) h := by kernel_rfl
theorem w73 {a0 a1 : Value} {h : Heap} {R : Value → Heap → Prop} (hn : n73 a0 a1 h R) : DetP Try.prog 73 [a0, a1] h R :=
  DetP.of_code (rs := [.tmp 4]) (n := 2) Try.func73 (by kernel_rfl) (by kernel_rfl) lv73 ok73 rfl ((e73 a0 a1 h R) ▸ hn)

/-! ### examiner/examinerref37.StepAt: function 81 -/
def n81 (a0 a1 a2 : Value) (h : Heap) (R : Value → Heap → Prop) : Prop :=
  okK (some (aBox Try.prog 24 a0 h)) fun v3 h =>
  mvK (Value.int IntKind.i64 0) h fun v6 h =>
  mvK (Value.int IntKind.i64 0) h fun v7 h =>
  ∃ (I2 : List Value → Heap → Prop) (μ2 : List Value → Heap → Nat), I2 [v7] h ∧
  ∀ (h2 : Heap) (j2 : Tmps) (v7_1 : Value), I2 [v7_1] h2 → (let h := h2
   mvK v7_1 h fun v8 h =>
   vK (aFieldAddr Try.prog 24 v3 4) h fun v9 h =>
   vK (aLoad Try.prog 22 v9 h) h fun v10 h =>
   vK (aLen Try.prog 22 v10) h fun v11 h =>
   vK (aBin Try.prog BinOp.lss 3 v8 v11) h fun v12 h =>
   cnd v12 (
    vK (aFieldAddr Try.prog 24 v3 4) h fun v15 h =>
    vK (aLoad Try.prog 22 v15 h) h fun v16 h =>
    mvK v7_1 h fun v17 h =>
    vK (aIndexAddr Try.prog 22 v16 v17) h fun v18 h =>
    vK (aFieldAddr Try.prog 76 v18 0) h fun v19 h =>
    vK (aLoad Try.prog 3 v19 h) h fun v20 h =>
    mvK a1 h fun v21 h =>
    vK (aBin Try.prog BinOp.eql 3 v20 v21) h fun v22 h =>
    mvK v22 h fun v23 h =>
    gdK v23 true (fun k0 =>
     vK (aFieldAddr Try.prog 24 v3 4) h fun v24 h =>
     k0 v24 h) (fun v24_1 h =>
     gdK v23 true (fun k1 =>
      vK (aLoad Try.prog 22 v24_1 h) h fun v25 h =>
      k1 v25 h) (fun v25_1 h =>
      gdK v23 true (fun k2 =>
       mvK v7_1 h fun v26 h =>
       k2 v26 h) (fun v26_1 h =>
       gdK v23 true (fun k3 =>
        vK (aIndexAddr Try.prog 22 v25_1 v26_1) h fun v27 h =>
        k3 v27 h) (fun v27_1 h =>
        gdK v23 true (fun k4 =>
         vK (aFieldAddr Try.prog 76 v27_1 1) h fun v28 h =>
         k4 v28 h) (fun v28_1 h =>
         gdK v23 true (fun k5 =>
          vK (aLoad Try.prog 3 v28_1 h) h fun v29 h =>
          k5 v29 h) (fun v29_1 h =>
          gdK v23 true (fun k6 =>
           mvK a2 h fun v30 h =>
           k6 v30 h) (fun v30_1 h =>
           gdK v23 true (fun k7 =>
            vK (aBin Try.prog BinOp.eql 3 v29_1 v30_1) h fun v31 h =>
            k7 v31 h) (fun v31_1 h =>
            vK (pickV v23 v31_1 (Value.bool false)) h fun v32 h =>
            cnd v32 (
             mvK v7_1 h fun v33 h =>
             mvK v33 h fun v6_1 h =>
             retV [some v6_1] R h) (
             mvK v7_1 h fun v13 h =>
             vK (aBin Try.prog BinOp.add 3 v13 (Value.int IntKind.i64 1)) h fun v14 h =>
             mvK v14 h fun v7_2 h =>
             I2 [v7_2] h ∧ μ2 [v7_2] h < μ2 [v7_1] h2)) h) h) h) h) h) h) h) h) (
    mvK (Value.int IntKind.i64 (-1)) h fun v6_2 h =>
    retV [some v6_2] R h))
def lv81 (q : Nat) : List Nat := bif Nat.beq q 4 then [17179869120, 7] else []
theorem ok81 : lkOK Try.prog lv81 Try.f81 3 (Try.f81.body.getD .skip) 81 = true := by kernel_rfl
theorem e81 (a0 a1 a2 : Value) (h : Heap) (R : Value → Heap → Prop) : n81 a0 a1 a2 h R = wpK Try.prog lv81 (Try.f81.body.getD .skip) (endK Try.prog [.tmp 6] R) (argT [a0, a1, a2]) h := by kernel_rfl
theorem w81 {a0 a1 a2 : Value} {h : Heap} {R : Value → Heap → Prop} (hn : n81 a0 a1 a2 h R) : DetP Try.prog 81 [a0, a1, a2] h R :=
  DetP.of_code (rs := [.tmp 6]) (n := 3) Try.func81 (by kernel_rfl) (by kernel_rfl) lv81 ok81 rfl ((e81 a0 a1 a2 h R) ▸ hn)

/-! ### examiner/model.CheckMachine: function 87 -/
def n87 (a0 : Value) (h : Heap) (R : Value → Heap → Prop) : Prop :=
  okK (some (aBox Try.prog 24 a0 h)) fun v1 h =>
  mvK (Value.int IntKind.i64 0) h fun v2 h =>
  mvK (Value.int IntKind.i64 0) h fun v3 h =>
  vK (aFieldAddr Try.prog 24 v1 0) h fun v6 h =>
  vK (aLoad Try.prog 3 v6 h) h fun v7 h =>
  cK Try.prog 107 [v7, (Value.int IntKind.i64 1), (Value.int IntKind.i64 40)] h fun v8 h =>
  vK (aUn UnOp.not v8) h fun v9 h =>
  mvK v9 h fun v10 h =>
  gdK v10 false (fun k0 =>
   vK (aFieldAddr Try.prog 24 v1 1) h fun v11 h =>
   k0 v11 h) (fun v11_1 h =>
   gdK v10 false (fun k1 =>
    vK (aLoad Try.prog 3 v11_1 h) h fun v12 h =>
    k1 v12 h) (fun v12_1 h =>
    gdK v10 false (fun k2 =>
     cK Try.prog 107 [v12_1, (Value.int IntKind.i64 1), (Value.int IntKind.i64 8)] h fun v13 h =>
     k2 v13 h) (fun v13_1 h =>
     gdK v10 false (fun k3 =>
      vK (aUn UnOp.not v13_1) h fun v14 h =>
      k3 v14 h) (fun v14_1 h =>
      vK (pickV v10 (Value.bool true) v14_1) h fun v15 h =>
      mvK v15 h fun v16 h =>
      gdK v16 false (fun k4 =>
       vK (aFieldAddr Try.prog 24 v1 2) h fun v17 h =>
       k4 v17 h) (fun v17_1 h =>
       gdK v16 false (fun k5 =>
        vK (aLoad Try.prog 3 v17_1 h) h fun v18 h =>
        k5 v18 h) (fun v18_1 h =>
        gdK v16 false (fun k6 =>
         cK Try.prog 107 [v18_1, (Value.int IntKind.i64 1), (Value.int IntKind.i64 8)] h fun v19 h =>
         k6 v19 h) (fun v19_1 h =>
         gdK v16 false (fun k7 =>
          vK (aUn UnOp.not v19_1) h fun v20 h =>
          k7 v20 h) (fun v20_1 h =>
          vK (pickV v16 (Value.bool true) v20_1) h fun v21 h =>
          mvK v21 h fun v22 h =>
          gdK v22 false (fun k8 =>
           vK (aFieldAddr Try.prog 24 v1 3) h fun v23 h =>
           k8 v23 h) (fun v23_1 h =>
           gdK v22 false (fun k9 =>
            vK (aLoad Try.prog 3 v23_1 h) h fun v24 h =>
            k9 v24 h) (fun v24_1 h =>
            gdK v22 false (fun k10 =>
             vK (aFieldAddr Try.prog 24 v1 0) h fun v25 h =>
             k10 v25 h) (fun v25_1 h =>
             gdK v22 false (fun k11 =>
              vK (aLoad Try.prog 3 v25_1 h) h fun v26 h =>
              k11 v26 h) (fun v26_1 h =>
              gdK v22 false (fun k12 =>
               vK (aBin Try.prog BinOp.sub 3 v26_1 (Value.int IntKind.i64 1)) h fun v27 h =>
               k12 v27 h) (fun v27_1 h =>
               gdK v22 false (fun k13 =>
                cK Try.prog 107 [v24_1, (Value.int IntKind.i64 0), v27_1] h fun v28 h =>
                k13 v28 h) (fun v28_1 h =>
                gdK v22 false (fun k14 =>
                 vK (aUn UnOp.not v28_1) h fun v29 h =>
                 k14 v29 h) (fun v29_1 h =>
                 vK (pickV v22 (Value.bool true) v29_1) h fun v30 h =>
                 cnd v30 (
                  mvK (Value.int IntKind.i64 0) h fun v2_1 h =>
                  mvK (Value.int IntKind.i64 3) h fun v3_1 h =>
                  retV [some v2_1, some v3_1] R h) (
                  vK (aFieldAddr Try.prog 24 v1 4) h fun v31 h =>
                  vK (aLoad Try.prog 22 v31 h) h fun v32 h =>
                  vK (aLen Try.prog 22 v32) h fun v33 h =>
                  vK (aFieldAddr Try.prog 24 v1 0) h fun v34 h =>
                  vK (aLoad Try.prog 3 v34 h) h fun v35 h =>
                  vK (aFieldAddr Try.prog 24 v1 1) h fun v36 h =>
                  vK (aLoad Try.prog 3 v36 h) h fun v37 h =>
                  vK (aBin Try.prog BinOp.mul 3 v35 v37) h fun v38 h =>
                  vK (aBin Try.prog BinOp.gtr 3 v33 v38) h fun v39 h =>
                  cnd v39 (
                   mvK (Value.int IntKind.i64 0) h fun v2_2 h =>
                   mvK (Value.int IntKind.i64 2) h fun v3_2 h =>
                   retV [some v2_2, some v3_2] R h) (
                   vK (aFieldAddr Try.prog 24 v1 4) h fun v40 h =>
                   vK (aLoad Try.prog 22 v40 h) h fun v41 h =>
                   vK (aLen Try.prog 22 v41) h fun v42 h =>
                   mvK (Value.int IntKind.i64 0) h fun v43 h =>
                   ∃ (I6 : List Value → Heap → Prop) (μ6 : List Value → Heap → Nat), I6 [v43] h ∧
                   ∀ (h6 : Heap) (j6 : Tmps) (v43_1 : Value), I6 [v43_1] h6 → (let h := h6
                    vK (aBin Try.prog BinOp.lss 3 v43_1 v42) h fun v44 h =>
                    cnd v44 (
                     mvK v43_1 h fun v45 h =>
                     vK (aIndexAddr Try.prog 22 v41 v43_1) h fun v46 h =>
                     vK (aLoad Try.prog 76 v46 h) h fun v47 h =>
                     okK (aAlloc Try.prog 76 h) fun v5 h =>
                     mvK v45 h fun v4 h =>
                     okK ((aStore Try.prog 76 v5 v47 h).map (undef, ·)) fun _ h =>
                     vK (aFieldAddr Try.prog 76 v5 0) h fun v48 h =>
                     vK (aLoad Try.prog 3 v48 h) h fun v49 h =>
                     vK (aFieldAddr Try.prog 24 v1 0) h fun v50 h =>
                     vK (aLoad Try.prog 3 v50 h) h fun v51 h =>
                     vK (aBin Try.prog BinOp.sub 3 v51 (Value.int IntKind.i64 1)) h fun v52 h =>
                     cK Try.prog 107 [v49, (Value.int IntKind.i64 0), v52] h fun v53 h =>
                     vK (aUn UnOp.not v53) h fun v54 h =>
                     mvK v54 h fun v55 h =>
                     gdK v55 false (fun k15 =>
                      vK (aFieldAddr Try.prog 76 v5 3) h fun v56 h =>
                      k15 v56 h) (fun v56_1 h =>
                      gdK v55 false (fun k16 =>
                       vK (aLoad Try.prog 3 v56_1 h) h fun v57 h =>
                       k16 v57 h) (fun v57_1 h =>
                       gdK v55 false (fun k17 =>
                        vK (aFieldAddr Try.prog 24 v1 0) h fun v58 h =>
                        k17 v58 h) (fun v58_1 h =>
                        gdK v55 false (fun k18 =>
                         vK (aLoad Try.prog 3 v58_1 h) h fun v59 h =>
                         k18 v59 h) (fun v59_1 h =>
                         gdK v55 false (fun k19 =>
                          vK (aBin Try.prog BinOp.sub 3 v59_1 (Value.int IntKind.i64 1)) h fun v60 h =>
                          k19 v60 h) (fun v60_1 h =>
                          gdK v55 false (fun k20 =>
                           cK Try.prog 107 [v57_1, (Value.int IntKind.i64 0), v60_1] h fun v61 h =>
                           k20 v61 h) (fun v61_1 h =>
                           gdK v55 false (fun k21 =>
                            vK (aUn UnOp.not v61_1) h fun v62 h =>
                            k21 v62 h) (fun v62_1 h =>
                            vK (pickV v55 (Value.bool true) v62_1) h fun v63 h =>
                            mvK v63 h fun v64 h =>
                            gdK v64 false (fun k22 =>
                             vK (aFieldAddr Try.prog 76 v5 1) h fun v65 h =>
                             k22 v65 h) (fun v65_1 h =>
                             gdK v64 false (fun k23 =>
                              vK (aLoad Try.prog 3 v65_1 h) h fun v66 h =>
                              k23 v66 h) (fun v66_1 h =>
                              gdK v64 false (fun k24 =>
                               vK (aFieldAddr Try.prog 24 v1 1) h fun v67 h =>
                               k24 v67 h) (fun v67_1 h =>
                               gdK v64 false (fun k25 =>
                                vK (aLoad Try.prog 3 v67_1 h) h fun v68 h =>
                                k25 v68 h) (fun v68_1 h =>
                                gdK v64 false (fun k26 =>
                                 vK (aBin Try.prog BinOp.sub 3 v68_1 (Value.int IntKind.i64 1)) h fun v69 h =>
                                 k26 v69 h) (fun v69_1 h =>
                                 gdK v64 false (fun k27 =>
                                  cK Try.prog 107 [v66_1, (Value.int IntKind.i64 0), v69_1] h fun v70 h =>
                                  k27 v70 h) (fun v70_1 h =>
                                  gdK v64 false (fun k28 =>
                                   vK (aUn UnOp.not v70_1) h fun v71 h =>
                                   k28 v71 h) (fun v71_1 h =>
                                   vK (pickV v64 (Value.bool true) v71_1) h fun v72 h =>
                                   mvK v72 h fun v73 h =>
                                   gdK v73 false (fun k29 =>
                                    vK (aFieldAddr Try.prog 76 v5 2) h fun v74 h =>
                                    k29 v74 h) (fun v74_1 h =>
                                    gdK v73 false (fun k30 =>
                                     vK (aLoad Try.prog 3 v74_1 h) h fun v75 h =>
                                     k30 v75 h) (fun v75_1 h =>
                                     gdK v73 false (fun k31 =>
                                      vK (aFieldAddr Try.prog 24 v1 2) h fun v76 h =>
                                      k31 v76 h) (fun v76_1 h =>
                                      gdK v73 false (fun k32 =>
                                       vK (aLoad Try.prog 3 v76_1 h) h fun v77 h =>
                                       k32 v77 h) (fun v77_1 h =>
                                       gdK v73 false (fun k33 =>
                                        vK (aBin Try.prog BinOp.sub 3 v77_1 (Value.int IntKind.i64 1)) h fun v78 h =>
                                        k33 v78 h) (fun v78_1 h =>
                                        gdK v73 false (fun k34 =>
                                         cK Try.prog 107 [v75_1, (Value.int IntKind.i64 0), v78_1] h fun v79 h =>
                                         k34 v79 h) (fun v79_1 h =>
                                         gdK v73 false (fun k35 =>
                                          vK (aUn UnOp.not v79_1) h fun v80 h =>
                                          k35 v80 h) (fun v80_1 h =>
                                          vK (pickV v73 (Value.bool true) v80_1) h fun v81 h =>
                                          cnd v81 (
                                           mvK v4 h fun v82 h =>
                                           mvK v82 h fun v2_3 h =>
                                           mvK (Value.int IntKind.i64 3) h fun v3_3 h =>
                                           retV [some v2_3, some v3_3] R h) (
                                           mvK v4 h fun v83 h =>
                                           vK (aBin Try.prog BinOp.gtr 3 v83 (Value.int IntKind.i64 0)) h fun v84 h =>
                                           mvK v84 h fun v85 h =>
                                           gdK v85 true (fun k36 =>
                                            vK (aFieldAddr Try.prog 24 v1 4) h fun v86 h =>
                                            k36 v86 h) (fun v86_1 h =>
                                            gdK v85 true (fun k37 =>
                                             vK (aLoad Try.prog 22 v86_1 h) h fun v87 g =>
                                             VB h.length v87 ∧ (let h := g
                                              k37 v87 h)) (fun v87_1 h =>
                                             gdK v85 true (fun k38 =>
                                              mvK v4 h fun v88 h =>
                                              k38 v88 h) (fun v88_1 h =>
                                              gdK v85 true (fun k39 =>
                                               vK (aBin Try.prog BinOp.sub 3 v88_1 (Value.int IntKind.i64 1)) h fun v89 h =>
                                               k39 v89 h) (fun v89_1 h =>
                                               gdK v85 true (fun k40 =>
                                                vK (aIndexAddr Try.prog 22 v87_1 v89_1) h fun v90 h =>
                                                k40 v90 h) (fun v90_1 h =>
                                                gdK v85 true (fun k41 =>
                                                 vK (aFieldAddr Try.prog 76 v90_1 0) h fun v91 h =>
                                                 k41 v91 h) (fun v91_1 h =>
                                                 gdK v85 true (fun k42 =>
                                                  vK (aLoad Try.prog 3 v91_1 h) h fun v92 g =>
                                                  VB h.length v92 ∧ (let h := g
                                                   k42 v92 h)) (fun v92_1 h =>
                                                  gdK v85 true (fun k43 =>
                                                   vK (aFieldAddr Try.prog 76 v5 0) h fun v93 h =>
                                                   k43 v93 h) (fun v93_1 h =>
                                                   gdK v85 true (fun k44 =>
                                                    vK (aLoad Try.prog 3 v93_1 h) h fun v94 g =>
                                                    VB h.length v94 ∧ (let h := g
                                                     k44 v94 h)) (fun v94_1 h =>
                                                    gdK v85 true (fun k45 =>
                                                     cKD Try.prog 94 [v92_1, v94_1] h fun v95 g =>
                                                     (∃ new, g = h ++ new) ∧ (let h := g
                                                      k45 v95 h)) (fun v95_1 h =>
                                                     gdK v85 true (fun k46 =>
                                                      vK (aFieldAddr Try.prog 24 v1 4) h fun v96 h =>
                                                      k46 v96 h) (fun v96_1 h =>
                                                      gdK v85 true (fun k47 =>
                                                       vK (aLoad Try.prog 22 v96_1 h) h fun v97 g =>
                                                       VB h.length v97 ∧ (let h := g
                                                        k47 v97 h)) (fun v97_1 h =>
                                                       gdK v85 true (fun k48 =>
                                                        mvK v4 h fun v98 h =>
                                                        k48 v98 h) (fun v98_1 h =>
                                                        gdK v85 true (fun k49 =>
                                                         vK (aBin Try.prog BinOp.sub 3 v98_1 (Value.int IntKind.i64 1)) h fun v99 h =>
                                                         k49 v99 h) (fun v99_1 h =>
                                                         gdK v85 true (fun k50 =>
                                                          vK (aIndexAddr Try.prog 22 v97_1 v99_1) h fun v100 h =>
                                                          k50 v100 h) (fun v100_1 h =>
                                                          gdK v85 true (fun k51 =>
                                                           vK (aFieldAddr Try.prog 76 v100_1 1) h fun v101 h =>
                                                           k51 v101 h) (fun v101_1 h =>
                                                           gdK v85 true (fun k52 =>
                                                            vK (aLoad Try.prog 3 v101_1 h) h fun v102 g =>
                                                            VB h.length v102 ∧ (let h := g
                                                             k52 v102 h)) (fun v102_1 h =>
                                                            gdK v85 true (fun k53 =>
                                                             vK (aFieldAddr Try.prog 76 v5 1) h fun v103 h =>
                                                             k53 v103 h) (fun v103_1 h =>
                                                             gdK v85 true (fun k54 =>
                                                              vK (aLoad Try.prog 3 v103_1 h) h fun v104 g =>
                                                              VB h.length v104 ∧ (let h := g
                                                               k54 v104 h)) (fun v104_1 h =>
                                                              gdK v85 true (fun k55 =>
                                                               cKD Try.prog 94 [v102_1, v104_1] h fun v105 g =>
                                                               (∃ new, g = h ++ new) ∧ (let h := g
                                                                k55 v105 h)) (fun v105_1 h =>
                                                               gdK v85 true (fun k56 =>
                                                                okK (aBuildSlice Try.prog 25 2 [(0, v95_1), (1, v105_1)] h) fun v106 h =>
                                                                k56 v106 h) (fun v106_1 h =>
                                                                gdK v85 true (fun k57 =>
                                                                 cKD Try.prog 93 [v106_1] h fun v107 g =>
                                                                 (∃ new, g = h ++ new) ∧ (let h := g
                                                                  k57 v107 h)) (fun v107_1 h =>
                                                                 gdK v85 true (fun k58 =>
                                                                  vK (aBin Try.prog BinOp.geq 3 v107_1 (Value.int IntKind.i64 0)) h fun v108 h =>
                                                                  k58 v108 h) (fun v108_1 h =>
                                                                  vK (pickV v85 v108_1 (Value.bool false)) h fun v109 h =>
                                                                  cnd v109 (
                                                                   mvK v4 h fun v110 h =>
                                                                   mvK v110 h fun v2_4 h =>
                                                                   mvK (Value.int IntKind.i64 14) h fun v3_4 h =>
                                                                   retV [some v2_4, some v3_4] R h) (
                                                                   vK (aBin Try.prog BinOp.add 3 v43_1 (Value.int IntKind.i64 1)) h fun v111 h =>
                                                                   mvK v111 h fun v43_2 h =>
                                                                   I6 [v43_2] h ∧ μ6 [v43_2] h < μ6 [v43_1] h6)) h) h) h) h) h) h) h) h) h) h) h) h) h) h) h) h) h) h) h) h) h) h) h)) h) h) h) h) h) h) h) h) h) h) h) h) h) h) h) h) h) h) h) h) h) (
                     mvK (Value.int IntKind.i64 0) h fun v2_5 h =>
                     mvK (Value.int IntKind.i64 0) h fun v3_5 h =>
                     retV [some v2_5, some v3_5] R h))))) h) h) h) h) h) h) h) h) h) h) h) h) h) h) h
def lv87 (q : Nat) : List Nat := bif Nat.beq q 12 then [5192296858534827628521700236197948, 43] else []
theorem ok87 : lkOK Try.prog lv87 Try.f87 1 (Try.f87.body.getD .skip) 87 = true := by kernel_rfl
theorem e87 (a0 : Value) (h : Heap) (R : Value → Heap → Prop) : n87 a0 h R = wpK Try.prog lv87 (Try.f87.body.getD .skip) (endK Try.prog [.tmp 2, .tmp 3] R) (argT [a0]) h := by kernel_rfl
theorem w87 {a0 : Value} {h : Heap} {R : Value → Heap → Prop} (hn : n87 a0 h R) : DetP Try.prog 87 [a0] h R :=
  DetP.of_code (rs := [.tmp 2, .tmp 3]) (n := 1) Try.func87 (by kernel_rfl) (by kernel_rfl) lv87 ok87 rfl ((e87 a0 h R) ▸ hn)

/-! ### examiner/cover.pricesErr$1: function 88 -/
def n88 (a0 : Value) (h : Heap) (R : Value → Heap → Prop) : Prop :=
  mvK (Value.bool false) h fun v2 h =>
  mvK a0 h fun v3 h =>
  cK Try.prog 59 [v3, (Value.int IntKind.i64 0), (Value.int IntKind.i64 20)] h fun v4 h =>
  vK (aUn UnOp.not v4) h fun v5 h =>
  mvK v5 h fun v2_1 h =>
  retV [some v2_1] R h
def lv88 (q : Nat) : List Nat := []
theorem ok88 : lkOK Try.prog lv88 Try.f88 1 (Try.f88.body.getD .skip) 88 = true := by kernel_rfl
theorem e88 (a0 : Value) (h : Heap) (R : Value → Heap → Prop) : n88 a0 h R = wpK Try.prog lv88 (Try.f88.body.getD .skip) (endK Try.prog [.tmp 2] R) (argT [a0]) h := by kernel_rfl
theorem w88 {a0 : Value} {h : Heap} {R : Value → Heap → Prop} (hn : n88 a0 h R) : DetP Try.prog 88 [a0] h R :=
  DetP.of_code (rs := [.tmp 2]) (n := 1) Try.func88 (by kernel_rfl) (by kernel_rfl) lv88 ok88 rfl ((e88 a0 h R) ▸ hn)

/-! ### examiner/cover.inputErr$1: function 89 -/
def n89 (a0 a1 : Value) (h : Heap) (R : Value → Heap → Prop) : Prop :=
  mvK (Value.bool false) h fun v3 h =>
  mvK a0 h fun v4 h =>
  vK (aFieldAddr Try.prog 24 a1 1) h fun v5 h =>
  vK (aLoad Try.prog 3 v5 h) h fun v6 h =>
  vK (aBin Try.prog BinOp.sub 3 v6 (Value.int IntKind.i64 1)) h fun v7 h =>
  cK Try.prog 59 [v4, (Value.int IntKind.i64 0), v7] h fun v8 h =>
  vK (aUn UnOp.not v8) h fun v9 h =>
  mvK v9 h fun v3_1 h =>
  retV [some v3_1] R h
def lv89 (q : Nat) : List Nat := []
theorem ok89 : lkOK Try.prog lv89 Try.f89 2 (Try.f89.body.getD .skip) 89 = true := by kernel_rfl
theorem e89 (a0 a1 : Value) (h : Heap) (R : Value → Heap → Prop) : n89 a0 a1 h R = wpK Try.prog lv89 (Try.f89.body.getD .skip) (endK Try.prog [.tmp 3] R) (argT [a0, a1]) h := by kernel_rfl
theorem w89 {a0 a1 : Value} {h : Heap} {R : Value → Heap → Prop} (hn : n89 a0 a1 h R) : DetP Try.prog 89 [a0, a1] h R :=
  DetP.of_code (rs := [.tmp 3]) (n := 2) Try.func89 (by kernel_rfl) (by kernel_rfl) lv89 ok89 rfl ((e89 a0 a1 h R) ▸ hn)

/-! ### slices.Index[[]int,int]: function 90 -/
def n90 (a0 a1 : Value) (h : Heap) (R : Value → Heap → Prop) : Prop :=
  mvK (Value.int IntKind.i64 0) h fun v4 h =>
  mvK a0 h fun v6 h =>
  vK (aLen Try.prog 25 v6) h fun v7 h =>
  mvK (Value.int IntKind.i64 0) h fun v8 h =>
  ∃ (I2 : List Value → Heap → Prop) (μ2 : List Value → Heap → Nat), I2 [v8] h ∧
  ∀ (h2 : Heap) (j2 : Tmps) (v8_1 : Value), I2 [v8_1] h2 → (let h := h2
   vK (aBin Try.prog BinOp.lss 3 v8_1 v7) h fun v9 h =>
   cnd v9 (
    mvK v8_1 h fun v10 h =>
    mvK v10 h fun v5 h =>
    mvK a1 h fun v11 h =>
    mvK a0 h fun v12 h =>
    mvK v5 h fun v13 h =>
    vK (aIndexAddr Try.prog 25 v12 v13) h fun v14 h =>
    vK (aLoad Try.prog 3 v14 h) h fun v15 h =>
    vK (aBin Try.prog BinOp.eql 3 v11 v15) h fun v16 h =>
    cnd v16 (
     mvK v5 h fun v17 h =>
     mvK v17 h fun v4_1 h =>
     retV [some v4_1] R h) (
     vK (aBin Try.prog BinOp.add 3 v8_1 (Value.int IntKind.i64 1)) h fun v18 h =>
     mvK v18 h fun v8_2 h =>
     I2 [v8_2] h ∧ μ2 [v8_2] h < μ2 [v8_1] h2)) (
    mvK (Value.int IntKind.i64 (-1)) h fun v4_2 h =>
    retV [some v4_2] R h))
def lv90 (q : Nat) : List Nat := bif Nat.beq q 4 then [524080, 8] else []
theorem ok90 : lkOK Try.prog lv90 Try.f90 2 (Try.f90.body.getD .skip) 90 = true := by kernel_rfl
theorem e90 (a0 a1 : Value) (h : Heap) (R : Value → Heap → Prop) : n90 a0 a1 h R = wpK Try.prog lv90 (Try.f90.body.getD .skip) (endK Try.prog [.tmp 4] R) (argT [a0, a1]) h := by kernel_rfl
theorem w90 {a0 a1 : Value} {h : Heap} {R : Value → Heap → Prop} (hn : n90 a0 a1 h R) : DetP Try.prog 90 [a0, a1] h R :=
  DetP.of_code (rs := [.tmp 4]) (n := 2) Try.func90 (by kernel_rfl) (by kernel_rfl) lv90 ok90 rfl ((e90 a0 a1 h R) ▸ hn)

/-! ### slices.IndexFunc[[]int,int]: function 91 -/
def n91 (a0 a1 : Value) (h : Heap) (R : Value → Heap → Prop) : Prop :=
  mvK (Value.int IntKind.i64 0) h fun v4 h =>
  mvK a0 h fun v6 h =>
  vK (aLen Try.prog 25 v6) h fun v7 h =>
  mvK (Value.int IntKind.i64 0) h fun v8 h =>
  ∃ (I2 : List Value → Heap → Prop) (μ2 : List Value → Heap → Nat), I2 [v8] h ∧
  ∀ (h2 : Heap) (j2 : Tmps) (v8_1 : Value), I2 [v8_1] h2 → (let h := h2
   vK (aBin Try.prog BinOp.lss 3 v8_1 v7) h fun v9 h =>
   cnd v9 (
    mvK v8_1 h fun v10 h =>
    mvK v10 h fun v5 h =>
    mvK a1 h fun v11 h =>
    mvK a0 h fun v12 h =>
    mvK v5 h fun v13 h =>
    vK (aIndexAddr Try.prog 25 v12 v13) h fun v14 h =>
    vK (aLoad Try.prog 3 v14 h) h fun v15 h =>
    callK Try.prog (fnOf v11 [v15]) h fun v16 h =>
    cnd v16 (
     mvK v5 h fun v17 h =>
     mvK v17 h fun v4_1 h =>
     retV [some v4_1] R h) (
     vK (aBin Try.prog BinOp.add 3 v8_1 (Value.int IntKind.i64 1)) h fun v18 h =>
     mvK v18 h fun v8_2 h =>
     I2 [v8_2] h ∧ μ2 [v8_2] h < μ2 [v8_1] h2)) (
    mvK (Value.int IntKind.i64 (-1)) h fun v4_2 h =>
    retV [some v4_2] R h))
def lv91 (q : Nat) : List Nat := bif Nat.beq q 4 then [524080, 8] else []
theorem ok91 : lkOK Try.prog lv91 Try.f91 2 (Try.f91.body.getD .skip) 91 = true := by kernel_rfl
theorem e91 (a0 a1 : Value) (h : Heap) (R : Value → Heap → Prop) : n91 a0 a1 h R = wpK Try.prog lv91 (Try.f91.body.getD .skip) (endK Try.prog [.tmp 4] R) (argT [a0, a1]) h := by kernel_rfl
theorem w91 {a0 a1 : Value} {h : Heap} {R : Value → Heap → Prop} (hn : n91 a0 a1 h R) : DetP Try.prog 91 [a0, a1] h R :=
  DetP.of_code (rs := [.tmp 4]) (n := 2) Try.func91 (by kernel_rfl) (by kernel_rfl) lv91 ok91 rfl ((e91 a0 a1 h R) ▸ hn)

/-! ### examiner/examinerbase.CompareInts: function 92 -/
def n92 (a0 a1 : Value) (h : Heap) (R : Value → Heap → Prop) : Prop :=
  mvK (Value.int IntKind.i64 0) h fun v4 h =>
  mvK (Value.int IntKind.i64 0) h fun v5 h =>
  ∃ (I2 : List Value → Heap → Prop) (μ2 : List Value → Heap → Nat), I2 [v5] h ∧
  ∀ (h2 : Heap) (j2 : Tmps) (v5_1 : Value), I2 [v5_1] h2 → (let h := h2
   mvK v5_1 h fun v6 h =>
   mvK a0 h fun v7 h =>
   vK (aLen Try.prog 25 v7) h fun v8 h =>
   vK (aBin Try.prog BinOp.lss 3 v6 v8) h fun v9 h =>
   mvK v9 h fun v10 h =>
   gdK v10 true (fun k0 =>
    mvK v5_1 h fun v11 h =>
    k0 v11 h) (fun v11_1 h =>
    gdK v10 true (fun k1 =>
     mvK a1 h fun v12 h =>
     k1 v12 h) (fun v12_1 h =>
     gdK v10 true (fun k2 =>
      vK (aLen Try.prog 25 v12_1) h fun v13 h =>
      k2 v13 h) (fun v13_1 h =>
      gdK v10 true (fun k3 =>
       vK (aBin Try.prog BinOp.lss 3 v11_1 v13_1) h fun v14 h =>
       k3 v14 h) (fun v14_1 h =>
       vK (pickV v10 v14_1 (Value.bool false)) h fun v15 h =>
       cnd v15 (
        mvK a0 h fun v18 h =>
        mvK v5_1 h fun v19 h =>
        vK (aIndexAddr Try.prog 25 v18 v19) h fun v20 h =>
        vK (aLoad Try.prog 3 v20 h) h fun v21 g =>
        VB h.length v21 ∧ (let h := g
         mvK a1 h fun v22 h =>
         mvK v5_1 h fun v23 h =>
         vK (aIndexAddr Try.prog 25 v22 v23) h fun v24 h =>
         vK (aLoad Try.prog 3 v24 h) h fun v25 g =>
         VB h.length v25 ∧ (let h := g
          vK (aBin Try.prog BinOp.neq 3 v21 v25) h fun v26 h =>
          cnd v26 (
           mvK a0 h fun v27 h =>
           mvK v5_1 h fun v28 h =>
           vK (aIndexAddr Try.prog 25 v27 v28) h fun v29 h =>
           vK (aLoad Try.prog 3 v29 h) h fun v30 g =>
           VB h.length v30 ∧ (let h := g
            mvK a1 h fun v31 h =>
            mvK v5_1 h fun v32 h =>
            vK (aIndexAddr Try.prog 25 v31 v32) h fun v33 h =>
            vK (aLoad Try.prog 3 v33 h) h fun v34 g =>
            VB h.length v34 ∧ (let h := g
             vK (aBin Try.prog BinOp.gtr 3 v30 v34) h fun v35 h =>
             cKD Try.prog 45 [v35] h fun v36 g =>
             (∃ new, g = h ++ new) ∧ (let h := g
              vK (aBin Try.prog BinOp.mul 3 (Value.int IntKind.i64 2) v36) h fun v37 h =>
              vK (aBin Try.prog BinOp.sub 3 v37 (Value.int IntKind.i64 1)) h fun v38 h =>
              mvK v38 h fun v4_1 h =>
              retV [some v4_1] R h)))) (
           mvK v5_1 h fun v16 h =>
           vK (aBin Try.prog BinOp.add 3 v16 (Value.int IntKind.i64 1)) h fun v17 h =>
           mvK v17 h fun v5_2 h =>
           I2 [v5_2] h ∧ μ2 [v5_2] h < μ2 [v5_1] h2)))) (
        mvK a0 h fun v39 h =>
        vK (aLen Try.prog 25 v39) h fun v40 h =>
        mvK a1 h fun v41 h =>
        vK (aLen Try.prog 25 v41) h fun v42 h =>
        vK (aBin Try.prog BinOp.gtr 3 v40 v42) h fun v43 h =>
        cK Try.prog 45 [v43] h fun v44 h =>
        mvK a0 h fun v45 h =>
        vK (aLen Try.prog 25 v45) h fun v46 h =>
        mvK a1 h fun v47 h =>
        vK (aLen Try.prog 25 v47) h fun v48 h =>
        vK (aBin Try.prog BinOp.lss 3 v46 v48) h fun v49 h =>
        cK Try.prog 45 [v49] h fun v50 h =>
        vK (aBin Try.prog BinOp.sub 3 v44 v50) h fun v51 h =>
        mvK v51 h fun v4_2 h =>
        retV [some v4_2] R h)) h) h) h) h)
def lv92 (q : Nat) : List Nat := bif Nat.beq q 4 then [549755813872, 5] else []
theorem ok92 : lkOK Try.prog lv92 Try.f92 2 (Try.f92.body.getD .skip) 92 = true := by kernel_rfl
theorem e92 (a0 a1 : Value) (h : Heap) (R : Value → Heap → Prop) : n92 a0 a1 h R = wpK Try.prog lv92 (Try.f92.body.getD .skip) (endK Try.prog [.tmp 4] R) (argT [a0, a1]) h := by kernel_rfl
theorem w92 {a0 a1 : Value} {h : Heap} {R : Value → Heap → Prop} (hn : n92 a0 a1 h R) : DetP Try.prog 92 [a0, a1] h R :=
  DetP.of_code (rs := [.tmp 4]) (n := 2) Try.func92 (by kernel_rfl) (by kernel_rfl) lv92 ok92 rfl ((e92 a0 a1 h R) ▸ hn)

/-! ### cmp.Or[int]: function 93 -/
def n93 (a0 : Value) (h : Heap) (R : Value → Heap → Prop) : Prop :=
  mvK (Value.int IntKind.i64 0) h fun v2 h =>
  mvK (Value.int IntKind.i64 0) h fun v3 h =>
  mvK a0 h fun v6 h =>
  vK (aLen Try.prog 25 v6) h fun v7 h =>
  mvK (Value.int IntKind.i64 0) h fun v8 h =>
  ∃ (I3 : List Value → Heap → Prop) (μ3 : List Value → Heap → Nat), I3 [v8] h ∧
  ∀ (h3 : Heap) (j3 : Tmps) (v8_1 : Value), I3 [v8_1] h3 → (let h := h3
   vK (aBin Try.prog BinOp.lss 3 v8_1 v7) h fun v9 h =>
   cnd v9 (
    vK (aIndexAddr Try.prog 25 v6 v8_1) h fun v10 h =>
    vK (aLoad Try.prog 3 v10 h) h fun v11 h =>
    mvK v11 h fun v5 h =>
    mvK v5 h fun v12 h =>
    mvK v3 h fun v13 h =>
    vK (aBin Try.prog BinOp.neq 3 v12 v13) h fun v14 h =>
    cnd v14 (
     mvK v5 h fun v15 h =>
     mvK v15 h fun v2_1 h =>
     retV [some v2_1] R h) (
     vK (aBin Try.prog BinOp.add 3 v8_1 (Value.int IntKind.i64 1)) h fun v16 h =>
     mvK v16 h fun v8_2 h =>
     I3 [v8_2] h ∧ μ3 [v8_2] h < μ3 [v8_1] h3)) (
    mvK v3 h fun v17 h =>
    mvK v17 h fun v2_2 h =>
    retV [some v2_2] R h))
def lv93 (q : Nat) : List Nat := bif Nat.beq q 6 then [130852, 8] else []
theorem ok93 : lkOK Try.prog lv93 Try.f93 1 (Try.f93.body.getD .skip) 93 = true := by kernel_rfl
theorem e93 (a0 : Value) (h : Heap) (R : Value → Heap → Prop) : n93 a0 h R = wpK Try.prog lv93 (Try.f93.body.getD .skip) (endK Try.prog [.tmp 2] R) (argT [a0]) h := by kernel_rfl
theorem w93 {a0 : Value} {h : Heap} {R : Value → Heap → Prop} (hn : n93 a0 h R) : DetP Try.prog 93 [a0] h R :=
  DetP.of_code (rs := [.tmp 2]) (n := 1) Try.func93 (by kernel_rfl) (by kernel_rfl) lv93 ok93 rfl ((e93 a0 h R) ▸ hn)

/-! ### cmp.Compare[int]: function 94 -/
def n94 (a0 a1 : Value) (h : Heap) (R : Value → Heap → Prop) : Prop :=
  mvK (Value.int IntKind.i64 0) h fun v4 h =>
  mvK a0 h fun v7 h =>
  cK Try.prog 108 [v7] h fun v8 h =>
  mvK v8 h fun v5 h =>
  mvK a1 h fun v9 h =>
  cK Try.prog 108 [v9] h fun v10 h =>
  mvK v10 h fun v6 h =>
  mvK v5 h fun v11 h =>
  cnd v11 (
   mvK v6 h fun v12 h =>
   cnd v12 (
    mvK (Value.int IntKind.i64 0) h fun v4_1 h =>
    retV [some v4_1] R h) (
    mvK (Value.int IntKind.i64 (-1)) h fun v4_2 h =>
    retV [some v4_2] R h)) (
   mvK v6 h fun v13 h =>
   cnd v13 (
    mvK (Value.int IntKind.i64 1) h fun v4_3 h =>
    retV [some v4_3] R h) (
    mvK a0 h fun v14 h =>
    mvK a1 h fun v15 h =>
    vK (aBin Try.prog BinOp.lss 3 v14 v15) h fun v16 h =>
    cnd v16 (
     mvK (Value.int IntKind.i64 (-1)) h fun v4_4 h =>
     retV [some v4_4] R h) (
     mvK a0 h fun v17 h =>
     mvK a1 h fun v18 h =>
     vK (aBin Try.prog BinOp.gtr 3 v17 v18) h fun v19 h =>
     cnd v19 (
      mvK (Value.int IntKind.i64 1) h fun v4_5 h =>
      retV [some v4_5] R h) (
      mvK (Value.int IntKind.i64 0) h fun v4_6 h =>
      retV [some v4_6] R h))))
def lv94 (q : Nat) : List Nat := []
theorem ok94 : lkOK Try.prog lv94 Try.f94 2 (Try.f94.body.getD .skip) 94 = true := by kernel_rfl
theorem e94 (a0 a1 : Value) (h : Heap) (R : Value → Heap → Prop) : n94 a0 a1 h R = wpK Try.prog lv94 (Try.f94.body.getD .skip) (endK Try.prog [.tmp 4] R) (argT [a0, a1]) h := by kernel_rfl
theorem w94 {a0 a1 : Value} {h : Heap} {R : Value → Heap → Prop} (hn : n94 a0 a1 h R) : DetP Try.prog 94 [a0, a1] h R :=
  DetP.of_code (rs := [.tmp 4]) (n := 2) Try.func94 (by kernel_rfl) (by kernel_rfl) lv94 ok94 rfl ((e94 a0 a1 h R) ▸ hn)

/-! ### math/bits.Mul: function 96 -/
def n96 (a0 a1 : Value) (h : Heap) (R : Value → Heap → Prop) : Prop :=
  mvK (Value.int IntKind.u64 0) h fun v4 h =>
  mvK (Value.int IntKind.u64 0) h fun v5 h =>
  cnd (Value.bool false) (
   mvK a0 h fun v11 h =>
   vK (aConvert Try.prog 139 152 v11) h fun v12 h =>
   mvK a1 h fun v13 h =>
   vK (aConvert Try.prog 139 152 v13) h fun v14 h =>
   cK Try.prog 109 [v12, v14] h fun v15 h =>
   mvK v15 h fun v10 h =>
   vK (aExtract v10 0) h fun v16 h =>
   vK (aExtract v10 1) h fun v17 h =>
   mvK v16 h fun v6 h =>
   mvK v17 h fun v7 h =>
   mvK v6 h fun v18 h =>
   vK (aConvert Try.prog 152 139 v18) h fun v19 h =>
   mvK v7 h fun v20 h =>
   vK (aConvert Try.prog 152 139 v20) h fun v21 h =>
   mvK v19 h fun v4_1 h =>
   mvK v21 h fun v5_1 h =>
   retV [some v4_1, some v5_1] R h) (
   mvK a0 h fun v23 h =>
   mvK a1 h fun v24 h =>
   cK Try.prog 110 [v23, v24] h fun v25 h =>
   mvK v25 h fun v22 h =>
   vK (aExtract v22 0) h fun v26 h =>
   vK (aExtract v22 1) h fun v27 h =>
   mvK v26 h fun v8 h =>
   mvK v27 h fun v9 h =>
   mvK v8 h fun v28 h =>
   mvK v9 h fun v29 h =>
   mvK v28 h fun v4_2 h =>
   mvK v29 h fun v5_2 h =>
   retV [some v4_2, some v5_2] R h)
def lv96 (q : Nat) : List Nat := []
theorem ok96 : lkOK Try.prog lv96 Try.f96 2 (Try.f96.body.getD .skip) 96 = true := by kernel_rfl
theorem e96 (a0 a1 : Value) (h : Heap) (R : Value → Heap → Prop) : n96 a0 a1 h R = wpK Try.prog lv96 (Try.f96.body.getD .skip) (endK Try.prog [.tmp 4, .tmp 5] R) (argT [a0, a1]) h := by kernel_rfl
theorem w96 {a0 a1 : Value} {h : Heap} {R : Value → Heap → Prop} (hn : n96 a0 a1 h R) : DetP Try.prog 96 [a0, a1] h R :=
  DetP.of_code (rs := [.tmp 4, .tmp 5]) (n := 2) Try.func96 (by kernel_rfl) (by kernel_rfl) lv96 ok96 rfl ((e96 a0 a1 h R) ▸ hn)

/-! ### examiner/model.spans: function 107 -/
def n107 (a0 a1 a2 : Value) (h : Heap) (R : Value → Heap → Prop) : Prop :=
  mvK (Value.bool false) h fun v6 h =>
  mvK a1 h fun v7 h =>
  mvK a0 h fun v8 h =>
  vK (aBin Try.prog BinOp.leq 3 v7 v8) h fun v9 h =>
  mvK v9 h fun v10 h =>
  gdK v10 true (fun k0 =>
   mvK a0 h fun v11 h =>
   k0 v11 h) (fun v11_1 h =>
   gdK v10 true (fun k1 =>
    mvK a2 h fun v12 h =>
    k1 v12 h) (fun v12_1 h =>
    gdK v10 true (fun k2 =>
     vK (aBin Try.prog BinOp.leq 3 v11_1 v12_1) h fun v13 h =>
     k2 v13 h) (fun v13_1 h =>
     vK (pickV v10 v13_1 (Value.bool false)) h fun v14 h =>
     mvK v14 h fun v6_1 h =>
     retV [some v6_1] R h) h) h) h
def lv107 (q : Nat) : List Nat := []
theorem ok107 : lkOK Try.prog lv107 Try.f107 3 (Try.f107.body.getD .skip) 107 = true := by kernel_rfl
theorem e107 (a0 a1 a2 : Value) (h : Heap) (R : Value → Heap → Prop) : n107 a0 a1 a2 h R = wpK Try.prog lv107 (Try.f107.body.getD .skip) (endK Try.prog [.tmp 6] R) (argT [a0, a1, a2]) h := by kernel_rfl
theorem w107 {a0 a1 a2 : Value} {h : Heap} {R : Value → Heap → Prop} (hn : n107 a0 a1 a2 h R) : DetP Try.prog 107 [a0, a1, a2] h R :=
  DetP.of_code (rs := [.tmp 6]) (n := 3) Try.func107 (by kernel_rfl) (by kernel_rfl) lv107 ok107 rfl ((e107 a0 a1 a2 h R) ▸ hn)

/-! ### cmp.isNaN[int]: function 108 -/
def n108 (a0 : Value) (h : Heap) (R : Value → Heap → Prop) : Prop :=
  mvK (Value.bool false) h fun v2 h =>
  mvK a0 h fun v3 h =>
  mvK a0 h fun v4 h =>
  vK (aBin Try.prog BinOp.neq 3 v3 v4) h fun v5 h =>
  mvK v5 h fun v2_1 h =>
  retV [some v2_1] R h
def lv108 (q : Nat) : List Nat := []
theorem ok108 : lkOK Try.prog lv108 Try.f108 1 (Try.f108.body.getD .skip) 108 = true := by kernel_rfl
theorem e108 (a0 : Value) (h : Heap) (R : Value → Heap → Prop) : n108 a0 h R = wpK Try.prog lv108 (Try.f108.body.getD .skip) (endK Try.prog [.tmp 2] R) (argT [a0]) h := by kernel_rfl
theorem w108 {a0 : Value} {h : Heap} {R : Value → Heap → Prop} (hn : n108 a0 h R) : DetP Try.prog 108 [a0] h R :=
  DetP.of_code (rs := [.tmp 2]) (n := 1) Try.func108 (by kernel_rfl) (by kernel_rfl) lv108 ok108 rfl ((e108 a0 h R) ▸ hn)

/-! ### math/bits.Mul64: function 110 -/
def n110 (a0 a1 : Value) (h : Heap) (R : Value → Heap → Prop) : Prop :=
  mvK (Value.int IntKind.u64 0) h fun v4 h =>
  mvK (Value.int IntKind.u64 0) h fun v5 h =>
  mvK a0 h fun v14 h =>
  vK (aBin Try.prog BinOp.and 155 v14 (Value.int IntKind.u64 4294967295)) h fun v15 h =>
  mvK v15 h fun v6 h =>
  mvK a0 h fun v16 h =>
  vK (aBin Try.prog BinOp.shr 155 v16 (Value.int IntKind.u64 32)) h fun v17 h =>
  mvK v17 h fun v7 h =>
  mvK a1 h fun v18 h =>
  vK (aBin Try.prog BinOp.and 155 v18 (Value.int IntKind.u64 4294967295)) h fun v19 h =>
  mvK v19 h fun v8 h =>
  mvK a1 h fun v20 h =>
  vK (aBin Try.prog BinOp.shr 155 v20 (Value.int IntKind.u64 32)) h fun v21 h =>
  mvK v21 h fun v9 h =>
  mvK v6 h fun v22 h =>
  mvK v8 h fun v23 h =>
  vK (aBin Try.prog BinOp.mul 155 v22 v23) h fun v24 h =>
  mvK v24 h fun v10 h =>
  mvK v7 h fun v25 h =>
  mvK v8 h fun v26 h =>
  vK (aBin Try.prog BinOp.mul 155 v25 v26) h fun v27 h =>
  mvK v10 h fun v28 h =>
  vK (aBin Try.prog BinOp.shr 155 v28 (Value.int IntKind.u64 32)) h fun v29 h =>
  vK (aBin Try.prog BinOp.add 155 v27 v29) h fun v30 h =>
  mvK v30 h fun v11 h =>
  mvK v11 h fun v31 h =>
  vK (aBin Try.prog BinOp.and 155 v31 (Value.int IntKind.u64 4294967295)) h fun v32 h =>
  mvK v32 h fun v12 h =>
  mvK v11 h fun v33 h =>
  vK (aBin Try.prog BinOp.shr 155 v33 (Value.int IntKind.u64 32)) h fun v34 h =>
  mvK v34 h fun v13 h =>
  mvK v12 h fun v35 h =>
  mvK v6 h fun v36 h =>
  mvK v9 h fun v37 h =>
  vK (aBin Try.prog BinOp.mul 155 v36 v37) h fun v38 h =>
  vK (aBin Try.prog BinOp.add 155 v35 v38) h fun v39 h =>
  mvK v39 h fun v12_1 h =>
  mvK v7 h fun v40 h =>
  mvK v9 h fun v41 h =>
  vK (aBin Try.prog BinOp.mul 155 v40 v41) h fun v42 h =>
  mvK v13 h fun v43 h =>
  vK (aBin Try.prog BinOp.add 155 v42 v43) h fun v44 h =>
  mvK v12_1 h fun v45 h =>
  vK (aBin Try.prog BinOp.shr 155 v45 (Value.int IntKind.u64 32)) h fun v46 h =>
  vK (aBin Try.prog BinOp.add 155 v44 v46) h fun v47 h =>
  mvK v47 h fun v4_1 h =>
  mvK a0 h fun v48 h =>
  mvK a1 h fun v49 h =>
  vK (aBin Try.prog BinOp.mul 155 v48 v49) h fun v50 h =>
  mvK v50 h fun v5_1 h =>
  retV [some v4_1, some v5_1] R h
def lv110 (q : Nat) : List Nat := []
theorem ok110 : lkOK Try.prog lv110 Try.f110 2 (Try.f110.body.getD .skip) 110 = true := by kernel_rfl
theorem e110 (a0 a1 : Value) (h : Heap) (R : Value → Heap → Prop) : n110 a0 a1 h R = wpK Try.prog lv110 (Try.f110.body.getD .skip) (endK Try.prog [.tmp 4, .tmp 5] R) (argT [a0, a1]) h := by kernel_rfl
theorem w110 {a0 a1 : Value} {h : Heap} {R : Value → Heap → Prop} (hn : n110 a0 a1 h R) : DetP Try.prog 110 [a0, a1] h R :=
  DetP.of_code (rs := [.tmp 4, .tmp 5]) (n := 2) Try.func110 (by kernel_rfl) (by kernel_rfl) lv110 ok110 rfl ((e110 a0 a1 h R) ▸ hn)

end Go.Proofs.Ytdjoednhfoligaa
