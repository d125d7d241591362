import Derived.Test.YtkgdclcmfnhbmaaAmW
import Derived.Test.YtkgdclcmfnhbmaaProg
import Derived.KernelRfl
set_option linter.unusedVariables false
set_option maxRecDepth 100000
namespace Go.Proofs.Ytkgdclcmfnhbmaa
open Go.AM

/-! ### examiner/examinerlaw40.SuiteSmallest: function 6 -/
def n6 (a0 : Value) (h : Heap) (R : Value → Heap → Prop) : Prop :=
  mvK (Value.bool false) h fun v2 h =>
  cK Try.prog 10 [] h fun v10 h =>
  vK (aUn UnOp.not v10) h fun v11 h =>
  cnd v11 (
   mvK (Value.bool false) h fun v2_1 h =>
   retV [some v2_1] R h) (
   mvK a0 h fun v13 h =>
   cK Try.prog 12 [v13] h fun v14 h =>
   cK Try.prog 28 [v14] h fun v15 h =>
   mvK v15 h fun v12 h =>
   vK (aExtract v12 0) h fun v16 h =>
   vK (aExtract v12 1) h fun v17 h =>
   vK (aExtract v12 2) h fun v18 h =>
   mvK v16 h fun v3 h =>
   mvK v17 h fun v4 h =>
   mvK v18 h fun v5 h =>
   mvK a0 h fun v20 h =>
   cK Try.prog 14 [v20] h fun v21 h =>
   mvK v21 h fun v19 h =>
   vK (aExtract v19 0) h fun v22 h =>
   vK (aExtract v19 1) h fun v23 h =>
   mvK v22 h fun v6 h =>
   mvK v23 h fun v7 h =>
   mvK v7 h fun v24 h =>
   vK (aBin Try.prog BinOp.neq 3 v24 (Value.int IntKind.i64 0)) h fun v25 h =>
   cnd v25 (
    mvK v5 h fun v26 h =>
    mvK v7 h fun v27 h =>
    vK (aBin Try.prog BinOp.eql 3 v26 v27) h fun v28 h =>
    mvK v28 h fun v29 h =>
    gdK v29 true (fun k0 =>
     mvK v3 h fun v30 h =>
     k0 v30 h) (fun v30_1 h =>
     gdK v29 true (fun k1 =>
      vK (aLen Try.prog 23 v30_1) h fun v31 h =>
      k1 v31 h) (fun v31_1 h =>
      gdK v29 true (fun k2 =>
       mvK v4 h fun v32 h =>
       k2 v32 h) (fun v32_1 h =>
       gdK v29 true (fun k3 =>
        vK (aLen Try.prog 23 v32_1) h fun v33 h =>
        k3 v33 h) (fun v33_1 h =>
        gdK v29 true (fun k4 =>
         vK (aBin Try.prog BinOp.add 3 v31_1 v33_1) h fun v34 h =>
         k4 v34 h) (fun v34_1 h =>
         gdK v29 true (fun k5 =>
          vK (aBin Try.prog BinOp.eql 3 v34_1 (Value.int IntKind.i64 0)) h fun v35 h =>
          k5 v35 h) (fun v35_1 h =>
          vK (pickV v29 v35_1 (Value.bool false)) h fun v36 h =>
          mvK v36 h fun v2_2 h =>
          retV [some v2_2] R h) h) h) h) h) h) h) (
    mvK a0 h fun v38 h =>
    mvK v3 h fun v39 h =>
    mvK v4 h fun v40 h =>
    cK Try.prog 15 [v38, v39, v40] h fun v41 h =>
    mvK v41 h fun v37 h =>
    vK (aExtract v37 0) h fun v42 h =>
    vK (aExtract v37 1) h fun v43 h =>
    mvK v42 h fun v8 h =>
    mvK v43 h fun v9 h =>
    mvK v5 h fun v44 h =>
    vK (aBin Try.prog BinOp.eql 25 v44 (Value.int IntKind.i64 0)) h fun v45 h =>
    mvK v45 h fun v46 h =>
    gdK v46 true (fun k6 =>
     mvK v9 h fun v47 h =>
     k6 v47 h) (fun v47_1 h =>
     gdK v46 true (fun k7 =>
      vK (aBin Try.prog BinOp.eql 3 v47_1 (Value.int IntKind.i64 0)) h fun v48 h =>
      k7 v48 h) (fun v48_1 h =>
      vK (pickV v46 v48_1 (Value.bool false)) h fun v49 h =>
      mvK v49 h fun v2_3 h =>
      retV [some v2_3] R h) h) h))
def lv6 (q : Nat) : List Nat := []
theorem ok6 : lkOK Try.prog lv6 Try.f6 1 (Try.f6.body.getD .skip) 6 = true := by kernel_rfl
theorem e6 (a0 : Value) (h : Heap) (R : Value → Heap → Prop) : n6 a0 h R = wpK Try.prog lv6 (Try.f6.body.getD .skip) (endK Try.prog [.tmp 2] R) (argT [a0]) h := by kernel_rfl
theorem w6 {a0 : Value} {h : Heap} {R : Value → Heap → Prop} (hn : n6 a0 h R) : DetP Try.prog 6 [a0] h R :=
  DetP.of_code (rs := [.tmp 2]) (n := 1) Try.func6 (by kernel_rfl) (by kernel_rfl) lv6 ok6 rfl ((e6 a0 h R) ▸ hn)

/-! ### examiner/examinerlaw40.SuiteNoneSmaller: function 7 -/
def n7 (a0 a1 : Value) (h : Heap) (R : Value → Heap → Prop) : Prop :=
  mvK (Value.bool false) h fun v4 h =>
  cK Try.prog 10 [] h fun v13 h =>
  vK (aUn UnOp.not v13) h fun v14 h =>
  cnd v14 (
   mvK (Value.bool false) h fun v4_1 h =>
   retV [some v4_1] R h) (
   mvK a0 h fun v16 h =>
   cK Try.prog 14 [v16] h fun v17 h =>
   mvK v17 h fun v15 h =>
   vK (aExtract v15 0) h fun v18 h =>
   vK (aExtract v15 1) h fun v19 h =>
   mvK v18 h fun v5 h =>
   mvK v19 h fun v6 h =>
   mvK v6 h fun v20 h =>
   vK (aBin Try.prog BinOp.neq 3 v20 (Value.int IntKind.i64 0)) h fun v21 h =>
   cnd v21 (
    mvK (Value.bool true) h fun v4_2 h =>
    retV [some v4_2] R h) (
    mvK a0 h fun v23 h =>
    cK Try.prog 12 [v23] h fun v24 h =>
    cK Try.prog 28 [v24] h fun v25 h =>
    mvK v25 h fun v22 h =>
    vK (aExtract v22 0) h fun v26 h =>
    vK (aExtract v22 1) h fun v27 h =>
    vK (aExtract v22 2) h fun v28 h =>
    mvK v26 h fun v7 h =>
    mvK v27 h fun v8 h =>
    mvK v28 h fun v9 h =>
    mvK a0 h fun v30 h =>
    cK Try.prog 12 [v30] h fun v31 h =>
    cK Try.prog 25 [v31] h fun v32 h =>
    mvK v32 h fun v29 h =>
    vK (aExtract v29 0) h fun v33 h =>
    vK (aExtract v29 1) h fun v34 h =>
    mvK v33 h fun v10 h =>
    mvK v34 h fun v11 h =>
    mvK v9 h fun v35 h =>
    vK (aBin Try.prog BinOp.neq 25 v35 (Value.int IntKind.i64 0)) h fun v36 h =>
    mvK v36 h fun v37 h =>
    gdK v37 false (fun k0 =>
     mvK v11 h fun v38 h =>
     k0 v38 h) (fun v38_1 h =>
     gdK v37 false (fun k1 =>
      vK (aBin Try.prog BinOp.neq 25 v38_1 (Value.int IntKind.i64 0)) h fun v39 h =>
      k1 v39 h) (fun v39_1 h =>
      vK (pickV v37 (Value.bool true) v39_1) h fun v40 h =>
      mvK v40 h fun v41 h =>
      gdK v41 false (fun k2 =>
       mvK v10 h fun v42 h =>
       k2 v42 h) (fun v42_1 h =>
       gdK v41 false (fun k3 =>
        vK (aLen Try.prog 23 v42_1) h fun v43 h =>
        k3 v43 h) (fun v43_1 h =>
        gdK v41 false (fun k4 =>
         vK (aBin Try.prog BinOp.neq 3 v43_1 (Value.int IntKind.i64 12)) h fun v44 h =>
         k4 v44 h) (fun v44_1 h =>
         vK (pickV v41 (Value.bool true) v44_1) h fun v45 h =>
         mvK v45 h fun v46 h =>
         gdK v46 false (fun k5 =>
          mvK a0 h fun v47 h =>
          k5 v47 h) (fun v47_1 h =>
          gdK v46 false (fun k6 =>
           mvK v7 h fun v48 h =>
           k6 v48 h) (fun v48_1 h =>
           gdK v46 false (fun k7 =>
            cK Try.prog 29 [v47_1, v48_1] h fun v49 h =>
            k7 v49 h) (fun v49_1 h =>
            gdK v46 false (fun k8 =>
             vK (aUn UnOp.not v49_1) h fun v50 h =>
             k8 v50 h) (fun v50_1 h =>
             vK (pickV v46 (Value.bool true) v50_1) h fun v51 h =>
             cnd v51 (
              mvK (Value.bool false) h fun v4_3 h =>
              retV [some v4_3] R h) (
              mvK (Value.int IntKind.i64 0) h fun v12 h =>
              ∃ (I11 : List Value → Heap → Prop) (μ11 : List Value → Heap → Nat), I11 [v12] h ∧
              ∀ (h11 : Heap) (j11 : Tmps) (v12_1 : Value), I11 [v12_1] h11 → (let h := h11
               mvK v12_1 h fun v52 h =>
               mvK v10 h fun v53 h =>
               vK (aLen Try.prog 23 v53) h fun v54 h =>
               vK (aBin Try.prog BinOp.lss 3 v52 v54) h fun v55 h =>
               mvK v55 h fun v56 h =>
               gdK v56 true (fun k9 =>
                mvK a0 h fun v57 h =>
                k9 v57 h) (fun v57_1 h =>
                gdK v56 true (fun k10 =>
                 mvK v10 h fun v58 h =>
                 k10 v58 h) (fun v58_1 h =>
                 gdK v56 true (fun k11 =>
                  mvK v12_1 h fun v59 h =>
                  k11 v59 h) (fun v59_1 h =>
                  gdK v56 true (fun k12 =>
                   vK (aSlice Try.prog 23 v58_1 none (some v59_1) none h) h fun v60 h =>
                   k12 v60 h) (fun v60_1 h =>
                   gdK v56 true (fun k13 =>
                    cK Try.prog 29 [v57_1, v60_1] h fun v61 h =>
                    k13 v61 h) (fun v61_1 h =>
                    gdK v56 true (fun k14 =>
                     vK (aUn UnOp.not v61_1) h fun v62 h =>
                     k14 v62 h) (fun v62_1 h =>
                     vK (pickV v56 v62_1 (Value.bool false)) h fun v63 h =>
                     cnd v63 (
                      mvK v12_1 h fun v64 h =>
                      vK (aBin Try.prog BinOp.add 3 v64 (Value.int IntKind.i64 1)) h fun v65 h =>
                      mvK v65 h fun v12_2 h =>
                      I11 [v12_2] h ∧ μ11 [v12_2] h < μ11 [v12_1] h11) (
                      mvK a0 h fun v66 h =>
                      mvK v10 h fun v67 h =>
                      mvK v12_1 h fun v68 h =>
                      vK (aSlice Try.prog 23 v67 none (some v68) none h) h fun v69 h =>
                      cK Try.prog 29 [v66, v69] h fun v70 h =>
                      vK (aUn UnOp.not v70) h fun v71 h =>
                      mvK v71 h fun v72 h =>
                      gdK v72 false (fun k15 =>
                       mvK v12_1 h fun v73 h =>
                       k15 v73 h) (fun v73_1 h =>
                       gdK v72 false (fun k16 =>
                        mvK v7 h fun v74 h =>
                        k16 v74 h) (fun v74_1 h =>
                        gdK v72 false (fun k17 =>
                         vK (aLen Try.prog 23 v74_1) h fun v75 h =>
                         k17 v75 h) (fun v75_1 h =>
                         gdK v72 false (fun k18 =>
                          vK (aBin Try.prog BinOp.lss 3 v73_1 v75_1) h fun v76 h =>
                          k18 v76 h) (fun v76_1 h =>
                          vK (pickV v72 (Value.bool true) v76_1) h fun v77 h =>
                          cnd v77 (
                           mvK (Value.bool false) h fun v4_4 h =>
                           retV [some v4_4] R h) (
                           mvK a1 h fun v78 h =>
                           vK (aLen Try.prog 23 v78) h fun v79 h =>
                           vK (aBin Try.prog BinOp.gtr 3 v79 (Value.int IntKind.i64 12)) h fun v80 h =>
                           mvK v80 h fun v81 h =>
                           gdK v81 false (fun k19 =>
                            mvK a0 h fun v82 h =>
                            k19 v82 h) (fun v82_1 h =>
                            gdK v81 false (fun k20 =>
                             mvK a1 h fun v83 h =>
                             k20 v83 h) (fun v83_1 h =>
                             gdK v81 false (fun k21 =>
                              cK Try.prog 29 [v82_1, v83_1] h fun v84 h =>
                              k21 v84 h) (fun v84_1 h =>
                              gdK v81 false (fun k22 =>
                               vK (aUn UnOp.not v84_1) h fun v85 h =>
                               k22 v85 h) (fun v85_1 h =>
                               vK (pickV v81 (Value.bool true) v85_1) h fun v86 h =>
                               mvK v86 h fun v87 h =>
                               gdK v87 false (fun k23 =>
                                mvK a1 h fun v88 h =>
                                k23 v88 h) (fun v88_1 h =>
                                gdK v87 false (fun k24 =>
                                 vK (aLen Try.prog 23 v88_1) h fun v89 h =>
                                 k24 v89 h) (fun v89_1 h =>
                                 gdK v87 false (fun k25 =>
                                  mvK v7 h fun v90 h =>
                                  k25 v90 h) (fun v90_1 h =>
                                  gdK v87 false (fun k26 =>
                                   vK (aLen Try.prog 23 v90_1) h fun v91 h =>
                                   k26 v91 h) (fun v91_1 h =>
                                   gdK v87 false (fun k27 =>
                                    vK (aBin Try.prog BinOp.geq 3 v89_1 v91_1) h fun v92 h =>
                                    k27 v92 h) (fun v92_1 h =>
                                    vK (pickV v87 (Value.bool true) v92_1) h fun v93 h =>
                                    mvK v93 h fun v4_5 h =>
                                    retV [some v4_5] R h) h) h) h) h) h) h) h) h) h)) h) h) h) h)) h) h) h) h) h) h))) h) h) h) h) h) h) h) h) h))
def lv7 (q : Nat) : List Nat := bif Nat.beq q 22 then [73782472695210840064, 12] else []
theorem ok7 : lkOK Try.prog lv7 Try.f7 2 (Try.f7.body.getD .skip) 7 = true := by kernel_rfl
theorem e7 (a0 a1 : Value) (h : Heap) (R : Value → Heap → Prop) : n7 a0 a1 h R = wpK Try.prog lv7 (Try.f7.body.getD .skip) (endK Try.prog [.tmp 4] R) (argT [a0, a1]) h := by kernel_rfl
theorem w7 {a0 a1 : Value} {h : Heap} {R : Value → Heap → Prop} (hn : n7 a0 a1 h R) : DetP Try.prog 7 [a0, a1] h R :=
  DetP.of_code (rs := [.tmp 4]) (n := 2) Try.func7 (by kernel_rfl) (by kernel_rfl) lv7 ok7 rfl ((e7 a0 a1 h R) ▸ hn)

/-! ### examiner/suite.SmallestOf: function 28 -/
def n28 (a0 : Value) (h : Heap) (R : Value → Heap → Prop) : Prop :=
  mvK (Value.slice none 0 0) h fun v2 h =>
  mvK (Value.slice none 0 0) h fun v3 h =>
  mvK (Value.int IntKind.i64 0) h fun v4 h =>
  mvK a0 h fun v14 h =>
  cK Try.prog 24 [v14] h fun v15 h =>
  mvK v15 h fun v13 h =>
  vK (aExtract v13 0) h fun v16 h =>
  vK (aExtract v13 1) h fun v17 h =>
  mvK v16 h fun v5 h =>
  mvK v17 h fun v6 h =>
  mvK v6 h fun v18 h =>
  vK (aBin Try.prog BinOp.neq 25 v18 (Value.int IntKind.i64 0)) h fun v19 h =>
  cnd v19 (
   mvK v6 h fun v20 h =>
   mvK (Value.slice none 0 0) h fun v2_1 h =>
   mvK (Value.slice none 0 0) h fun v3_1 h =>
   mvK v20 h fun v4_1 h =>
   retV [some v2_1, some v3_1, some v4_1] R h) (
   mvK a0 h fun v21 h =>
   cK Try.prog 36 [v21] h fun v22 h =>
   mvK v22 h fun v7 h =>
   mvK (Value.int IntKind.u64 4095) h fun v8 h =>
   mvK v8 h fun v23 h =>
   mvK (Value.int IntKind.u64 0) h fun v24 h =>
   ∃ (I7 : List Value → Heap → Prop) (μ7 : List Value → Heap → Nat), I7 [v8, v24] h ∧
   ∀ (h7 : Heap) (j7 : Tmps) (v8_1 : Value) (v24_1 : Value), I7 [v8_1, v24_1] h7 → (let h := h7
    vK (aBin Try.prog BinOp.lss 71 v24_1 v23) h fun v25 h =>
    cnd v25 (
     seqK (fun k0 =>
      mvK v24_1 h fun v26 h =>
      mvK v26 h fun v9 h =>
      mvK v9 h fun v27 h =>
      cK Try.prog 53 [v27] h fun v28 h =>
      mvK v8_1 h fun v29 h =>
      cK Try.prog 53 [v29] h fun v30 h =>
      vK (aBin Try.prog BinOp.lss 3 v28 v30) h fun v31 h =>
      mvK v31 h fun v32 h =>
      gdK v32 true (fun k1 =>
       mvK v7 h fun v33 h =>
       k1 v33 h) (fun v33_1 h =>
       gdK v32 true (fun k2 =>
        mvK v9 h fun v34 h =>
        k2 v34 h) (fun v34_1 h =>
        gdK v32 true (fun k3 =>
         cK Try.prog 39 [v33_1, v34_1] h fun v35 h =>
         k3 v35 h) (fun v35_1 h =>
         vK (pickV v32 v35_1 (Value.bool false)) h fun v36 h =>
         cnd v36 (
          mvK v9 h fun v37 h =>
          mvK v37 h fun v8_2 h =>
          k0 [v8_2] h) (
          k0 [v8_1] h)) h) h) h) fun x0 h => ∀ jx0 : Tmps,
      let v8_3 : Value := nth x0 0
      vK (aBin Try.prog BinOp.add 71 v24_1 (Value.int IntKind.u64 1)) h fun v38 h =>
      mvK v38 h fun v24_2 h =>
      I7 [v8_3, v24_2] h ∧ μ7 [v8_3, v24_2] h < μ7 [v8_1, v24_1] h7) (
     mvK (Value.slice none 0 0) h fun v10 h =>
     mvK (Value.slice none 0 0) h fun v11 h =>
     mvK (Value.int IntKind.i64 0) h fun v39 h =>
     ∃ (I14 : List Value → Heap → Prop) (μ14 : List Value → Heap → Nat), I14 [v10, v39] h ∧
     ∀ (h14 : Heap) (j14 : Tmps) (v10_1 : Value) (v39_1 : Value), I14 [v10_1, v39_1] h14 → (let h := h14
      vK (aBin Try.prog BinOp.lss 3 v39_1 (Value.int IntKind.i64 12)) h fun v40 h =>
      cnd v40 (
       seqK (fun k4 =>
        mvK v39_1 h fun v41 h =>
        mvK v41 h fun v12 h =>
        mvK v8_1 h fun v42 h =>
        mvK v12 h fun v43 h =>
        vK (aBin Try.prog BinOp.shr 71 v42 v43) h fun v44 h =>
        vK (aBin Try.prog BinOp.and 71 v44 (Value.int IntKind.u64 1)) h fun v45 h =>
        vK (aBin Try.prog BinOp.eql 71 v45 (Value.int IntKind.u64 1)) h fun v46 h =>
        cnd v46 (
         mvK v10_1 h fun v47 h =>
         mvK v12 h fun v48 h =>
         okK (aBuildSlice Try.prog 23 1 [(0, v48)] h) fun v49 h =>
         okK (aAppend Try.prog 23 23 v47 v49 h) fun v50 h =>
         mvK v50 h fun v10_2 h =>
         k4 [v10_2] h) (
         k4 [v10_1] h)) fun x4 h => ∀ jx4 : Tmps,
        let v10_3 : Value := nth x4 0
        vK (aBin Try.prog BinOp.add 3 v39_1 (Value.int IntKind.i64 1)) h fun v51 h =>
        mvK v51 h fun v39_2 h =>
        I14 [v10_3, v39_2] h ∧ μ14 [v10_3, v39_2] h < μ14 [v10_1, v39_1] h14) (
       seqK (fun k5 =>
        mvK v10_1 h fun v52 h =>
        vK (aLen Try.prog 23 v52) h fun v53 h =>
        vK (aBin Try.prog BinOp.gtr 3 v53 (Value.int IntKind.i64 0)) h fun v54 h =>
        cnd v54 (
         mvK v7 h fun v55 h =>
         mvK v10_1 h fun v56 h =>
         vK (aLen Try.prog 23 v56) h fun v57 h =>
         vK (aBin Try.prog BinOp.sub 3 v57 (Value.int IntKind.i64 1)) h fun v58 h =>
         cK Try.prog 54 [v55, (Value.int IntKind.u64 0), v58, (Value.slice none 0 0)] h fun v59 h =>
         mvK v59 h fun v11_1 h =>
         k5 [v11_1] h) (
         k5 [v11] h)) fun x5 h => ∀ jx5 : Tmps,
        let v11_2 : Value := nth x5 0
        mvK v10_1 h fun v60 h =>
        mvK v11_2 h fun v61 h =>
        mvK v60 h fun v2_2 h =>
        mvK v61 h fun v3_2 h =>
        mvK (Value.int IntKind.i64 0) h fun v4_2 h =>
        retV [some v2_2, some v3_2, some v4_2] R h)))))
def lv28 (q : Nat) : List Nat := bif Nat.beq q 14 then [549739037440, 8, 24] else bif Nat.beq q 23 then [274810798848, 8] else bif Nat.beq q 28 then [4503049871561728, 10, 39] else bif Nat.beq q 37 then [2249600790434816, 10] else bif Nat.beq q 43 then [1148417904979478528, 11] else []
theorem ok28 : lkOK Try.prog lv28 Try.f28 1 (Try.f28.body.getD .skip) 28 = true := by kernel_rfl
theorem e28 (a0 : Value) (h : Heap) (R : Value → Heap → Prop) : n28 a0 h R = wpK Try.prog lv28 (Try.f28.body.getD .skip) (endK Try.prog [.tmp 2, .tmp 3, .tmp 4] R) (argT [a0]) h := by kernel_rfl
theorem w28 {a0 : Value} {h : Heap} {R : Value → Heap → Prop} (hn : n28 a0 h R) : DetP Try.prog 28 [a0] h R :=
  DetP.of_code (rs := [.tmp 2, .tmp 3, .tmp 4]) (n := 1) Try.func28 (by kernel_rfl) (by kernel_rfl) lv28 ok28 rfl ((e28 a0 h R) ▸ hn)

/-! ### math/bits.OnesCount: function 53 -/
def n53 (a0 : Value) (h : Heap) (R : Value → Heap → Prop) : Prop :=
  mvK (Value.int IntKind.i64 0) h fun v2 h =>
  cnd (Value.bool false) (
   mvK a0 h fun v3 h =>
   vK (aConvert Try.prog 70 103 v3) h fun v4 h =>
   cK Try.prog 69 [v4] h fun v5 h =>
   mvK v5 h fun v2_1 h =>
   retV [some v2_1] R h) (
   mvK a0 h fun v6 h =>
   cK Try.prog 70 [v6] h fun v7 h =>
   mvK v7 h fun v2_2 h =>
   retV [some v2_2] R h)
def lv53 (q : Nat) : List Nat := []
theorem ok53 : lkOK Try.prog lv53 Try.f53 1 (Try.f53.body.getD .skip) 53 = true := by kernel_rfl
theorem e53 (a0 : Value) (h : Heap) (R : Value → Heap → Prop) : n53 a0 h R = wpK Try.prog lv53 (Try.f53.body.getD .skip) (endK Try.prog [.tmp 2] R) (argT [a0]) h := by kernel_rfl
theorem w53 {a0 : Value} {h : Heap} {R : Value → Heap → Prop} (hn : n53 a0 h R) : DetP Try.prog 53 [a0] h R :=
  DetP.of_code (rs := [.tmp 2]) (n := 1) Try.func53 (by kernel_rfl) (by kernel_rfl) lv53 ok53 rfl ((e53 a0 h R) ▸ hn)

/-! ### examiner/suite.prove: function 54 -/
def n54 (a0 a1 a2 a3 : Value) (h : Heap) (R : Value → Heap → Prop) : Prop :=
  mvK (Value.slice none 0 0) h fun v8 h =>
  mvK (Value.int IntKind.i64 (-1)) h fun v9 h =>
  mvK a0 h fun v13 h =>
  vK (aLen Try.prog 65 v13) h fun v14 h =>
  mvK (Value.int IntKind.i64 0) h fun v15 h =>
  ∃ (I3 : List Value → Heap → Prop) (μ3 : List Value → Heap → Nat), I3 [v9, v15] h ∧
  ∀ (h3 : Heap) (j3 : Tmps) (v9_1 : Value) (v15_1 : Value), I3 [v9_1, v15_1] h3 → (let h := h3
   vK (aBin Try.prog BinOp.lss 3 v15_1 v14) h fun v16 h =>
   cnd v16 (
    seqK (fun k0 =>
     mvK v15_1 h fun v17 h =>
     vK (aIndexAddr Try.prog 65 v13 v15_1) h fun v18 h =>
     vK (aLoad Try.prog 71 v18 h) h fun v19 h =>
     mvK v17 h fun v10 h =>
     mvK v19 h fun v11 h =>
     mvK v11 h fun v20 h =>
     mvK a1 h fun v21 h =>
     vK (aBin Try.prog BinOp.and 71 v20 v21) h fun v22 h =>
     vK (aBin Try.prog BinOp.eql 71 v22 (Value.int IntKind.u64 0)) h fun v23 h =>
     mvK v23 h fun v24 h =>
     gdK v24 true (fun k1 =>
      mvK v9_1 h fun v25 h =>
      k1 v25 h) (fun v25_1 h =>
      gdK v24 true (fun k2 =>
       vK (aBin Try.prog BinOp.eql 3 v25_1 (Value.int IntKind.i64 (-1))) h fun v26 h =>
       k2 v26 h) (fun v26_1 h =>
       gdK v24 true (fun k3 =>
        mvK v26_1 h fun v27 h =>
        k3 v27 h) (fun v27_1 h =>
        gdK v27_1 false (fun k4 =>
         mvK v11 h fun v28 h =>
         k4 v28 h) (fun v28_1 h =>
         gdK v27_1 false (fun k5 =>
          cKD Try.prog 53 [v28_1] h fun v29 g =>
          (∃ new, g = h ++ new) ∧ (let h := g
           k5 v29 h)) (fun v29_1 h =>
          gdK v27_1 false (fun k6 =>
           mvK a0 h fun v30 h =>
           k6 v30 h) (fun v30_1 h =>
           gdK v27_1 false (fun k7 =>
            mvK v9_1 h fun v31 h =>
            k7 v31 h) (fun v31_1 h =>
            gdK v27_1 false (fun k8 =>
             vK (aIndexAddr Try.prog 65 v30_1 v31_1) h fun v32 h =>
             k8 v32 h) (fun v32_1 h =>
             gdK v27_1 false (fun k9 =>
              vK (aLoad Try.prog 71 v32_1 h) h fun v33 g =>
              VB h.length v33 ∧ (let h := g
               k9 v33 h)) (fun v33_1 h =>
              gdK v27_1 false (fun k10 =>
               cKD Try.prog 53 [v33_1] h fun v34 g =>
               (∃ new, g = h ++ new) ∧ (let h := g
                k10 v34 h)) (fun v34_1 h =>
               gdK v27_1 false (fun k11 =>
                vK (aBin Try.prog BinOp.lss 3 v29_1 v34_1) h fun v35 h =>
                k11 v35 h) (fun v35_1 h =>
                gdK v24 true (fun k12 =>
                 vK (pickV v27_1 (Value.bool true) v35_1) h fun v36 h =>
                 k12 v36 h) (fun v36_1 h =>
                 vK (pickV v24 v36_1 (Value.bool false)) h fun v37 h =>
                 cnd v37 (
                  mvK v10 h fun v38 h =>
                  mvK v38 h fun v9_2 h =>
                  k0 [v9_2] h) (
                  k0 [v9_1] h)) h) h) h) h) h) h) h) h) h) h) h) h) fun x0 h => ∀ jx0 : Tmps,
     let v9_3 : Value := nth x0 0
     vK (aBin Try.prog BinOp.add 3 v15_1 (Value.int IntKind.i64 1)) h fun v39 h =>
     mvK v39 h fun v15_2 h =>
     I3 [v9_3, v15_2] h ∧ μ3 [v9_3, v15_2] h < μ3 [v9_1, v15_1] h3) (
    mvK a3 h fun v40 h =>
    mvK v9_1 h fun v41 h =>
    okK (aBuildSlice Try.prog 23 1 [(0, v41)] h) fun v42 h =>
    okK (aAppend Try.prog 23 23 v40 v42 h) fun v43 h =>
    mvK v43 h fun v3 h =>
    mvK a0 h fun v44 h =>
    mvK v9_1 h fun v45 h =>
    vK (aIndexAddr Try.prog 65 v44 v45) h fun v46 h =>
    vK (aLoad Try.prog 71 v46 h) h fun v47 h =>
    mvK v47 h fun v12 h =>
    ∃ (I10 : List Value → Heap → Prop) (μ10 : List Value → Heap → Nat), I10 [v3, v12] h ∧
    ∀ (h10 : Heap) (j10 : Tmps) (v3_1 : Value) (v12_1 : Value), I10 [v3_1, v12_1] h10 → (let h := h10
     mvK a2 h fun v48 h =>
     vK (aBin Try.prog BinOp.gtr 3 v48 (Value.int IntKind.i64 0)) h fun v49 h =>
     mvK v49 h fun v50 h =>
     gdK v50 true (fun k13 =>
      mvK v12_1 h fun v51 h =>
      k13 v51 h) (fun v51_1 h =>
      gdK v50 true (fun k14 =>
       vK (aBin Try.prog BinOp.neq 71 v51_1 (Value.int IntKind.u64 0)) h fun v52 h =>
       k14 v52 h) (fun v52_1 h =>
       vK (pickV v50 v52_1 (Value.bool false)) h fun v53 h =>
       cnd v53 (
        mvK a0 h fun v58 h =>
        mvK a1 h fun v59 h =>
        mvK v12_1 h fun v60 h =>
        mvK v12_1 h fun v61 h =>
        vK (aUn UnOp.neg v61) h fun v62 h =>
        vK (aBin Try.prog BinOp.and 71 v60 v62) h fun v63 h =>
        vK (aBin Try.prog BinOp.or 71 v59 v63) h fun v64 h =>
        mvK a2 h fun v65 h =>
        vK (aBin Try.prog BinOp.sub 3 v65 (Value.int IntKind.i64 1)) h fun v66 h =>
        mvK v3_1 h fun v67 h =>
        cK Try.prog 54 [v58, v64, v66, v67] h fun v68 h =>
        mvK v68 h fun v3_2 h =>
        mvK v12_1 h fun v54 h =>
        mvK v12_1 h fun v55 h =>
        vK (aBin Try.prog BinOp.sub 71 v55 (Value.int IntKind.u64 1)) h fun v56 h =>
        vK (aBin Try.prog BinOp.and 71 v54 v56) h fun v57 h =>
        mvK v57 h fun v12_2 h =>
        I10 [v3_2, v12_2] h ∧ μ10 [v3_2, v12_2] h < μ10 [v3_1, v12_1] h10) (
        mvK v3_1 h fun v69 h =>
        mvK v69 h fun v8_1 h =>
        retV [some v8_1] R h)) h) h)))
def lv54 (q : Nat) : List Nat := bif Nat.beq q 6 then [1099511598592, 9, 15] else bif Nat.beq q 15 then [549755686400, 9] else bif Nat.beq q 20 then [590295528883728945160, 3, 12] else []
theorem ok54 : lkOK Try.prog lv54 Try.f54 4 (Try.f54.body.getD .skip) 54 = true := by kernel_rfl
theorem e54 (a0 a1 a2 a3 : Value) (h : Heap) (R : Value → Heap → Prop) : n54 a0 a1 a2 a3 h R = wpK Try.prog lv54 (Try.f54.body.getD .skip) (endK Try.prog [.tmp 8] R) (argT [a0, a1, a2, a3]) h := by kernel_rfl
theorem w54 {a0 a1 a2 a3 : Value} {h : Heap} {R : Value → Heap → Prop} (hn : n54 a0 a1 a2 a3 h R) : DetP Try.prog 54 [a0, a1, a2, a3] h R :=
  DetP.of_code (rs := [.tmp 8]) (n := 4) Try.func54 (by kernel_rfl) (by kernel_rfl) lv54 ok54 rfl ((e54 a0 a1 a2 a3 h R) ▸ hn)

/-! ### math/bits.OnesCount64: function 70 -/
def n70 (a0 : Value) (h : Heap) (R : Value → Heap → Prop) : Prop :=
  mvK (Value.int IntKind.i64 0) h fun v2 h =>
  mvK a0 h fun v3 h =>
  vK (aBin Try.prog BinOp.shr 105 v3 (Value.int IntKind.u64 1)) h fun v4 h =>
  vK (aBin Try.prog BinOp.and 105 v4 (Value.int IntKind.u64 6148914691236517205)) h fun v5 h =>
  mvK a0 h fun v6 h =>
  vK (aBin Try.prog BinOp.and 105 v6 (Value.int IntKind.u64 6148914691236517205)) h fun v7 h =>
  vK (aBin Try.prog BinOp.add 105 v5 v7) h fun v8 h =>
  mvK v8 h fun v0 h =>
  mvK v0 h fun v9 h =>
  vK (aBin Try.prog BinOp.shr 105 v9 (Value.int IntKind.u64 2)) h fun v10 h =>
  vK (aBin Try.prog BinOp.and 105 v10 (Value.int IntKind.u64 3689348814741910323)) h fun v11 h =>
  mvK v0 h fun v12 h =>
  vK (aBin Try.prog BinOp.and 105 v12 (Value.int IntKind.u64 3689348814741910323)) h fun v13 h =>
  vK (aBin Try.prog BinOp.add 105 v11 v13) h fun v14 h =>
  mvK v14 h fun v0_1 h =>
  mvK v0_1 h fun v15 h =>
  vK (aBin Try.prog BinOp.shr 105 v15 (Value.int IntKind.u64 4)) h fun v16 h =>
  mvK v0_1 h fun v17 h =>
  vK (aBin Try.prog BinOp.add 105 v16 v17) h fun v18 h =>
  vK (aBin Try.prog BinOp.and 105 v18 (Value.int IntKind.u64 1085102592571150095)) h fun v19 h =>
  mvK v19 h fun v0_2 h =>
  mvK v0_2 h fun v20 h =>
  mvK v0_2 h fun v21 h =>
  vK (aBin Try.prog BinOp.shr 105 v21 (Value.int IntKind.u64 8)) h fun v22 h =>
  vK (aBin Try.prog BinOp.add 105 v20 v22) h fun v23 h =>
  mvK v23 h fun v0_3 h =>
  mvK v0_3 h fun v24 h =>
  mvK v0_3 h fun v25 h =>
  vK (aBin Try.prog BinOp.shr 105 v25 (Value.int IntKind.u64 16)) h fun v26 h =>
  vK (aBin Try.prog BinOp.add 105 v24 v26) h fun v27 h =>
  mvK v27 h fun v0_4 h =>
  mvK v0_4 h fun v28 h =>
  mvK v0_4 h fun v29 h =>
  vK (aBin Try.prog BinOp.shr 105 v29 (Value.int IntKind.u64 32)) h fun v30 h =>
  vK (aBin Try.prog BinOp.add 105 v28 v30) h fun v31 h =>
  mvK v31 h fun v0_5 h =>
  mvK v0_5 h fun v32 h =>
  vK (aConvert Try.prog 105 3 v32) h fun v33 h =>
  vK (aBin Try.prog BinOp.and 3 v33 (Value.int IntKind.i64 127)) h fun v34 h =>
  mvK v34 h fun v2_1 h =>
  retV [some v2_1] R h
def lv70 (q : Nat) : List Nat := []
theorem ok70 : lkOK Try.prog lv70 Try.f70 1 (Try.f70.body.getD .skip) 70 = true := by kernel_rfl
theorem e70 (a0 : Value) (h : Heap) (R : Value → Heap → Prop) : n70 a0 h R = wpK Try.prog lv70 (Try.f70.body.getD .skip) (endK Try.prog [.tmp 2] R) (argT [a0]) h := by kernel_rfl
theorem w70 {a0 : Value} {h : Heap} {R : Value → Heap → Prop} (hn : n70 a0 h R) : DetP Try.prog 70 [a0] h R :=
  DetP.of_code (rs := [.tmp 2]) (n := 1) Try.func70 (by kernel_rfl) (by kernel_rfl) lv70 ok70 rfl ((e70 a0 h R) ▸ hn)

end Go.Proofs.Ytkgdclcmfnhbmaa
