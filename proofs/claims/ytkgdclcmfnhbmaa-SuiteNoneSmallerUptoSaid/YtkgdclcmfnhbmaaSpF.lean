import Derived.Test.YtkgdclcmfnhbmaaAmW
import Derived.Test.YtkgdclcmfnhbmaaProg
import Derived.KernelRfl
set_option linter.unusedVariables false
set_option maxRecDepth 100000
namespace Go.Proofs.Ytkgdclcmfnhbmaa
open Go.AM

/-! ### examiner/examinerlaw40.SuiteProofs: function 3 -/
def n3 (a0 a1 a2 : Value) (h : Heap) (R : Value → Heap → Prop) : Prop :=
  mvK (Value.bool false) h fun v6 h =>
  cK Try.prog 10 [] h fun v12 h =>
  vK (aUn UnOp.not v12) h fun v13 h =>
  cnd v13 (
   mvK (Value.bool false) h fun v6_1 h =>
   retV [some v6_1] R h) (
   mvK a0 h fun v15 h =>
   cK Try.prog 12 [v15] h fun v16 h =>
   mvK a1 h fun v17 h =>
   cK Try.prog 13 [v17] h fun v18 h =>
   mvK a2 h fun v19 h =>
   cK Try.prog 13 [v19] h fun v20 h =>
   cK Try.prog 11 [v16, v18, v20] h fun v21 h =>
   mvK v21 h fun v14 h =>
   vK (aExtract v14 0) h fun v22 h =>
   vK (aExtract v14 1) h fun v23 h =>
   mvK v22 h fun v7 h =>
   mvK v23 h fun v8 h =>
   mvK a0 h fun v25 h =>
   cK Try.prog 14 [v25] h fun v26 h =>
   mvK v26 h fun v24 h =>
   vK (aExtract v24 0) h fun v27 h =>
   vK (aExtract v24 1) h fun v28 h =>
   mvK v27 h fun v9 h =>
   mvK v28 h fun v10 h =>
   mvK (Value.int IntKind.i64 0) h fun v11 h =>
   seqK (fun k0 =>
    mvK v10 h fun v29 h =>
    vK (aBin Try.prog BinOp.eql 3 v29 (Value.int IntKind.i64 0)) h fun v30 h =>
    cnd v30 (
     mvK a0 h fun v32 h =>
     mvK a1 h fun v33 h =>
     mvK a2 h fun v34 h =>
     cK Try.prog 15 [v32, v33, v34] h fun v35 h =>
     mvK v35 h fun v31 h =>
     vK (aExtract v31 0) h fun v36 h =>
     vK (aExtract v31 1) h fun v37 h =>
     mvK v36 h fun v11_1 h =>
     mvK v37 h fun v10_1 h =>
     k0 [v10_1, v11_1] h) (
     k0 [v10, v11] h)) fun x0 h => ∀ jx0 : Tmps,
    let v10_2 : Value := nth x0 0
    let v11_2 : Value := nth x0 1
    mvK v8 h fun v38 h =>
    mvK v10_2 h fun v39 h =>
    vK (aBin Try.prog BinOp.eql 3 v38 v39) h fun v40 h =>
    mvK v40 h fun v41 h =>
    gdK v41 true (fun k1 =>
     mvK v7 h fun v42 h =>
     k1 v42 h) (fun v42_1 h =>
     gdK v41 true (fun k2 =>
      mvK v11_2 h fun v43 h =>
      k2 v43 h) (fun v43_1 h =>
      gdK v41 true (fun k3 =>
       vK (aBin Try.prog BinOp.eql 3 v42_1 v43_1) h fun v44 h =>
       k3 v44 h) (fun v44_1 h =>
       vK (pickV v41 v44_1 (Value.bool false)) h fun v45 h =>
       mvK v45 h fun v6_2 h =>
       retV [some v6_2] R h) h) h) h)
def lv3 (q : Nat) : List Nat := bif Nat.beq q 17 then [274341039104, 10, 11] else []
theorem ok3 : lkOK Try.prog lv3 Try.f3 3 (Try.f3.body.getD .skip) 3 = true := by kernel_rfl
theorem e3 (a0 a1 a2 : Value) (h : Heap) (R : Value → Heap → Prop) : n3 a0 a1 a2 h R = wpK Try.prog lv3 (Try.f3.body.getD .skip) (endK Try.prog [.tmp 6] R) (argT [a0, a1, a2]) h := by kernel_rfl
theorem w3 {a0 a1 a2 : Value} {h : Heap} {R : Value → Heap → Prop} (hn : n3 a0 a1 a2 h R) : DetP Try.prog 3 [a0, a1, a2] h R :=
  DetP.of_code (rs := [.tmp 6]) (n := 3) Try.func3 (by kernel_rfl) (by kernel_rfl) lv3 ok3 rfl ((e3 a0 a1 a2 h R) ▸ hn)

/-! ### examiner/examinerlaw40.SuiteTables: function 5 -/
def n5 (a0 : Value) (h : Heap) (R : Value → Heap → Prop) : Prop :=
  mvK (Value.bool false) h fun v2 h =>
  cK Try.prog 10 [] h fun v9 h =>
  vK (aUn UnOp.not v9) h fun v10 h =>
  cnd v10 (
   mvK (Value.bool false) h fun v2_1 h =>
   retV [some v2_1] R h) (
   mvK a0 h fun v12 h =>
   cK Try.prog 12 [v12] h fun v13 h =>
   cK Try.prog 24 [v13] h fun v14 h =>
   mvK v14 h fun v11 h =>
   vK (aExtract v11 0) h fun v15 h =>
   vK (aExtract v11 1) h fun v16 h =>
   mvK v15 h fun v3 h =>
   mvK v16 h fun v4 h =>
   mvK a0 h fun v18 h =>
   cK Try.prog 14 [v18] h fun v19 h =>
   mvK v19 h fun v17 h =>
   vK (aExtract v17 0) h fun v20 h =>
   vK (aExtract v17 1) h fun v21 h =>
   mvK v20 h fun v5 h =>
   mvK v21 h fun v6 h =>
   mvK a0 h fun v23 h =>
   cK Try.prog 12 [v23] h fun v24 h =>
   cK Try.prog 25 [v24] h fun v25 h =>
   mvK v25 h fun v22 h =>
   vK (aExtract v22 0) h fun v26 h =>
   vK (aExtract v22 1) h fun v27 h =>
   mvK v26 h fun v7 h =>
   mvK v27 h fun v8 h =>
   mvK v4 h fun v28 h =>
   mvK v6 h fun v29 h =>
   vK (aBin Try.prog BinOp.neq 3 v28 v29) h fun v30 h =>
   mvK v30 h fun v31 h =>
   gdK v31 false (fun k0 =>
    mvK v3 h fun v32 h =>
    k0 v32 h) (fun v32_1 h =>
    gdK v31 false (fun k1 =>
     mvK v5 h fun v33 h =>
     k1 v33 h) (fun v33_1 h =>
     gdK v31 false (fun k2 =>
      vK (aBin Try.prog BinOp.neq 3 v32_1 v33_1) h fun v34 h =>
      k2 v34 h) (fun v34_1 h =>
      vK (pickV v31 (Value.bool true) v34_1) h fun v35 h =>
      mvK v35 h fun v36 h =>
      gdK v36 false (fun k3 =>
       mvK v8 h fun v37 h =>
       k3 v37 h) (fun v37_1 h =>
       gdK v36 false (fun k4 =>
        mvK v6 h fun v38 h =>
        k4 v38 h) (fun v38_1 h =>
        gdK v36 false (fun k5 =>
         vK (aBin Try.prog BinOp.neq 3 v37_1 v38_1) h fun v39 h =>
         k5 v39 h) (fun v39_1 h =>
         vK (pickV v36 (Value.bool true) v39_1) h fun v40 h =>
         cnd v40 (
          mvK (Value.bool false) h fun v2_2 h =>
          retV [some v2_2] R h) (
          mvK v6 h fun v41 h =>
          vK (aBin Try.prog BinOp.neq 3 v41 (Value.int IntKind.i64 0)) h fun v42 h =>
          mvK v42 h fun v43 h =>
          gdK v43 true (fun k6 =>
           mvK v7 h fun v44 h =>
           k6 v44 h) (fun v44_1 h =>
           gdK v43 true (fun k7 =>
            vK (aLen Try.prog 23 v44_1) h fun v45 h =>
            k7 v45 h) (fun v45_1 h =>
            gdK v43 true (fun k8 =>
             vK (aBin Try.prog BinOp.eql 3 v45_1 (Value.int IntKind.i64 0)) h fun v46 h =>
             k8 v46 h) (fun v46_1 h =>
             vK (pickV v43 v46_1 (Value.bool false)) h fun v47 h =>
             mvK v47 h fun v48 h =>
             gdK v48 false (fun k9 =>
              mvK v6 h fun v49 h =>
              k9 v49 h) (fun v49_1 h =>
              gdK v48 false (fun k10 =>
               vK (aBin Try.prog BinOp.eql 3 v49_1 (Value.int IntKind.i64 0)) h fun v50 h =>
               k10 v50 h) (fun v50_1 h =>
               gdK v48 false (fun k11 =>
                mvK v50_1 h fun v51 h =>
                k11 v51 h) (fun v51_1 h =>
                gdK v51_1 true (fun k12 =>
                 mvK v7 h fun v52 h =>
                 k12 v52 h) (fun v52_1 h =>
                 gdK v51_1 true (fun k13 =>
                  mvK a0 h fun v53 h =>
                  k13 v53 h) (fun v53_1 h =>
                  gdK v51_1 true (fun k14 =>
                   cK Try.prog 27 [v53_1] h fun v54 h =>
                   k14 v54 h) (fun v54_1 h =>
                   gdK v51_1 true (fun k15 =>
                    cK Try.prog 26 [v52_1, v54_1] h fun v55 h =>
                    k15 v55 h) (fun v55_1 h =>
                    gdK v48 false (fun k16 =>
                     vK (pickV v51_1 v55_1 (Value.bool false)) h fun v56 h =>
                     k16 v56 h) (fun v56_1 h =>
                     vK (pickV v48 (Value.bool true) v56_1) h fun v57 h =>
                     mvK v57 h fun v2_3 h =>
                     retV [some v2_3] R h) h) h) h) h) h) h) h) h) h) h) h)) h) h) h) h) h) h)
def lv5 (q : Nat) : List Nat := []
theorem ok5 : lkOK Try.prog lv5 Try.f5 1 (Try.f5.body.getD .skip) 5 = true := by kernel_rfl
theorem e5 (a0 : Value) (h : Heap) (R : Value → Heap → Prop) : n5 a0 h R = wpK Try.prog lv5 (Try.f5.body.getD .skip) (endK Try.prog [.tmp 2] R) (argT [a0]) h := by kernel_rfl
theorem w5 {a0 : Value} {h : Heap} {R : Value → Heap → Prop} (hn : n5 a0 h R) : DetP Try.prog 5 [a0] h R :=
  DetP.of_code (rs := [.tmp 2]) (n := 1) Try.func5 (by kernel_rfl) (by kernel_rfl) lv5 ok5 rfl ((e5 a0 h R) ▸ hn)

/-! ### examiner/suite.CheckSmallest: function 11 -/
def n11 (a0 a1 a2 : Value) (h : Heap) (R : Value → Heap → Prop) : Prop :=
  mvK (Value.int IntKind.i64 0) h fun v6 h =>
  mvK (Value.int IntKind.i64 0) h fun v7 h =>
  mvK a0 h fun v15 h =>
  cK Try.prog 24 [v15] h fun v16 h =>
  mvK v16 h fun v14 h =>
  vK (aExtract v14 0) h fun v17 h =>
  vK (aExtract v14 1) h fun v18 h =>
  mvK v17 h fun v8 h =>
  mvK v18 h fun v9 h =>
  mvK v9 h fun v19 h =>
  vK (aBin Try.prog BinOp.neq 25 v19 (Value.int IntKind.i64 0)) h fun v20 h =>
  cnd v20 (
   mvK v9 h fun v21 h =>
   mvK (Value.int IntKind.i64 0) h fun v6_1 h =>
   mvK v21 h fun v7_1 h =>
   retV [some v6_1, some v7_1] R h) (
   mvK a1 h fun v22 h =>
   cK Try.prog 35 [v22] h fun v23 h =>
   mvK v23 h fun v10 h =>
   mvK v10 h fun v24 h =>
   vK (aBin Try.prog BinOp.neq 25 v24 (Value.int IntKind.i64 0)) h fun v25 h =>
   cnd v25 (
    mvK v10 h fun v26 h =>
    mvK (Value.int IntKind.i64 0) h fun v6_2 h =>
    mvK v26 h fun v7_2 h =>
    retV [some v6_2, some v7_2] R h) (
    mvK a0 h fun v27 h =>
    cK Try.prog 36 [v27] h fun v28 h =>
    mvK v28 h fun v11 h =>
    mvK v11 h fun v29 h =>
    mvK a1 h fun v30 h =>
    cK Try.prog 40 [v30] h fun v31 h =>
    cK Try.prog 39 [v29, v31] h fun v32 h =>
    cK Try.prog 38 [v32, (Value.int IntKind.i64 11)] h fun v33 h =>
    mvK a2 h fun v34 h =>
    vK (aLen Try.prog 23 v34) h fun v35 h =>
    vK (aBin Try.prog BinOp.leq 3 v35 (Value.int IntKind.i64 20000)) h fun v36 h =>
    cK Try.prog 38 [v36, (Value.int IntKind.i64 2)] h fun v37 h =>
    mvK a1 h fun v38 h =>
    vK (aLen Try.prog 23 v38) h fun v39 h =>
    vK (aBin Try.prog BinOp.gtr 3 v39 (Value.int IntKind.i64 0)) h fun v40 h =>
    mvK v40 h fun v41 h =>
    gdK v41 false (fun k0 =>
     mvK a2 h fun v42 h =>
     k0 v42 h) (fun v42_1 h =>
     gdK v41 false (fun k1 =>
      vK (aLen Try.prog 23 v42_1) h fun v43 h =>
      k1 v43 h) (fun v43_1 h =>
      gdK v41 false (fun k2 =>
       vK (aBin Try.prog BinOp.eql 3 v43_1 (Value.int IntKind.i64 0)) h fun v44 h =>
       k2 v44 h) (fun v44_1 h =>
       vK (pickV v41 (Value.bool true) v44_1) h fun v45 h =>
       cK Try.prog 38 [v45, (Value.int IntKind.i64 10)] h fun v46 h =>
       okK (aBuildSlice Try.prog 94 3 [(0, v33), (1, v37), (2, v46)] h) fun v47 h =>
       cK Try.prog 37 [v47] h fun v48 h =>
       mvK v48 h fun v12 h =>
       mvK v12 h fun v49 h =>
       vK (aBin Try.prog BinOp.neq 25 v49 (Value.int IntKind.i64 0)) h fun v50 h =>
       cnd v50 (
        mvK v12 h fun v51 h =>
        mvK (Value.int IntKind.i64 0) h fun v6_3 h =>
        mvK v51 h fun v7_3 h =>
        retV [some v6_3, some v7_3] R h) (
        mvK a1 h fun v52 h =>
        vK (aLen Try.prog 23 v52) h fun v53 h =>
        vK (aBin Try.prog BinOp.eql 3 v53 (Value.int IntKind.i64 0)) h fun v54 h =>
        cnd v54 (
         mvK (Value.int IntKind.i64 0) h fun v6_4 h =>
         mvK (Value.int IntKind.i64 0) h fun v7_4 h =>
         retV [some v6_4, some v7_4] R h) (
         mvK v11 h fun v55 h =>
         mvK a2 h fun v56 h =>
         vK (aBuild Try.prog 75 [(0, v55), (1, v56)]) h fun v57 h =>
         okK (some (aBox Try.prog 75 v57 h)) fun v58 h =>
         mvK v58 h fun v13 h =>
         mvK v13 h fun v59 h =>
         mvK a1 h fun v60 h =>
         vK (aLen Try.prog 23 v60) h fun v61 h =>
         vK (aBin Try.prog BinOp.sub 3 v61 (Value.int IntKind.i64 1)) h fun v62 h =>
         cK Try.prog 41 [v59, (Value.int IntKind.u64 0), v62] h fun v63 h =>
         vK (aUn UnOp.not v63) h fun v64 h =>
         mvK v64 h fun v65 h =>
         gdK v65 false (fun k3 =>
          mvK v13 h fun v66 h =>
          k3 v66 h) (fun v66_1 h =>
          gdK v65 false (fun k4 =>
           vK (nilV v66_1) h fun v67 h =>
           k4 v67 h) (fun v67_1 h =>
           gdK v65 false (fun k5 =>
            vK (aFieldAddr Try.prog 75 v67_1 1) h fun v68 h =>
            k5 v68 h) (fun v68_1 h =>
            gdK v65 false (fun k6 =>
             vK (aLoad Try.prog 23 v68_1 h) h fun v69 h =>
             k6 v69 h) (fun v69_1 h =>
             gdK v65 false (fun k7 =>
              vK (aLen Try.prog 23 v69_1) h fun v70 h =>
              k7 v70 h) (fun v70_1 h =>
              gdK v65 false (fun k8 =>
               vK (aBin Try.prog BinOp.gtr 3 v70_1 (Value.int IntKind.i64 0)) h fun v71 h =>
               k8 v71 h) (fun v71_1 h =>
               vK (pickV v65 (Value.bool true) v71_1) h fun v72 h =>
               cnd v72 (
                mvK (Value.int IntKind.i64 0) h fun v6_5 h =>
                mvK (Value.int IntKind.i64 30) h fun v7_5 h =>
                retV [some v6_5, some v7_5] R h) (
                mvK a1 h fun v73 h =>
                vK (aLen Try.prog 23 v73) h fun v74 h =>
                mvK v74 h fun v6_6 h =>
                mvK (Value.int IntKind.i64 0) h fun v7_6 h =>
                retV [some v6_6, some v7_6] R h)) h) h) h) h) h) h))) h) h) h))
def lv11 (q : Nat) : List Nat := []
theorem ok11 : lkOK Try.prog lv11 Try.f11 3 (Try.f11.body.getD .skip) 11 = true := by kernel_rfl
theorem e11 (a0 a1 a2 : Value) (h : Heap) (R : Value → Heap → Prop) : n11 a0 a1 a2 h R = wpK Try.prog lv11 (Try.f11.body.getD .skip) (endK Try.prog [.tmp 6, .tmp 7] R) (argT [a0, a1, a2]) h := by kernel_rfl
theorem w11 {a0 a1 a2 : Value} {h : Heap} {R : Value → Heap → Prop} (hn : n11 a0 a1 a2 h R) : DetP Try.prog 11 [a0, a1, a2] h R :=
  DetP.of_code (rs := [.tmp 6, .tmp 7]) (n := 3) Try.func11 (by kernel_rfl) (by kernel_rfl) lv11 ok11 rfl ((e11 a0 a1 a2 h R) ▸ hn)

/-! ### examiner/examinerlaw40.Own: function 12 -/
def n12 (a0 : Value) (h : Heap) (R : Value → Heap → Prop) : Prop :=
  mvK (Value.slice none 0 0) h fun v2 h =>
  mvK (Value.slice none 0 0) h fun v3 h =>
  mvK (Value.int IntKind.i64 0) h fun v4 h =>
  ∃ (I3 : List Value → Heap → Prop) (μ3 : List Value → Heap → Nat), I3 [v3, v4] h ∧
  ∀ (h3 : Heap) (j3 : Tmps) (v3_1 : Value) (v4_1 : Value), I3 [v3_1, v4_1] h3 → (let h := h3
   mvK v4_1 h fun v5 h =>
   mvK a0 h fun v6 h =>
   vK (aLen Try.prog 22 v6) h fun v7 h =>
   vK (aBin Try.prog BinOp.lss 3 v5 v7) h fun v8 h =>
   cnd v8 (
    mvK v3_1 h fun v11 h =>
    mvK a0 h fun v12 h =>
    mvK v4_1 h fun v13 h =>
    vK (aIndexAddr Try.prog 22 v12 v13) h fun v14 h =>
    vK (aLoad Try.prog 23 v14 h) h fun v15 h =>
    cK Try.prog 13 [v15] h fun v16 h =>
    okK (aBuildSlice Try.prog 22 1 [(0, v16)] h) fun v17 h =>
    okK (aAppend Try.prog 22 22 v11 v17 h) fun v18 h =>
    mvK v18 h fun v3_2 h =>
    mvK v4_1 h fun v9 h =>
    vK (aBin Try.prog BinOp.add 3 v9 (Value.int IntKind.i64 1)) h fun v10 h =>
    mvK v10 h fun v4_2 h =>
    I3 [v3_2, v4_2] h ∧ μ3 [v3_2, v4_2] h < μ3 [v3_1, v4_1] h3) (
    mvK v3_1 h fun v19 h =>
    mvK v19 h fun v2_1 h =>
    retV [some v2_1] R h))
def lv12 (q : Nat) : List Nat := bif Nat.beq q 6 then [524280, 3, 4] else []
theorem ok12 : lkOK Try.prog lv12 Try.f12 1 (Try.f12.body.getD .skip) 12 = true := by kernel_rfl
theorem e12 (a0 : Value) (h : Heap) (R : Value → Heap → Prop) : n12 a0 h R = wpK Try.prog lv12 (Try.f12.body.getD .skip) (endK Try.prog [.tmp 2] R) (argT [a0]) h := by kernel_rfl
theorem w12 {a0 : Value} {h : Heap} {R : Value → Heap → Prop} (hn : n12 a0 h R) : DetP Try.prog 12 [a0] h R :=
  DetP.of_code (rs := [.tmp 2]) (n := 1) Try.func12 (by kernel_rfl) (by kernel_rfl) lv12 ok12 rfl ((e12 a0 h R) ▸ hn)

/-! ### examiner/examinerbase.OwnInts: function 13 -/
def n13 (a0 : Value) (h : Heap) (R : Value → Heap → Prop) : Prop :=
  mvK (Value.slice none 0 0) h fun v2 h =>
  okK (aBuildSlice Try.prog 23 0 [] h) fun v3 h =>
  mvK a0 h fun v4 h =>
  okK (aAppend Try.prog 23 23 v3 v4 h) fun v5 h =>
  mvK v5 h fun v2_1 h =>
  retV [some v2_1] R h
def lv13 (q : Nat) : List Nat := []
theorem ok13 : lkOK Try.prog lv13 Try.f13 1 (Try.f13.body.getD .skip) 13 = true := by kernel_rfl
theorem e13 (a0 : Value) (h : Heap) (R : Value → Heap → Prop) : n13 a0 h R = wpK Try.prog lv13 (Try.f13.body.getD .skip) (endK Try.prog [.tmp 2] R) (argT [a0]) h := by kernel_rfl
theorem w13 {a0 : Value} {h : Heap} {R : Value → Heap → Prop} (hn : n13 a0 h R) : DetP Try.prog 13 [a0] h R :=
  DetP.of_code (rs := [.tmp 2]) (n := 1) Try.func13 (by kernel_rfl) (by kernel_rfl) lv13 ok13 rfl ((e13 a0 h R) ▸ hn)

/-! ### examiner/examinerref40.TableErr: function 14 -/
def n14 (a0 : Value) (h : Heap) (R : Value → Heap → Prop) : Prop :=
  mvK (Value.int IntKind.i64 0) h fun v2 h =>
  mvK (Value.int IntKind.i64 0) h fun v3 h =>
  mvK a0 h fun v6 h =>
  vK (aLen Try.prog 22 v6) h fun v7 h =>
  vK (aBin Try.prog BinOp.gtr 3 v7 (Value.int IntKind.i64 12)) h fun v8 h =>
  cnd v8 (
   mvK (Value.int IntKind.i64 0) h fun v2_1 h =>
   mvK (Value.int IntKind.i64 2) h fun v3_1 h =>
   retV [some v2_1, some v3_1] R h) (
   mvK (Value.int IntKind.i64 0) h fun v4 h =>
   ∃ (I4 : List Value → Heap → Prop) (μ4 : List Value → Heap → Nat), I4 [v4] h ∧
   ∀ (h4 : Heap) (j4 : Tmps) (v4_1 : Value), I4 [v4_1] h4 → (let h := h4
    mvK v4_1 h fun v9 h =>
    mvK a0 h fun v10 h =>
    vK (aLen Try.prog 22 v10) h fun v11 h =>
    vK (aBin Try.prog BinOp.lss 3 v9 v11) h fun v12 h =>
    cnd v12 (
     mvK a0 h fun v15 h =>
     mvK v4_1 h fun v16 h =>
     vK (aIndexAddr Try.prog 22 v15 v16) h fun v17 h =>
     vK (aLoad Try.prog 23 v17 h) h fun v18 h =>
     vK (aLen Try.prog 23 v18) h fun v19 h =>
     vK (aBin Try.prog BinOp.eql 3 v19 (Value.int IntKind.i64 0)) h fun v20 h =>
     cnd v20 (
      mvK v4_1 h fun v21 h =>
      mvK v21 h fun v2_2 h =>
      mvK (Value.int IntKind.i64 1) h fun v3_2 h =>
      retV [some v2_2, some v3_2] R h) (
      mvK a0 h fun v22 h =>
      mvK v4_1 h fun v23 h =>
      vK (aIndexAddr Try.prog 22 v22 v23) h fun v24 h =>
      vK (aLoad Try.prog 23 v24 h) h fun v25 h =>
      cK Try.prog 42 [v25] h fun v26 h =>
      mvK v26 h fun v5 h =>
      mvK v5 h fun v27 h =>
      vK (aBin Try.prog BinOp.neq 3 v27 (Value.int IntKind.i64 0)) h fun v28 h =>
      cnd v28 (
       mvK v4_1 h fun v29 h =>
       mvK v5 h fun v30 h =>
       mvK v29 h fun v2_3 h =>
       mvK v30 h fun v3_3 h =>
       retV [some v2_3, some v3_3] R h) (
       mvK v4_1 h fun v13 h =>
       vK (aBin Try.prog BinOp.add 3 v13 (Value.int IntKind.i64 1)) h fun v14 h =>
       mvK v14 h fun v4_2 h =>
       I4 [v4_2] h ∧ μ4 [v4_2] h < μ4 [v4_1] h4))) (
     mvK (Value.int IntKind.i64 0) h fun v2_4 h =>
     mvK (Value.int IntKind.i64 0) h fun v3_4 h =>
     retV [some v2_4, some v3_4] R h)))
def lv14 (q : Nat) : List Nat := bif Nat.beq q 8 then [2147483196, 4] else []
theorem ok14 : lkOK Try.prog lv14 Try.f14 1 (Try.f14.body.getD .skip) 14 = true := by kernel_rfl
theorem e14 (a0 : Value) (h : Heap) (R : Value → Heap → Prop) : n14 a0 h R = wpK Try.prog lv14 (Try.f14.body.getD .skip) (endK Try.prog [.tmp 2, .tmp 3] R) (argT [a0]) h := by kernel_rfl
theorem w14 {a0 : Value} {h : Heap} {R : Value → Heap → Prop} (hn : n14 a0 h R) : DetP Try.prog 14 [a0] h R :=
  DetP.of_code (rs := [.tmp 2, .tmp 3]) (n := 1) Try.func14 (by kernel_rfl) (by kernel_rfl) lv14 ok14 rfl ((e14 a0 h R) ▸ hn)

/-! ### examiner/examinerref40.SmallestErr: function 15 -/
def n15 (a0 a1 a2 : Value) (h : Heap) (R : Value → Heap → Prop) : Prop :=
  mvK (Value.int IntKind.i64 0) h fun v6 h =>
  mvK (Value.int IntKind.i64 0) h fun v7 h =>
  mvK a1 h fun v10 h =>
  cK Try.prog 42 [v10] h fun v11 h =>
  mvK v11 h fun v8 h =>
  mvK v8 h fun v12 h =>
  vK (aBin Try.prog BinOp.neq 3 v12 (Value.int IntKind.i64 0)) h fun v13 h =>
  cnd v13 (
   mvK v8 h fun v14 h =>
   mvK (Value.int IntKind.i64 0) h fun v6_1 h =>
   mvK v14 h fun v7_1 h =>
   retV [some v6_1, some v7_1] R h) (
   mvK a0 h fun v15 h =>
   mvK a1 h fun v16 h =>
   cK Try.prog 29 [v15, v16] h fun v17 h =>
   vK (aUn UnOp.not v17) h fun v18 h =>
   cnd v18 (
    mvK (Value.int IntKind.i64 0) h fun v6_2 h =>
    mvK (Value.int IntKind.i64 11) h fun v7_2 h =>
    retV [some v6_2, some v7_2] R h) (
    mvK a2 h fun v19 h =>
    vK (aLen Try.prog 23 v19) h fun v20 h =>
    vK (aBin Try.prog BinOp.gtr 3 v20 (Value.int IntKind.i64 20000)) h fun v21 h =>
    cnd v21 (
     mvK (Value.int IntKind.i64 0) h fun v6_3 h =>
     mvK (Value.int IntKind.i64 2) h fun v7_3 h =>
     retV [some v6_3, some v7_3] R h) (
     mvK a1 h fun v22 h =>
     vK (aLen Try.prog 23 v22) h fun v23 h =>
     vK (aBin Try.prog BinOp.eql 3 v23 (Value.int IntKind.i64 0)) h fun v24 h =>
     cnd v24 (
      mvK a2 h fun v25 h =>
      vK (aLen Try.prog 23 v25) h fun v26 h =>
      vK (aBin Try.prog BinOp.gtr 3 v26 (Value.int IntKind.i64 0)) h fun v27 h =>
      cnd v27 (
       mvK (Value.int IntKind.i64 0) h fun v6_4 h =>
       mvK (Value.int IntKind.i64 10) h fun v7_4 h =>
       retV [some v6_4, some v7_4] R h) (
       mvK (Value.int IntKind.i64 0) h fun v6_5 h =>
       mvK (Value.int IntKind.i64 0) h fun v7_5 h =>
       retV [some v6_5, some v7_5] R h)) (
      mvK a2 h fun v28 h =>
      vK (aBuild Try.prog 80 [(0, v28)]) h fun v29 h =>
      okK (some (aBox Try.prog 80 v29 h)) fun v30 h =>
      mvK v30 h fun v9 h =>
      mvK v9 h fun v31 h =>
      mvK a0 h fun v32 h =>
      mvK a1 h fun v33 h =>
      vK (aLen Try.prog 23 v33) h fun v34 h =>
      vK (aBin Try.prog BinOp.sub 3 v34 (Value.int IntKind.i64 1)) h fun v35 h =>
      cK Try.prog 43 [v31, v32, (Value.slice none 0 0), v35] h fun v36 h =>
      mvK v9 h fun v37 h =>
      vK (nilV v37) h fun v38 h =>
      vK (aFieldAddr Try.prog 80 v38 2) h fun v39 h =>
      vK (aLoad Try.prog 4 v39 h) h fun v40 h =>
      mvK v40 h fun v41 h =>
      gdK v41 false (fun k0 =>
       mvK v9 h fun v42 h =>
       k0 v42 h) (fun v42_1 h =>
       gdK v41 false (fun k1 =>
        vK (nilV v42_1) h fun v43 h =>
        k1 v43 h) (fun v43_1 h =>
        gdK v41 false (fun k2 =>
         vK (aFieldAddr Try.prog 80 v43_1 1) h fun v44 h =>
         k2 v44 h) (fun v44_1 h =>
         gdK v41 false (fun k3 =>
          vK (aLoad Try.prog 3 v44_1 h) h fun v45 h =>
          k3 v45 h) (fun v45_1 h =>
          gdK v41 false (fun k4 =>
           mvK a2 h fun v46 h =>
           k4 v46 h) (fun v46_1 h =>
           gdK v41 false (fun k5 =>
            vK (aLen Try.prog 23 v46_1) h fun v47 h =>
            k5 v47 h) (fun v47_1 h =>
            gdK v41 false (fun k6 =>
             vK (aBin Try.prog BinOp.lss 3 v45_1 v47_1) h fun v48 h =>
             k6 v48 h) (fun v48_1 h =>
             vK (pickV v41 (Value.bool true) v48_1) h fun v49 h =>
             cnd v49 (
              mvK (Value.int IntKind.i64 0) h fun v6_6 h =>
              mvK (Value.int IntKind.i64 30) h fun v7_6 h =>
              retV [some v6_6, some v7_6] R h) (
              mvK a1 h fun v50 h =>
              vK (aLen Try.prog 23 v50) h fun v51 h =>
              mvK v51 h fun v6_7 h =>
              mvK (Value.int IntKind.i64 0) h fun v7_7 h =>
              retV [some v6_7, some v7_7] R h)) h) h) h) h) h) h) h))))
def lv15 (q : Nat) : List Nat := []
theorem ok15 : lkOK Try.prog lv15 Try.f15 3 (Try.f15.body.getD .skip) 15 = true := by kernel_rfl
theorem e15 (a0 a1 a2 : Value) (h : Heap) (R : Value → Heap → Prop) : n15 a0 a1 a2 h R = wpK Try.prog lv15 (Try.f15.body.getD .skip) (endK Try.prog [.tmp 6, .tmp 7] R) (argT [a0, a1, a2]) h := by kernel_rfl
theorem w15 {a0 a1 a2 : Value} {h : Heap} {R : Value → Heap → Prop} (hn : n15 a0 a1 a2 h R) : DetP Try.prog 15 [a0, a1, a2] h R :=
  DetP.of_code (rs := [.tmp 6, .tmp 7]) (n := 3) Try.func15 (by kernel_rfl) (by kernel_rfl) lv15 ok15 rfl ((e15 a0 a1 a2 h R) ▸ hn)

/-! ### examiner/suite.CheckTable: function 24 -/
def n24 (a0 : Value) (h : Heap) (R : Value → Heap → Prop) : Prop :=
  mvK (Value.int IntKind.i64 0) h fun v2 h =>
  mvK (Value.int IntKind.i64 0) h fun v3 h =>
  mvK a0 h fun v7 h =>
  vK (aLen Try.prog 22 v7) h fun v8 h =>
  vK (aBin Try.prog BinOp.gtr 3 v8 (Value.int IntKind.i64 12)) h fun v9 h =>
  cnd v9 (
   mvK (Value.int IntKind.i64 0) h fun v2_1 h =>
   mvK (Value.int IntKind.i64 2) h fun v3_1 h =>
   retV [some v2_1, some v3_1] R h) (
   mvK a0 h fun v10 h =>
   vK (aLen Try.prog 22 v10) h fun v11 h =>
   mvK (Value.int IntKind.i64 0) h fun v12 h =>
   ∃ (I4 : List Value → Heap → Prop) (μ4 : List Value → Heap → Nat), I4 [v12] h ∧
   ∀ (h4 : Heap) (j4 : Tmps) (v12_1 : Value), I4 [v12_1] h4 → (let h := h4
    vK (aBin Try.prog BinOp.lss 3 v12_1 v11) h fun v13 h =>
    cnd v13 (
     mvK v12_1 h fun v14 h =>
     vK (aIndexAddr Try.prog 22 v10 v12_1) h fun v15 h =>
     vK (aLoad Try.prog 23 v15 h) h fun v16 h =>
     mvK v14 h fun v4 h =>
     mvK v16 h fun v5 h =>
     mvK v5 h fun v17 h =>
     vK (aLen Try.prog 23 v17) h fun v18 h =>
     vK (aBin Try.prog BinOp.gtr 3 v18 (Value.int IntKind.i64 0)) h fun v19 h =>
     cK Try.prog 38 [v19, (Value.int IntKind.i64 1)] h fun v20 h =>
     mvK v5 h fun v21 h =>
     cK Try.prog 35 [v21] h fun v22 h =>
     okK (aBuildSlice Try.prog 94 2 [(0, v20), (1, v22)] h) fun v23 h =>
     cK Try.prog 37 [v23] h fun v24 h =>
     mvK v24 h fun v6 h =>
     mvK v6 h fun v25 h =>
     vK (aBin Try.prog BinOp.neq 25 v25 (Value.int IntKind.i64 0)) h fun v26 h =>
     cnd v26 (
      mvK v4 h fun v27 h =>
      mvK v6 h fun v28 h =>
      mvK v27 h fun v2_2 h =>
      mvK v28 h fun v3_2 h =>
      retV [some v2_2, some v3_2] R h) (
      vK (aBin Try.prog BinOp.add 3 v12_1 (Value.int IntKind.i64 1)) h fun v29 h =>
      mvK v29 h fun v12_2 h =>
      I4 [v12_2] h ∧ μ4 [v12_2] h < μ4 [v12_1] h4)) (
     mvK (Value.int IntKind.i64 0) h fun v2_3 h =>
     mvK (Value.int IntKind.i64 0) h fun v3_3 h =>
     retV [some v2_3, some v3_3] R h)))
def lv24 (q : Nat) : List Nat := bif Nat.beq q 8 then [1073737852, 12] else []
theorem ok24 : lkOK Try.prog lv24 Try.f24 1 (Try.f24.body.getD .skip) 24 = true := by kernel_rfl
theorem e24 (a0 : Value) (h : Heap) (R : Value → Heap → Prop) : n24 a0 h R = wpK Try.prog lv24 (Try.f24.body.getD .skip) (endK Try.prog [.tmp 2, .tmp 3] R) (argT [a0]) h := by kernel_rfl
theorem w24 {a0 : Value} {h : Heap} {R : Value → Heap → Prop} (hn : n24 a0 h R) : DetP Try.prog 24 [a0] h R :=
  DetP.of_code (rs := [.tmp 2, .tmp 3]) (n := 1) Try.func24 (by kernel_rfl) (by kernel_rfl) lv24 ok24 rfl ((e24 a0 h R) ▸ hn)

/-! ### examiner/suite.GreedyOf: function 25 -/
def n25 (a0 : Value) (h : Heap) (R : Value → Heap → Prop) : Prop :=
  mvK (Value.slice none 0 0) h fun v2 h =>
  mvK (Value.int IntKind.i64 0) h fun v3 h =>
  mvK a0 h fun v16 h =>
  cK Try.prog 24 [v16] h fun v17 h =>
  mvK v17 h fun v15 h =>
  vK (aExtract v15 0) h fun v18 h =>
  vK (aExtract v15 1) h fun v19 h =>
  mvK v18 h fun v4 h =>
  mvK v19 h fun v5 h =>
  mvK v5 h fun v20 h =>
  vK (aBin Try.prog BinOp.neq 25 v20 (Value.int IntKind.i64 0)) h fun v21 h =>
  cnd v21 (
   mvK v5 h fun v22 h =>
   mvK (Value.slice none 0 0) h fun v2_1 h =>
   mvK v22 h fun v3_1 h =>
   retV [some v2_1, some v3_1] R h) (
   mvK a0 h fun v23 h =>
   cK Try.prog 36 [v23] h fun v24 h =>
   mvK v24 h fun v6 h =>
   mvK (Value.slice none 0 0) h fun v7 h =>
   mvK (Value.int IntKind.u64 0) h fun v8 h =>
   mvK (Value.int IntKind.i64 0) h fun v25 h =>
   ∃ (I8 : List Value → Heap → Prop) (μ8 : List Value → Heap → Nat), I8 [v7, v8, v25] h ∧
   ∀ (h8 : Heap) (j8 : Tmps) (v7_1 : Value) (v8_1 : Value) (v25_1 : Value), I8 [v7_1, v8_1, v25_1] h8 → (let h := h8
    vK (aBin Try.prog BinOp.lss 3 v25_1 (Value.int IntKind.i64 12)) h fun v26 h =>
    cnd v26 (
     mvK (Value.int IntKind.i64 (-1)) h fun v9 h =>
     mvK (Value.int IntKind.i64 (-1)) h fun v10 h =>
     mvK (Value.int IntKind.i64 0) h fun v27 h =>
     ∃ (I11 : List Value → Heap → Prop) (μ11 : List Value → Heap → Nat), I11 [v9, v10, v27] h ∧
     ∀ (h11 : Heap) (j11 : Tmps) (v9_1 : Value) (v10_1 : Value) (v27_1 : Value), I11 [v9_1, v10_1, v27_1] h11 → (let h := h11
      vK (aBin Try.prog BinOp.lss 3 v27_1 (Value.int IntKind.i64 12)) h fun v28 h =>
      cnd v28 (
       seqK (fun k0 =>
        mvK v27_1 h fun v29 h =>
        mvK v29 h fun v11 h =>
        mvK v8_1 h fun v30 h =>
        mvK v11 h fun v31 h =>
        vK (aBin Try.prog BinOp.shr 71 v30 v31) h fun v32 h =>
        vK (aBin Try.prog BinOp.and 71 v32 (Value.int IntKind.u64 1)) h fun v33 h =>
        vK (aBin Try.prog BinOp.eql 71 v33 (Value.int IntKind.u64 1)) h fun v34 h =>
        cnd v34 (
         k0 [v9_1, v10_1] h) (
         mvK (Value.int IntKind.i64 0) h fun v12 h =>
         mvK v6 h fun v35 h =>
         vK (aLen Try.prog 65 v35) h fun v36 h =>
         mvK (Value.int IntKind.i64 0) h fun v37 h =>
         ∃ (I16 : List Value → Heap → Prop) (μ16 : List Value → Heap → Nat), I16 [v12, v37] h ∧
         ∀ (h16 : Heap) (j16 : Tmps) (v12_1 : Value) (v37_1 : Value), I16 [v12_1, v37_1] h16 → (let h := h16
          vK (aBin Try.prog BinOp.lss 3 v37_1 v36) h fun v38 h =>
          cnd v38 (
           seqK (fun k1 =>
            vK (aIndexAddr Try.prog 65 v35 v37_1) h fun v39 h =>
            vK (aLoad Try.prog 71 v39 h) h fun v40 h =>
            mvK v40 h fun v14 h =>
            mvK v14 h fun v41 h =>
            mvK v8_1 h fun v42 h =>
            vK (aBin Try.prog BinOp.and 71 v41 v42) h fun v43 h =>
            vK (aBin Try.prog BinOp.eql 71 v43 (Value.int IntKind.u64 0)) h fun v44 h =>
            mvK v44 h fun v45 h =>
            gdK v45 true (fun k2 =>
             mvK v14 h fun v46 h =>
             k2 v46 h) (fun v46_1 h =>
             gdK v45 true (fun k3 =>
              mvK v11 h fun v47 h =>
              k3 v47 h) (fun v47_1 h =>
              gdK v45 true (fun k4 =>
               vK (aBin Try.prog BinOp.shr 71 v46_1 v47_1) h fun v48 h =>
               k4 v48 h) (fun v48_1 h =>
               gdK v45 true (fun k5 =>
                vK (aBin Try.prog BinOp.and 71 v48_1 (Value.int IntKind.u64 1)) h fun v49 h =>
                k5 v49 h) (fun v49_1 h =>
                gdK v45 true (fun k6 =>
                 vK (aBin Try.prog BinOp.eql 71 v49_1 (Value.int IntKind.u64 1)) h fun v50 h =>
                 k6 v50 h) (fun v50_1 h =>
                 vK (pickV v45 v50_1 (Value.bool false)) h fun v51 h =>
                 cnd v51 (
                  mvK v12_1 h fun v52 h =>
                  vK (aBin Try.prog BinOp.add 3 v52 (Value.int IntKind.i64 1)) h fun v53 h =>
                  mvK v53 h fun v12_2 h =>
                  k1 [v12_2] h) (
                  k1 [v12_1] h)) h) h) h) h) h) fun x1 h => ∀ jx1 : Tmps,
            let v12_3 : Value := nth x1 0
            vK (aBin Try.prog BinOp.add 3 v37_1 (Value.int IntKind.i64 1)) h fun v54 h =>
            mvK v54 h fun v37_2 h =>
            I16 [v12_3, v37_2] h ∧ μ16 [v12_3, v37_2] h < μ16 [v12_1, v37_1] h16) (
           mvK v12_1 h fun v55 h =>
           mvK v10_1 h fun v56 h =>
           vK (aBin Try.prog BinOp.gtr 3 v55 v56) h fun v57 h =>
           cnd v57 (
            mvK v11 h fun v58 h =>
            mvK v12_1 h fun v59 h =>
            mvK v58 h fun v9_2 h =>
            mvK v59 h fun v10_2 h =>
            k0 [v9_2, v10_2] h) (
            k0 [v9_1, v10_1] h))))) fun x0 h => ∀ jx0 : Tmps,
        let v9_3 : Value := nth x0 0
        let v10_3 : Value := nth x0 1
        vK (aBin Try.prog BinOp.add 3 v27_1 (Value.int IntKind.i64 1)) h fun v60 h =>
        mvK v60 h fun v27_2 h =>
        I11 [v9_3, v10_3, v27_2] h ∧ μ11 [v9_3, v10_3, v27_2] h < μ11 [v9_1, v10_1, v27_1] h11) (
       mvK v7_1 h fun v61 h =>
       mvK v9_1 h fun v62 h =>
       okK (aBuildSlice Try.prog 23 1 [(0, v62)] h) fun v63 h =>
       okK (aAppend Try.prog 23 23 v61 v63 h) fun v64 h =>
       (True) ∧ (
        mvK v8_1 h fun v65 h =>
        mvK v9_1 h fun v66 h =>
        vK (aBin Try.prog BinOp.shl 71 (Value.int IntKind.u64 1) v66) h fun v67 h =>
        vK (aBin Try.prog BinOp.or 71 v65 v67) h fun v68 h =>
        mvK v64 h fun v7_2 h =>
        mvK v68 h fun v8_2 h =>
        vK (aBin Try.prog BinOp.add 3 v25_1 (Value.int IntKind.i64 1)) h fun v69 h =>
        mvK v69 h fun v25_2 h =>
        I8 [v7_2, v8_2, v25_2] h ∧ μ8 [v7_2, v8_2, v25_2] h < μ8 [v7_1, v8_1, v25_1] h8)))) (
     mvK v7_1 h fun v70 h =>
     mvK v70 h fun v2_2 h =>
     mvK (Value.int IntKind.i64 0) h fun v3_2 h =>
     retV [some v2_2, some v3_2] R h)))
def lv25 (q : Nat) : List Nat := bif Nat.beq q 16 then [1180591620717377773440, 7, 8, 25] else bif Nat.beq q 22 then [2305843009079500288, 9, 10, 27] else bif Nat.beq q 32 then [36028659580030976, 12, 37] else bif Nat.beq q 41 then [18013848753688576, 12] else bif Nat.beq q 47 then [1152921504070000128, 9, 10] else []
theorem ok25 : lkOK Try.prog lv25 Try.f25 1 (Try.f25.body.getD .skip) 25 = true := by kernel_rfl
theorem e25 (a0 : Value) (h : Heap) (R : Value → Heap → Prop) : n25 a0 h R = wpK Try.prog lv25 (Try.f25.body.getD .skip) (endK Try.prog [.tmp 2, .tmp 3] R) (argT [a0]) h := by kernel_rfl
theorem w25 {a0 : Value} {h : Heap} {R : Value → Heap → Prop} (hn : n25 a0 h R) : DetP Try.prog 25 [a0] h R :=
  DetP.of_code (rs := [.tmp 2, .tmp 3]) (n := 1) Try.func25 (by kernel_rfl) (by kernel_rfl) lv25 ok25 rfl ((e25 a0 h R) ▸ hn)

/-! ### examiner/examinerbase.SameInts: function 26 -/
def n26 (a0 a1 : Value) (h : Heap) (R : Value → Heap → Prop) : Prop :=
  mvK (Value.bool false) h fun v4 h =>
  mvK a0 h fun v6 h =>
  vK (aLen Try.prog 23 v6) h fun v7 h =>
  mvK a1 h fun v8 h =>
  vK (aLen Try.prog 23 v8) h fun v9 h =>
  vK (aBin Try.prog BinOp.neq 3 v7 v9) h fun v10 h =>
  cnd v10 (
   mvK (Value.bool false) h fun v4_1 h =>
   retV [some v4_1] R h) (
   mvK (Value.int IntKind.i64 0) h fun v5 h =>
   ∃ (I4 : List Value → Heap → Prop) (μ4 : List Value → Heap → Nat), I4 [v5] h ∧
   ∀ (h4 : Heap) (j4 : Tmps) (v5_1 : Value), I4 [v5_1] h4 → (let h := h4
    mvK v5_1 h fun v11 h =>
    mvK a0 h fun v12 h =>
    vK (aLen Try.prog 23 v12) h fun v13 h =>
    vK (aBin Try.prog BinOp.lss 3 v11 v13) h fun v14 h =>
    cnd v14 (
     mvK a0 h fun v17 h =>
     mvK v5_1 h fun v18 h =>
     vK (aIndexAddr Try.prog 23 v17 v18) h fun v19 h =>
     vK (aLoad Try.prog 3 v19 h) h fun v20 g =>
     VB h.length v20 ∧ (let h := g
      mvK a1 h fun v21 h =>
      mvK v5_1 h fun v22 h =>
      vK (aIndexAddr Try.prog 23 v21 v22) h fun v23 h =>
      vK (aLoad Try.prog 3 v23 h) h fun v24 g =>
      VB h.length v24 ∧ (let h := g
       vK (aBin Try.prog BinOp.neq 3 v20 v24) h fun v25 h =>
       cnd v25 (
        mvK (Value.bool false) h fun v4_2 h =>
        retV [some v4_2] R h) (
        mvK v5_1 h fun v15 h =>
        vK (aBin Try.prog BinOp.add 3 v15 (Value.int IntKind.i64 1)) h fun v16 h =>
        mvK v16 h fun v5_2 h =>
        I4 [v5_2] h ∧ μ4 [v5_2] h < μ4 [v5_1] h4)))) (
     mvK (Value.bool true) h fun v4_3 h =>
     retV [some v4_3] R h)))
def lv26 (q : Nat) : List Nat := bif Nat.beq q 8 then [67106864, 5] else []
theorem ok26 : lkOK Try.prog lv26 Try.f26 2 (Try.f26.body.getD .skip) 26 = true := by kernel_rfl
theorem e26 (a0 a1 : Value) (h : Heap) (R : Value → Heap → Prop) : n26 a0 a1 h R = wpK Try.prog lv26 (Try.f26.body.getD .skip) (endK Try.prog [.tmp 4] R) (argT [a0, a1]) h := by kernel_rfl
theorem w26 {a0 a1 : Value} {h : Heap} {R : Value → Heap → Prop} (hn : n26 a0 a1 h R) : DetP Try.prog 26 [a0, a1] h R :=
  DetP.of_code (rs := [.tmp 4]) (n := 2) Try.func26 (by kernel_rfl) (by kernel_rfl) lv26 ok26 rfl ((e26 a0 a1 h R) ▸ hn)

/-! ### examiner/examinerref40.Greedy: function 27 -/
def n27 (a0 : Value) (h : Heap) (R : Value → Heap → Prop) : Prop :=
  mvK (Value.slice none 0 0) h fun v2 h =>
  mvK (Value.slice none 0 0) h fun v3 h =>
  ∃ (I2 : List Value → Heap → Prop) (μ2 : List Value → Heap → Nat), I2 [v3] h ∧
  ∀ (h2 : Heap) (j2 : Tmps) (v3_1 : Value), I2 [v3_1] h2 → (let h := h2
   mvK v3_1 h fun v9 h =>
   vK (aLen Try.prog 23 v9) h fun v10 h =>
   vK (aBin Try.prog BinOp.lss 3 v10 (Value.int IntKind.i64 12)) h fun v11 h =>
   cnd v11 (
    mvK (Value.int IntKind.i64 (-1)) h fun v4 h =>
    mvK (Value.int IntKind.i64 (-1)) h fun v5 h =>
    mvK (Value.int IntKind.i64 0) h fun v6 h =>
    ∃ (I5 : List Value → Heap → Prop) (μ5 : List Value → Heap → Nat), I5 [v4, v5, v6] h ∧
    ∀ (h5 : Heap) (j5 : Tmps) (v4_1 : Value) (v5_1 : Value) (v6_1 : Value), I5 [v4_1, v5_1, v6_1] h5 → (let h := h5
     mvK v6_1 h fun v12 h =>
     vK (aBin Try.prog BinOp.lss 3 v12 (Value.int IntKind.i64 12)) h fun v13 h =>
     cnd v13 (
      seqK (fun k0 =>
       mvK (Value.int IntKind.i64 0) h fun v7 h =>
       mvK (Value.int IntKind.i64 0) h fun v8 h =>
       ∃ (I9 : List Value → Heap → Prop) (μ9 : List Value → Heap → Nat), I9 [v7, v8] h ∧
       ∀ (h9 : Heap) (j9 : Tmps) (v7_1 : Value) (v8_1 : Value), I9 [v7_1, v8_1] h9 → (let h := h9
        mvK v8_1 h fun v16 h =>
        mvK a0 h fun v17 h =>
        vK (aLen Try.prog 22 v17) h fun v18 h =>
        vK (aBin Try.prog BinOp.lss 3 v16 v18) h fun v19 h =>
        cnd v19 (
         mvK v7_1 h fun v22 h =>
         mvK a0 h fun v23 h =>
         mvK v8_1 h fun v24 h =>
         vK (aIndexAddr Try.prog 22 v23 v24) h fun v25 h =>
         vK (aLoad Try.prog 23 v25 h) h fun v26 h =>
         mvK v6_1 h fun v27 h =>
         cK Try.prog 51 [v26, v27] h fun v28 h =>
         mvK v28 h fun v29 h =>
         gdK v29 true (fun k1 =>
          mvK a0 h fun v30 h =>
          k1 v30 h) (fun v30_1 h =>
          gdK v29 true (fun k2 =>
           mvK v8_1 h fun v31 h =>
           k2 v31 h) (fun v31_1 h =>
           gdK v29 true (fun k3 =>
            vK (aIndexAddr Try.prog 22 v30_1 v31_1) h fun v32 h =>
            k3 v32 h) (fun v32_1 h =>
            gdK v29 true (fun k4 =>
             vK (aLoad Try.prog 23 v32_1 h) h fun v33 h =>
             k4 v33 h) (fun v33_1 h =>
             gdK v29 true (fun k5 =>
              mvK v3_1 h fun v34 h =>
              k5 v34 h) (fun v34_1 h =>
              gdK v29 true (fun k6 =>
               cK Try.prog 52 [v33_1, v34_1] h fun v35 h =>
               k6 v35 h) (fun v35_1 h =>
               gdK v29 true (fun k7 =>
                vK (aUn UnOp.not v35_1) h fun v36 h =>
                k7 v36 h) (fun v36_1 h =>
                vK (pickV v29 v36_1 (Value.bool false)) h fun v37 h =>
                cK Try.prog 50 [v37] h fun v38 h =>
                vK (aBin Try.prog BinOp.add 3 v22 v38) h fun v39 h =>
                mvK v39 h fun v7_2 h =>
                mvK v8_1 h fun v20 h =>
                vK (aBin Try.prog BinOp.add 3 v20 (Value.int IntKind.i64 1)) h fun v21 h =>
                mvK v21 h fun v8_2 h =>
                I9 [v7_2, v8_2] h ∧ μ9 [v7_2, v8_2] h < μ9 [v7_1, v8_1] h9) h) h) h) h) h) h) h) (
         mvK v3_1 h fun v40 h =>
         mvK v6_1 h fun v41 h =>
         cK Try.prog 51 [v40, v41] h fun v42 h =>
         vK (aUn UnOp.not v42) h fun v43 h =>
         mvK v43 h fun v44 h =>
         gdK v44 true (fun k8 =>
          mvK v7_1 h fun v45 h =>
          k8 v45 h) (fun v45_1 h =>
          gdK v44 true (fun k9 =>
           mvK v5_1 h fun v46 h =>
           k9 v46 h) (fun v46_1 h =>
           gdK v44 true (fun k10 =>
            vK (aBin Try.prog BinOp.gtr 3 v45_1 v46_1) h fun v47 h =>
            k10 v47 h) (fun v47_1 h =>
            vK (pickV v44 v47_1 (Value.bool false)) h fun v48 h =>
            cnd v48 (
             mvK v6_1 h fun v49 h =>
             mvK v7_1 h fun v50 h =>
             mvK v49 h fun v4_2 h =>
             mvK v50 h fun v5_2 h =>
             k0 [v4_2, v5_2] h) (
             k0 [v4_1, v5_1] h)) h) h) h))) fun x0 h => ∀ jx0 : Tmps,
       let v4_3 : Value := nth x0 0
       let v5_3 : Value := nth x0 1
       mvK v6_1 h fun v14 h =>
       vK (aBin Try.prog BinOp.add 3 v14 (Value.int IntKind.i64 1)) h fun v15 h =>
       mvK v15 h fun v6_2 h =>
       I5 [v4_3, v5_3, v6_2] h ∧ μ5 [v4_3, v5_3, v6_2] h < μ5 [v4_1, v5_1, v6_1] h5) (
      mvK v3_1 h fun v51 h =>
      mvK v4_1 h fun v52 h =>
      okK (aBuildSlice Try.prog 23 1 [(0, v52)] h) fun v53 h =>
      okK (aAppend Try.prog 23 23 v51 v53 h) fun v54 h =>
      mvK v54 h fun v3_2 h =>
      I2 [v3_2] h ∧ μ2 [v3_2] h < μ2 [v3_1] h2))) (
    mvK v3_1 h fun v55 h =>
    mvK v55 h fun v2_1 h =>
    retV [some v2_1] R h))
def lv27 (q : Nat) : List Nat := bif Nat.beq q 4 then [36028797018963960, 3] else bif Nat.beq q 10 then [2251799813681648, 4, 5, 6] else bif Nat.beq q 13 then [2251799813620144, 4, 5] else bif Nat.beq q 18 then [1099511562624, 7, 8] else []
theorem ok27 : lkOK Try.prog lv27 Try.f27 1 (Try.f27.body.getD .skip) 27 = true := by kernel_rfl
theorem e27 (a0 : Value) (h : Heap) (R : Value → Heap → Prop) : n27 a0 h R = wpK Try.prog lv27 (Try.f27.body.getD .skip) (endK Try.prog [.tmp 2] R) (argT [a0]) h := by kernel_rfl
theorem w27 {a0 : Value} {h : Heap} {R : Value → Heap → Prop} (hn : n27 a0 h R) : DetP Try.prog 27 [a0] h R :=
  DetP.of_code (rs := [.tmp 2]) (n := 1) Try.func27 (by kernel_rfl) (by kernel_rfl) lv27 ok27 rfl ((e27 a0 h R) ▸ hn)

/-! ### examiner/examinerref40.IsChoice: function 29 -/
def n29 (a0 a1 : Value) (h : Heap) (R : Value → Heap → Prop) : Prop :=
  mvK (Value.bool false) h fun v4 h =>
  mvK (Value.int IntKind.i64 0) h fun v5 h =>
  ∃ (I2 : List Value → Heap → Prop) (μ2 : List Value → Heap → Nat), I2 [v5] h ∧
  ∀ (h2 : Heap) (j2 : Tmps) (v5_1 : Value), I2 [v5_1] h2 → (let h := h2
   mvK v5_1 h fun v6 h =>
   mvK a0 h fun v7 h =>
   vK (aLen Try.prog 22 v7) h fun v8 h =>
   vK (aBin Try.prog BinOp.lss 3 v6 v8) h fun v9 h =>
   cnd v9 (
    mvK a0 h fun v12 h =>
    mvK v5_1 h fun v13 h =>
    vK (aIndexAddr Try.prog 22 v12 v13) h fun v14 h =>
    vK (aLoad Try.prog 23 v14 h) h fun v15 h =>
    mvK a1 h fun v16 h =>
    cK Try.prog 52 [v15, v16] h fun v17 h =>
    vK (aUn UnOp.not v17) h fun v18 h =>
    cnd v18 (
     mvK (Value.bool false) h fun v4_1 h =>
     retV [some v4_1] R h) (
     mvK v5_1 h fun v10 h =>
     vK (aBin Try.prog BinOp.add 3 v10 (Value.int IntKind.i64 1)) h fun v11 h =>
     mvK v11 h fun v5_2 h =>
     I2 [v5_2] h ∧ μ2 [v5_2] h < μ2 [v5_1] h2)) (
    mvK (Value.bool true) h fun v4_2 h =>
    retV [some v4_2] R h))
def lv29 (q : Nat) : List Nat := bif Nat.beq q 4 then [524272, 5] else []
theorem ok29 : lkOK Try.prog lv29 Try.f29 2 (Try.f29.body.getD .skip) 29 = true := by kernel_rfl
theorem e29 (a0 a1 : Value) (h : Heap) (R : Value → Heap → Prop) : n29 a0 a1 h R = wpK Try.prog lv29 (Try.f29.body.getD .skip) (endK Try.prog [.tmp 4] R) (argT [a0, a1]) h := by kernel_rfl
theorem w29 {a0 a1 : Value} {h : Heap} {R : Value → Heap → Prop} (hn : n29 a0 a1 h R) : DetP Try.prog 29 [a0, a1] h R :=
  DetP.of_code (rs := [.tmp 4]) (n := 2) Try.func29 (by kernel_rfl) (by kernel_rfl) lv29 ok29 rfl ((e29 a0 a1 h R) ▸ hn)

/-! ### examiner/suite.testsErr: function 35 -/
def n35 (a0 : Value) (h : Heap) (R : Value → Heap → Prop) : Prop :=
  mvK (Value.int IntKind.i64 0) h fun v2 h =>
  mvK a0 h fun v5 h =>
  vK (aLen Try.prog 23 v5) h fun v6 h =>
  mvK (Value.int IntKind.i64 0) h fun v7 h =>
  ∃ (I2 : List Value → Heap → Prop) (μ2 : List Value → Heap → Nat), I2 [v7] h ∧
  ∀ (h2 : Heap) (j2 : Tmps) (v7_1 : Value), I2 [v7_1] h2 → (let h := h2
   vK (aBin Try.prog BinOp.lss 3 v7_1 v6) h fun v8 h =>
   cnd v8 (
    mvK v7_1 h fun v9 h =>
    vK (aIndexAddr Try.prog 23 v5 v7_1) h fun v10 h =>
    vK (aLoad Try.prog 3 v10 h) h fun v11 h =>
    mvK v9 h fun v3 h =>
    mvK v11 h fun v4 h =>
    mvK v4 h fun v12 h =>
    cK Try.prog 58 [v12, (Value.int IntKind.i64 0), (Value.int IntKind.i64 11)] h fun v13 h =>
    vK (aUn UnOp.not v13) h fun v14 h =>
    cnd v14 (
     mvK (Value.int IntKind.i64 3) h fun v2_1 h =>
     retV [some v2_1] R h) (
     mvK v3 h fun v15 h =>
     vK (aBin Try.prog BinOp.gtr 3 v15 (Value.int IntKind.i64 0)) h fun v16 h =>
     mvK v16 h fun v17 h =>
     gdK v17 true (fun k0 =>
      mvK v4 h fun v18 h =>
      k0 v18 h) (fun v18_1 h =>
      gdK v17 true (fun k1 =>
       mvK a0 h fun v19 h =>
       k1 v19 h) (fun v19_1 h =>
       gdK v17 true (fun k2 =>
        mvK v3 h fun v20 h =>
        k2 v20 h) (fun v20_1 h =>
        gdK v17 true (fun k3 =>
         vK (aBin Try.prog BinOp.sub 3 v20_1 (Value.int IntKind.i64 1)) h fun v21 h =>
         k3 v21 h) (fun v21_1 h =>
         gdK v17 true (fun k4 =>
          vK (aIndexAddr Try.prog 23 v19_1 v21_1) h fun v22 h =>
          k4 v22 h) (fun v22_1 h =>
          gdK v17 true (fun k5 =>
           vK (aLoad Try.prog 3 v22_1 h) h fun v23 h =>
           k5 v23 h) (fun v23_1 h =>
           gdK v17 true (fun k6 =>
            vK (aBin Try.prog BinOp.leq 3 v18_1 v23_1) h fun v24 h =>
            k6 v24 h) (fun v24_1 h =>
            vK (pickV v17 v24_1 (Value.bool false)) h fun v25 h =>
            cnd v25 (
             mvK (Value.int IntKind.i64 14) h fun v2_2 h =>
             retV [some v2_2] R h) (
             vK (aBin Try.prog BinOp.add 3 v7_1 (Value.int IntKind.i64 1)) h fun v26 h =>
             mvK v26 h fun v7_2 h =>
             I2 [v7_2] h ∧ μ2 [v7_2] h < μ2 [v7_1] h2)) h) h) h) h) h) h) h)) (
    mvK (Value.int IntKind.i64 0) h fun v2_3 h =>
    retV [some v2_3] R h))
def lv35 (q : Nat) : List Nat := bif Nat.beq q 4 then [134217628, 7] else []
theorem ok35 : lkOK Try.prog lv35 Try.f35 1 (Try.f35.body.getD .skip) 35 = true := by kernel_rfl
theorem e35 (a0 : Value) (h : Heap) (R : Value → Heap → Prop) : n35 a0 h R = wpK Try.prog lv35 (Try.f35.body.getD .skip) (endK Try.prog [.tmp 2] R) (argT [a0]) h := by kernel_rfl
theorem w35 {a0 : Value} {h : Heap} {R : Value → Heap → Prop} (hn : n35 a0 h R) : DetP Try.prog 35 [a0] h R :=
  DetP.of_code (rs := [.tmp 2]) (n := 1) Try.func35 (by kernel_rfl) (by kernel_rfl) lv35 ok35 rfl ((e35 a0 h R) ▸ hn)

/-! ### examiner/suite.rowsOf: function 36 -/
def n36 (a0 : Value) (h : Heap) (R : Value → Heap → Prop) : Prop :=
  mvK (Value.slice none 0 0) h fun v2 h =>
  mvK (Value.slice none 0 0) h fun v3 h =>
  mvK a0 h fun v6 h =>
  vK (aLen Try.prog 22 v6) h fun v7 h =>
  mvK (Value.int IntKind.i64 0) h fun v8 h =>
  ∃ (I3 : List Value → Heap → Prop) (μ3 : List Value → Heap → Nat), I3 [v3, v8] h ∧
  ∀ (h3 : Heap) (j3 : Tmps) (v3_1 : Value) (v8_1 : Value), I3 [v3_1, v8_1] h3 → (let h := h3
   vK (aBin Try.prog BinOp.lss 3 v8_1 v7) h fun v9 h =>
   cnd v9 (
    vK (aIndexAddr Try.prog 22 v6 v8_1) h fun v10 h =>
    vK (aLoad Try.prog 23 v10 h) h fun v11 h =>
    mvK v11 h fun v5 h =>
    mvK v3_1 h fun v12 h =>
    mvK v5 h fun v13 h =>
    cK Try.prog 40 [v13] h fun v14 h =>
    okK (aBuildSlice Try.prog 65 1 [(0, v14)] h) fun v15 h =>
    okK (aAppend Try.prog 65 65 v12 v15 h) fun v16 h =>
    mvK v16 h fun v3_2 h =>
    vK (aBin Try.prog BinOp.add 3 v8_1 (Value.int IntKind.i64 1)) h fun v17 h =>
    mvK v17 h fun v8_2 h =>
    I3 [v3_2, v8_2] h ∧ μ3 [v3_2, v8_2] h < μ3 [v3_1, v8_1] h3) (
    mvK v3_1 h fun v18 h =>
    mvK v18 h fun v2_1 h =>
    retV [some v2_1] R h))
def lv36 (q : Nat) : List Nat := bif Nat.beq q 6 then [261928, 3, 8] else []
theorem ok36 : lkOK Try.prog lv36 Try.f36 1 (Try.f36.body.getD .skip) 36 = true := by kernel_rfl
theorem e36 (a0 : Value) (h : Heap) (R : Value → Heap → Prop) : n36 a0 h R = wpK Try.prog lv36 (Try.f36.body.getD .skip) (endK Try.prog [.tmp 2] R) (argT [a0]) h := by kernel_rfl
theorem w36 {a0 : Value} {h : Heap} {R : Value → Heap → Prop} (hn : n36 a0 h R) : DetP Try.prog 36 [a0] h R :=
  DetP.of_code (rs := [.tmp 2]) (n := 1) Try.func36 (by kernel_rfl) (by kernel_rfl) lv36 ok36 rfl ((e36 a0 h R) ▸ hn)

/-! ### cmp.Or[examiner/api.Errno]: function 37 -/
def n37 (a0 : Value) (h : Heap) (R : Value → Heap → Prop) : Prop :=
  mvK (Value.int IntKind.i64 0) h fun v2 h =>
  mvK (Value.int IntKind.i64 0) h fun v3 h =>
  mvK a0 h fun v6 h =>
  vK (aLen Try.prog 94 v6) h fun v7 h =>
  mvK (Value.int IntKind.i64 0) h fun v8 h =>
  ∃ (I3 : List Value → Heap → Prop) (μ3 : List Value → Heap → Nat), I3 [v8] h ∧
  ∀ (h3 : Heap) (j3 : Tmps) (v8_1 : Value), I3 [v8_1] h3 → (let h := h3
   vK (aBin Try.prog BinOp.lss 3 v8_1 v7) h fun v9 h =>
   cnd v9 (
    vK (aIndexAddr Try.prog 94 v6 v8_1) h fun v10 h =>
    vK (aLoad Try.prog 25 v10 h) h fun v11 h =>
    mvK v11 h fun v5 h =>
    mvK v5 h fun v12 h =>
    mvK v3 h fun v13 h =>
    vK (aBin Try.prog BinOp.neq 25 v12 v13) h fun v14 h =>
    cnd v14 (
     mvK v5 h fun v15 h =>
     mvK v15 h fun v2_1 h =>
     retV [some v2_1] R h) (
     vK (aBin Try.prog BinOp.add 3 v8_1 (Value.int IntKind.i64 1)) h fun v16 h =>
     mvK v16 h fun v8_2 h =>
     I3 [v8_2] h ∧ μ3 [v8_2] h < μ3 [v8_1] h3)) (
    mvK v3 h fun v17 h =>
    mvK v17 h fun v2_2 h =>
    retV [some v2_2] R h))
def lv37 (q : Nat) : List Nat := bif Nat.beq q 6 then [130852, 8] else []
theorem ok37 : lkOK Try.prog lv37 Try.f37 1 (Try.f37.body.getD .skip) 37 = true := by kernel_rfl
theorem e37 (a0 : Value) (h : Heap) (R : Value → Heap → Prop) : n37 a0 h R = wpK Try.prog lv37 (Try.f37.body.getD .skip) (endK Try.prog [.tmp 2] R) (argT [a0]) h := by kernel_rfl
theorem w37 {a0 : Value} {h : Heap} {R : Value → Heap → Prop} (hn : n37 a0 h R) : DetP Try.prog 37 [a0] h R :=
  DetP.of_code (rs := [.tmp 2]) (n := 1) Try.func37 (by kernel_rfl) (by kernel_rfl) lv37 ok37 rfl ((e37 a0 h R) ▸ hn)

/-! ### examiner/suite.unless: function 38 -/
def n38 (a0 a1 : Value) (h : Heap) (R : Value → Heap → Prop) : Prop :=
  mvK (Value.int IntKind.i64 0) h fun v4 h =>
  mvK a0 h fun v5 h =>
  cnd v5 (
   mvK (Value.int IntKind.i64 0) h fun v4_1 h =>
   retV [some v4_1] R h) (
   mvK a1 h fun v6 h =>
   mvK v6 h fun v4_2 h =>
   retV [some v4_2] R h)
def lv38 (q : Nat) : List Nat := []
theorem ok38 : lkOK Try.prog lv38 Try.f38 2 (Try.f38.body.getD .skip) 38 = true := by kernel_rfl
theorem e38 (a0 a1 : Value) (h : Heap) (R : Value → Heap → Prop) : n38 a0 a1 h R = wpK Try.prog lv38 (Try.f38.body.getD .skip) (endK Try.prog [.tmp 4] R) (argT [a0, a1]) h := by kernel_rfl
theorem w38 {a0 a1 : Value} {h : Heap} {R : Value → Heap → Prop} (hn : n38 a0 a1 h R) : DetP Try.prog 38 [a0, a1] h R :=
  DetP.of_code (rs := [.tmp 4]) (n := 2) Try.func38 (by kernel_rfl) (by kernel_rfl) lv38 ok38 rfl ((e38 a0 a1 h R) ▸ hn)

/-! ### examiner/suite.catches: function 39 -/
def n39 (a0 a1 : Value) (h : Heap) (R : Value → Heap → Prop) : Prop :=
  okK (some (aBox Try.prog 71 a1 h)) fun v3 h =>
  mvK (Value.bool false) h fun v4 h =>
  mvK a0 h fun v5 h =>
  mvK (Value.func (Fn.func 60) #[] #[v3]) h fun v6 h =>
  cK Try.prog 59 [v5, v6] h fun v7 h =>
  vK (aUn UnOp.not v7) h fun v8 h =>
  mvK v8 h fun v4_1 h =>
  retV [some v4_1] R h
def lv39 (q : Nat) : List Nat := []
theorem ok39 : lkOK Try.prog lv39 Try.f39 2 (Try.f39.body.getD .skip) 39 = true := by kernel_rfl
theorem e39 (a0 a1 : Value) (h : Heap) (R : Value → Heap → Prop) : n39 a0 a1 h R = wpK Try.prog lv39 (Try.f39.body.getD .skip) (endK Try.prog [.tmp 4] R) (argT [a0, a1]) h := by kernel_rfl
theorem w39 {a0 a1 : Value} {h : Heap} {R : Value → Heap → Prop} (hn : n39 a0 a1 h R) : DetP Try.prog 39 [a0, a1] h R :=
  DetP.of_code (rs := [.tmp 4]) (n := 2) Try.func39 (by kernel_rfl) (by kernel_rfl) lv39 ok39 rfl ((e39 a0 a1 h R) ▸ hn)

/-! ### examiner/suite.setOf: function 40 -/
def n40 (a0 : Value) (h : Heap) (R : Value → Heap → Prop) : Prop :=
  mvK (Value.int IntKind.u64 0) h fun v2 h =>
  mvK (Value.int IntKind.u64 0) h fun v3 h =>
  mvK a0 h fun v6 h =>
  vK (aLen Try.prog 23 v6) h fun v7 h =>
  mvK (Value.int IntKind.i64 0) h fun v8 h =>
  ∃ (I3 : List Value → Heap → Prop) (μ3 : List Value → Heap → Nat), I3 [v3, v8] h ∧
  ∀ (h3 : Heap) (j3 : Tmps) (v3_1 : Value) (v8_1 : Value), I3 [v3_1, v8_1] h3 → (let h := h3
   vK (aBin Try.prog BinOp.lss 3 v8_1 v7) h fun v9 h =>
   cnd v9 (
    vK (aIndexAddr Try.prog 23 v6 v8_1) h fun v10 h =>
    vK (aLoad Try.prog 3 v10 h) h fun v11 h =>
    mvK v11 h fun v5 h =>
    mvK v3_1 h fun v12 h =>
    mvK v5 h fun v13 h =>
    vK (aBin Try.prog BinOp.shl 71 (Value.int IntKind.u64 1) v13) h fun v14 h =>
    vK (aBin Try.prog BinOp.or 71 v12 v14) h fun v15 h =>
    mvK v15 h fun v3_2 h =>
    vK (aBin Try.prog BinOp.add 3 v8_1 (Value.int IntKind.i64 1)) h fun v16 h =>
    mvK v16 h fun v8_2 h =>
    I3 [v3_2, v8_2] h ∧ μ3 [v3_2, v8_2] h < μ3 [v3_1, v8_1] h3) (
    mvK v3_1 h fun v17 h =>
    mvK v17 h fun v2_1 h =>
    retV [some v2_1] R h))
def lv40 (q : Nat) : List Nat := bif Nat.beq q 6 then [130856, 3, 8] else []
theorem ok40 : lkOK Try.prog lv40 Try.f40 1 (Try.f40.body.getD .skip) 40 = true := by kernel_rfl
theorem e40 (a0 : Value) (h : Heap) (R : Value → Heap → Prop) : n40 a0 h R = wpK Try.prog lv40 (Try.f40.body.getD .skip) (endK Try.prog [.tmp 2] R) (argT [a0]) h := by kernel_rfl
theorem w40 {a0 : Value} {h : Heap} {R : Value → Heap → Prop} (hn : n40 a0 h R) : DetP Try.prog 40 [a0] h R :=
  DetP.of_code (rs := [.tmp 2]) (n := 1) Try.func40 (by kernel_rfl) (by kernel_rfl) lv40 ok40 rfl ((e40 a0 h R) ▸ hn)

/-! ### (*examiner/suite.checker).read: function 41 -/
def n41 (a0 a1 a2 : Value) (h : Heap) (R : Value → Heap → Prop) : Prop :=
  mvK (Value.bool false) h fun v6 h =>
  mvK a0 h fun v9 h =>
  vK (nilV v9) h fun v10 h =>
  vK (aFieldAddr Try.prog 75 v10 1) h fun v11 h =>
  vK (aLoad Try.prog 23 v11 h) h fun v12 g =>
  VB h.length v12 ∧ (let h := g
   vK (aLen Try.prog 23 v12) h fun v13 h =>
   vK (aBin Try.prog BinOp.eql 3 v13 (Value.int IntKind.i64 0)) h fun v14 h =>
   mvK v14 h fun v15 h =>
   gdK v15 false (fun k0 =>
    mvK a0 h fun v16 h =>
    k0 v16 h) (fun v16_1 h =>
    gdK v15 false (fun k1 =>
     vK (nilV v16_1) h fun v17 h =>
     k1 v17 h) (fun v17_1 h =>
     gdK v15 false (fun k2 =>
      vK (aFieldAddr Try.prog 75 v17_1 1) h fun v18 h =>
      k2 v18 h) (fun v18_1 h =>
      gdK v15 false (fun k3 =>
       vK (aLoad Try.prog 23 v18_1 h) h fun v19 g =>
       VB h.length v19 ∧ (let h := g
        k3 v19 h)) (fun v19_1 h =>
       gdK v15 false (fun k4 =>
        vK (aIndexAddr Try.prog 23 v19_1 (Value.int IntKind.i64 0)) h fun v20 h =>
        k4 v20 h) (fun v20_1 h =>
        gdK v15 false (fun k5 =>
         vK (aLoad Try.prog 3 v20_1 h) h fun v21 g =>
         VB h.length v21 ∧ (let h := g
          k5 v21 h)) (fun v21_1 h =>
         gdK v15 false (fun k6 =>
          mvK a0 h fun v22 h =>
          k6 v22 h) (fun v22_1 h =>
          gdK v15 false (fun k7 =>
           vK (nilV v22_1) h fun v23 h =>
           k7 v23 h) (fun v23_1 h =>
           gdK v15 false (fun k8 =>
            vK (aFieldAddr Try.prog 75 v23_1 0) h fun v24 h =>
            k8 v24 h) (fun v24_1 h =>
            gdK v15 false (fun k9 =>
             vK (aLoad Try.prog 65 v24_1 h) h fun v25 g =>
             VB h.length v25 ∧ (let h := g
              k9 v25 h)) (fun v25_1 h =>
             gdK v15 false (fun k10 =>
              vK (aLen Try.prog 65 v25_1) h fun v26 h =>
              k10 v26 h) (fun v26_1 h =>
              gdK v15 false (fun k11 =>
               vK (aBin Try.prog BinOp.sub 3 v26_1 (Value.int IntKind.i64 1)) h fun v27 h =>
               k11 v27 h) (fun v27_1 h =>
               gdK v15 false (fun k12 =>
                cKD Try.prog 58 [v21_1, (Value.int IntKind.i64 0), v27_1] h fun v28 g =>
                (∃ new, g = h ++ new) ∧ (let h := g
                 k12 v28 h)) (fun v28_1 h =>
                gdK v15 false (fun k13 =>
                 vK (aUn UnOp.not v28_1) h fun v29 h =>
                 k13 v29 h) (fun v29_1 h =>
                 vK (pickV v15 (Value.bool true) v29_1) h fun v30 h =>
                 mvK v30 h fun v31 h =>
                 gdK v31 false (fun k14 =>
                  mvK a0 h fun v32 h =>
                  k14 v32 h) (fun v32_1 h =>
                  gdK v31 false (fun k15 =>
                   vK (nilV v32_1) h fun v33 h =>
                   k15 v33 h) (fun v33_1 h =>
                   gdK v31 false (fun k16 =>
                    vK (aFieldAddr Try.prog 75 v33_1 0) h fun v34 h =>
                    k16 v34 h) (fun v34_1 h =>
                    gdK v31 false (fun k17 =>
                     vK (aLoad Try.prog 65 v34_1 h) h fun v35 g =>
                     VB h.length v35 ∧ (let h := g
                      k17 v35 h)) (fun v35_1 h =>
                     gdK v31 false (fun k18 =>
                      mvK a0 h fun v36 h =>
                      k18 v36 h) (fun v36_1 h =>
                      gdK v31 false (fun k19 =>
                       vK (nilV v36_1) h fun v37 h =>
                       k19 v37 h) (fun v37_1 h =>
                       gdK v31 false (fun k20 =>
                        vK (aFieldAddr Try.prog 75 v37_1 1) h fun v38 h =>
                        k20 v38 h) (fun v38_1 h =>
                        gdK v31 false (fun k21 =>
                         vK (aLoad Try.prog 23 v38_1 h) h fun v39 g =>
                         VB h.length v39 ∧ (let h := g
                          k21 v39 h)) (fun v39_1 h =>
                         gdK v31 false (fun k22 =>
                          vK (aIndexAddr Try.prog 23 v39_1 (Value.int IntKind.i64 0)) h fun v40 h =>
                          k22 v40 h) (fun v40_1 h =>
                          gdK v31 false (fun k23 =>
                           vK (aLoad Try.prog 3 v40_1 h) h fun v41 g =>
                           VB h.length v41 ∧ (let h := g
                            k23 v41 h)) (fun v41_1 h =>
                           gdK v31 false (fun k24 =>
                            vK (aIndexAddr Try.prog 65 v35_1 v41_1) h fun v42 h =>
                            k24 v42 h) (fun v42_1 h =>
                            gdK v31 false (fun k25 =>
                             vK (aLoad Try.prog 71 v42_1 h) h fun v43 g =>
                             VB h.length v43 ∧ (let h := g
                              k25 v43 h)) (fun v43_1 h =>
                             gdK v31 false (fun k26 =>
                              mvK a1 h fun v44 h =>
                              k26 v44 h) (fun v44_1 h =>
                              gdK v31 false (fun k27 =>
                               vK (aBin Try.prog BinOp.and 71 v43_1 v44_1) h fun v45 h =>
                               k27 v45 h) (fun v45_1 h =>
                               gdK v31 false (fun k28 =>
                                vK (aBin Try.prog BinOp.neq 71 v45_1 (Value.int IntKind.u64 0)) h fun v46 h =>
                                k28 v46 h) (fun v46_1 h =>
                                vK (pickV v31 (Value.bool true) v46_1) h fun v47 h =>
                                cnd v47 (
                                 mvK (Value.bool false) h fun v6_1 h =>
                                 retV [some v6_1] R h) (
                                 mvK a0 h fun v48 h =>
                                 vK (nilV v48) h fun v49 h =>
                                 vK (aFieldAddr Try.prog 75 v49 0) h fun v50 h =>
                                 vK (aLoad Try.prog 65 v50 h) h fun v51 g =>
                                 VB h.length v51 ∧ (let h := g
                                  mvK a0 h fun v52 h =>
                                  vK (nilV v52) h fun v53 h =>
                                  vK (aFieldAddr Try.prog 75 v53 1) h fun v54 h =>
                                  vK (aLoad Try.prog 23 v54 h) h fun v55 g =>
                                  VB h.length v55 ∧ (let h := g
                                   vK (aIndexAddr Try.prog 23 v55 (Value.int IntKind.i64 0)) h fun v56 h =>
                                   vK (aLoad Try.prog 3 v56 h) h fun v57 g =>
                                   VB h.length v57 ∧ (let h := g
                                    vK (aIndexAddr Try.prog 65 v51 v57) h fun v58 h =>
                                    vK (aLoad Try.prog 71 v58 h) h fun v59 g =>
                                    VB h.length v59 ∧ (let h := g
                                     mvK v59 h fun v7 h =>
                                     mvK a0 h fun v60 h =>
                                     mvK a0 h fun v61 h =>
                                     vK (nilV v61) h fun v62 h =>
                                     vK (aFieldAddr Try.prog 75 v62 1) h fun v63 h =>
                                     vK (aLoad Try.prog 23 v63 h) h fun v64 h =>
                                     vK (aSlice Try.prog 23 v64 (some (Value.int IntKind.i64 1)) none none h) h fun v65 h =>
                                     vK (nilV v60) h fun v66 h =>
                                     vK (aFieldAddr Try.prog 75 v66 1) h fun v67 h =>
                                     okK ((aStore Try.prog 23 v67 v65 h).map (undef, ·)) fun _ h =>
                                     mvK v7 h fun v68 h =>
                                     mvK v68 h fun v8 h =>
                                     ∃ (I6 : List Value → Heap → Prop) (μ6 : List Value → Heap → Nat), I6 [v8] h ∧
                                     ∀ (h6 : Heap) (j6 : Tmps) (v8_1 : Value), I6 [v8_1] h6 → (let h := h6
                                      mvK a2 h fun v69 h =>
                                      vK (aBin Try.prog BinOp.gtr 3 v69 (Value.int IntKind.i64 0)) h fun v70 h =>
                                      mvK v70 h fun v71 h =>
                                      gdK v71 true (fun k29 =>
                                       mvK v8_1 h fun v72 h =>
                                       k29 v72 h) (fun v72_1 h =>
                                       gdK v71 true (fun k30 =>
                                        vK (aBin Try.prog BinOp.neq 71 v72_1 (Value.int IntKind.u64 0)) h fun v73 h =>
                                        k30 v73 h) (fun v73_1 h =>
                                        vK (pickV v71 v73_1 (Value.bool false)) h fun v74 h =>
                                        cnd v74 (
                                         mvK a0 h fun v79 h =>
                                         mvK a1 h fun v80 h =>
                                         mvK v8_1 h fun v81 h =>
                                         mvK v8_1 h fun v82 h =>
                                         vK (aUn UnOp.neg v82) h fun v83 h =>
                                         vK (aBin Try.prog BinOp.and 71 v81 v83) h fun v84 h =>
                                         vK (aBin Try.prog BinOp.or 71 v80 v84) h fun v85 h =>
                                         mvK a2 h fun v86 h =>
                                         vK (aBin Try.prog BinOp.sub 3 v86 (Value.int IntKind.i64 1)) h fun v87 h =>
                                         cK Try.prog 41 [v79, v85, v87] h fun v88 h =>
                                         vK (aUn UnOp.not v88) h fun v89 h =>
                                         cnd v89 (
                                          mvK (Value.bool false) h fun v6_2 h =>
                                          retV [some v6_2] R h) (
                                          mvK v8_1 h fun v75 h =>
                                          mvK v8_1 h fun v76 h =>
                                          vK (aBin Try.prog BinOp.sub 71 v76 (Value.int IntKind.u64 1)) h fun v77 h =>
                                          vK (aBin Try.prog BinOp.and 71 v75 v77) h fun v78 h =>
                                          mvK v78 h fun v8_2 h =>
                                          I6 [v8_2] h ∧ μ6 [v8_2] h < μ6 [v8_1] h6)) (
                                         mvK (Value.bool true) h fun v6_3 h =>
                                         retV [some v6_3] R h)) h) h))))))) h) h) h) h) h) h) h) h) h) h) h) h) h) h) h) h) h) h) h) h) h) h) h) h) h) h) h) h) h)
def lv41 (q : Nat) : List Nat := bif Nat.beq q 12 then [1237939448989569916193472832, 8] else []
theorem ok41 : lkOK Try.prog lv41 Try.f41 3 (Try.f41.body.getD .skip) 41 = true := by kernel_rfl
theorem e41 (a0 a1 a2 : Value) (h : Heap) (R : Value → Heap → Prop) : n41 a0 a1 a2 h R = wpK Try.prog lv41 (Try.f41.body.getD .skip) (endK Try.prog [.tmp 6] R) (argT [a0, a1, a2]) h := by kernel_rfl
theorem w41 {a0 a1 a2 : Value} {h : Heap} {R : Value → Heap → Prop} (hn : n41 a0 a1 a2 h R) : DetP Try.prog 41 [a0, a1, a2] h R :=
  DetP.of_code (rs := [.tmp 6]) (n := 3) Try.func41 (by kernel_rfl) (by kernel_rfl) lv41 ok41 rfl ((e41 a0 a1 a2 h R) ▸ hn)

/-! ### examiner/examinerref40.testsErr: function 42 -/
def n42 (a0 : Value) (h : Heap) (R : Value → Heap → Prop) : Prop :=
  mvK (Value.int IntKind.i64 0) h fun v2 h =>
  mvK (Value.int IntKind.i64 0) h fun v3 h =>
  ∃ (I2 : List Value → Heap → Prop) (μ2 : List Value → Heap → Nat), I2 [v3] h ∧
  ∀ (h2 : Heap) (j2 : Tmps) (v3_1 : Value), I2 [v3_1] h2 → (let h := h2
   mvK v3_1 h fun v4 h =>
   mvK a0 h fun v5 h =>
   vK (aLen Try.prog 23 v5) h fun v6 h =>
   vK (aBin Try.prog BinOp.lss 3 v4 v6) h fun v7 h =>
   cnd v7 (
    mvK a0 h fun v10 h =>
    mvK v3_1 h fun v11 h =>
    vK (aIndexAddr Try.prog 23 v10 v11) h fun v12 h =>
    vK (aLoad Try.prog 3 v12 h) h fun v13 h =>
    cK Try.prog 61 [v13, (Value.int IntKind.i64 0), (Value.int IntKind.i64 11)] h fun v14 h =>
    vK (aUn UnOp.not v14) h fun v15 h =>
    cnd v15 (
     mvK (Value.int IntKind.i64 3) h fun v2_1 h =>
     retV [some v2_1] R h) (
     mvK v3_1 h fun v16 h =>
     vK (aBin Try.prog BinOp.gtr 3 v16 (Value.int IntKind.i64 0)) h fun v17 h =>
     mvK v17 h fun v18 h =>
     gdK v18 true (fun k0 =>
      mvK a0 h fun v19 h =>
      k0 v19 h) (fun v19_1 h =>
      gdK v18 true (fun k1 =>
       mvK v3_1 h fun v20 h =>
       k1 v20 h) (fun v20_1 h =>
       gdK v18 true (fun k2 =>
        vK (aBin Try.prog BinOp.sub 3 v20_1 (Value.int IntKind.i64 1)) h fun v21 h =>
        k2 v21 h) (fun v21_1 h =>
        gdK v18 true (fun k3 =>
         vK (aIndexAddr Try.prog 23 v19_1 v21_1) h fun v22 h =>
         k3 v22 h) (fun v22_1 h =>
         gdK v18 true (fun k4 =>
          vK (aLoad Try.prog 3 v22_1 h) h fun v23 g =>
          VB h.length v23 ∧ (let h := g
           k4 v23 h)) (fun v23_1 h =>
          gdK v18 true (fun k5 =>
           mvK a0 h fun v24 h =>
           k5 v24 h) (fun v24_1 h =>
           gdK v18 true (fun k6 =>
            mvK v3_1 h fun v25 h =>
            k6 v25 h) (fun v25_1 h =>
            gdK v18 true (fun k7 =>
             vK (aIndexAddr Try.prog 23 v24_1 v25_1) h fun v26 h =>
             k7 v26 h) (fun v26_1 h =>
             gdK v18 true (fun k8 =>
              vK (aLoad Try.prog 3 v26_1 h) h fun v27 g =>
              VB h.length v27 ∧ (let h := g
               k8 v27 h)) (fun v27_1 h =>
              gdK v18 true (fun k9 =>
               vK (aBin Try.prog BinOp.geq 3 v23_1 v27_1) h fun v28 h =>
               k9 v28 h) (fun v28_1 h =>
               vK (pickV v18 v28_1 (Value.bool false)) h fun v29 h =>
               cnd v29 (
                mvK (Value.int IntKind.i64 14) h fun v2_2 h =>
                retV [some v2_2] R h) (
                mvK v3_1 h fun v8 h =>
                vK (aBin Try.prog BinOp.add 3 v8 (Value.int IntKind.i64 1)) h fun v9 h =>
                mvK v9 h fun v3_2 h =>
                I2 [v3_2] h ∧ μ2 [v3_2] h < μ2 [v3_1] h2)) h) h) h) h) h) h) h) h) h) h)) (
    mvK (Value.int IntKind.i64 0) h fun v2_3 h =>
    retV [some v2_3] R h))
def lv42 (q : Nat) : List Nat := bif Nat.beq q 4 then [1073741820, 3] else []
theorem ok42 : lkOK Try.prog lv42 Try.f42 1 (Try.f42.body.getD .skip) 42 = true := by kernel_rfl
theorem e42 (a0 : Value) (h : Heap) (R : Value → Heap → Prop) : n42 a0 h R = wpK Try.prog lv42 (Try.f42.body.getD .skip) (endK Try.prog [.tmp 2] R) (argT [a0]) h := by kernel_rfl
theorem w42 {a0 : Value} {h : Heap} {R : Value → Heap → Prop} (hn : n42 a0 h R) : DetP Try.prog 42 [a0] h R :=
  DetP.of_code (rs := [.tmp 2]) (n := 1) Try.func42 (by kernel_rfl) (by kernel_rfl) lv42 ok42 rfl ((e42 a0 h R) ▸ hn)

/-! ### (*examiner/examinerref40.Reader).read: function 43 -/
def n43 (a0 a1 a2 a3 : Value) (h : Heap) (R : Value → Heap → Prop) : Prop :=
  mvK a0 h fun v10 h =>
  vK (nilV v10) h fun v11 h =>
  vK (aFieldAddr Try.prog 80 v11 2) h fun v12 h =>
  vK (aLoad Try.prog 4 v12 h) h fun v13 g =>
  VB h.length v13 ∧ (let h := g
   mvK v13 h fun v14 h =>
   gdK v14 false (fun k0 =>
    mvK a0 h fun v15 h =>
    k0 v15 h) (fun v15_1 h =>
    gdK v14 false (fun k1 =>
     vK (nilV v15_1) h fun v16 h =>
     k1 v16 h) (fun v16_1 h =>
     gdK v14 false (fun k2 =>
      vK (aFieldAddr Try.prog 80 v16_1 1) h fun v17 h =>
      k2 v17 h) (fun v17_1 h =>
      gdK v14 false (fun k3 =>
       vK (aLoad Try.prog 3 v17_1 h) h fun v18 g =>
       VB h.length v18 ∧ (let h := g
        k3 v18 h)) (fun v18_1 h =>
       gdK v14 false (fun k4 =>
        mvK a0 h fun v19 h =>
        k4 v19 h) (fun v19_1 h =>
        gdK v14 false (fun k5 =>
         vK (nilV v19_1) h fun v20 h =>
         k5 v20 h) (fun v20_1 h =>
         gdK v14 false (fun k6 =>
          vK (aFieldAddr Try.prog 80 v20_1 0) h fun v21 h =>
          k6 v21 h) (fun v21_1 h =>
          gdK v14 false (fun k7 =>
           vK (aLoad Try.prog 23 v21_1 h) h fun v22 g =>
           VB h.length v22 ∧ (let h := g
            k7 v22 h)) (fun v22_1 h =>
           gdK v14 false (fun k8 =>
            vK (aLen Try.prog 23 v22_1) h fun v23 h =>
            k8 v23 h) (fun v23_1 h =>
            gdK v14 false (fun k9 =>
             vK (aBin Try.prog BinOp.geq 3 v18_1 v23_1) h fun v24 h =>
             k9 v24 h) (fun v24_1 h =>
             vK (pickV v14 (Value.bool true) v24_1) h fun v25 h =>
             mvK v25 h fun v26 h =>
             gdK v26 false (fun k10 =>
              mvK a0 h fun v27 h =>
              k10 v27 h) (fun v27_1 h =>
              gdK v26 false (fun k11 =>
               vK (nilV v27_1) h fun v28 h =>
               k11 v28 h) (fun v28_1 h =>
               gdK v26 false (fun k12 =>
                vK (aFieldAddr Try.prog 80 v28_1 0) h fun v29 h =>
                k12 v29 h) (fun v29_1 h =>
                gdK v26 false (fun k13 =>
                 vK (aLoad Try.prog 23 v29_1 h) h fun v30 g =>
                 VB h.length v30 ∧ (let h := g
                  k13 v30 h)) (fun v30_1 h =>
                 gdK v26 false (fun k14 =>
                  mvK a0 h fun v31 h =>
                  k14 v31 h) (fun v31_1 h =>
                  gdK v26 false (fun k15 =>
                   vK (nilV v31_1) h fun v32 h =>
                   k15 v32 h) (fun v32_1 h =>
                   gdK v26 false (fun k16 =>
                    vK (aFieldAddr Try.prog 80 v32_1 1) h fun v33 h =>
                    k16 v33 h) (fun v33_1 h =>
                    gdK v26 false (fun k17 =>
                     vK (aLoad Try.prog 3 v33_1 h) h fun v34 g =>
                     VB h.length v34 ∧ (let h := g
                      k17 v34 h)) (fun v34_1 h =>
                     gdK v26 false (fun k18 =>
                      vK (aIndexAddr Try.prog 23 v30_1 v34_1) h fun v35 h =>
                      k18 v35 h) (fun v35_1 h =>
                      gdK v26 false (fun k19 =>
                       vK (aLoad Try.prog 3 v35_1 h) h fun v36 g =>
                       VB h.length v36 ∧ (let h := g
                        k19 v36 h)) (fun v36_1 h =>
                       gdK v26 false (fun k20 =>
                        mvK a1 h fun v37 h =>
                        k20 v37 h) (fun v37_1 h =>
                        gdK v26 false (fun k21 =>
                         vK (aLen Try.prog 22 v37_1) h fun v38 h =>
                         k21 v38 h) (fun v38_1 h =>
                         gdK v26 false (fun k22 =>
                          vK (aBin Try.prog BinOp.sub 3 v38_1 (Value.int IntKind.i64 1)) h fun v39 h =>
                          k22 v39 h) (fun v39_1 h =>
                          gdK v26 false (fun k23 =>
                           cKD Try.prog 61 [v36_1, (Value.int IntKind.i64 0), v39_1] h fun v40 g =>
                           (∃ new, g = h ++ new) ∧ (let h := g
                            k23 v40 h)) (fun v40_1 h =>
                           gdK v26 false (fun k24 =>
                            vK (aUn UnOp.not v40_1) h fun v41 h =>
                            k24 v41 h) (fun v41_1 h =>
                            vK (pickV v26 (Value.bool true) v41_1) h fun v42 h =>
                            mvK v42 h fun v43 h =>
                            gdK v43 false (fun k25 =>
                             mvK a1 h fun v44 h =>
                             k25 v44 h) (fun v44_1 h =>
                             gdK v43 false (fun k26 =>
                              mvK a0 h fun v45 h =>
                              k26 v45 h) (fun v45_1 h =>
                              gdK v43 false (fun k27 =>
                               vK (nilV v45_1) h fun v46 h =>
                               k27 v46 h) (fun v46_1 h =>
                               gdK v43 false (fun k28 =>
                                vK (aFieldAddr Try.prog 80 v46_1 0) h fun v47 h =>
                                k28 v47 h) (fun v47_1 h =>
                                gdK v43 false (fun k29 =>
                                 vK (aLoad Try.prog 23 v47_1 h) h fun v48 g =>
                                 VB h.length v48 ∧ (let h := g
                                  k29 v48 h)) (fun v48_1 h =>
                                 gdK v43 false (fun k30 =>
                                  mvK a0 h fun v49 h =>
                                  k30 v49 h) (fun v49_1 h =>
                                  gdK v43 false (fun k31 =>
                                   vK (nilV v49_1) h fun v50 h =>
                                   k31 v50 h) (fun v50_1 h =>
                                   gdK v43 false (fun k32 =>
                                    vK (aFieldAddr Try.prog 80 v50_1 1) h fun v51 h =>
                                    k32 v51 h) (fun v51_1 h =>
                                    gdK v43 false (fun k33 =>
                                     vK (aLoad Try.prog 3 v51_1 h) h fun v52 g =>
                                     VB h.length v52 ∧ (let h := g
                                      k33 v52 h)) (fun v52_1 h =>
                                     gdK v43 false (fun k34 =>
                                      vK (aIndexAddr Try.prog 23 v48_1 v52_1) h fun v53 h =>
                                      k34 v53 h) (fun v53_1 h =>
                                      gdK v43 false (fun k35 =>
                                       vK (aLoad Try.prog 3 v53_1 h) h fun v54 g =>
                                       VB h.length v54 ∧ (let h := g
                                        k35 v54 h)) (fun v54_1 h =>
                                       gdK v43 false (fun k36 =>
                                        vK (aIndexAddr Try.prog 22 v44_1 v54_1) h fun v55 h =>
                                        k36 v55 h) (fun v55_1 h =>
                                        gdK v43 false (fun k37 =>
                                         vK (aLoad Try.prog 23 v55_1 h) h fun v56 g =>
                                         VB h.length v56 ∧ (let h := g
                                          k37 v56 h)) (fun v56_1 h =>
                                         gdK v43 false (fun k38 =>
                                          mvK a2 h fun v57 h =>
                                          k38 v57 h) (fun v57_1 h =>
                                          gdK v43 false (fun k39 =>
                                           cKD Try.prog 52 [v56_1, v57_1] h fun v58 g =>
                                           (∃ new, g = h ++ new) ∧ (let h := g
                                            k39 v58 h)) (fun v58_1 h =>
                                           vK (pickV v43 (Value.bool true) v58_1) h fun v59 h =>
                                           cnd v59 (
                                            mvK a0 h fun v60 h =>
                                            vK (nilV v60) h fun v61 h =>
                                            vK (aFieldAddr Try.prog 80 v61 2) h fun v62 h =>
                                            okK ((aStore Try.prog 4 v62 (Value.bool true) h).map (undef, ·)) fun _ h =>
                                            retV [] R h) (
                                            mvK a1 h fun v63 h =>
                                            mvK a0 h fun v64 h =>
                                            vK (nilV v64) h fun v65 h =>
                                            vK (aFieldAddr Try.prog 80 v65 0) h fun v66 h =>
                                            vK (aLoad Try.prog 23 v66 h) h fun v67 g =>
                                            VB h.length v67 ∧ (let h := g
                                             mvK a0 h fun v68 h =>
                                             vK (nilV v68) h fun v69 h =>
                                             vK (aFieldAddr Try.prog 80 v69 1) h fun v70 h =>
                                             vK (aLoad Try.prog 3 v70 h) h fun v71 g =>
                                             VB h.length v71 ∧ (let h := g
                                              vK (aIndexAddr Try.prog 23 v67 v71) h fun v72 h =>
                                              vK (aLoad Try.prog 3 v72 h) h fun v73 g =>
                                              VB h.length v73 ∧ (let h := g
                                               vK (aIndexAddr Try.prog 22 v63 v73) h fun v74 h =>
                                               vK (aLoad Try.prog 23 v74 h) h fun v75 g =>
                                               VB h.length v75 ∧ (let h := g
                                                mvK v75 h fun v8 h =>
                                                mvK a0 h fun v76 h =>
                                                mvK a0 h fun v77 h =>
                                                vK (nilV v77) h fun v78 h =>
                                                vK (aFieldAddr Try.prog 80 v78 1) h fun v79 h =>
                                                vK (aLoad Try.prog 3 v79 h) h fun v80 h =>
                                                vK (aBin Try.prog BinOp.add 3 v80 (Value.int IntKind.i64 1)) h fun v81 h =>
                                                vK (nilV v76) h fun v82 h =>
                                                vK (aFieldAddr Try.prog 80 v82 1) h fun v83 h =>
                                                okK ((aStore Try.prog 3 v83 v81 h).map (undef, ·)) fun _ h =>
                                                mvK (Value.int IntKind.i64 0) h fun v9 h =>
                                                ∃ (I5 : List Value → Heap → Prop) (μ5 : List Value → Heap → Nat), I5 [v9] h ∧
                                                ∀ (h5 : Heap) (j5 : Tmps) (v9_1 : Value), I5 [v9_1] h5 → (let h := h5
                                                 mvK v9_1 h fun v84 h =>
                                                 mvK v8 h fun v85 h =>
                                                 vK (aLen Try.prog 23 v85) h fun v86 h =>
                                                 vK (aBin Try.prog BinOp.lss 3 v84 v86) h fun v87 h =>
                                                 mvK v87 h fun v88 h =>
                                                 gdK v88 true (fun k40 =>
                                                  mvK a3 h fun v89 h =>
                                                  k40 v89 h) (fun v89_1 h =>
                                                  gdK v88 true (fun k41 =>
                                                   vK (aBin Try.prog BinOp.gtr 3 v89_1 (Value.int IntKind.i64 0)) h fun v90 h =>
                                                   k41 v90 h) (fun v90_1 h =>
                                                   vK (pickV v88 v90_1 (Value.bool false)) h fun v91 h =>
                                                   mvK v91 h fun v92 h =>
                                                   gdK v92 true (fun k42 =>
                                                    mvK a0 h fun v93 h =>
                                                    k42 v93 h) (fun v93_1 h =>
                                                    gdK v92 true (fun k43 =>
                                                     vK (nilV v93_1) h fun v94 h =>
                                                     k43 v94 h) (fun v94_1 h =>
                                                     gdK v92 true (fun k44 =>
                                                      vK (aFieldAddr Try.prog 80 v94_1 2) h fun v95 h =>
                                                      k44 v95 h) (fun v95_1 h =>
                                                      gdK v92 true (fun k45 =>
                                                       vK (aLoad Try.prog 4 v95_1 h) h fun v96 h =>
                                                       k45 v96 h) (fun v96_1 h =>
                                                       gdK v92 true (fun k46 =>
                                                        vK (aUn UnOp.not v96_1) h fun v97 h =>
                                                        k46 v97 h) (fun v97_1 h =>
                                                        vK (pickV v92 v97_1 (Value.bool false)) h fun v98 h =>
                                                        cnd v98 (
                                                         mvK a0 h fun v101 h =>
                                                         mvK a1 h fun v102 h =>
                                                         mvK a2 h fun v103 h =>
                                                         cKD Try.prog 13 [v103] h fun v104 g =>
                                                         (∃ new, g = h ++ new) ∧ (let h := g
                                                          mvK v8 h fun v105 h =>
                                                          mvK v9_1 h fun v106 h =>
                                                          vK (aIndexAddr Try.prog 23 v105 v106) h fun v107 h =>
                                                          vK (aLoad Try.prog 3 v107 h) h fun v108 g =>
                                                          VB h.length v108 ∧ (let h := g
                                                           okK (aBuildSlice Try.prog 23 1 [(0, v108)] h) fun v109 h =>
                                                           okK (aAppend Try.prog 23 23 v104 v109 h) fun v110 h =>
                                                           (True) ∧ (
                                                            mvK a3 h fun v111 h =>
                                                            vK (aBin Try.prog BinOp.sub 3 v111 (Value.int IntKind.i64 1)) h fun v112 h =>
                                                            cK Try.prog 43 [v101, v102, v110, v112] h fun v113 h =>
                                                            mvK v9_1 h fun v99 h =>
                                                            vK (aBin Try.prog BinOp.add 3 v99 (Value.int IntKind.i64 1)) h fun v100 h =>
                                                            mvK v100 h fun v9_2 h =>
                                                            I5 [v9_2] h ∧ μ5 [v9_2] h < μ5 [v9_1] h5)))) (
                                                         retV [] R h)) h) h) h) h) h) h) h))))))) h) h) h) h) h) h) h) h) h) h) h) h) h) h) h) h) h) h) h) h) h) h) h) h) h) h) h) h) h) h) h) h) h) h) h) h) h) h) h) h)
def lv43 (q : Nat) : List Nat := bif Nat.beq q 10 then [20769187414796497400287918521582080, 9] else []
theorem ok43 : lkOK Try.prog lv43 Try.f43 4 (Try.f43.body.getD .skip) 43 = true := by kernel_rfl
theorem e43 (a0 a1 a2 a3 : Value) (h : Heap) (R : Value → Heap → Prop) : n43 a0 a1 a2 a3 h R = wpK Try.prog lv43 (Try.f43.body.getD .skip) (endK Try.prog [] R) (argT [a0, a1, a2, a3]) h := by kernel_rfl
theorem w43 {a0 a1 a2 a3 : Value} {h : Heap} {R : Value → Heap → Prop} (hn : n43 a0 a1 a2 a3 h R) : DetP Try.prog 43 [a0, a1, a2, a3] h R :=
  DetP.of_code (rs := []) (n := 4) Try.func43 (by kernel_rfl) (by kernel_rfl) lv43 ok43 rfl ((e43 a0 a1 a2 a3 h R) ▸ hn)

/-! ### examiner/examinerbase.Count: function 50 -/
def n50 (a0 : Value) (h : Heap) (R : Value → Heap → Prop) : Prop :=
  mvK (Value.int IntKind.i64 0) h fun v2 h =>
  mvK a0 h fun v3 h =>
  cnd v3 (
   mvK (Value.int IntKind.i64 1) h fun v2_1 h =>
   retV [some v2_1] R h) (
   mvK (Value.int IntKind.i64 0) h fun v2_2 h =>
   retV [some v2_2] R h)
def lv50 (q : Nat) : List Nat := []
theorem ok50 : lkOK Try.prog lv50 Try.f50 1 (Try.f50.body.getD .skip) 50 = true := by kernel_rfl
theorem e50 (a0 : Value) (h : Heap) (R : Value → Heap → Prop) : n50 a0 h R = wpK Try.prog lv50 (Try.f50.body.getD .skip) (endK Try.prog [.tmp 2] R) (argT [a0]) h := by kernel_rfl
theorem w50 {a0 : Value} {h : Heap} {R : Value → Heap → Prop} (hn : n50 a0 h R) : DetP Try.prog 50 [a0] h R :=
  DetP.of_code (rs := [.tmp 2]) (n := 1) Try.func50 (by kernel_rfl) (by kernel_rfl) lv50 ok50 rfl ((e50 a0 h R) ▸ hn)

/-! ### examiner/examinerbase.Has: function 51 -/
def n51 (a0 a1 : Value) (h : Heap) (R : Value → Heap → Prop) : Prop :=
  mvK (Value.bool false) h fun v4 h =>
  mvK (Value.int IntKind.i64 0) h fun v5 h =>
  ∃ (I2 : List Value → Heap → Prop) (μ2 : List Value → Heap → Nat), I2 [v5] h ∧
  ∀ (h2 : Heap) (j2 : Tmps) (v5_1 : Value), I2 [v5_1] h2 → (let h := h2
   mvK v5_1 h fun v6 h =>
   mvK a0 h fun v7 h =>
   vK (aLen Try.prog 23 v7) h fun v8 h =>
   vK (aBin Try.prog BinOp.lss 3 v6 v8) h fun v9 h =>
   cnd v9 (
    mvK a0 h fun v12 h =>
    mvK v5_1 h fun v13 h =>
    vK (aIndexAddr Try.prog 23 v12 v13) h fun v14 h =>
    vK (aLoad Try.prog 3 v14 h) h fun v15 h =>
    mvK a1 h fun v16 h =>
    vK (aBin Try.prog BinOp.eql 3 v15 v16) h fun v17 h =>
    cnd v17 (
     mvK (Value.bool true) h fun v4_1 h =>
     retV [some v4_1] R h) (
     mvK v5_1 h fun v10 h =>
     vK (aBin Try.prog BinOp.add 3 v10 (Value.int IntKind.i64 1)) h fun v11 h =>
     mvK v11 h fun v5_2 h =>
     I2 [v5_2] h ∧ μ2 [v5_2] h < μ2 [v5_1] h2)) (
    mvK (Value.bool false) h fun v4_2 h =>
    retV [some v4_2] R h))
def lv51 (q : Nat) : List Nat := bif Nat.beq q 4 then [262128, 5] else []
theorem ok51 : lkOK Try.prog lv51 Try.f51 2 (Try.f51.body.getD .skip) 51 = true := by kernel_rfl
theorem e51 (a0 a1 : Value) (h : Heap) (R : Value → Heap → Prop) : n51 a0 a1 h R = wpK Try.prog lv51 (Try.f51.body.getD .skip) (endK Try.prog [.tmp 4] R) (argT [a0, a1]) h := by kernel_rfl
theorem w51 {a0 a1 : Value} {h : Heap} {R : Value → Heap → Prop} (hn : n51 a0 a1 h R) : DetP Try.prog 51 [a0, a1] h R :=
  DetP.of_code (rs := [.tmp 4]) (n := 2) Try.func51 (by kernel_rfl) (by kernel_rfl) lv51 ok51 rfl ((e51 a0 a1 h R) ▸ hn)

/-! ### examiner/examinerref40.Hits: function 52 -/
def n52 (a0 a1 : Value) (h : Heap) (R : Value → Heap → Prop) : Prop :=
  mvK (Value.bool false) h fun v4 h =>
  mvK (Value.int IntKind.i64 0) h fun v5 h =>
  ∃ (I2 : List Value → Heap → Prop) (μ2 : List Value → Heap → Nat), I2 [v5] h ∧
  ∀ (h2 : Heap) (j2 : Tmps) (v5_1 : Value), I2 [v5_1] h2 → (let h := h2
   mvK v5_1 h fun v6 h =>
   mvK a0 h fun v7 h =>
   vK (aLen Try.prog 23 v7) h fun v8 h =>
   vK (aBin Try.prog BinOp.lss 3 v6 v8) h fun v9 h =>
   cnd v9 (
    mvK a1 h fun v12 h =>
    mvK a0 h fun v13 h =>
    mvK v5_1 h fun v14 h =>
    vK (aIndexAddr Try.prog 23 v13 v14) h fun v15 h =>
    vK (aLoad Try.prog 3 v15 h) h fun v16 h =>
    cK Try.prog 51 [v12, v16] h fun v17 h =>
    cnd v17 (
     mvK (Value.bool true) h fun v4_1 h =>
     retV [some v4_1] R h) (
     mvK v5_1 h fun v10 h =>
     vK (aBin Try.prog BinOp.add 3 v10 (Value.int IntKind.i64 1)) h fun v11 h =>
     mvK v11 h fun v5_2 h =>
     I2 [v5_2] h ∧ μ2 [v5_2] h < μ2 [v5_1] h2)) (
    mvK (Value.bool false) h fun v4_2 h =>
    retV [some v4_2] R h))
def lv52 (q : Nat) : List Nat := bif Nat.beq q 4 then [262128, 5] else []
theorem ok52 : lkOK Try.prog lv52 Try.f52 2 (Try.f52.body.getD .skip) 52 = true := by kernel_rfl
theorem e52 (a0 a1 : Value) (h : Heap) (R : Value → Heap → Prop) : n52 a0 a1 h R = wpK Try.prog lv52 (Try.f52.body.getD .skip) (endK Try.prog [.tmp 4] R) (argT [a0, a1]) h := by kernel_rfl
theorem w52 {a0 a1 : Value} {h : Heap} {R : Value → Heap → Prop} (hn : n52 a0 a1 h R) : DetP Try.prog 52 [a0, a1] h R :=
  DetP.of_code (rs := [.tmp 4]) (n := 2) Try.func52 (by kernel_rfl) (by kernel_rfl) lv52 ok52 rfl ((e52 a0 a1 h R) ▸ hn)

/-! ### examiner/suite.spans: function 58 -/
def n58 (a0 a1 a2 : Value) (h : Heap) (R : Value → Heap → Prop) : Prop :=
  mvK (Value.bool false) h fun v6 h =>
  mvK a1 h fun v7 h =>
  mvK a0 h fun v8 h =>
  vK (aBin Try.prog BinOp.leq 3 v7 v8) h fun v9 h =>
  mvK v9 h fun v10 h =>
  gdK v10 true (fun k0 =>
   mvK a0 h fun v11 h =>
   k0 v11 h) (fun v11_1 h =>
   gdK v10 true (fun k1 =>
    mvK a2 h fun v12 h =>
    k1 v12 h) (fun v12_1 h =>
    gdK v10 true (fun k2 =>
     vK (aBin Try.prog BinOp.leq 3 v11_1 v12_1) h fun v13 h =>
     k2 v13 h) (fun v13_1 h =>
     vK (pickV v10 v13_1 (Value.bool false)) h fun v14 h =>
     mvK v14 h fun v6_1 h =>
     retV [some v6_1] R h) h) h) h
def lv58 (q : Nat) : List Nat := []
theorem ok58 : lkOK Try.prog lv58 Try.f58 3 (Try.f58.body.getD .skip) 58 = true := by kernel_rfl
theorem e58 (a0 a1 a2 : Value) (h : Heap) (R : Value → Heap → Prop) : n58 a0 a1 a2 h R = wpK Try.prog lv58 (Try.f58.body.getD .skip) (endK Try.prog [.tmp 6] R) (argT [a0, a1, a2]) h := by kernel_rfl
theorem w58 {a0 a1 a2 : Value} {h : Heap} {R : Value → Heap → Prop} (hn : n58 a0 a1 a2 h R) : DetP Try.prog 58 [a0, a1, a2] h R :=
  DetP.of_code (rs := [.tmp 6]) (n := 3) Try.func58 (by kernel_rfl) (by kernel_rfl) lv58 ok58 rfl ((e58 a0 a1 a2 h R) ▸ hn)

/-! ### slices.ContainsFunc[[]examiner/suite.tests,examiner/suite.tests]: function 59 -/
def n59 (a0 a1 : Value) (h : Heap) (R : Value → Heap → Prop) : Prop :=
  mvK (Value.bool false) h fun v4 h =>
  mvK a0 h fun v5 h =>
  mvK a1 h fun v6 h =>
  cK Try.prog 77 [v5, v6] h fun v7 h =>
  vK (aBin Try.prog BinOp.geq 3 v7 (Value.int IntKind.i64 0)) h fun v8 h =>
  mvK v8 h fun v4_1 h =>
  retV [some v4_1] R h
def lv59 (q : Nat) : List Nat := []
theorem ok59 : lkOK Try.prog lv59 Try.f59 2 (Try.f59.body.getD .skip) 59 = true := by kernel_rfl
theorem e59 (a0 a1 : Value) (h : Heap) (R : Value → Heap → Prop) : n59 a0 a1 h R = wpK Try.prog lv59 (Try.f59.body.getD .skip) (endK Try.prog [.tmp 4] R) (argT [a0, a1]) h := by kernel_rfl
theorem w59 {a0 a1 : Value} {h : Heap} {R : Value → Heap → Prop} (hn : n59 a0 a1 h R) : DetP Try.prog 59 [a0, a1] h R :=
  DetP.of_code (rs := [.tmp 4]) (n := 2) Try.func59 (by kernel_rfl) (by kernel_rfl) lv59 ok59 rfl ((e59 a0 a1 h R) ▸ hn)

/-! ### examiner/suite.catches$1: function 60 -/
def n60 (a0 a1 : Value) (h : Heap) (R : Value → Heap → Prop) : Prop :=
  mvK (Value.bool false) h fun v3 h =>
  mvK a0 h fun v4 h =>
  vK (aLoad Try.prog 71 a1 h) h fun v5 h =>
  vK (aBin Try.prog BinOp.and 71 v4 v5) h fun v6 h =>
  vK (aBin Try.prog BinOp.eql 71 v6 (Value.int IntKind.u64 0)) h fun v7 h =>
  mvK v7 h fun v3_1 h =>
  retV [some v3_1] R h
def lv60 (q : Nat) : List Nat := []
theorem ok60 : lkOK Try.prog lv60 Try.f60 2 (Try.f60.body.getD .skip) 60 = true := by kernel_rfl
theorem e60 (a0 a1 : Value) (h : Heap) (R : Value → Heap → Prop) : n60 a0 a1 h R = wpK Try.prog lv60 (Try.f60.body.getD .skip) (endK Try.prog [.tmp 3] R) (argT [a0, a1]) h := by kernel_rfl
theorem w60 {a0 a1 : Value} {h : Heap} {R : Value → Heap → Prop} (hn : n60 a0 a1 h R) : DetP Try.prog 60 [a0, a1] h R :=
  DetP.of_code (rs := [.tmp 3]) (n := 2) Try.func60 (by kernel_rfl) (by kernel_rfl) lv60 ok60 rfl ((e60 a0 a1 h R) ▸ hn)

/-! ### examiner/examinerbase.Within: function 61 -/
def n61 (a0 a1 a2 : Value) (h : Heap) (R : Value → Heap → Prop) : Prop :=
  mvK (Value.bool false) h fun v6 h =>
  mvK a1 h fun v7 h =>
  mvK a0 h fun v8 h =>
  vK (aBin Try.prog BinOp.leq 3 v7 v8) h fun v9 h =>
  mvK v9 h fun v10 h =>
  gdK v10 true (fun k0 =>
   mvK a0 h fun v11 h =>
   k0 v11 h) (fun v11_1 h =>
   gdK v10 true (fun k1 =>
    mvK a2 h fun v12 h =>
    k1 v12 h) (fun v12_1 h =>
    gdK v10 true (fun k2 =>
     vK (aBin Try.prog BinOp.leq 3 v11_1 v12_1) h fun v13 h =>
     k2 v13 h) (fun v13_1 h =>
     vK (pickV v10 v13_1 (Value.bool false)) h fun v14 h =>
     mvK v14 h fun v6_1 h =>
     retV [some v6_1] R h) h) h) h
def lv61 (q : Nat) : List Nat := []
theorem ok61 : lkOK Try.prog lv61 Try.f61 3 (Try.f61.body.getD .skip) 61 = true := by kernel_rfl
theorem e61 (a0 a1 a2 : Value) (h : Heap) (R : Value → Heap → Prop) : n61 a0 a1 a2 h R = wpK Try.prog lv61 (Try.f61.body.getD .skip) (endK Try.prog [.tmp 6] R) (argT [a0, a1, a2]) h := by kernel_rfl
theorem w61 {a0 a1 a2 : Value} {h : Heap} {R : Value → Heap → Prop} (hn : n61 a0 a1 a2 h R) : DetP Try.prog 61 [a0, a1, a2] h R :=
  DetP.of_code (rs := [.tmp 6]) (n := 3) Try.func61 (by kernel_rfl) (by kernel_rfl) lv61 ok61 rfl ((e61 a0 a1 a2 h R) ▸ hn)

/-! ### slices.IndexFunc[[]examiner/suite.tests,examiner/suite.tests]: function 77 -/
def n77 (a0 a1 : Value) (h : Heap) (R : Value → Heap → Prop) : Prop :=
  mvK (Value.int IntKind.i64 0) h fun v4 h =>
  mvK a0 h fun v6 h =>
  vK (aLen Try.prog 65 v6) h fun v7 h =>
  mvK (Value.int IntKind.i64 0) h fun v8 h =>
  ∃ (I2 : List Value → Heap → Prop) (μ2 : List Value → Heap → Nat), I2 [v8] h ∧
  ∀ (h2 : Heap) (j2 : Tmps) (v8_1 : Value), I2 [v8_1] h2 → (let h := h2
   vK (aBin Try.prog BinOp.lss 3 v8_1 v7) h fun v9 h =>
   cnd v9 (
    mvK v8_1 h fun v10 h =>
    mvK v10 h fun v5 h =>
    mvK a1 h fun v11 h =>
    mvK a0 h fun v12 h =>
    mvK v5 h fun v13 h =>
    vK (aIndexAddr Try.prog 65 v12 v13) h fun v14 h =>
    vK (aLoad Try.prog 71 v14 h) h fun v15 h =>
    callK Try.prog (fnOf v11 [v15]) h fun v16 h =>
    cnd v16 (
     mvK v5 h fun v17 h =>
     mvK v17 h fun v4_1 h =>
     retV [some v4_1] R h) (
     vK (aBin Try.prog BinOp.add 3 v8_1 (Value.int IntKind.i64 1)) h fun v18 h =>
     mvK v18 h fun v8_2 h =>
     I2 [v8_2] h ∧ μ2 [v8_2] h < μ2 [v8_1] h2)) (
    mvK (Value.int IntKind.i64 (-1)) h fun v4_2 h =>
    retV [some v4_2] R h))
def lv77 (q : Nat) : List Nat := bif Nat.beq q 4 then [524080, 8] else []
theorem ok77 : lkOK Try.prog lv77 Try.f77 2 (Try.f77.body.getD .skip) 77 = true := by kernel_rfl
theorem e77 (a0 a1 : Value) (h : Heap) (R : Value → Heap → Prop) : n77 a0 a1 h R = wpK Try.prog lv77 (Try.f77.body.getD .skip) (endK Try.prog [.tmp 4] R) (argT [a0, a1]) h := by kernel_rfl
theorem w77 {a0 a1 : Value} {h : Heap} {R : Value → Heap → Prop} (hn : n77 a0 a1 h R) : DetP Try.prog 77 [a0, a1] h R :=
  DetP.of_code (rs := [.tmp 4]) (n := 2) Try.func77 (by kernel_rfl) (by kernel_rfl) lv77 ok77 rfl ((e77 a0 a1 h R) ▸ hn)

end Go.Proofs.Ytkgdclcmfnhbmaa
