import Derived.Test.YtdjoednhfoligaaAmW
import Derived.Test.YtdjoednhfoligaaProg
import Derived.KernelRfl
set_option linter.unusedVariables false
set_option maxRecDepth 100000
namespace Go.Proofs.Ytdjoednhfoligaa
open Go.AM

/-! ### examiner/examinerlaw38.CoverAfter: function 4 -/
def n4 (a0 a1 : Value) (h : Heap) (R : Value → Heap → Prop) : Prop :=
  okK (some (aBox Try.prog 24 a0 h)) fun v2 h =>
  mvK (Value.bool false) h fun v4 h =>
  cK Try.prog 14 [] h fun v8 h =>
  vK (aUn UnOp.not v8) h fun v9 h =>
  cnd v9 (
   mvK (Value.bool false) h fun v4_1 h =>
   retV [some v4_1] R h) (
   vK (aLoad Try.prog 24 v2 h) h fun v11 h =>
   cK Try.prog 16 [v11] h fun v12 h =>
   mvK a1 h fun v13 h =>
   cK Try.prog 21 [v12, v13] h fun v14 h =>
   mvK v14 h fun v10 h =>
   vK (aExtract v10 0) h fun v15 h =>
   vK (aExtract v10 1) h fun v16 h =>
   mvK v15 h fun v5 h =>
   mvK v16 h fun v6 h =>
   vK (aLoad Try.prog 24 v2 h) h fun v17 h =>
   cK Try.prog 18 [v17] h fun v18 h =>
   mvK v18 h fun v7 h =>
   seqK (fun k0 =>
    mvK v7 h fun v19 h =>
    vK (aBin Try.prog BinOp.eql 3 v19 (Value.int IntKind.i64 0)) h fun v20 h =>
    mvK v20 h fun v21 h =>
    gdK v21 true (fun k1 =>
     mvK a1 h fun v22 h =>
     k1 v22 h) (fun v22_1 h =>
     gdK v21 true (fun k2 =>
      vK (aFieldAddr Try.prog 24 v2 4) h fun v23 h =>
      k2 v23 h) (fun v23_1 h =>
      gdK v21 true (fun k3 =>
       vK (aLoad Try.prog 22 v23_1 h) h fun v24 h =>
       k3 v24 h) (fun v24_1 h =>
       gdK v21 true (fun k4 =>
        vK (aLen Try.prog 22 v24_1) h fun v25 h =>
        k4 v25 h) (fun v25_1 h =>
        gdK v21 true (fun k5 =>
         vK (aBin Try.prog BinOp.sub 3 v25_1 (Value.int IntKind.i64 1)) h fun v26 h =>
         k5 v26 h) (fun v26_1 h =>
         gdK v21 true (fun k6 =>
          cK Try.prog 22 [v22_1, (Value.int IntKind.i64 0), v26_1] h fun v27 h =>
          k6 v27 h) (fun v27_1 h =>
          gdK v21 true (fun k7 =>
           vK (aUn UnOp.not v27_1) h fun v28 h =>
           k7 v28 h) (fun v28_1 h =>
           vK (pickV v21 v28_1 (Value.bool false)) h fun v29 h =>
           cnd v29 (
            mvK (Value.int IntKind.i64 3) h fun v7_1 h =>
            k0 [v7_1] h) (
            k0 [v7] h)) h) h) h) h) h) h) h) fun x0 h => ∀ jx0 : Tmps,
    let v7_2 : Value := nth x0 0
    mvK v7_2 h fun v30 h =>
    vK (aBin Try.prog BinOp.neq 3 v30 (Value.int IntKind.i64 0)) h fun v31 h =>
    cnd v31 (
     mvK v6 h fun v32 h =>
     mvK v7_2 h fun v33 h =>
     vK (aBin Try.prog BinOp.eql 3 v32 v33) h fun v34 h =>
     mvK v34 h fun v35 h =>
     gdK v35 true (fun k8 =>
      mvK v5 h fun v36 h =>
      k8 v36 h) (fun v36_1 h =>
      gdK v35 true (fun k9 =>
       vK (aLen Try.prog 25 v36_1) h fun v37 h =>
       k9 v37 h) (fun v37_1 h =>
       gdK v35 true (fun k10 =>
        vK (aBin Try.prog BinOp.eql 3 v37_1 (Value.int IntKind.i64 0)) h fun v38 h =>
        k10 v38 h) (fun v38_1 h =>
        vK (pickV v35 v38_1 (Value.bool false)) h fun v39 h =>
        mvK v39 h fun v4_2 h =>
        retV [some v4_2] R h) h) h) h) (
     mvK v6 h fun v40 h =>
     vK (aBin Try.prog BinOp.eql 29 v40 (Value.int IntKind.i64 0)) h fun v41 h =>
     mvK v41 h fun v42 h =>
     gdK v42 true (fun k11 =>
      mvK v5 h fun v43 h =>
      k11 v43 h) (fun v43_1 h =>
      gdK v42 true (fun k12 =>
       vK (aLoad Try.prog 24 v2 h) h fun v44 h =>
       k12 v44 h) (fun v44_1 h =>
       gdK v42 true (fun k13 =>
        mvK a1 h fun v45 h =>
        k13 v45 h) (fun v45_1 h =>
        gdK v42 true (fun k14 =>
         cK Try.prog 24 [v44_1, v45_1] h fun v46 h =>
         k14 v46 h) (fun v46_1 h =>
         gdK v42 true (fun k15 =>
          cK Try.prog 23 [v43_1, v46_1] h fun v47 h =>
          k15 v47 h) (fun v47_1 h =>
          vK (pickV v42 v47_1 (Value.bool false)) h fun v48 h =>
          mvK v48 h fun v4_3 h =>
          retV [some v4_3] R h) h) h) h) h) h))
def lv4 (q : Nat) : List Nat := bif Nat.beq q 15 then [1073217664, 7] else []
theorem ok4 : lkOK Try.prog lv4 Try.f4 2 (Try.f4.body.getD .skip) 4 = true := by kernel_rfl
theorem e4 (a0 a1 : Value) (h : Heap) (R : Value → Heap → Prop) : n4 a0 a1 h R = wpK Try.prog lv4 (Try.f4.body.getD .skip) (endK Try.prog [.tmp 4] R) (argT [a0, a1]) h := by kernel_rfl
theorem w4 {a0 a1 : Value} {h : Heap} {R : Value → Heap → Prop} (hn : n4 a0 a1 h R) : DetP Try.prog 4 [a0, a1] h R :=
  DetP.of_code (rs := [.tmp 4]) (n := 2) Try.func4 (by kernel_rfl) (by kernel_rfl) lv4 ok4 rfl ((e4 a0 a1 h R) ▸ hn)

/-! ### examiner/examinerlaw38.CoverTaken: function 5 -/
def n5 (a0 a1 : Value) (h : Heap) (R : Value → Heap → Prop) : Prop :=
  okK (some (aBox Try.prog 24 a0 h)) fun v2 h =>
  mvK (Value.bool false) h fun v4 h =>
  cK Try.prog 14 [] h fun v14 h =>
  vK (aUn UnOp.not v14) h fun v15 h =>
  cnd v15 (
   mvK (Value.bool false) h fun v4_1 h =>
   retV [some v4_1] R h) (
   mvK (Value.int IntKind.i64 0) h fun v5 h =>
   ∃ (I4 : List Value → Heap → Prop) (μ4 : List Value → Heap → Nat), I4 [v5] h ∧
   ∀ (h4 : Heap) (j4 : Tmps) (v5_1 : Value), I4 [v5_1] h4 → (let h := h4
    mvK v5_1 h fun v16 h =>
    mvK a1 h fun v17 h =>
    vK (aLen Try.prog 45 v17) h fun v18 h =>
    vK (aBin Try.prog BinOp.lss 3 v16 v18) h fun v19 h =>
    cnd v19 (
     mvK a1 h fun v22 h =>
     vK (aLen Try.prog 45 v22) h fun v23 h =>
     vK (aBin Try.prog BinOp.gtr 3 v23 (Value.int IntKind.i64 40)) h fun v24 h =>
     mvK v24 h fun v25 h =>
     gdK v25 true (fun k0 =>
      mvK a1 h fun v26 h =>
      k0 v26 h) (fun v26_1 h =>
      gdK v25 true (fun k1 =>
       vK (aLen Try.prog 45 v26_1) h fun v27 h =>
       k1 v27 h) (fun v27_1 h =>
       gdK v25 true (fun k2 =>
        vK (aBin Try.prog BinOp.leq 3 v27_1 (Value.int IntKind.i64 80)) h fun v28 h =>
        k2 v28 h) (fun v28_1 h =>
        vK (pickV v25 v28_1 (Value.bool false)) h fun v29 h =>
        mvK v29 h fun v30 h =>
        gdK v30 false (fun k3 =>
         mvK a1 h fun v31 h =>
         k3 v31 h) (fun v31_1 h =>
         gdK v30 false (fun k4 =>
          mvK v5_1 h fun v32 h =>
          k4 v32 h) (fun v32_1 h =>
          gdK v30 false (fun k5 =>
           vK (aIndexAddr Try.prog 45 v31_1 v32_1) h fun v33 h =>
           k5 v33 h) (fun v33_1 h =>
           gdK v30 false (fun k6 =>
            vK (aLoad Try.prog 25 v33_1 h) h fun v34 h =>
            k6 v34 h) (fun v34_1 h =>
            gdK v30 false (fun k7 =>
             vK (aLen Try.prog 25 v34_1) h fun v35 h =>
             k7 v35 h) (fun v35_1 h =>
             gdK v30 false (fun k8 =>
              vK (aBin Try.prog BinOp.gtr 3 v35_1 (Value.int IntKind.i64 60)) h fun v36 h =>
              k8 v36 h) (fun v36_1 h =>
              gdK v30 false (fun k9 =>
               mvK v36_1 h fun v37 h =>
               k9 v37 h) (fun v37_1 h =>
               gdK v37_1 true (fun k10 =>
                mvK a1 h fun v38 h =>
                k10 v38 h) (fun v38_1 h =>
                gdK v37_1 true (fun k11 =>
                 mvK v5_1 h fun v39 h =>
                 k11 v39 h) (fun v39_1 h =>
                 gdK v37_1 true (fun k12 =>
                  vK (aIndexAddr Try.prog 45 v38_1 v39_1) h fun v40 h =>
                  k12 v40 h) (fun v40_1 h =>
                  gdK v37_1 true (fun k13 =>
                   vK (aLoad Try.prog 25 v40_1 h) h fun v41 h =>
                   k13 v41 h) (fun v41_1 h =>
                   gdK v37_1 true (fun k14 =>
                    vK (aLen Try.prog 25 v41_1) h fun v42 h =>
                    k14 v42 h) (fun v42_1 h =>
                    gdK v37_1 true (fun k15 =>
                     vK (aBin Try.prog BinOp.leq 3 v42_1 (Value.int IntKind.i64 1200)) h fun v43 h =>
                     k15 v43 h) (fun v43_1 h =>
                     gdK v30 false (fun k16 =>
                      vK (pickV v37_1 v43_1 (Value.bool false)) h fun v44 h =>
                      k16 v44 h) (fun v44_1 h =>
                      vK (pickV v30 (Value.bool true) v44_1) h fun v45 h =>
                      cnd v45 (
                       mvK (Value.bool true) h fun v4_2 h =>
                       retV [some v4_2] R h) (
                       mvK v5_1 h fun v20 h =>
                       vK (aBin Try.prog BinOp.add 3 v20 (Value.int IntKind.i64 1)) h fun v21 h =>
                       mvK v21 h fun v5_2 h =>
                       I4 [v5_2] h ∧ μ4 [v5_2] h < μ4 [v5_1] h4)) h) h) h) h) h) h) h) h) h) h) h) h) h) h) h) h) h) (
     vK (aLoad Try.prog 24 v2 h) h fun v46 h =>
     cK Try.prog 18 [v46] h fun v47 h =>
     mvK v47 h fun v6 h =>
     vK (aLoad Try.prog 24 v2 h) h fun v49 h =>
     cK Try.prog 16 [v49] h fun v50 h =>
     cK Try.prog 25 [v50] h fun v51 h =>
     mvK v51 h fun v48 h =>
     vK (aExtract v48 0) h fun v52 h =>
     vK (aExtract v48 1) h fun v53 h =>
     vK (aExtract v48 2) h fun v54 h =>
     mvK v52 h fun v7 h =>
     mvK v53 h fun v8 h =>
     mvK v54 h fun v9 h =>
     mvK v9 h fun v55 h =>
     mvK v6 h fun v56 h =>
     vK (aBin Try.prog BinOp.neq 3 v55 v56) h fun v57 h =>
     mvK v57 h fun v58 h =>
     gdK v58 false (fun k17 =>
      mvK v6 h fun v59 h =>
      k17 v59 h) (fun v59_1 h =>
      gdK v58 false (fun k18 =>
       vK (aBin Try.prog BinOp.neq 3 v59_1 (Value.int IntKind.i64 0)) h fun v60 h =>
       k18 v60 h) (fun v60_1 h =>
       gdK v58 false (fun k19 =>
        mvK v60_1 h fun v61 h =>
        k19 v61 h) (fun v61_1 h =>
        gdK v61_1 true (fun k20 =>
         mvK v7 h fun v62 h =>
         k20 v62 h) (fun v62_1 h =>
         gdK v61_1 true (fun k21 =>
          vK (aLen Try.prog 25 v62_1) h fun v63 h =>
          k21 v63 h) (fun v63_1 h =>
          gdK v61_1 true (fun k22 =>
           mvK v8 h fun v64 h =>
           k22 v64 h) (fun v64_1 h =>
           gdK v61_1 true (fun k23 =>
            vK (aLen Try.prog 25 v64_1) h fun v65 h =>
            k23 v65 h) (fun v65_1 h =>
            gdK v61_1 true (fun k24 =>
             vK (aBin Try.prog BinOp.add 3 v63_1 v65_1) h fun v66 h =>
             k24 v66 h) (fun v66_1 h =>
             gdK v61_1 true (fun k25 =>
              vK (aBin Try.prog BinOp.gtr 3 v66_1 (Value.int IntKind.i64 0)) h fun v67 h =>
              k25 v67 h) (fun v67_1 h =>
              gdK v58 false (fun k26 =>
               vK (pickV v61_1 v67_1 (Value.bool false)) h fun v68 h =>
               k26 v68 h) (fun v68_1 h =>
               vK (pickV v58 (Value.bool true) v68_1) h fun v69 h =>
               cnd v69 (
                mvK (Value.bool false) h fun v4_3 h =>
                retV [some v4_3] R h) (
                seqK (fun k27 =>
                 mvK v6 h fun v70 h =>
                 vK (aBin Try.prog BinOp.eql 3 v70 (Value.int IntKind.i64 0)) h fun v71 h =>
                 cnd v71 (
                  vK (aLoad Try.prog 24 v2 h) h fun v73 h =>
                  cK Try.prog 26 [v73] h fun v74 h =>
                  mvK v74 h fun v72 h =>
                  vK (aExtract v72 0) h fun v75 h =>
                  vK (aExtract v72 1) h fun v76 h =>
                  mvK v75 h fun v10 h =>
                  mvK v76 h fun v11 h =>
                  mvK v7 h fun v77 h =>
                  mvK v10 h fun v78 h =>
                  cK Try.prog 27 [v78] h fun v79 h =>
                  cK Try.prog 23 [v77, v79] h fun v80 h =>
                  vK (aUn UnOp.not v80) h fun v81 h =>
                  mvK v81 h fun v82 h =>
                  gdK v82 false (fun k28 =>
                   mvK v8 h fun v83 h =>
                   k28 v83 h) (fun v83_1 h =>
                   gdK v82 false (fun k29 =>
                    mvK v11 h fun v84 h =>
                    k29 v84 h) (fun v84_1 h =>
                    gdK v82 false (fun k30 =>
                     cK Try.prog 27 [v84_1] h fun v85 h =>
                     k30 v85 h) (fun v85_1 h =>
                     gdK v82 false (fun k31 =>
                      cK Try.prog 23 [v83_1, v85_1] h fun v86 h =>
                      k31 v86 h) (fun v86_1 h =>
                      gdK v82 false (fun k32 =>
                       vK (aUn UnOp.not v86_1) h fun v87 h =>
                       k32 v87 h) (fun v87_1 h =>
                       vK (pickV v82 (Value.bool true) v87_1) h fun v88 h =>
                       cnd v88 (
                        mvK (Value.bool false) h fun v4_4 h =>
                        retV [some v4_4] R h) (
                        vK (aLoad Try.prog 24 v2 h) h fun v89 h =>
                        mvK a1 h fun v90 h =>
                        cK Try.prog 28 [v89, v90] h fun v91 h =>
                        mvK v91 h fun v6_1 h =>
                        k27 [v6_1] h)) h) h) h) h) h) (
                  k27 [v6] h)) fun x27 h => ∀ jx27 : Tmps,
                 let v6_2 : Value := nth x27 0
                 vK (aLoad Try.prog 24 v2 h) h fun v93 h =>
                 cK Try.prog 16 [v93] h fun v94 h =>
                 mvK a1 h fun v95 h =>
                 cK Try.prog 30 [v95] h fun v96 h =>
                 cK Try.prog 29 [v94, v96] h fun v97 h =>
                 mvK v97 h fun v92 h =>
                 vK (aExtract v92 0) h fun v98 h =>
                 vK (aExtract v92 1) h fun v99 h =>
                 mvK v98 h fun v12 h =>
                 mvK v99 h fun v13 h =>
                 mvK v6_2 h fun v100 h =>
                 vK (aBin Try.prog BinOp.neq 3 v100 (Value.int IntKind.i64 0)) h fun v101 h =>
                 cnd v101 (
                  mvK v13 h fun v102 h =>
                  mvK v6_2 h fun v103 h =>
                  vK (aBin Try.prog BinOp.eql 3 v102 v103) h fun v104 h =>
                  mvK v104 h fun v105 h =>
                  gdK v105 true (fun k33 =>
                   mvK v12 h fun v106 h =>
                   k33 v106 h) (fun v106_1 h =>
                   gdK v105 true (fun k34 =>
                    vK (aLen Try.prog 25 v106_1) h fun v107 h =>
                    k34 v107 h) (fun v107_1 h =>
                    gdK v105 true (fun k35 =>
                     vK (aBin Try.prog BinOp.eql 3 v107_1 (Value.int IntKind.i64 0)) h fun v108 h =>
                     k35 v108 h) (fun v108_1 h =>
                     vK (pickV v105 v108_1 (Value.bool false)) h fun v109 h =>
                     mvK v109 h fun v4_5 h =>
                     retV [some v4_5] R h) h) h) h) (
                  mvK v13 h fun v110 h =>
                  vK (aBin Try.prog BinOp.eql 29 v110 (Value.int IntKind.i64 0)) h fun v111 h =>
                  mvK v111 h fun v112 h =>
                  gdK v112 true (fun k36 =>
                   mvK v12 h fun v113 h =>
                   k36 v113 h) (fun v113_1 h =>
                   gdK v112 true (fun k37 =>
                    vK (aLoad Try.prog 24 v2 h) h fun v114 h =>
                    k37 v114 h) (fun v114_1 h =>
                    gdK v112 true (fun k38 =>
                     mvK a1 h fun v115 h =>
                     k38 v115 h) (fun v115_1 h =>
                     gdK v112 true (fun k39 =>
                      cK Try.prog 31 [v114_1, v115_1] h fun v116 h =>
                      k39 v116 h) (fun v116_1 h =>
                      gdK v112 true (fun k40 =>
                       cK Try.prog 23 [v113_1, v116_1] h fun v117 h =>
                       k40 v117 h) (fun v117_1 h =>
                       vK (pickV v112 v117_1 (Value.bool false)) h fun v118 h =>
                       mvK v118 h fun v4_6 h =>
                       retV [some v4_6] R h) h) h) h) h) h))) h) h) h) h) h) h) h) h) h) h)))
def lv5 (q : Nat) : List Nat := bif Nat.beq q 8 then [70368744112176, 5] else bif Nat.beq q 35 then [4951758976549900382185196624, 6] else []
theorem ok5 : lkOK Try.prog lv5 Try.f5 2 (Try.f5.body.getD .skip) 5 = true := by kernel_rfl
theorem e5 (a0 a1 : Value) (h : Heap) (R : Value → Heap → Prop) : n5 a0 a1 h R = wpK Try.prog lv5 (Try.f5.body.getD .skip) (endK Try.prog [.tmp 4] R) (argT [a0, a1]) h := by kernel_rfl
theorem w5 {a0 a1 : Value} {h : Heap} {R : Value → Heap → Prop} (hn : n5 a0 a1 h R) : DetP Try.prog 5 [a0, a1] h R :=
  DetP.of_code (rs := [.tmp 4]) (n := 2) Try.func5 (by kernel_rfl) (by kernel_rfl) lv5 ok5 rfl ((e5 a0 a1 h R) ▸ hn)

/-! ### examiner/examinerlaw38.CoverCheapest: function 7 -/
def n7 (a0 a1 : Value) (h : Heap) (R : Value → Heap → Prop) : Prop :=
  okK (some (aBox Try.prog 24 a0 h)) fun v2 h =>
  mvK (Value.bool false) h fun v4 h =>
  cK Try.prog 14 [] h fun v11 h =>
  vK (aUn UnOp.not v11) h fun v12 h =>
  cnd v12 (
   mvK (Value.bool false) h fun v4_1 h =>
   retV [some v4_1] R h) (
   vK (aLoad Try.prog 24 v2 h) h fun v13 h =>
   cK Try.prog 18 [v13] h fun v14 h =>
   mvK v14 h fun v5 h =>
   mvK v5 h fun v15 h =>
   vK (aBin Try.prog BinOp.eql 3 v15 (Value.int IntKind.i64 0)) h fun v16 h =>
   mvK v16 h fun v17 h =>
   gdK v17 true (fun k0 =>
    vK (aFieldAddr Try.prog 24 v2 0) h fun v18 h =>
    k0 v18 h) (fun v18_1 h =>
    gdK v17 true (fun k1 =>
     vK (aLoad Try.prog 3 v18_1 h) h fun v19 h =>
     k1 v19 h) (fun v19_1 h =>
     gdK v17 true (fun k2 =>
      vK (aBin Try.prog BinOp.gtr 3 v19_1 (Value.int IntKind.i64 20)) h fun v20 h =>
      k2 v20 h) (fun v20_1 h =>
      vK (pickV v17 v20_1 (Value.bool false)) h fun v21 h =>
      cnd v21 (
       mvK (Value.bool true) h fun v4_2 h =>
       retV [some v4_2] R h) (
       seqK (fun k3 =>
        mvK v5 h fun v22 h =>
        vK (aBin Try.prog BinOp.eql 3 v22 (Value.int IntKind.i64 0)) h fun v23 h =>
        cnd v23 (
         vK (aLoad Try.prog 24 v2 h) h fun v24 h =>
         mvK a1 h fun v25 h =>
         cK Try.prog 19 [v24, v25] h fun v26 h =>
         mvK v26 h fun v5_1 h =>
         k3 [v5_1] h) (
         k3 [v5] h)) fun x3 h => ∀ jx3 : Tmps,
        let v5_2 : Value := nth x3 0
        vK (aLoad Try.prog 24 v2 h) h fun v28 h =>
        cK Try.prog 16 [v28] h fun v29 h =>
        mvK a1 h fun v30 h =>
        cK Try.prog 17 [v30] h fun v31 h =>
        cK Try.prog 34 [v29, v31] h fun v32 h =>
        mvK v32 h fun v27 h =>
        vK (aExtract v27 0) h fun v33 h =>
        vK (aExtract v27 1) h fun v34 h =>
        vK (aExtract v27 2) h fun v35 h =>
        mvK v33 h fun v6 h =>
        mvK v34 h fun v7 h =>
        mvK v35 h fun v8 h =>
        mvK v5_2 h fun v36 h =>
        vK (aBin Try.prog BinOp.neq 3 v36 (Value.int IntKind.i64 0)) h fun v37 h =>
        cnd v37 (
         mvK v8 h fun v38 h =>
         mvK v5_2 h fun v39 h =>
         vK (aBin Try.prog BinOp.eql 3 v38 v39) h fun v40 h =>
         mvK v40 h fun v41 h =>
         gdK v41 true (fun k4 =>
          mvK v6 h fun v42 h =>
          k4 v42 h) (fun v42_1 h =>
          gdK v41 true (fun k5 =>
           vK (aLen Try.prog 45 v42_1) h fun v43 h =>
           k5 v43 h) (fun v43_1 h =>
           gdK v41 true (fun k6 =>
            mvK v7 h fun v44 h =>
            k6 v44 h) (fun v44_1 h =>
            gdK v41 true (fun k7 =>
             vK (aLen Try.prog 25 v44_1) h fun v45 h =>
             k7 v45 h) (fun v45_1 h =>
             gdK v41 true (fun k8 =>
              vK (aBin Try.prog BinOp.add 3 v43_1 v45_1) h fun v46 h =>
              k8 v46 h) (fun v46_1 h =>
              gdK v41 true (fun k9 =>
               vK (aBin Try.prog BinOp.eql 3 v46_1 (Value.int IntKind.i64 0)) h fun v47 h =>
               k9 v47 h) (fun v47_1 h =>
               vK (pickV v41 v47_1 (Value.bool false)) h fun v48 h =>
               mvK v48 h fun v4_3 h =>
               retV [some v4_3] R h) h) h) h) h) h) h) (
         vK (aLoad Try.prog 24 v2 h) h fun v50 h =>
         mvK a1 h fun v51 h =>
         cK Try.prog 35 [v50, v51] h fun v52 h =>
         mvK v52 h fun v49 h =>
         vK (aExtract v49 0) h fun v53 h =>
         vK (aExtract v49 1) h fun v54 h =>
         mvK v53 h fun v9 h =>
         mvK v54 h fun v10 h =>
         mvK v8 h fun v55 h =>
         vK (aBin Try.prog BinOp.eql 29 v55 (Value.int IntKind.i64 0)) h fun v56 h =>
         mvK v56 h fun v57 h =>
         gdK v57 true (fun k10 =>
          mvK v6 h fun v58 h =>
          k10 v58 h) (fun v58_1 h =>
          gdK v57 true (fun k11 =>
           mvK v9 h fun v59 h =>
           k11 v59 h) (fun v59_1 h =>
           gdK v57 true (fun k12 =>
            cK Try.prog 36 [v58_1, v59_1] h fun v60 h =>
            k12 v60 h) (fun v60_1 h =>
            vK (pickV v57 v60_1 (Value.bool false)) h fun v61 h =>
            mvK v61 h fun v62 h =>
            gdK v62 true (fun k13 =>
             mvK v7 h fun v63 h =>
             k13 v63 h) (fun v63_1 h =>
             gdK v62 true (fun k14 =>
              mvK v10 h fun v64 h =>
              k14 v64 h) (fun v64_1 h =>
              gdK v62 true (fun k15 =>
               cK Try.prog 23 [v63_1, v64_1] h fun v65 h =>
               k15 v65 h) (fun v65_1 h =>
               vK (pickV v62 v65_1 (Value.bool false)) h fun v66 h =>
               mvK v66 h fun v4_4 h =>
               retV [some v4_4] R h) h) h) h) h) h) h))) h) h) h)
def lv7 (q : Nat) : List Nat := bif Nat.beq q 17 then [130023456, 5] else []
theorem ok7 : lkOK Try.prog lv7 Try.f7 2 (Try.f7.body.getD .skip) 7 = true := by kernel_rfl
theorem e7 (a0 a1 : Value) (h : Heap) (R : Value → Heap → Prop) : n7 a0 a1 h R = wpK Try.prog lv7 (Try.f7.body.getD .skip) (endK Try.prog [.tmp 4] R) (argT [a0, a1]) h := by kernel_rfl
theorem w7 {a0 a1 : Value} {h : Heap} {R : Value → Heap → Prop} (hn : n7 a0 a1 h R) : DetP Try.prog 7 [a0, a1] h R :=
  DetP.of_code (rs := [.tmp 4]) (n := 2) Try.func7 (by kernel_rfl) (by kernel_rfl) lv7 ok7 rfl ((e7 a0 a1 h R) ▸ hn)

/-! ### examiner/cover.AfterIn: function 21 -/
def n21 (a0 a1 : Value) (h : Heap) (R : Value → Heap → Prop) : Prop :=
  okK (some (aBox Try.prog 24 a0 h)) fun v2 h =>
  mvK (Value.slice none 0 0) h fun v4 h =>
  mvK (Value.int IntKind.i64 0) h fun v5 h =>
  vK (aLoad Try.prog 24 v2 h) h fun v8 g =>
  VB h.length v8 ∧ (let h := g
   cKD Try.prog 51 [v8] h fun v9 g =>
   (∃ new, g = h ++ new) ∧ (let h := g
    mvK a1 h fun v10 h =>
    vK (aFieldAddr Try.prog 24 v2 4) h fun v11 h =>
    vK (aLoad Try.prog 22 v11 h) h fun v12 g =>
    VB h.length v12 ∧ (let h := g
     vK (aLen Try.prog 22 v12) h fun v13 h =>
     vK (aBin Try.prog BinOp.sub 3 v13 (Value.int IntKind.i64 1)) h fun v14 h =>
     cKD Try.prog 59 [v10, (Value.int IntKind.i64 0), v14] h fun v15 g =>
     (∃ new, g = h ++ new) ∧ (let h := g
      cKD Try.prog 61 [v15, (Value.int IntKind.i64 3)] h fun v16 g =>
      (∃ new, g = h ++ new) ∧ (let h := g
       okK (aBuildSlice Try.prog 132 2 [(0, v9), (1, v16)] h) fun v17 h =>
       cKD Try.prog 50 [v17] h fun v18 g =>
       (∃ new, g = h ++ new) ∧ (let h := g
        mvK v18 h fun v6 h =>
        mvK v6 h fun v19 h =>
        vK (aBin Try.prog BinOp.neq 29 v19 (Value.int IntKind.i64 0)) h fun v20 h =>
        cnd v20 (
         mvK v6 h fun v21 h =>
         mvK (Value.slice none 0 0) h fun v4_1 h =>
         mvK v21 h fun v5_1 h =>
         retV [some v4_1, some v5_1] R h) (
         vK (aLoad Try.prog 24 v2 h) h fun v22 h =>
         cK Try.prog 54 [v22] h fun v23 h =>
         mvK v23 h fun v7 h =>
         mvK v7 h fun v24 h =>
         mvK v7 h fun v25 h =>
         vK (nilV v25) h fun v26 h =>
         vK (aFieldAddr Try.prog 92 v26 0) h fun v27 h =>
         vK (aFieldAddr Try.prog 24 v27 3) h fun v28 h =>
         vK (aLoad Try.prog 3 v28 h) h fun v29 g =>
         VB h.length v29 ∧ (let h := g
          cKD Try.prog 64 [v24, v29] h fun v30 g =>
          (∃ new, g = h ++ new) ∧ (let h := g
           vK (aFieldAddr Try.prog 24 v2 4) h fun v31 h =>
           vK (aLoad Try.prog 22 v31 h) h fun v32 g =>
           VB h.length v32 ∧ (let h := g
            mvK a1 h fun v33 h =>
            vK (aIndexAddr Try.prog 22 v32 v33) h fun v34 h =>
            vK (aFieldAddr Try.prog 76 v34 0) h fun v35 h =>
            vK (aLoad Try.prog 3 v35 h) h fun v36 g =>
            VB h.length v36 ∧ (let h := g
             vK (aIndexAddr Try.prog 48 v30 v36) h fun v37 h =>
             vK (aLoad Try.prog 4 v37 h) h fun v38 g =>
             VB h.length v38 ∧ (let h := g
              vK (aUn UnOp.not v38) h fun v39 h =>
              cnd v39 (
               mvK (Value.slice none 0 0) h fun v4_2 h =>
               mvK (Value.int IntKind.i64 0) h fun v5_2 h =>
               retV [some v4_2, some v5_2] R h) (
               mvK v7 h fun v40 h =>
               mvK v7 h fun v41 h =>
               vK (aFieldAddr Try.prog 24 v2 4) h fun v42 h =>
               vK (aLoad Try.prog 22 v42 h) h fun v43 h =>
               mvK a1 h fun v44 h =>
               vK (aIndexAddr Try.prog 22 v43 v44) h fun v45 h =>
               vK (aFieldAddr Try.prog 76 v45 3) h fun v46 h =>
               vK (aLoad Try.prog 3 v46 h) h fun v47 h =>
               cK Try.prog 64 [v41, v47] h fun v48 h =>
               cK Try.prog 65 [v40, v48] h fun v49 h =>
               mvK v49 h fun v4_3 h =>
               mvK (Value.int IntKind.i64 0) h fun v5_3 h =>
               retV [some v4_3, some v5_3] R h)))))))))))))
def lv21 (q : Nat) : List Nat := []
theorem ok21 : lkOK Try.prog lv21 Try.f21 2 (Try.f21.body.getD .skip) 21 = true := by kernel_rfl
theorem e21 (a0 a1 : Value) (h : Heap) (R : Value → Heap → Prop) : n21 a0 a1 h R = wpK Try.prog lv21 (Try.f21.body.getD .skip) (endK Try.prog [.tmp 4, .tmp 5] R) (argT [a0, a1]) h := by kernel_rfl
theorem w21 {a0 a1 : Value} {h : Heap} {R : Value → Heap → Prop} (hn : n21 a0 a1 h R) : DetP Try.prog 21 [a0, a1] h R :=
  DetP.of_code (rs := [.tmp 4, .tmp 5]) (n := 2) Try.func21 (by kernel_rfl) (by kernel_rfl) lv21 ok21 rfl ((e21 a0 a1 h R) ▸ hn)

/-! ### examiner/examinerref38.After: function 24 -/
def n24 (a0 a1 : Value) (h : Heap) (R : Value → Heap → Prop) : Prop :=
  okK (some (aBox Try.prog 24 a0 h)) fun v2 h =>
  mvK (Value.slice none 0 0) h fun v4 h =>
  vK (aLoad Try.prog 24 v2 h) h fun v13 h =>
  cK Try.prog 26 [v13] h fun v14 h =>
  mvK v14 h fun v12 h =>
  vK (aExtract v12 0) h fun v15 h =>
  vK (aExtract v12 1) h fun v16 h =>
  mvK v15 h fun v5 h =>
  mvK v16 h fun v6 h =>
  mvK v6 h fun v17 h =>
  mvK a1 h fun v18 h =>
  vK (aIndexAddr Try.prog 48 v17 v18) h fun v19 h =>
  vK (aLoad Try.prog 4 v19 h) h fun v20 h =>
  vK (aUn UnOp.not v20) h fun v21 h =>
  cnd v21 (
   mvK (Value.slice none 0 0) h fun v4_1 h =>
   retV [some v4_1] R h) (
   vK (aFieldAddr Try.prog 24 v2 4) h fun v22 h =>
   vK (aLoad Try.prog 22 v22 h) h fun v23 h =>
   mvK a1 h fun v24 h =>
   vK (aIndexAddr Try.prog 22 v23 v24) h fun v25 h =>
   vK (aFieldAddr Try.prog 76 v25 3) h fun v26 h =>
   vK (aLoad Try.prog 3 v26 h) h fun v27 h =>
   okK (aBuildSlice Try.prog 25 1 [(0, v27)] h) fun v28 h =>
   mvK v28 h fun v7 h =>
   mvK (Value.int IntKind.i64 0) h fun v8 h =>
   ∃ (I6 : List Value → Heap → Prop) (μ6 : List Value → Heap → Nat), I6 [v7, v8] h ∧
   ∀ (h6 : Heap) (j6 : Tmps) (v7_1 : Value) (v8_1 : Value), I6 [v7_1, v8_1] h6 → (let h := h6
    mvK v8_1 h fun v29 h =>
    mvK v7_1 h fun v30 h =>
    vK (aLen Try.prog 25 v30) h fun v31 h =>
    vK (aBin Try.prog BinOp.lss 3 v29 v31) h fun v32 h =>
    cnd v32 (
     mvK (Value.int IntKind.i64 0) h fun v9 h =>
     ∃ (I9 : List Value → Heap → Prop) (μ9 : List Value → Heap → Nat), I9 [v7_1, v9] h ∧
     ∀ (h9 : Heap) (j9 : Tmps) (v7_2 : Value) (v9_1 : Value), I9 [v7_2, v9_1] h9 → (let h := h9
      mvK v9_1 h fun v35 h =>
      vK (aFieldAddr Try.prog 24 v2 4) h fun v36 h =>
      vK (aLoad Try.prog 22 v36 h) h fun v37 h =>
      vK (aLen Try.prog 22 v37) h fun v38 h =>
      vK (aBin Try.prog BinOp.lss 3 v35 v38) h fun v39 h =>
      cnd v39 (
       seqK (fun k0 =>
        vK (aFieldAddr Try.prog 24 v2 4) h fun v42 h =>
        vK (aLoad Try.prog 22 v42 h) h fun v43 g =>
        VB h.length v43 ∧ (let h := g
         mvK v9_1 h fun v44 h =>
         vK (aIndexAddr Try.prog 22 v43 v44) h fun v45 h =>
         vK (aFieldAddr Try.prog 76 v45 0) h fun v46 h =>
         vK (aLoad Try.prog 3 v46 h) h fun v47 g =>
         VB h.length v47 ∧ (let h := g
          mvK v7_2 h fun v48 h =>
          mvK v8_1 h fun v49 h =>
          vK (aIndexAddr Try.prog 25 v48 v49) h fun v50 h =>
          vK (aLoad Try.prog 3 v50 h) h fun v51 g =>
          VB h.length v51 ∧ (let h := g
           vK (aBin Try.prog BinOp.eql 3 v47 v51) h fun v52 h =>
           mvK v52 h fun v53 h =>
           gdK v53 true (fun k1 =>
            mvK v7_2 h fun v54 h =>
            k1 v54 h) (fun v54_1 h =>
            gdK v53 true (fun k2 =>
             vK (aFieldAddr Try.prog 24 v2 4) h fun v55 h =>
             k2 v55 h) (fun v55_1 h =>
             gdK v53 true (fun k3 =>
              vK (aLoad Try.prog 22 v55_1 h) h fun v56 g =>
              VB h.length v56 ∧ (let h := g
               k3 v56 h)) (fun v56_1 h =>
              gdK v53 true (fun k4 =>
               mvK v9_1 h fun v57 h =>
               k4 v57 h) (fun v57_1 h =>
               gdK v53 true (fun k5 =>
                vK (aIndexAddr Try.prog 22 v56_1 v57_1) h fun v58 h =>
                k5 v58 h) (fun v58_1 h =>
                gdK v53 true (fun k6 =>
                 vK (aFieldAddr Try.prog 76 v58_1 3) h fun v59 h =>
                 k6 v59 h) (fun v59_1 h =>
                 gdK v53 true (fun k7 =>
                  vK (aLoad Try.prog 3 v59_1 h) h fun v60 g =>
                  VB h.length v60 ∧ (let h := g
                   k7 v60 h)) (fun v60_1 h =>
                  gdK v53 true (fun k8 =>
                   cKD Try.prog 47 [v54_1, v60_1] h fun v61 g =>
                   (∃ new, g = h ++ new) ∧ (let h := g
                    k8 v61 h)) (fun v61_1 h =>
                   gdK v53 true (fun k9 =>
                    vK (aUn UnOp.not v61_1) h fun v62 h =>
                    k9 v62 h) (fun v62_1 h =>
                    vK (pickV v53 v62_1 (Value.bool false)) h fun v63 h =>
                    cnd v63 (
                     mvK v7_2 h fun v64 h =>
                     vK (aFieldAddr Try.prog 24 v2 4) h fun v65 h =>
                     vK (aLoad Try.prog 22 v65 h) h fun v66 h =>
                     mvK v9_1 h fun v67 h =>
                     vK (aIndexAddr Try.prog 22 v66 v67) h fun v68 h =>
                     vK (aFieldAddr Try.prog 76 v68 3) h fun v69 h =>
                     vK (aLoad Try.prog 3 v69 h) h fun v70 h =>
                     okK (aBuildSlice Try.prog 25 1 [(0, v70)] h) fun v71 h =>
                     okK (aAppend Try.prog 25 25 v64 v71 h) fun v72 h =>
                     mvK v72 h fun v7_3 h =>
                     k0 [v7_3] h) (
                     k0 [v7_2] h)) h) h) h) h) h) h) h) h) h)))) fun x0 h => ∀ jx0 : Tmps,
        let v7_4 : Value := nth x0 0
        mvK v9_1 h fun v40 h =>
        vK (aBin Try.prog BinOp.add 3 v40 (Value.int IntKind.i64 1)) h fun v41 h =>
        mvK v41 h fun v9_2 h =>
        I9 [v7_4, v9_2] h ∧ μ9 [v7_4, v9_2] h < μ9 [v7_2, v9_1] h9) (
       mvK v8_1 h fun v33 h =>
       vK (aBin Try.prog BinOp.add 3 v33 (Value.int IntKind.i64 1)) h fun v34 h =>
       mvK v34 h fun v8_2 h =>
       I6 [v7_2, v8_2] h ∧ μ6 [v7_2, v8_2] h < μ6 [v7_1, v8_1] h6))) (
     mvK (Value.slice none 0 0) h fun v10 h =>
     mvK (Value.int IntKind.i64 0) h fun v11 h =>
     ∃ (I15 : List Value → Heap → Prop) (μ15 : List Value → Heap → Nat), I15 [v10, v11] h ∧
     ∀ (h15 : Heap) (j15 : Tmps) (v10_1 : Value) (v11_1 : Value), I15 [v10_1, v11_1] h15 → (let h := h15
      mvK v11_1 h fun v73 h =>
      vK (aFieldAddr Try.prog 24 v2 4) h fun v74 h =>
      vK (aLoad Try.prog 22 v74 h) h fun v75 h =>
      vK (aLen Try.prog 22 v75) h fun v76 h =>
      vK (aBin Try.prog BinOp.lss 3 v73 v76) h fun v77 h =>
      cnd v77 (
       seqK (fun k10 =>
        mvK v7_1 h fun v80 h =>
        vK (aFieldAddr Try.prog 24 v2 4) h fun v81 h =>
        vK (aLoad Try.prog 22 v81 h) h fun v82 h =>
        mvK v11_1 h fun v83 h =>
        vK (aIndexAddr Try.prog 22 v82 v83) h fun v84 h =>
        vK (aFieldAddr Try.prog 76 v84 0) h fun v85 h =>
        vK (aLoad Try.prog 3 v85 h) h fun v86 h =>
        cK Try.prog 47 [v80, v86] h fun v87 h =>
        cnd v87 (
         mvK v10_1 h fun v88 h =>
         mvK v11_1 h fun v89 h =>
         okK (aBuildSlice Try.prog 25 1 [(0, v89)] h) fun v90 h =>
         okK (aAppend Try.prog 25 25 v88 v90 h) fun v91 h =>
         mvK v91 h fun v10_2 h =>
         k10 [v10_2] h) (
         k10 [v10_1] h)) fun x10 h => ∀ jx10 : Tmps,
        let v10_3 : Value := nth x10 0
        mvK v11_1 h fun v78 h =>
        vK (aBin Try.prog BinOp.add 3 v78 (Value.int IntKind.i64 1)) h fun v79 h =>
        mvK v79 h fun v11_2 h =>
        I15 [v10_3, v11_2] h ∧ μ15 [v10_3, v11_2] h < μ15 [v10_1, v11_1] h15) (
       mvK v10_1 h fun v92 h =>
       mvK v92 h fun v4_2 h =>
       retV [some v4_2] R h)))))
def lv24 (q : Nat) : List Nat := bif Nat.beq q 12 then [9444732965738753557376, 7, 8] else bif Nat.beq q 18 then [9444732965704930689664, 7, 9] else bif Nat.beq q 21 then [9444732961341243916416, 7] else bif Nat.beq q 30 then [4951750712408555360306072576, 10, 11] else bif Nat.beq q 33 then [4950551231321906470421791744, 10] else []
theorem ok24 : lkOK Try.prog lv24 Try.f24 2 (Try.f24.body.getD .skip) 24 = true := by kernel_rfl
theorem e24 (a0 a1 : Value) (h : Heap) (R : Value → Heap → Prop) : n24 a0 a1 h R = wpK Try.prog lv24 (Try.f24.body.getD .skip) (endK Try.prog [.tmp 4] R) (argT [a0, a1]) h := by kernel_rfl
theorem w24 {a0 a1 : Value} {h : Heap} {R : Value → Heap → Prop} (hn : n24 a0 a1 h R) : DetP Try.prog 24 [a0, a1] h R :=
  DetP.of_code (rs := [.tmp 4]) (n := 2) Try.func24 (by kernel_rfl) (by kernel_rfl) lv24 ok24 rfl ((e24 a0 a1 h R) ▸ hn)

/-! ### examiner/cover.ReachedIn: function 25 -/
def n25 (a0 : Value) (h : Heap) (R : Value → Heap → Prop) : Prop :=
  okK (some (aBox Try.prog 24 a0 h)) fun v1 h =>
  mvK (Value.slice none 0 0) h fun v2 h =>
  mvK (Value.slice none 0 0) h fun v3 h =>
  mvK (Value.int IntKind.i64 0) h fun v4 h =>
  vK (aLoad Try.prog 24 v1 h) h fun v10 h =>
  cK Try.prog 51 [v10] h fun v11 h =>
  mvK v11 h fun v5 h =>
  mvK v5 h fun v12 h =>
  vK (aBin Try.prog BinOp.neq 29 v12 (Value.int IntKind.i64 0)) h fun v13 h =>
  cnd v13 (
   mvK v5 h fun v14 h =>
   mvK (Value.slice none 0 0) h fun v2_1 h =>
   mvK (Value.slice none 0 0) h fun v3_1 h =>
   mvK v14 h fun v4_1 h =>
   retV [some v2_1, some v3_1, some v4_1] R h) (
   vK (aLoad Try.prog 24 v1 h) h fun v15 h =>
   cK Try.prog 54 [v15] h fun v16 h =>
   mvK v16 h fun v6 h =>
   mvK (Value.slice none 0 0) h fun v7 h =>
   mvK v6 h fun v17 h =>
   mvK v6 h fun v18 h =>
   vK (nilV v18) h fun v19 h =>
   vK (aFieldAddr Try.prog 92 v19 0) h fun v20 h =>
   vK (aFieldAddr Try.prog 24 v20 3) h fun v21 h =>
   vK (aLoad Try.prog 3 v21 h) h fun v22 h =>
   cK Try.prog 64 [v17, v22] h fun v23 h =>
   vK (aLen Try.prog 48 v23) h fun v24 h =>
   mvK (Value.int IntKind.i64 0) h fun v25 h =>
   ∃ (I7 : List Value → Heap → Prop) (μ7 : List Value → Heap → Nat), I7 [v7, v25] h ∧
   ∀ (h7 : Heap) (j7 : Tmps) (v7_1 : Value) (v25_1 : Value), I7 [v7_1, v25_1] h7 → (let h := h7
    vK (aBin Try.prog BinOp.lss 3 v25_1 v24) h fun v26 h =>
    cnd v26 (
     seqK (fun k0 =>
      mvK v25_1 h fun v27 h =>
      vK (aIndexAddr Try.prog 48 v23 v25_1) h fun v28 h =>
      vK (aLoad Try.prog 4 v28 h) h fun v29 h =>
      mvK v27 h fun v8 h =>
      mvK v29 h fun v9 h =>
      mvK v9 h fun v30 h =>
      cnd v30 (
       mvK v7_1 h fun v31 h =>
       mvK v8 h fun v32 h =>
       okK (aBuildSlice Try.prog 25 1 [(0, v32)] h) fun v33 h =>
       okK (aAppend Try.prog 25 25 v31 v33 h) fun v34 h =>
       mvK v34 h fun v7_2 h =>
       k0 [v7_2] h) (
       k0 [v7_1] h)) fun x0 h => ∀ jx0 : Tmps,
      let v7_3 : Value := nth x0 0
      vK (aBin Try.prog BinOp.add 3 v25_1 (Value.int IntKind.i64 1)) h fun v35 h =>
      mvK v35 h fun v25_2 h =>
      I7 [v7_3, v25_2] h ∧ μ7 [v7_3, v25_2] h < μ7 [v7_1, v25_1] h7) (
     mvK v7_1 h fun v36 h =>
     mvK v6 h fun v37 h =>
     cK Try.prog 60 [v37] h fun v38 h =>
     mvK v36 h fun v2_2 h =>
     mvK v38 h fun v3_2 h =>
     mvK (Value.int IntKind.i64 0) h fun v4_2 h =>
     retV [some v2_2, some v3_2, some v4_2] R h)))
def lv25 (q : Nat) : List Nat := bif Nat.beq q 14 then [68685923200, 7, 25] else bif Nat.beq q 23 then [34225521536, 7] else []
theorem ok25 : lkOK Try.prog lv25 Try.f25 1 (Try.f25.body.getD .skip) 25 = true := by kernel_rfl
theorem e25 (a0 : Value) (h : Heap) (R : Value → Heap → Prop) : n25 a0 h R = wpK Try.prog lv25 (Try.f25.body.getD .skip) (endK Try.prog [.tmp 2, .tmp 3, .tmp 4] R) (argT [a0]) h := by kernel_rfl
theorem w25 {a0 : Value} {h : Heap} {R : Value → Heap → Prop} (hn : n25 a0 h R) : DetP Try.prog 25 [a0] h R :=
  DetP.of_code (rs := [.tmp 2, .tmp 3, .tmp 4]) (n := 1) Try.func25 (by kernel_rfl) (by kernel_rfl) lv25 ok25 rfl ((e25 a0 h R) ▸ hn)

/-! ### examiner/examinerlaw38.marked: function 27 -/
def n27 (a0 : Value) (h : Heap) (R : Value → Heap → Prop) : Prop :=
  mvK (Value.slice none 0 0) h fun v2 h =>
  mvK (Value.slice none 0 0) h fun v3 h =>
  mvK (Value.int IntKind.i64 0) h fun v4 h =>
  ∃ (I3 : List Value → Heap → Prop) (μ3 : List Value → Heap → Nat), I3 [v3, v4] h ∧
  ∀ (h3 : Heap) (j3 : Tmps) (v3_1 : Value) (v4_1 : Value), I3 [v3_1, v4_1] h3 → (let h := h3
   mvK v4_1 h fun v5 h =>
   mvK a0 h fun v6 h =>
   vK (aLen Try.prog 48 v6) h fun v7 h =>
   vK (aBin Try.prog BinOp.lss 3 v5 v7) h fun v8 h =>
   cnd v8 (
    seqK (fun k0 =>
     mvK a0 h fun v11 h =>
     mvK v4_1 h fun v12 h =>
     vK (aIndexAddr Try.prog 48 v11 v12) h fun v13 h =>
     vK (aLoad Try.prog 4 v13 h) h fun v14 h =>
     cnd v14 (
      mvK v3_1 h fun v15 h =>
      mvK v4_1 h fun v16 h =>
      okK (aBuildSlice Try.prog 25 1 [(0, v16)] h) fun v17 h =>
      okK (aAppend Try.prog 25 25 v15 v17 h) fun v18 h =>
      mvK v18 h fun v3_2 h =>
      k0 [v3_2] h) (
      k0 [v3_1] h)) fun x0 h => ∀ jx0 : Tmps,
     let v3_3 : Value := nth x0 0
     mvK v4_1 h fun v9 h =>
     vK (aBin Try.prog BinOp.add 3 v9 (Value.int IntKind.i64 1)) h fun v10 h =>
     mvK v10 h fun v4_2 h =>
     I3 [v3_3, v4_2] h ∧ μ3 [v3_3, v4_2] h < μ3 [v3_1, v4_1] h3) (
    mvK v3_1 h fun v19 h =>
    mvK v19 h fun v2_1 h =>
    retV [some v2_1] R h))
def lv27 (q : Nat) : List Nat := bif Nat.beq q 6 then [524280, 3, 4] else bif Nat.beq q 9 then [522248, 3] else []
theorem ok27 : lkOK Try.prog lv27 Try.f27 1 (Try.f27.body.getD .skip) 27 = true := by kernel_rfl
theorem e27 (a0 : Value) (h : Heap) (R : Value → Heap → Prop) : n27 a0 h R = wpK Try.prog lv27 (Try.f27.body.getD .skip) (endK Try.prog [.tmp 2] R) (argT [a0]) h := by kernel_rfl
theorem w27 {a0 : Value} {h : Heap} {R : Value → Heap → Prop} (hn : n27 a0 h R) : DetP Try.prog 27 [a0] h R :=
  DetP.of_code (rs := [.tmp 2]) (n := 1) Try.func27 (by kernel_rfl) (by kernel_rfl) lv27 ok27 rfl ((e27 a0 h R) ▸ hn)

/-! ### examiner/examinerref38.WordsErr: function 28 -/
def n28 (a0 a1 : Value) (h : Heap) (R : Value → Heap → Prop) : Prop :=
  okK (some (aBox Try.prog 24 a0 h)) fun v2 h =>
  mvK (Value.int IntKind.i64 0) h fun v4 h =>
  mvK a1 h fun v7 h =>
  vK (aLen Try.prog 45 v7) h fun v8 h =>
  vK (aBin Try.prog BinOp.gtr 3 v8 (Value.int IntKind.i64 80)) h fun v9 h =>
  cnd v9 (
   mvK (Value.int IntKind.i64 2) h fun v4_1 h =>
   retV [some v4_1] R h) (
   mvK (Value.int IntKind.i64 0) h fun v5 h =>
   ∃ (I4 : List Value → Heap → Prop) (μ4 : List Value → Heap → Nat), I4 [v5] h ∧
   ∀ (h4 : Heap) (j4 : Tmps) (v5_1 : Value), I4 [v5_1] h4 → (let h := h4
    mvK v5_1 h fun v10 h =>
    mvK a1 h fun v11 h =>
    vK (aLen Try.prog 45 v11) h fun v12 h =>
    vK (aBin Try.prog BinOp.lss 3 v10 v12) h fun v13 h =>
    cnd v13 (
     mvK a1 h fun v16 h =>
     mvK v5_1 h fun v17 h =>
     vK (aIndexAddr Try.prog 45 v16 v17) h fun v18 h =>
     vK (aLoad Try.prog 25 v18 h) h fun v19 g =>
     VB h.length v19 ∧ (let h := g
      vK (aFieldAddr Try.prog 24 v2 1) h fun v20 h =>
      vK (aLoad Try.prog 3 v20 h) h fun v21 g =>
      VB h.length v21 ∧ (let h := g
       cKD Try.prog 41 [v19, v21, (Value.int IntKind.i64 1200)] h fun v22 g =>
       (∃ new, g = h ++ new) ∧ (let h := g
        mvK v22 h fun v6 h =>
        mvK v6 h fun v23 h =>
        vK (aBin Try.prog BinOp.neq 3 v23 (Value.int IntKind.i64 0)) h fun v24 h =>
        cnd v24 (
         mvK v6 h fun v25 h =>
         mvK v25 h fun v4_2 h =>
         retV [some v4_2] R h) (
         mvK v5_1 h fun v14 h =>
         vK (aBin Try.prog BinOp.add 3 v14 (Value.int IntKind.i64 1)) h fun v15 h =>
         mvK v15 h fun v5_2 h =>
         I4 [v5_2] h ∧ μ4 [v5_2] h < μ4 [v5_1] h4))))) (
     mvK (Value.int IntKind.i64 0) h fun v4_3 h =>
     retV [some v4_3] R h)))
def lv28 (q : Nat) : List Nat := bif Nat.beq q 8 then [67107952, 5] else []
theorem ok28 : lkOK Try.prog lv28 Try.f28 2 (Try.f28.body.getD .skip) 28 = true := by kernel_rfl
theorem e28 (a0 a1 : Value) (h : Heap) (R : Value → Heap → Prop) : n28 a0 a1 h R = wpK Try.prog lv28 (Try.f28.body.getD .skip) (endK Try.prog [.tmp 4] R) (argT [a0, a1]) h := by kernel_rfl
theorem w28 {a0 a1 : Value} {h : Heap} {R : Value → Heap → Prop} (hn : n28 a0 a1 h R) : DetP Try.prog 28 [a0, a1] h R :=
  DetP.of_code (rs := [.tmp 4]) (n := 2) Try.func28 (by kernel_rfl) (by kernel_rfl) lv28 ok28 rfl ((e28 a0 a1 h R) ▸ hn)

/-! ### examiner/cover.TakenBy: function 29 -/
def n29 (a0 a1 : Value) (h : Heap) (R : Value → Heap → Prop) : Prop :=
  okK (some (aBox Try.prog 24 a0 h)) fun v2 h =>
  mvK (Value.slice none 0 0) h fun v4 h =>
  mvK (Value.int IntKind.i64 0) h fun v5 h =>
  vK (aLoad Try.prog 24 v2 h) h fun v13 g =>
  VB h.length v13 ∧ (let h := g
   cKD Try.prog 51 [v13] h fun v14 g =>
   (∃ new, g = h ++ new) ∧ (let h := g
    vK (aLoad Try.prog 24 v2 h) h fun v15 g =>
    VB h.length v15 ∧ (let h := g
     mvK a1 h fun v16 h =>
     cKD Try.prog 67 [v15, v16] h fun v17 g =>
     (∃ new, g = h ++ new) ∧ (let h := g
      okK (aBuildSlice Try.prog 132 2 [(0, v14), (1, v17)] h) fun v18 h =>
      cKD Try.prog 50 [v18] h fun v19 g =>
      (∃ new, g = h ++ new) ∧ (let h := g
       mvK v19 h fun v6 h =>
       mvK v6 h fun v20 h =>
       vK (aBin Try.prog BinOp.neq 29 v20 (Value.int IntKind.i64 0)) h fun v21 h =>
       cnd v21 (
        mvK v6 h fun v22 h =>
        mvK (Value.slice none 0 0) h fun v4_1 h =>
        mvK v22 h fun v5_1 h =>
        retV [some v4_1, some v5_1] R h) (
        vK (aLoad Try.prog 24 v2 h) h fun v23 h =>
        cK Try.prog 54 [v23] h fun v24 h =>
        mvK v24 h fun v7 h =>
        vK (aFieldAddr Try.prog 24 v2 4) h fun v25 h =>
        vK (aLoad Try.prog 22 v25 h) h fun v26 h =>
        vK (aLen Try.prog 22 v26) h fun v27 h =>
        okK (aMakeSlice Try.prog 25 v27 v27 h) fun v28 h =>
        mvK v28 h fun v8 h =>
        mvK a1 h fun v29 h =>
        vK (aLen Try.prog 45 v29) h fun v30 h =>
        mvK (Value.int IntKind.i64 0) h fun v31 h =>
        ∃ (I7 : List Value → Heap → Prop) (μ7 : List Value → Heap → Nat), I7 [v31] h ∧
        ∀ (h7 : Heap) (j7 : Tmps) (v31_1 : Value), I7 [v31_1] h7 → (let h := h7
         vK (aBin Try.prog BinOp.lss 3 v31_1 v30) h fun v32 h =>
         cnd v32 (
          vK (aIndexAddr Try.prog 45 v29 v31_1) h fun v33 h =>
          vK (aLoad Try.prog 25 v33 h) h fun v34 h =>
          mvK v34 h fun v10 h =>
          mvK v7 h fun v35 h =>
          mvK v10 h fun v36 h =>
          cK Try.prog 55 [v35, v36] h fun v37 h =>
          vK (aLen Try.prog 25 v37) h fun v38 h =>
          mvK (Value.int IntKind.i64 0) h fun v39 h =>
          ∃ (I10 : List Value → Heap → Prop) (μ10 : List Value → Heap → Nat), I10 [v39] h ∧
          ∀ (h10 : Heap) (j10 : Tmps) (v39_1 : Value), I10 [v39_1] h10 → (let h := h10
           vK (aBin Try.prog BinOp.lss 3 v39_1 v38) h fun v40 h =>
           cnd v40 (
            vK (aIndexAddr Try.prog 25 v37 v39_1) h fun v41 h =>
            vK (aLoad Try.prog 3 v41 h) h fun v42 h =>
            mvK v42 h fun v12 h =>
            mvK v8 h fun v43 h =>
            mvK v12 h fun v44 h =>
            vK (aIndexAddr Try.prog 25 v43 v44) h fun v45 h =>
            vK (aLoad Try.prog 3 v45 h) h fun v46 h =>
            vK (aBin Try.prog BinOp.add 3 v46 (Value.int IntKind.i64 1)) h fun v47 h =>
            vK (aIndexAddr Try.prog 25 v43 v44) h fun v48 h =>
            okK ((aStore Try.prog 3 v48 v47 h).map (undef, ·)) fun _ h =>
            vK (aBin Try.prog BinOp.add 3 v39_1 (Value.int IntKind.i64 1)) h fun v49 h =>
            mvK v49 h fun v39_2 h =>
            I10 [v39_2] h ∧ μ10 [v39_2] h < μ10 [v39_1] h10) (
            vK (aBin Try.prog BinOp.add 3 v31_1 (Value.int IntKind.i64 1)) h fun v50 h =>
            mvK v50 h fun v31_2 h =>
            I7 [v31_2] h ∧ μ7 [v31_2] h < μ7 [v31_1] h7))) (
          mvK v8 h fun v51 h =>
          mvK v51 h fun v4_2 h =>
          mvK (Value.int IntKind.i64 0) h fun v5_2 h =>
          retV [some v4_2, some v5_2] R h))))))))
def lv29 (q : Nat) : List Nat := bif Nat.beq q 14 then [2251797666206720, 31] else bif Nat.beq q 20 then [1125350151032832, 39] else []
theorem ok29 : lkOK Try.prog lv29 Try.f29 2 (Try.f29.body.getD .skip) 29 = true := by kernel_rfl
theorem e29 (a0 a1 : Value) (h : Heap) (R : Value → Heap → Prop) : n29 a0 a1 h R = wpK Try.prog lv29 (Try.f29.body.getD .skip) (endK Try.prog [.tmp 4, .tmp 5] R) (argT [a0, a1]) h := by kernel_rfl
theorem w29 {a0 a1 : Value} {h : Heap} {R : Value → Heap → Prop} (hn : n29 a0 a1 h R) : DetP Try.prog 29 [a0, a1] h R :=
  DetP.of_code (rs := [.tmp 4, .tmp 5]) (n := 2) Try.func29 (by kernel_rfl) (by kernel_rfl) lv29 ok29 rfl ((e29 a0 a1 h R) ▸ hn)

/-! ### examiner/examinerref38.Taken: function 31 -/
def n31 (a0 a1 : Value) (h : Heap) (R : Value → Heap → Prop) : Prop :=
  okK (some (aBox Try.prog 24 a0 h)) fun v2 h =>
  mvK (Value.slice none 0 0) h fun v4 h =>
  vK (aFieldAddr Try.prog 24 v2 4) h fun v9 h =>
  vK (aLoad Try.prog 22 v9 h) h fun v10 h =>
  vK (aLen Try.prog 22 v10) h fun v11 h =>
  okK (aMakeSlice Try.prog 25 v11 v11 h) fun v12 h =>
  mvK v12 h fun v5 h =>
  mvK (Value.int IntKind.i64 0) h fun v6 h =>
  ∃ (I3 : List Value → Heap → Prop) (μ3 : List Value → Heap → Nat), I3 [v6] h ∧
  ∀ (h3 : Heap) (j3 : Tmps) (v6_1 : Value), I3 [v6_1] h3 → (let h := h3
   mvK v6_1 h fun v13 h =>
   mvK a1 h fun v14 h =>
   vK (aLen Try.prog 45 v14) h fun v15 h =>
   vK (aBin Try.prog BinOp.lss 3 v13 v15) h fun v16 h =>
   cnd v16 (
    vK (aLoad Try.prog 24 v2 h) h fun v19 g =>
    VB h.length v19 ∧ (let h := g
     vK (aFieldAddr Try.prog 24 v2 3) h fun v20 h =>
     vK (aLoad Try.prog 3 v20 h) h fun v21 g =>
     VB h.length v21 ∧ (let h := g
      mvK a1 h fun v22 h =>
      mvK v6_1 h fun v23 h =>
      vK (aIndexAddr Try.prog 45 v22 v23) h fun v24 h =>
      vK (aLoad Try.prog 25 v24 h) h fun v25 g =>
      VB h.length v25 ∧ (let h := g
       cKD Try.prog 46 [v19, v21, v25] h fun v26 g =>
       (∃ new, g = h ++ new) ∧ (let h := g
        mvK v26 h fun v7 h =>
        mvK (Value.int IntKind.i64 0) h fun v8 h =>
        ∃ (I7 : List Value → Heap → Prop) (μ7 : List Value → Heap → Nat), I7 [v8] h ∧
        ∀ (h7 : Heap) (j7 : Tmps) (v8_1 : Value), I7 [v8_1] h7 → (let h := h7
         mvK v8_1 h fun v27 h =>
         mvK v7 h fun v28 h =>
         vK (aLen Try.prog 25 v28) h fun v29 h =>
         vK (aBin Try.prog BinOp.lss 3 v27 v29) h fun v30 h =>
         cnd v30 (
          mvK v5 h fun v33 h =>
          mvK v7 h fun v34 h =>
          mvK v8_1 h fun v35 h =>
          vK (aIndexAddr Try.prog 25 v34 v35) h fun v36 h =>
          vK (aLoad Try.prog 3 v36 h) h fun v37 g =>
          VB h.length v37 ∧ (let h := g
           mvK v5 h fun v38 h =>
           mvK v7 h fun v39 h =>
           mvK v8_1 h fun v40 h =>
           vK (aIndexAddr Try.prog 25 v39 v40) h fun v41 h =>
           vK (aLoad Try.prog 3 v41 h) h fun v42 g =>
           VB h.length v42 ∧ (let h := g
            vK (aIndexAddr Try.prog 25 v38 v42) h fun v43 h =>
            vK (aLoad Try.prog 3 v43 h) h fun v44 g =>
            VB h.length v44 ∧ (let h := g
             vK (aBin Try.prog BinOp.add 3 v44 (Value.int IntKind.i64 1)) h fun v45 h =>
             vK (aIndexAddr Try.prog 25 v33 v37) h fun v46 h =>
             okK ((aStore Try.prog 3 v46 v45 h).map (undef, ·)) fun _ h =>
             (True) ∧ (
              mvK v8_1 h fun v31 h =>
              vK (aBin Try.prog BinOp.add 3 v31 (Value.int IntKind.i64 1)) h fun v32 h =>
              mvK v32 h fun v8_2 h =>
              I7 [v8_2] h ∧ μ7 [v8_2] h < μ7 [v8_1] h7))))) (
          mvK v6_1 h fun v17 h =>
          vK (aBin Try.prog BinOp.add 3 v17 (Value.int IntKind.i64 1)) h fun v18 h =>
          mvK v18 h fun v6_2 h =>
          I3 [v6_2] h ∧ μ3 [v6_2] h < μ3 [v6_1] h3))))))) (
    mvK v5 h fun v47 h =>
    mvK v47 h fun v4_1 h =>
    retV [some v4_1] R h))
def lv31 (q : Nat) : List Nat := bif Nat.beq q 6 then [140737488347584, 6] else bif Nat.beq q 14 then [140737354137856, 8] else []
theorem ok31 : lkOK Try.prog lv31 Try.f31 2 (Try.f31.body.getD .skip) 31 = true := by kernel_rfl
theorem e31 (a0 a1 : Value) (h : Heap) (R : Value → Heap → Prop) : n31 a0 a1 h R = wpK Try.prog lv31 (Try.f31.body.getD .skip) (endK Try.prog [.tmp 4] R) (argT [a0, a1]) h := by kernel_rfl
theorem w31 {a0 a1 : Value} {h : Heap} {R : Value → Heap → Prop} (hn : n31 a0 a1 h R) : DetP Try.prog 31 [a0, a1] h R :=
  DetP.of_code (rs := [.tmp 4]) (n := 2) Try.func31 (by kernel_rfl) (by kernel_rfl) lv31 ok31 rfl ((e31 a0 a1 h R) ▸ hn)

/-! ### examiner/cover.CheapestTo: function 34 -/
def n34 (a0 a1 : Value) (h : Heap) (R : Value → Heap → Prop) : Prop :=
  okK (some (aBox Try.prog 24 a0 h)) fun v2 h =>
  mvK (Value.slice none 0 0) h fun v4 h =>
  mvK (Value.slice none 0 0) h fun v5 h =>
  mvK (Value.int IntKind.i64 0) h fun v6 h =>
  vK (aLoad Try.prog 24 v2 h) h fun v17 g =>
  VB h.length v17 ∧ (let h := g
   cKD Try.prog 51 [v17] h fun v18 g =>
   (∃ new, g = h ++ new) ∧ (let h := g
    vK (aLoad Try.prog 24 v2 h) h fun v19 g =>
    VB h.length v19 ∧ (let h := g
     mvK a1 h fun v20 h =>
     cKD Try.prog 52 [v19, v20] h fun v21 g =>
     (∃ new, g = h ++ new) ∧ (let h := g
      okK (aBuildSlice Try.prog 132 2 [(0, v18), (1, v21)] h) fun v22 h =>
      cKD Try.prog 50 [v22] h fun v23 g =>
      (∃ new, g = h ++ new) ∧ (let h := g
       mvK v23 h fun v7 h =>
       mvK v7 h fun v24 h =>
       vK (aBin Try.prog BinOp.neq 29 v24 (Value.int IntKind.i64 0)) h fun v25 h =>
       cnd v25 (
        mvK v7 h fun v26 h =>
        mvK (Value.slice none 0 0) h fun v4_1 h =>
        mvK (Value.slice none 0 0) h fun v5_1 h =>
        mvK v26 h fun v6_1 h =>
        retV [some v4_1, some v5_1, some v6_1] R h) (
        vK (aFieldAddr Try.prog 24 v2 0) h fun v27 h =>
        vK (aLoad Try.prog 3 v27 h) h fun v28 h =>
        okK (aMakeSlice Try.prog 108 v28 v28 h) fun v29 h =>
        mvK v29 h fun v8 h =>
        mvK v8 h fun v30 h =>
        vK (aFieldAddr Try.prog 24 v2 3) h fun v31 h =>
        vK (aLoad Try.prog 3 v31 h) h fun v32 h =>
        vK (aBuild Try.prog 111 []) h fun v33 h =>
        okK (some (aBox Try.prog 111 v33 h)) fun v34 h =>
        vK (aIndexAddr Try.prog 108 v30 v32) h fun v35 h =>
        okK ((aStore Try.prog 109 v35 v34 h).map (undef, ·)) fun _ h =>
        mvK (Value.bool true) h fun v9 h =>
        ∃ (I7 : List Value → Heap → Prop) (μ7 : List Value → Heap → Nat), I7 [v9] h ∧
        ∀ (h7 : Heap) (j7 : Tmps) (v9_1 : Value), I7 [v9_1] h7 → (let h := h7
         mvK v9_1 h fun v36 h =>
         cnd v36 (
          mvK (Value.bool false) h fun v9_2 h =>
          vK (aFieldAddr Try.prog 24 v2 4) h fun v37 h =>
          vK (aLoad Try.prog 22 v37 h) h fun v38 h =>
          vK (aLen Try.prog 22 v38) h fun v39 h =>
          mvK (Value.int IntKind.i64 0) h fun v40 h =>
          ∃ (I10 : List Value → Heap → Prop) (μ10 : List Value → Heap → Nat), I10 [v9_2, v40] h ∧
          ∀ (h10 : Heap) (j10 : Tmps) (v9_3 : Value) (v40_1 : Value), I10 [v9_3, v40_1] h10 → (let h := h10
           vK (aBin Try.prog BinOp.lss 3 v40_1 v39) h fun v41 h =>
           cnd v41 (
            seqK (fun k0 =>
             mvK v40_1 h fun v42 h =>
             vK (aIndexAddr Try.prog 22 v38 v40_1) h fun v43 h =>
             vK (aLoad Try.prog 76 v43 h) h fun v44 h =>
             okK (aAlloc Try.prog 76 h) fun v11 h =>
             mvK v42 h fun v10 h =>
             okK ((aStore Try.prog 76 v11 v44 h).map (undef, ·)) fun _ h =>
             mvK v8 h fun v45 h =>
             vK (aFieldAddr Try.prog 76 v11 0) h fun v46 h =>
             vK (aLoad Try.prog 3 v46 h) h fun v47 h =>
             vK (aIndexAddr Try.prog 108 v45 v47) h fun v48 h =>
             vK (aLoad Try.prog 109 v48 h) h fun v49 h =>
             vK (aBin Try.prog BinOp.eql 109 v49 (Value.pointer none)) h fun v50 h =>
             cnd v50 (
              k0 [v9_3] h) (
              mvK v8 h fun v51 h =>
              vK (aFieldAddr Try.prog 76 v11 0) h fun v52 h =>
              vK (aLoad Try.prog 3 v52 h) h fun v53 g =>
              VB h.length v53 ∧ (let h := g
               vK (aIndexAddr Try.prog 108 v51 v53) h fun v54 h =>
               vK (aLoad Try.prog 109 v54 h) h fun v55 g =>
               VB h.length v55 ∧ (let h := g
                vK (nilV v55) h fun v56 h =>
                vK (aFieldAddr Try.prog 111 v56 0) h fun v57 h =>
                vK (aLoad Try.prog 3 v57 h) h fun v58 g =>
                VB h.length v58 ∧ (let h := g
                 mvK a1 h fun v59 h =>
                 mvK v10 h fun v60 h =>
                 vK (aIndexAddr Try.prog 25 v59 v60) h fun v61 h =>
                 vK (aLoad Try.prog 3 v61 h) h fun v62 g =>
                 VB h.length v62 ∧ (let h := g
                  vK (aBin Try.prog BinOp.add 3 v58 v62) h fun v63 h =>
                  mvK v8 h fun v64 h =>
                  vK (aFieldAddr Try.prog 76 v11 0) h fun v65 h =>
                  vK (aLoad Try.prog 3 v65 h) h fun v66 g =>
                  VB h.length v66 ∧ (let h := g
                   vK (aIndexAddr Try.prog 108 v64 v66) h fun v67 h =>
                   vK (aLoad Try.prog 109 v67 h) h fun v68 g =>
                   VB h.length v68 ∧ (let h := g
                    vK (nilV v68) h fun v69 h =>
                    vK (aFieldAddr Try.prog 111 v69 1) h fun v70 h =>
                    vK (aLoad Try.prog 25 v70 h) h fun v71 g =>
                    VB h.length v71 ∧ (let h := g
                     cKD Try.prog 71 [v71] h fun v72 g =>
                     (∃ new, g = h ++ new) ∧ (let h := g
                      vK (aFieldAddr Try.prog 76 v11 1) h fun v73 h =>
                      vK (aLoad Try.prog 3 v73 h) h fun v74 g =>
                      VB h.length v74 ∧ (let h := g
                       okK (aBuildSlice Try.prog 25 1 [(0, v74)] h) fun v75 h =>
                       okK (aAppend Try.prog 25 25 v72 v75 h) fun v76 h =>
                       ((aLoad Try.prog 3 v61 h).map (·, h) = some (v62, h) ∧ (aLoad Try.prog 3 v57 h).map (·, h) = some (v58, h) ∧ (aLoad Try.prog 109 v54 h).map (·, h) = some (v55, h) ∧ (aLoad Try.prog 3 v52 h).map (·, h) = some (v53, h) ∧ True) ∧ (
                        vK (aBuild Try.prog 111 [(0, v63), (1, v76)]) h fun v77 h =>
                        okK (aAlloc Try.prog 111 h) fun v12 h =>
                        okK ((aStore Try.prog 111 v12 v77 h).map (undef, ·)) fun _ h =>
                        (True) ∧ (
                         mvK v8 h fun v78 h =>
                         vK (aFieldAddr Try.prog 76 v11 3) h fun v79 h =>
                         vK (aLoad Try.prog 3 v79 h) h fun v80 g =>
                         VB h.length v80 ∧ (let h := g
                          vK (aIndexAddr Try.prog 108 v78 v80) h fun v81 h =>
                          vK (aLoad Try.prog 109 v81 h) h fun v82 g =>
                          VB h.length v82 ∧ (let h := g
                           vK (aBin Try.prog BinOp.eql 109 v82 (Value.pointer none)) h fun v83 h =>
                           mvK v83 h fun v84 h =>
                           gdK v84 false (fun k1 =>
                            vK (aLoad Try.prog 111 v12 h) h fun v85 g =>
                            VB h.length v85 ∧ (let h := g
                             k1 v85 h)) (fun v85_1 h =>
                            gdK v84 false (fun k2 =>
                             mvK v8 h fun v86 h =>
                             k2 v86 h) (fun v86_1 h =>
                             gdK v84 false (fun k3 =>
                              vK (aFieldAddr Try.prog 76 v11 3) h fun v87 h =>
                              k3 v87 h) (fun v87_1 h =>
                              gdK v84 false (fun k4 =>
                               vK (aLoad Try.prog 3 v87_1 h) h fun v88 g =>
                               VB h.length v88 ∧ (let h := g
                                k4 v88 h)) (fun v88_1 h =>
                               gdK v84 false (fun k5 =>
                                vK (aIndexAddr Try.prog 108 v86_1 v88_1) h fun v89 h =>
                                k5 v89 h) (fun v89_1 h =>
                                gdK v84 false (fun k6 =>
                                 vK (aLoad Try.prog 109 v89_1 h) h fun v90 g =>
                                 VB h.length v90 ∧ (let h := g
                                  k6 v90 h)) (fun v90_1 h =>
                                 gdK v84 false (fun k7 =>
                                  vK (nilV v90_1) h fun v91 h =>
                                  k7 v91 h) (fun v91_1 h =>
                                  gdK v84 false (fun k8 =>
                                   vK (aLoad Try.prog 111 v91_1 h) h fun v92 g =>
                                   VB h.length v92 ∧ (let h := g
                                    k8 v92 h)) (fun v92_1 h =>
                                   gdK v84 false (fun k9 =>
                                    cKD Try.prog 72 [v85_1, v92_1] h fun v93 g =>
                                    (∃ new, g = h ++ new) ∧ (let h := g
                                     k9 v93 h)) (fun v93_1 h =>
                                    vK (pickV v84 (Value.bool true) v93_1) h fun v94 h =>
                                    cnd v94 (
                                     mvK v8 h fun v95 h =>
                                     vK (aFieldAddr Try.prog 76 v11 3) h fun v96 h =>
                                     vK (aLoad Try.prog 3 v96 h) h fun v97 h =>
                                     vK (aIndexAddr Try.prog 108 v95 v97) h fun v98 h =>
                                     okK ((aStore Try.prog 109 v98 v12 h).map (undef, ·)) fun _ h =>
                                     mvK (Value.bool true) h fun v9_4 h =>
                                     k0 [v9_4] h) (
                                     k0 [v9_3] h)) h) h) h) h) h) h) h) h) h))))))))))))))) fun x0 h => ∀ jx0 : Tmps,
             let v9_5 : Value := nth x0 0
             vK (aBin Try.prog BinOp.add 3 v40_1 (Value.int IntKind.i64 1)) h fun v99 h =>
             mvK v99 h fun v40_2 h =>
             I10 [v9_5, v40_2] h ∧ μ10 [v9_5, v40_2] h < μ10 [v9_3, v40_1] h10) (
            I7 [v9_3] h ∧ μ7 [v9_3] h < μ7 [v9_1] h7))) (
          vK (aFieldAddr Try.prog 24 v2 0) h fun v100 h =>
          vK (aLoad Try.prog 3 v100 h) h fun v101 g =>
          VB h.length v101 ∧ (let h := g
           okK (aMakeSlice Try.prog 45 v101 v101 h) fun v102 h =>
           okK (aBuildSlice Try.prog 25 1 [(0, (Value.int IntKind.i64 (-1)))] h) fun v103 h =>
           vK (aFieldAddr Try.prog 24 v2 0) h fun v104 h =>
           vK (aLoad Try.prog 3 v104 h) h fun v105 g =>
           VB h.length v105 ∧ (let h := g
            cKD Try.prog 73 [v103, v105] h fun v106 g =>
            (∃ new, g = h ++ new) ∧ (let h := g
             mvK v102 h fun v13 h =>
             mvK v106 h fun v14 h =>
             mvK v8 h fun v107 h =>
             vK (aLen Try.prog 108 v107) h fun v108 h =>
             mvK (Value.int IntKind.i64 0) h fun v109 h =>
             ∃ (I19 : List Value → Heap → Prop) (μ19 : List Value → Heap → Nat), I19 [v109] h ∧
             ∀ (h19 : Heap) (j19 : Tmps) (v109_1 : Value), I19 [v109_1] h19 → (let h := h19
              vK (aBin Try.prog BinOp.lss 3 v109_1 v108) h fun v110 h =>
              cnd v110 (
               seqK (fun k10 =>
                mvK v109_1 h fun v111 h =>
                vK (aIndexAddr Try.prog 108 v107 v109_1) h fun v112 h =>
                vK (aLoad Try.prog 109 v112 h) h fun v113 h =>
                mvK v111 h fun v15 h =>
                mvK v113 h fun v16 h =>
                mvK v16 h fun v114 h =>
                vK (aBin Try.prog BinOp.neq 109 v114 (Value.pointer none)) h fun v115 h =>
                cnd v115 (
                 mvK v13 h fun v116 h =>
                 mvK v15 h fun v117 h =>
                 mvK v14 h fun v118 h =>
                 mvK v15 h fun v119 h =>
                 mvK v16 h fun v120 h =>
                 vK (nilV v120) h fun v121 h =>
                 vK (aFieldAddr Try.prog 111 v121 1) h fun v122 h =>
                 vK (aLoad Try.prog 25 v122 h) h fun v123 g =>
                 VB h.length v123 ∧ (let h := g
                  mvK v16 h fun v124 h =>
                  vK (nilV v124) h fun v125 h =>
                  vK (aFieldAddr Try.prog 111 v125 0) h fun v126 h =>
                  vK (aLoad Try.prog 3 v126 h) h fun v127 g =>
                  VB h.length v127 ∧ (let h := g
                   vK (aIndexAddr Try.prog 45 v116 v117) h fun v128 h =>
                   okK ((aStore Try.prog 25 v128 v123 h).map (undef, ·)) fun _ h =>
                   (True) ∧ (
                    vK (aIndexAddr Try.prog 25 v118 v119) h fun v129 h =>
                    okK ((aStore Try.prog 3 v129 v127 h).map (undef, ·)) fun _ h =>
                    (True) ∧ (
                     k10 [] h))))) (
                 k10 [] h)) fun x10 h => ∀ jx10 : Tmps,
                vK (aBin Try.prog BinOp.add 3 v109_1 (Value.int IntKind.i64 1)) h fun v130 h =>
                mvK v130 h fun v109_2 h =>
                I19 [v109_2] h ∧ μ19 [v109_2] h < μ19 [v109_1] h19) (
               mvK v13 h fun v131 h =>
               mvK v14 h fun v132 h =>
               mvK v131 h fun v4_2 h =>
               mvK v132 h fun v5_2 h =>
               mvK (Value.int IntKind.i64 0) h fun v6_2 h =>
               retV [some v4_2, some v5_2, some v6_2] R h)))))))))))))
def lv34 (q : Nat) : List Nat := bif Nat.beq q 14 then [1267650600228229401427983736320, 9] else bif Nat.beq q 20 then [1267650600228229400397191585280, 9, 40] else bif Nat.beq q 33 then [633825300114114696350305099264, 9] else bif Nat.beq q 38 then [2722258286330400390853543293142104637440, 109] else bif Nat.beq q 47 then [1361126871535324586439684164478908334080] else []
theorem ok34 : lkOK Try.prog lv34 Try.f34 2 (Try.f34.body.getD .skip) 34 = true := by kernel_rfl
theorem e34 (a0 a1 : Value) (h : Heap) (R : Value → Heap → Prop) : n34 a0 a1 h R = wpK Try.prog lv34 (Try.f34.body.getD .skip) (endK Try.prog [.tmp 4, .tmp 5, .tmp 6] R) (argT [a0, a1]) h := by kernel_rfl
theorem w34 {a0 a1 : Value} {h : Heap} {R : Value → Heap → Prop} (hn : n34 a0 a1 h R) : DetP Try.prog 34 [a0, a1] h R :=
  DetP.of_code (rs := [.tmp 4, .tmp 5, .tmp 6]) (n := 2) Try.func34 (by kernel_rfl) (by kernel_rfl) lv34 ok34 rfl ((e34 a0 a1 h R) ▸ hn)

/-! ### examiner/examinerref38.Cheapest: function 35 -/
def n35 (a0 a1 : Value) (h : Heap) (R : Value → Heap → Prop) : Prop :=
  okK (some (aBox Try.prog 24 a0 h)) fun v2 h =>
  mvK (Value.slice none 0 0) h fun v4 h =>
  mvK (Value.slice none 0 0) h fun v5 h =>
  vK (aFieldAddr Try.prog 24 v2 0) h fun v16 h =>
  vK (aLoad Try.prog 3 v16 h) h fun v17 g =>
  VB h.length v17 ∧ (let h := g
   okK (aMakeSlice Try.prog 45 v17 v17 h) fun v18 h =>
   vK (aFieldAddr Try.prog 24 v2 0) h fun v19 h =>
   vK (aLoad Try.prog 3 v19 h) h fun v20 g =>
   VB h.length v20 ∧ (let h := g
    okK (aMakeSlice Try.prog 25 v20 v20 h) fun v21 h =>
    mvK v18 h fun v6 h =>
    mvK v21 h fun v7 h =>
    vK (aFieldAddr Try.prog 24 v2 0) h fun v22 h =>
    vK (aLoad Try.prog 3 v22 h) h fun v23 h =>
    okK (aMakeSlice Try.prog 48 v23 v23 h) fun v24 h =>
    mvK v24 h fun v8 h =>
    mvK (Value.int IntKind.i64 0) h fun v9 h =>
    ∃ (I4 : List Value → Heap → Prop) (μ4 : List Value → Heap → Nat), I4 [v9] h ∧
    ∀ (h4 : Heap) (j4 : Tmps) (v9_1 : Value), I4 [v9_1] h4 → (let h := h4
     mvK v9_1 h fun v25 h =>
     vK (aFieldAddr Try.prog 24 v2 0) h fun v26 h =>
     vK (aLoad Try.prog 3 v26 h) h fun v27 h =>
     vK (aBin Try.prog BinOp.lss 3 v25 v27) h fun v28 h =>
     cnd v28 (
      mvK v7 h fun v31 h =>
      mvK v9_1 h fun v32 h =>
      vK (aIndexAddr Try.prog 25 v31 v32) h fun v33 h =>
      okK ((aStore Try.prog 3 v33 (Value.int IntKind.i64 (-1)) h).map (undef, ·)) fun _ h =>
      mvK v9_1 h fun v29 h =>
      vK (aBin Try.prog BinOp.add 3 v29 (Value.int IntKind.i64 1)) h fun v30 h =>
      mvK v30 h fun v9_2 h =>
      I4 [v9_2] h ∧ μ4 [v9_2] h < μ4 [v9_1] h4) (
      mvK v7 h fun v34 h =>
      vK (aFieldAddr Try.prog 24 v2 3) h fun v35 h =>
      vK (aLoad Try.prog 3 v35 h) h fun v36 h =>
      vK (aIndexAddr Try.prog 25 v34 v36) h fun v37 h =>
      okK ((aStore Try.prog 3 v37 (Value.int IntKind.i64 0) h).map (undef, ·)) fun _ h =>
      mvK (Value.int IntKind.i64 0) h fun v10 h =>
      ∃ (I9 : List Value → Heap → Prop) (μ9 : List Value → Heap → Nat), I9 [v10] h ∧
      ∀ (h9 : Heap) (j9 : Tmps) (v10_1 : Value), I9 [v10_1] h9 → (let h := h9
       mvK v10_1 h fun v38 h =>
       vK (aFieldAddr Try.prog 24 v2 0) h fun v39 h =>
       vK (aLoad Try.prog 3 v39 h) h fun v40 h =>
       vK (aBin Try.prog BinOp.lss 3 v38 v40) h fun v41 h =>
       cnd v41 (
        mvK (Value.int IntKind.i64 (-1)) h fun v11 h =>
        mvK (Value.int IntKind.i64 0) h fun v12 h =>
        ∃ (I13 : List Value → Heap → Prop) (μ13 : List Value → Heap → Nat), I13 [v11, v12] h ∧
        ∀ (h13 : Heap) (j13 : Tmps) (v11_1 : Value) (v12_1 : Value), I13 [v11_1, v12_1] h13 → (let h := h13
         mvK v12_1 h fun v44 h =>
         vK (aFieldAddr Try.prog 24 v2 0) h fun v45 h =>
         vK (aLoad Try.prog 3 v45 h) h fun v46 h =>
         vK (aBin Try.prog BinOp.lss 3 v44 v46) h fun v47 h =>
         cnd v47 (
          seqK (fun k0 =>
           mvK v7 h fun v50 h =>
           mvK v12_1 h fun v51 h =>
           vK (aIndexAddr Try.prog 25 v50 v51) h fun v52 h =>
           vK (aLoad Try.prog 3 v52 h) h fun v53 g =>
           VB h.length v53 ∧ (let h := g
            vK (aBin Try.prog BinOp.neq 3 v53 (Value.int IntKind.i64 (-1))) h fun v54 h =>
            mvK v54 h fun v55 h =>
            gdK v55 true (fun k1 =>
             mvK v8 h fun v56 h =>
             k1 v56 h) (fun v56_1 h =>
             gdK v55 true (fun k2 =>
              mvK v12_1 h fun v57 h =>
              k2 v57 h) (fun v57_1 h =>
              gdK v55 true (fun k3 =>
               vK (aIndexAddr Try.prog 48 v56_1 v57_1) h fun v58 h =>
               k3 v58 h) (fun v58_1 h =>
               gdK v55 true (fun k4 =>
                vK (aLoad Try.prog 4 v58_1 h) h fun v59 g =>
                VB h.length v59 ∧ (let h := g
                 k4 v59 h)) (fun v59_1 h =>
                gdK v55 true (fun k5 =>
                 vK (aUn UnOp.not v59_1) h fun v60 h =>
                 k5 v60 h) (fun v60_1 h =>
                 vK (pickV v55 v60_1 (Value.bool false)) h fun v61 h =>
                 mvK v61 h fun v62 h =>
                 gdK v62 true (fun k6 =>
                  mvK v11_1 h fun v63 h =>
                  k6 v63 h) (fun v63_1 h =>
                  gdK v62 true (fun k7 =>
                   vK (aBin Try.prog BinOp.eql 3 v63_1 (Value.int IntKind.i64 (-1))) h fun v64 h =>
                   k7 v64 h) (fun v64_1 h =>
                   gdK v62 true (fun k8 =>
                    mvK v64_1 h fun v65 h =>
                    k8 v65 h) (fun v65_1 h =>
                    gdK v65_1 false (fun k9 =>
                     mvK v7 h fun v66 h =>
                     k9 v66 h) (fun v66_1 h =>
                     gdK v65_1 false (fun k10 =>
                      mvK v12_1 h fun v67 h =>
                      k10 v67 h) (fun v67_1 h =>
                      gdK v65_1 false (fun k11 =>
                       vK (aIndexAddr Try.prog 25 v66_1 v67_1) h fun v68 h =>
                       k11 v68 h) (fun v68_1 h =>
                       gdK v65_1 false (fun k12 =>
                        vK (aLoad Try.prog 3 v68_1 h) h fun v69 g =>
                        VB h.length v69 ∧ (let h := g
                         k12 v69 h)) (fun v69_1 h =>
                        gdK v65_1 false (fun k13 =>
                         mvK v6 h fun v70 h =>
                         k13 v70 h) (fun v70_1 h =>
                         gdK v65_1 false (fun k14 =>
                          mvK v12_1 h fun v71 h =>
                          k14 v71 h) (fun v71_1 h =>
                          gdK v65_1 false (fun k15 =>
                           vK (aIndexAddr Try.prog 45 v70_1 v71_1) h fun v72 h =>
                           k15 v72 h) (fun v72_1 h =>
                           gdK v65_1 false (fun k16 =>
                            vK (aLoad Try.prog 25 v72_1 h) h fun v73 g =>
                            VB h.length v73 ∧ (let h := g
                             k16 v73 h)) (fun v73_1 h =>
                            gdK v65_1 false (fun k17 =>
                             mvK v7 h fun v74 h =>
                             k17 v74 h) (fun v74_1 h =>
                             gdK v65_1 false (fun k18 =>
                              mvK v11_1 h fun v75 h =>
                              k18 v75 h) (fun v75_1 h =>
                              gdK v65_1 false (fun k19 =>
                               vK (aIndexAddr Try.prog 25 v74_1 v75_1) h fun v76 h =>
                               k19 v76 h) (fun v76_1 h =>
                               gdK v65_1 false (fun k20 =>
                                vK (aLoad Try.prog 3 v76_1 h) h fun v77 g =>
                                VB h.length v77 ∧ (let h := g
                                 k20 v77 h)) (fun v77_1 h =>
                                gdK v65_1 false (fun k21 =>
                                 mvK v6 h fun v78 h =>
                                 k21 v78 h) (fun v78_1 h =>
                                 gdK v65_1 false (fun k22 =>
                                  mvK v11_1 h fun v79 h =>
                                  k22 v79 h) (fun v79_1 h =>
                                  gdK v65_1 false (fun k23 =>
                                   vK (aIndexAddr Try.prog 45 v78_1 v79_1) h fun v80 h =>
                                   k23 v80 h) (fun v80_1 h =>
                                   gdK v65_1 false (fun k24 =>
                                    vK (aLoad Try.prog 25 v80_1 h) h fun v81 g =>
                                    VB h.length v81 ∧ (let h := g
                                     k24 v81 h)) (fun v81_1 h =>
                                    gdK v65_1 false (fun k25 =>
                                     cKD Try.prog 74 [v69_1, v73_1, v77_1, v81_1] h fun v82 g =>
                                     (∃ new, g = h ++ new) ∧ (let h := g
                                      k25 v82 h)) (fun v82_1 h =>
                                     gdK v62 true (fun k26 =>
                                      vK (pickV v65_1 (Value.bool true) v82_1) h fun v83 h =>
                                      k26 v83 h) (fun v83_1 h =>
                                      vK (pickV v62 v83_1 (Value.bool false)) h fun v84 h =>
                                      cnd v84 (
                                       mvK v12_1 h fun v85 h =>
                                       mvK v85 h fun v11_2 h =>
                                       k0 [v11_2] h) (
                                       k0 [v11_1] h)) h) h) h) h) h) h) h) h) h) h) h) h) h) h) h) h) h) h) h) h) h) h) h) h) h) h)) fun x0 h => ∀ jx0 : Tmps,
           let v11_3 : Value := nth x0 0
           mvK v12_1 h fun v48 h =>
           vK (aBin Try.prog BinOp.add 3 v48 (Value.int IntKind.i64 1)) h fun v49 h =>
           mvK v49 h fun v12_2 h =>
           I13 [v11_3, v12_2] h ∧ μ13 [v11_3, v12_2] h < μ13 [v11_1, v12_1] h13) (
          mvK v11_1 h fun v86 h =>
          vK (aBin Try.prog BinOp.eql 3 v86 (Value.int IntKind.i64 (-1))) h fun v87 h =>
          cnd v87 (
           mvK v6 h fun v88 h =>
           mvK v7 h fun v89 h =>
           mvK v88 h fun v4_1 h =>
           mvK v89 h fun v5_1 h =>
           retV [some v4_1, some v5_1] R h) (
           mvK v8 h fun v90 h =>
           mvK v11_1 h fun v91 h =>
           vK (aIndexAddr Try.prog 48 v90 v91) h fun v92 h =>
           okK ((aStore Try.prog 4 v92 (Value.bool true) h).map (undef, ·)) fun _ h =>
           mvK (Value.int IntKind.i64 0) h fun v13 h =>
           ∃ (I21 : List Value → Heap → Prop) (μ21 : List Value → Heap → Nat), I21 [v13] h ∧
           ∀ (h21 : Heap) (j21 : Tmps) (v13_1 : Value), I21 [v13_1] h21 → (let h := h21
            mvK v13_1 h fun v93 h =>
            vK (aFieldAddr Try.prog 24 v2 4) h fun v94 h =>
            vK (aLoad Try.prog 22 v94 h) h fun v95 h =>
            vK (aLen Try.prog 22 v95) h fun v96 h =>
            vK (aBin Try.prog BinOp.lss 3 v93 v96) h fun v97 h =>
            cnd v97 (
             seqK (fun k27 =>
              vK (aFieldAddr Try.prog 24 v2 4) h fun v100 h =>
              vK (aLoad Try.prog 22 v100 h) h fun v101 h =>
              mvK v13_1 h fun v102 h =>
              vK (aIndexAddr Try.prog 22 v101 v102) h fun v103 h =>
              vK (aLoad Try.prog 76 v103 h) h fun v104 h =>
              okK (aAlloc Try.prog 76 h) fun v14 h =>
              okK ((aStore Try.prog 76 v14 v104 h).map (undef, ·)) fun _ h =>
              mvK v6 h fun v105 h =>
              mvK v11_1 h fun v106 h =>
              vK (aIndexAddr Try.prog 45 v105 v106) h fun v107 h =>
              vK (aLoad Try.prog 25 v107 h) h fun v108 g =>
              VB h.length v108 ∧ (let h := g
               cKD Try.prog 17 [v108] h fun v109 g =>
               (∃ new, g = h ++ new) ∧ (let h := g
                vK (aFieldAddr Try.prog 76 v14 1) h fun v110 h =>
                vK (aLoad Try.prog 3 v110 h) h fun v111 g =>
                VB h.length v111 ∧ (let h := g
                 okK (aBuildSlice Try.prog 25 1 [(0, v111)] h) fun v112 h =>
                 okK (aAppend Try.prog 25 25 v109 v112 h) fun v113 h =>
                 (True) ∧ (
                  mvK v113 h fun v15 h =>
                  vK (aFieldAddr Try.prog 76 v14 0) h fun v114 h =>
                  vK (aLoad Try.prog 3 v114 h) h fun v115 g =>
                  VB h.length v115 ∧ (let h := g
                   mvK v11_1 h fun v116 h =>
                   vK (aBin Try.prog BinOp.eql 3 v115 v116) h fun v117 h =>
                   mvK v117 h fun v118 h =>
                   gdK v118 true (fun k28 =>
                    mvK v7 h fun v119 h =>
                    k28 v119 h) (fun v119_1 h =>
                    gdK v118 true (fun k29 =>
                     vK (aFieldAddr Try.prog 76 v14 3) h fun v120 h =>
                     k29 v120 h) (fun v120_1 h =>
                     gdK v118 true (fun k30 =>
                      vK (aLoad Try.prog 3 v120_1 h) h fun v121 g =>
                      VB h.length v121 ∧ (let h := g
                       k30 v121 h)) (fun v121_1 h =>
                      gdK v118 true (fun k31 =>
                       vK (aIndexAddr Try.prog 25 v119_1 v121_1) h fun v122 h =>
                       k31 v122 h) (fun v122_1 h =>
                       gdK v118 true (fun k32 =>
                        vK (aLoad Try.prog 3 v122_1 h) h fun v123 g =>
                        VB h.length v123 ∧ (let h := g
                         k32 v123 h)) (fun v123_1 h =>
                        gdK v118 true (fun k33 =>
                         vK (aBin Try.prog BinOp.eql 3 v123_1 (Value.int IntKind.i64 (-1))) h fun v124 h =>
                         k33 v124 h) (fun v124_1 h =>
                         gdK v118 true (fun k34 =>
                          mvK v124_1 h fun v125 h =>
                          k34 v125 h) (fun v125_1 h =>
                          gdK v125_1 false (fun k35 =>
                           mvK v7 h fun v126 h =>
                           k35 v126 h) (fun v126_1 h =>
                           gdK v125_1 false (fun k36 =>
                            mvK v11_1 h fun v127 h =>
                            k36 v127 h) (fun v127_1 h =>
                            gdK v125_1 false (fun k37 =>
                             vK (aIndexAddr Try.prog 25 v126_1 v127_1) h fun v128 h =>
                             k37 v128 h) (fun v128_1 h =>
                             gdK v125_1 false (fun k38 =>
                              vK (aLoad Try.prog 3 v128_1 h) h fun v129 g =>
                              VB h.length v129 ∧ (let h := g
                               k38 v129 h)) (fun v129_1 h =>
                              gdK v125_1 false (fun k39 =>
                               mvK a1 h fun v130 h =>
                               k39 v130 h) (fun v130_1 h =>
                               gdK v125_1 false (fun k40 =>
                                mvK v13_1 h fun v131 h =>
                                k40 v131 h) (fun v131_1 h =>
                                gdK v125_1 false (fun k41 =>
                                 vK (aIndexAddr Try.prog 25 v130_1 v131_1) h fun v132 h =>
                                 k41 v132 h) (fun v132_1 h =>
                                 gdK v125_1 false (fun k42 =>
                                  vK (aLoad Try.prog 3 v132_1 h) h fun v133 g =>
                                  VB h.length v133 ∧ (let h := g
                                   k42 v133 h)) (fun v133_1 h =>
                                  gdK v125_1 false (fun k43 =>
                                   vK (aBin Try.prog BinOp.add 3 v129_1 v133_1) h fun v134 h =>
                                   k43 v134 h) (fun v134_1 h =>
                                   gdK v125_1 false (fun k44 =>
                                    mvK v15 h fun v135 h =>
                                    k44 v135 h) (fun v135_1 h =>
                                    gdK v125_1 false (fun k45 =>
                                     mvK v7 h fun v136 h =>
                                     k45 v136 h) (fun v136_1 h =>
                                     gdK v125_1 false (fun k46 =>
                                      vK (aFieldAddr Try.prog 76 v14 3) h fun v137 h =>
                                      k46 v137 h) (fun v137_1 h =>
                                      gdK v125_1 false (fun k47 =>
                                       vK (aLoad Try.prog 3 v137_1 h) h fun v138 g =>
                                       VB h.length v138 ∧ (let h := g
                                        k47 v138 h)) (fun v138_1 h =>
                                       gdK v125_1 false (fun k48 =>
                                        vK (aIndexAddr Try.prog 25 v136_1 v138_1) h fun v139 h =>
                                        k48 v139 h) (fun v139_1 h =>
                                        gdK v125_1 false (fun k49 =>
                                         vK (aLoad Try.prog 3 v139_1 h) h fun v140 g =>
                                         VB h.length v140 ∧ (let h := g
                                          k49 v140 h)) (fun v140_1 h =>
                                         gdK v125_1 false (fun k50 =>
                                          mvK v6 h fun v141 h =>
                                          k50 v141 h) (fun v141_1 h =>
                                          gdK v125_1 false (fun k51 =>
                                           vK (aFieldAddr Try.prog 76 v14 3) h fun v142 h =>
                                           k51 v142 h) (fun v142_1 h =>
                                           gdK v125_1 false (fun k52 =>
                                            vK (aLoad Try.prog 3 v142_1 h) h fun v143 g =>
                                            VB h.length v143 ∧ (let h := g
                                             k52 v143 h)) (fun v143_1 h =>
                                            gdK v125_1 false (fun k53 =>
                                             vK (aIndexAddr Try.prog 45 v141_1 v143_1) h fun v144 h =>
                                             k53 v144 h) (fun v144_1 h =>
                                             gdK v125_1 false (fun k54 =>
                                              vK (aLoad Try.prog 25 v144_1 h) h fun v145 g =>
                                              VB h.length v145 ∧ (let h := g
                                               k54 v145 h)) (fun v145_1 h =>
                                              gdK v125_1 false (fun k55 =>
                                               cKD Try.prog 74 [v134_1, v135_1, v140_1, v145_1] h fun v146 g =>
                                               (∃ new, g = h ++ new) ∧ (let h := g
                                                k55 v146 h)) (fun v146_1 h =>
                                               gdK v118 true (fun k56 =>
                                                vK (pickV v125_1 (Value.bool true) v146_1) h fun v147 h =>
                                                k56 v147 h) (fun v147_1 h =>
                                                vK (pickV v118 v147_1 (Value.bool false)) h fun v148 h =>
                                                cnd v148 (
                                                 mvK v7 h fun v149 h =>
                                                 vK (aFieldAddr Try.prog 76 v14 3) h fun v150 h =>
                                                 vK (aLoad Try.prog 3 v150 h) h fun v151 g =>
                                                 VB h.length v151 ∧ (let h := g
                                                  mvK v6 h fun v152 h =>
                                                  vK (aFieldAddr Try.prog 76 v14 3) h fun v153 h =>
                                                  vK (aLoad Try.prog 3 v153 h) h fun v154 g =>
                                                  VB h.length v154 ∧ (let h := g
                                                   mvK v7 h fun v155 h =>
                                                   mvK v11_1 h fun v156 h =>
                                                   vK (aIndexAddr Try.prog 25 v155 v156) h fun v157 h =>
                                                   vK (aLoad Try.prog 3 v157 h) h fun v158 g =>
                                                   VB h.length v158 ∧ (let h := g
                                                    mvK a1 h fun v159 h =>
                                                    mvK v13_1 h fun v160 h =>
                                                    vK (aIndexAddr Try.prog 25 v159 v160) h fun v161 h =>
                                                    vK (aLoad Try.prog 3 v161 h) h fun v162 g =>
                                                    VB h.length v162 ∧ (let h := g
                                                     vK (aBin Try.prog BinOp.add 3 v158 v162) h fun v163 h =>
                                                     mvK v15 h fun v164 h =>
                                                     vK (aIndexAddr Try.prog 25 v149 v151) h fun v165 h =>
                                                     okK ((aStore Try.prog 3 v165 v163 h).map (undef, ·)) fun _ h =>
                                                     ((aLoad Try.prog 3 v153 h).map (·, h) = some (v154, h) ∧ True) ∧ (
                                                      vK (aIndexAddr Try.prog 45 v152 v154) h fun v166 h =>
                                                      okK ((aStore Try.prog 25 v166 v164 h).map (undef, ·)) fun _ h =>
                                                      (True) ∧ (
                                                       k27 [] h))))))) (
                                                 k27 [] h)) h) h) h) h) h) h) h) h) h) h) h) h) h) h) h) h) h) h) h) h) h) h) h) h) h) h) h) h) h)))))) fun x27 h => ∀ jx27 : Tmps,
              mvK v13_1 h fun v98 h =>
              vK (aBin Try.prog BinOp.add 3 v98 (Value.int IntKind.i64 1)) h fun v99 h =>
              mvK v99 h fun v13_2 h =>
              I21 [v13_2] h ∧ μ21 [v13_2] h < μ21 [v13_1] h21) (
             mvK v10_1 h fun v42 h =>
             vK (aBin Try.prog BinOp.add 3 v42 (Value.int IntKind.i64 1)) h fun v43 h =>
             mvK v43 h fun v10_2 h =>
             I9 [v10_2] h ∧ μ9 [v10_2] h < μ9 [v10_1] h9)))))) (
        mvK v6 h fun v167 h =>
        mvK v7 h fun v168 h =>
        mvK v167 h fun v4_2 h =>
        mvK v168 h fun v5_2 h =>
        retV [some v4_2, some v5_2] R h))))))
def lv35 (q : Nat) : List Nat := bif Nat.beq q 8 then [17146315264, 9] else bif Nat.beq q 18 then [187072209578355573530071658587684226515684487658544, 10] else bif Nat.beq q 26 then [77371252455318674995156992, 11, 12] else bif Nat.beq q 29 then [77371252454210367274354688, 11] else bif Nat.beq q 42 then [187072209578355573530061755067369943473760172564480, 13] else bif Nat.beq q 45 then [187072209578355573528804007987455997114462662344704] else []
theorem ok35 : lkOK Try.prog lv35 Try.f35 2 (Try.f35.body.getD .skip) 35 = true := by kernel_rfl
theorem e35 (a0 a1 : Value) (h : Heap) (R : Value → Heap → Prop) : n35 a0 a1 h R = wpK Try.prog lv35 (Try.f35.body.getD .skip) (endK Try.prog [.tmp 4, .tmp 5] R) (argT [a0, a1]) h := by kernel_rfl
theorem w35 {a0 a1 : Value} {h : Heap} {R : Value → Heap → Prop} (hn : n35 a0 a1 h R) : DetP Try.prog 35 [a0, a1] h R :=
  DetP.of_code (rs := [.tmp 4, .tmp 5]) (n := 2) Try.func35 (by kernel_rfl) (by kernel_rfl) lv35 ok35 rfl ((e35 a0 a1 h R) ▸ hn)

/-! ### examiner/cover.wordsErr: function 67 -/
def n67 (a0 a1 : Value) (h : Heap) (R : Value → Heap → Prop) : Prop :=
  okK (some (aBox Try.prog 24 a0 h)) fun v2 h =>
  mvK (Value.int IntKind.i64 0) h fun v4 h =>
  mvK a1 h fun v8 h =>
  vK (aLen Try.prog 45 v8) h fun v9 h =>
  vK (aBin Try.prog BinOp.gtr 3 v9 (Value.int IntKind.i64 80)) h fun v10 h =>
  cnd v10 (
   mvK (Value.int IntKind.i64 2) h fun v4_1 h =>
   retV [some v4_1] R h) (
   mvK a1 h fun v11 h =>
   vK (aLen Try.prog 45 v11) h fun v12 h =>
   mvK (Value.int IntKind.i64 0) h fun v13 h =>
   ∃ (I4 : List Value → Heap → Prop) (μ4 : List Value → Heap → Nat), I4 [v13] h ∧
   ∀ (h4 : Heap) (j4 : Tmps) (v13_1 : Value), I4 [v13_1] h4 → (let h := h4
    vK (aBin Try.prog BinOp.lss 3 v13_1 v12) h fun v14 h =>
    cnd v14 (
     vK (aIndexAddr Try.prog 45 v11 v13_1) h fun v15 h =>
     vK (aLoad Try.prog 25 v15 h) h fun v16 h =>
     mvK v16 h fun v6 h =>
     vK (aLoad Try.prog 24 v2 h) h fun v17 h =>
     mvK v6 h fun v18 h =>
     cK Try.prog 53 [v17, v18] h fun v19 h =>
     mvK v19 h fun v7 h =>
     mvK v7 h fun v20 h =>
     vK (aBin Try.prog BinOp.neq 29 v20 (Value.int IntKind.i64 0)) h fun v21 h =>
     cnd v21 (
      mvK v7 h fun v22 h =>
      mvK v22 h fun v4_2 h =>
      retV [some v4_2] R h) (
      vK (aBin Try.prog BinOp.add 3 v13_1 (Value.int IntKind.i64 1)) h fun v23 h =>
      mvK v23 h fun v13_2 h =>
      I4 [v13_2] h ∧ μ4 [v13_2] h < μ4 [v13_1] h4)) (
     mvK (Value.int IntKind.i64 0) h fun v4_3 h =>
     retV [some v4_3] R h)))
def lv67 (q : Nat) : List Nat := bif Nat.beq q 8 then [16769232, 13] else []
theorem ok67 : lkOK Try.prog lv67 Try.f67 2 (Try.f67.body.getD .skip) 67 = true := by kernel_rfl
theorem e67 (a0 a1 : Value) (h : Heap) (R : Value → Heap → Prop) : n67 a0 a1 h R = wpK Try.prog lv67 (Try.f67.body.getD .skip) (endK Try.prog [.tmp 4] R) (argT [a0, a1]) h := by kernel_rfl
theorem w67 {a0 a1 : Value} {h : Heap} {R : Value → Heap → Prop} (hn : n67 a0 a1 h R) : DetP Try.prog 67 [a0, a1] h R :=
  DetP.of_code (rs := [.tmp 4]) (n := 2) Try.func67 (by kernel_rfl) (by kernel_rfl) lv67 ok67 rfl ((e67 a0 a1 h R) ▸ hn)

/-! ### slices.Clone[[]int,int]: function 71 -/
def n71 (a0 : Value) (h : Heap) (R : Value → Heap → Prop) : Prop :=
  mvK (Value.slice none 0 0) h fun v2 h =>
  mvK a0 h fun v3 h =>
  vK (aBin Try.prog BinOp.eql 25 v3 (Value.slice none 0 0)) h fun v4 h =>
  cnd v4 (
   mvK (Value.slice none 0 0) h fun v2_1 h =>
   retV [some v2_1] R h) (
   okK (aBuildSlice Try.prog 25 0 [] h) fun v5 h =>
   mvK a0 h fun v6 h =>
   okK (aAppend Try.prog 25 25 v5 v6 h) fun v7 h =>
   mvK v7 h fun v2_2 h =>
   retV [some v2_2] R h)
def lv71 (q : Nat) : List Nat := []
theorem ok71 : lkOK Try.prog lv71 Try.f71 1 (Try.f71.body.getD .skip) 71 = true := by kernel_rfl
theorem e71 (a0 : Value) (h : Heap) (R : Value → Heap → Prop) : n71 a0 h R = wpK Try.prog lv71 (Try.f71.body.getD .skip) (endK Try.prog [.tmp 2] R) (argT [a0]) h := by kernel_rfl
theorem w71 {a0 : Value} {h : Heap} {R : Value → Heap → Prop} (hn : n71 a0 h R) : DetP Try.prog 71 [a0] h R :=
  DetP.of_code (rs := [.tmp 2]) (n := 1) Try.func71 (by kernel_rfl) (by kernel_rfl) lv71 ok71 rfl ((e71 a0 h R) ▸ hn)

/-! ### (examiner/cover.way).less: function 72 -/
def n72 (a0 a1 : Value) (h : Heap) (R : Value → Heap → Prop) : Prop :=
  okK (some (aBox Try.prog 111 a0 h)) fun v2 h =>
  okK (some (aBox Try.prog 111 a1 h)) fun v3 h =>
  mvK (Value.bool false) h fun v4 h =>
  vK (aFieldAddr Try.prog 111 v2 0) h fun v5 h =>
  vK (aLoad Try.prog 3 v5 h) h fun v6 g =>
  VB h.length v6 ∧ (let h := g
   vK (aFieldAddr Try.prog 111 v3 0) h fun v7 h =>
   vK (aLoad Try.prog 3 v7 h) h fun v8 g =>
   VB h.length v8 ∧ (let h := g
    cKD Try.prog 94 [v6, v8] h fun v9 g =>
    (∃ new, g = h ++ new) ∧ (let h := g
     vK (aFieldAddr Try.prog 111 v2 1) h fun v10 h =>
     vK (aLoad Try.prog 25 v10 h) h fun v11 g =>
     VB h.length v11 ∧ (let h := g
      vK (aLen Try.prog 25 v11) h fun v12 h =>
      vK (aFieldAddr Try.prog 111 v3 1) h fun v13 h =>
      vK (aLoad Try.prog 25 v13 h) h fun v14 g =>
      VB h.length v14 ∧ (let h := g
       vK (aLen Try.prog 25 v14) h fun v15 h =>
       cKD Try.prog 94 [v12, v15] h fun v16 g =>
       (∃ new, g = h ++ new) ∧ (let h := g
        vK (aFieldAddr Try.prog 111 v2 1) h fun v17 h =>
        vK (aLoad Try.prog 25 v17 h) h fun v18 g =>
        VB h.length v18 ∧ (let h := g
         vK (aFieldAddr Try.prog 111 v3 1) h fun v19 h =>
         vK (aLoad Try.prog 25 v19 h) h fun v20 g =>
         VB h.length v20 ∧ (let h := g
          cKD Try.prog 95 [v18, v20] h fun v21 g =>
          (∃ new, g = h ++ new) ∧ (let h := g
           okK (aBuildSlice Try.prog 25 3 [(0, v9), (1, v16), (2, v21)] h) fun v22 h =>
           cKD Try.prog 93 [v22] h fun v23 g =>
           (∃ new, g = h ++ new) ∧ (let h := g
            vK (aBin Try.prog BinOp.lss 3 v23 (Value.int IntKind.i64 0)) h fun v24 h =>
            mvK v24 h fun v4_1 h =>
            retV [some v4_1] R h))))))))))
def lv72 (q : Nat) : List Nat := []
theorem ok72 : lkOK Try.prog lv72 Try.f72 2 (Try.f72.body.getD .skip) 72 = true := by kernel_rfl
theorem e72 (a0 a1 : Value) (h : Heap) (R : Value → Heap → Prop) : n72 a0 a1 h R = wpK Try.prog lv72 (Try.f72.body.getD .skip) (endK Try.prog [.tmp 4] R) (argT [a0, a1]) h := by kernel_rfl
theorem w72 {a0 a1 : Value} {h : Heap} {R : Value → Heap → Prop} (hn : n72 a0 a1 h R) : DetP Try.prog 72 [a0, a1] h R :=
  DetP.of_code (rs := [.tmp 4]) (n := 2) Try.func72 (by kernel_rfl) (by kernel_rfl) lv72 ok72 rfl ((e72 a0 a1 h R) ▸ hn)

/-! ### examiner/examinerref38.better: function 74 -/
def n74 (a0 a1 a2 a3 : Value) (h : Heap) (R : Value → Heap → Prop) : Prop :=
  mvK (Value.bool false) h fun v8 h =>
  mvK a0 h fun v9 h =>
  mvK a2 h fun v10 h =>
  vK (aBin Try.prog BinOp.neq 3 v9 v10) h fun v11 h =>
  mvK v11 h fun v12 h =>
  gdK v12 false (fun k0 =>
   mvK a1 h fun v13 h =>
   k0 v13 h) (fun v13_1 h =>
   gdK v12 false (fun k1 =>
    vK (aLen Try.prog 25 v13_1) h fun v14 h =>
    k1 v14 h) (fun v14_1 h =>
    gdK v12 false (fun k2 =>
     mvK a3 h fun v15 h =>
     k2 v15 h) (fun v15_1 h =>
     gdK v12 false (fun k3 =>
      vK (aLen Try.prog 25 v15_1) h fun v16 h =>
      k3 v16 h) (fun v16_1 h =>
      gdK v12 false (fun k4 =>
       vK (aBin Try.prog BinOp.neq 3 v14_1 v16_1) h fun v17 h =>
       k4 v17 h) (fun v17_1 h =>
       vK (pickV v12 (Value.bool true) v17_1) h fun v18 h =>
       cnd v18 (
        mvK a0 h fun v19 h =>
        mvK a2 h fun v20 h =>
        vK (aBin Try.prog BinOp.lss 3 v19 v20) h fun v21 h =>
        mvK v21 h fun v22 h =>
        gdK v22 false (fun k5 =>
         mvK a0 h fun v23 h =>
         k5 v23 h) (fun v23_1 h =>
         gdK v22 false (fun k6 =>
          mvK a2 h fun v24 h =>
          k6 v24 h) (fun v24_1 h =>
          gdK v22 false (fun k7 =>
           vK (aBin Try.prog BinOp.eql 3 v23_1 v24_1) h fun v25 h =>
           k7 v25 h) (fun v25_1 h =>
           gdK v22 false (fun k8 =>
            mvK v25_1 h fun v26 h =>
            k8 v26 h) (fun v26_1 h =>
            gdK v26_1 true (fun k9 =>
             mvK a1 h fun v27 h =>
             k9 v27 h) (fun v27_1 h =>
             gdK v26_1 true (fun k10 =>
              vK (aLen Try.prog 25 v27_1) h fun v28 h =>
              k10 v28 h) (fun v28_1 h =>
              gdK v26_1 true (fun k11 =>
               mvK a3 h fun v29 h =>
               k11 v29 h) (fun v29_1 h =>
               gdK v26_1 true (fun k12 =>
                vK (aLen Try.prog 25 v29_1) h fun v30 h =>
                k12 v30 h) (fun v30_1 h =>
                gdK v26_1 true (fun k13 =>
                 vK (aBin Try.prog BinOp.lss 3 v28_1 v30_1) h fun v31 h =>
                 k13 v31 h) (fun v31_1 h =>
                 gdK v22 false (fun k14 =>
                  vK (pickV v26_1 v31_1 (Value.bool false)) h fun v32 h =>
                  k14 v32 h) (fun v32_1 h =>
                  vK (pickV v22 (Value.bool true) v32_1) h fun v33 h =>
                  mvK v33 h fun v8_1 h =>
                  retV [some v8_1] R h) h) h) h) h) h) h) h) h) h) h) (
        mvK a1 h fun v34 h =>
        mvK a3 h fun v35 h =>
        cK Try.prog 92 [v34, v35] h fun v36 h =>
        vK (aBin Try.prog BinOp.lss 3 v36 (Value.int IntKind.i64 0)) h fun v37 h =>
        mvK v37 h fun v8_2 h =>
        retV [some v8_2] R h)) h) h) h) h) h
def lv74 (q : Nat) : List Nat := []
theorem ok74 : lkOK Try.prog lv74 Try.f74 4 (Try.f74.body.getD .skip) 74 = true := by kernel_rfl
theorem e74 (a0 a1 a2 a3 : Value) (h : Heap) (R : Value → Heap → Prop) : n74 a0 a1 a2 a3 h R = wpK Try.prog lv74 (Try.f74.body.getD .skip) (endK Try.prog [.tmp 8] R) (argT [a0, a1, a2, a3]) h := by kernel_rfl
theorem w74 {a0 a1 a2 a3 : Value} {h : Heap} {R : Value → Heap → Prop} (hn : n74 a0 a1 a2 a3 h R) : DetP Try.prog 74 [a0, a1, a2, a3] h R :=
  DetP.of_code (rs := [.tmp 8]) (n := 4) Try.func74 (by kernel_rfl) (by kernel_rfl) lv74 ok74 rfl ((e74 a0 a1 a2 a3 h R) ▸ hn)

/-! ### slices.Compare[[]int,int]: function 95 -/
def n95 (a0 a1 : Value) (h : Heap) (R : Value → Heap → Prop) : Prop :=
  mvK (Value.int IntKind.i64 0) h fun v4 h =>
  mvK a0 h fun v9 h =>
  vK (aLen Try.prog 25 v9) h fun v10 h =>
  mvK (Value.int IntKind.i64 0) h fun v11 h =>
  ∃ (I2 : List Value → Heap → Prop) (μ2 : List Value → Heap → Nat), I2 [v11] h ∧
  ∀ (h2 : Heap) (j2 : Tmps) (v11_1 : Value), I2 [v11_1] h2 → (let h := h2
   vK (aBin Try.prog BinOp.lss 3 v11_1 v10) h fun v12 h =>
   cnd v12 (
    mvK v11_1 h fun v13 h =>
    vK (aIndexAddr Try.prog 25 v9 v11_1) h fun v14 h =>
    vK (aLoad Try.prog 3 v14 h) h fun v15 h =>
    mvK v13 h fun v5 h =>
    mvK v15 h fun v6 h =>
    mvK v5 h fun v16 h =>
    mvK a1 h fun v17 h =>
    vK (aLen Try.prog 25 v17) h fun v18 h =>
    vK (aBin Try.prog BinOp.geq 3 v16 v18) h fun v19 h =>
    cnd v19 (
     mvK (Value.int IntKind.i64 1) h fun v4_1 h =>
     retV [some v4_1] R h) (
     mvK a1 h fun v20 h =>
     mvK v5 h fun v21 h =>
     vK (aIndexAddr Try.prog 25 v20 v21) h fun v22 h =>
     vK (aLoad Try.prog 3 v22 h) h fun v23 h =>
     mvK v23 h fun v7 h =>
     mvK v6 h fun v24 h =>
     mvK v7 h fun v25 h =>
     cK Try.prog 94 [v24, v25] h fun v26 h =>
     mvK v26 h fun v8 h =>
     mvK v8 h fun v27 h =>
     vK (aBin Try.prog BinOp.neq 3 v27 (Value.int IntKind.i64 0)) h fun v28 h =>
     cnd v28 (
      mvK v8 h fun v29 h =>
      mvK v29 h fun v4_2 h =>
      retV [some v4_2] R h) (
      vK (aBin Try.prog BinOp.add 3 v11_1 (Value.int IntKind.i64 1)) h fun v30 h =>
      mvK v30 h fun v11_2 h =>
      I2 [v11_2] h ∧ μ2 [v11_2] h < μ2 [v11_1] h2))) (
    mvK a0 h fun v31 h =>
    vK (aLen Try.prog 25 v31) h fun v32 h =>
    mvK a1 h fun v33 h =>
    vK (aLen Try.prog 25 v33) h fun v34 h =>
    vK (aBin Try.prog BinOp.lss 3 v32 v34) h fun v35 h =>
    cnd v35 (
     mvK (Value.int IntKind.i64 (-1)) h fun v4_3 h =>
     retV [some v4_3] R h) (
     mvK (Value.int IntKind.i64 0) h fun v4_4 h =>
     retV [some v4_4] R h)))
def lv95 (q : Nat) : List Nat := bif Nat.beq q 4 then [2147482096, 11] else []
theorem ok95 : lkOK Try.prog lv95 Try.f95 2 (Try.f95.body.getD .skip) 95 = true := by kernel_rfl
theorem e95 (a0 a1 : Value) (h : Heap) (R : Value → Heap → Prop) : n95 a0 a1 h R = wpK Try.prog lv95 (Try.f95.body.getD .skip) (endK Try.prog [.tmp 4] R) (argT [a0, a1]) h := by kernel_rfl
theorem w95 {a0 a1 : Value} {h : Heap} {R : Value → Heap → Prop} (hn : n95 a0 a1 h R) : DetP Try.prog 95 [a0, a1] h R :=
  DetP.of_code (rs := [.tmp 4]) (n := 2) Try.func95 (by kernel_rfl) (by kernel_rfl) lv95 ok95 rfl ((e95 a0 a1 h R) ▸ hn)

end Go.Proofs.Ytdjoednhfoligaa
