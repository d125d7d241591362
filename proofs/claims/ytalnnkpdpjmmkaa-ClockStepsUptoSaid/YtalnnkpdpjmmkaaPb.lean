import Derived.Test.YtalnnkpdpjmmkaaAmW
import Derived.Test.YtalnnkpdpjmmkaaProg
import Derived.KernelRfl
import Derived.Test.YtalnnkpdpjmmkaaPa
import Derived.Test.YtalnnkpdpjmmkaaAnE
set_option linter.unusedVariables false
set_option maxRecDepth 100000
namespace Go.Proofs.Ytalnnkpdpjmmkaa
open Go.AM

/-! ### examiner/examinerlaw27.ClockChecks: function 3 -/
def n3 (a0 : Value) (h : Heap) (R : Value → Heap → Prop) : Prop :=
  okK (some (aBox Try.prog 24 a0 h)) fun v1 h =>
  mvK (Value.bool false) h fun v2 h =>
  cK Try.prog 10 [] h fun v7 h =>
  vK (aUn UnOp.not v7) h fun v8 h =>
  cnd v8 (
   mvK (Value.bool false) h fun v2_1 h =>
   retV [some v2_1] R h) (
   vK (aLoad Try.prog 24 v1 h) h fun v9 h =>
   cK Try.prog 11 [v9] h fun v10 h =>
   vK (aUn UnOp.not v10) h fun v11 h =>
   cnd v11 (
    mvK (Value.bool true) h fun v2_2 h =>
    retV [some v2_2] R h) (
    vK (aLoad Try.prog 24 v1 h) h fun v13 h =>
    cK Try.prog 13 [v13] h fun v14 h =>
    cK Try.prog 12 [v14] h fun v15 h =>
    mvK v15 h fun v12 h =>
    vK (aExtract v12 0) h fun v16 h =>
    vK (aExtract v12 1) h fun v17 h =>
    mvK v16 h fun v3 h =>
    mvK v17 h fun v4 h =>
    vK (aLoad Try.prog 24 v1 h) h fun v19 h =>
    cK Try.prog 14 [v19] h fun v20 h =>
    mvK v20 h fun v18 h =>
    vK (aExtract v18 0) h fun v21 h =>
    vK (aExtract v18 1) h fun v22 h =>
    mvK v21 h fun v5 h =>
    mvK v22 h fun v6 h =>
    mvK v3 h fun v23 h =>
    mvK v5 h fun v24 h =>
    vK (aBin Try.prog BinOp.eql 3 v23 v24) h fun v25 h =>
    mvK v25 h fun v26 h =>
    gdK v26 true (fun k0 =>
     mvK v4 h fun v27 h =>
     k0 v27 h) (fun v27_1 h =>
     gdK v26 true (fun k1 =>
      mvK v6 h fun v28 h =>
      k1 v28 h) (fun v28_1 h =>
      gdK v26 true (fun k2 =>
       vK (aBin Try.prog BinOp.eql 3 v27_1 v28_1) h fun v29 h =>
       k2 v29 h) (fun v29_1 h =>
       vK (pickV v26 v29_1 (Value.bool false)) h fun v30 h =>
       mvK v30 h fun v2_3 h =>
       retV [some v2_3] R h) h) h) h))
def lv3 (q : Nat) : List Nat := []
theorem ok3 : lkOK Try.prog lv3 Try.f3 1 (Try.f3.body.getD .skip) 3 = true := by kernel_rfl
theorem e3 (a0 : Value) (h : Heap) (R : Value → Heap → Prop) : n3 a0 h R = wpK Try.prog lv3 (Try.f3.body.getD .skip) (endK Try.prog [.tmp 2] R) (argT [a0]) h := by kernel_rfl
theorem w3 {a0 : Value} {h : Heap} {R : Value → Heap → Prop} (hn : n3 a0 h R) : DetP Try.prog 3 [a0] h R :=
  DetP.of_code (rs := [.tmp 2]) (n := 1) Try.func3 (by kernel_rfl) (by kernel_rfl) lv3 ok3 rfl ((e3 a0 h R) ▸ hn)

/-! ### examiner/examinerlaw27.ClockAdvances: function 4 -/
def n4 (a0 a1 : Value) (h : Heap) (R : Value → Heap → Prop) : Prop :=
  okK (some (aBox Try.prog 24 a0 h)) fun v2 h =>
  mvK (Value.bool false) h fun v4 h =>
  cK Try.prog 10 [] h fun v13 h =>
  vK (aUn UnOp.not v13) h fun v14 h =>
  cnd v14 (
   mvK (Value.bool false) h fun v4_1 h =>
   retV [some v4_1] R h) (
   vK (aLoad Try.prog 24 v2 h) h fun v15 h =>
   cK Try.prog 11 [v15] h fun v16 h =>
   vK (aUn UnOp.not v16) h fun v17 h =>
   cnd v17 (
    mvK (Value.bool true) h fun v4_2 h =>
    retV [some v4_2] R h) (
    vK (aLoad Try.prog 24 v2 h) h fun v19 h =>
    cK Try.prog 13 [v19] h fun v20 h =>
    cK Try.prog 15 [v20] h fun v21 h =>
    mvK v21 h fun v18 h =>
    vK (aExtract v18 0) h fun v22 h =>
    vK (aExtract v18 1) h fun v23 h =>
    mvK v22 h fun v5 h =>
    mvK v23 h fun v6 h =>
    vK (aLoad Try.prog 24 v2 h) h fun v25 h =>
    cK Try.prog 13 [v25] h fun v26 h =>
    mvK a1 h fun v27 h =>
    cK Try.prog 16 [v26, v27] h fun v28 h =>
    mvK v28 h fun v24 h =>
    vK (aExtract v24 0) h fun v29 h =>
    vK (aExtract v24 1) h fun v30 h =>
    vK (aExtract v24 2) h fun v31 h =>
    okK (aAlloc Try.prog 24 h) fun v7 h =>
    okK ((aStore Try.prog 24 v7 v29 h).map (undef, ·)) fun _ h =>
    mvK v30 h fun v8 h =>
    mvK v31 h fun v9 h =>
    vK (aLoad Try.prog 24 v2 h) h fun v32 h =>
    cK Try.prog 17 [v32] h fun v33 h =>
    mvK v33 h fun v10 h =>
    mvK v10 h fun v34 h =>
    vK (aBin Try.prog BinOp.neq 3 v34 (Value.int IntKind.i64 0)) h fun v35 h =>
    cnd v35 (
     mvK v5 h fun v36 h =>
     vK (aBin Try.prog BinOp.eql 3 v36 (Value.int IntKind.i64 0)) h fun v37 h =>
     mvK v37 h fun v38 h =>
     gdK v38 true (fun k0 =>
      mvK v6 h fun v39 h =>
      k0 v39 h) (fun v39_1 h =>
      gdK v38 true (fun k1 =>
       mvK v10 h fun v40 h =>
       k1 v40 h) (fun v40_1 h =>
       gdK v38 true (fun k2 =>
        vK (aBin Try.prog BinOp.eql 3 v39_1 v40_1) h fun v41 h =>
        k2 v41 h) (fun v41_1 h =>
        vK (pickV v38 v41_1 (Value.bool false)) h fun v42 h =>
        mvK v42 h fun v43 h =>
        gdK v43 true (fun k3 =>
         vK (aLoad Try.prog 24 v7 h) h fun v44 h =>
         k3 v44 h) (fun v44_1 h =>
         gdK v43 true (fun k4 =>
          mvK v9 h fun v45 h =>
          k4 v45 h) (fun v45_1 h =>
          gdK v43 true (fun k5 =>
           mvK v10 h fun v46 h =>
           k5 v46 h) (fun v46_1 h =>
           gdK v43 true (fun k6 =>
            vK (aBuild Try.prog 39 [(3, v46_1)]) h fun v47 h =>
            k6 v47 h) (fun v47_1 h =>
            gdK v43 true (fun k7 =>
             cK Try.prog 18 [v44_1, v45_1, v47_1] h fun v48 h =>
             k7 v48 h) (fun v48_1 h =>
             vK (pickV v43 v48_1 (Value.bool false)) h fun v49 h =>
             mvK v49 h fun v50 h =>
             gdK v50 true (fun k8 =>
              mvK v8 h fun v51 h =>
              k8 v51 h) (fun v51_1 h =>
              gdK v50 true (fun k9 =>
               vK (aLen Try.prog 33 v51_1) h fun v52 h =>
               k9 v52 h) (fun v52_1 h =>
               gdK v50 true (fun k10 =>
                vK (aBin Try.prog BinOp.eql 3 v52_1 (Value.int IntKind.i64 0)) h fun v53 h =>
                k10 v53 h) (fun v53_1 h =>
                vK (pickV v50 v53_1 (Value.bool false)) h fun v54 h =>
                mvK v54 h fun v4_3 h =>
                retV [some v4_3] R h) h) h) h) h) h) h) h) h) h) h) h) (
     vK (aLoad Try.prog 24 v2 h) h fun v55 h =>
     cK Try.prog 19 [v55] h fun v56 h =>
     mvK v56 h fun v11 h =>
     mvK v11 h fun v57 h =>
     vK (aBin Try.prog BinOp.eql 3 v57 (Value.int IntKind.i64 (-1))) h fun v58 h =>
     mvK v58 h fun v59 h =>
     gdK v59 true (fun k11 =>
      mvK v6 h fun v60 h =>
      k11 v60 h) (fun v60_1 h =>
      gdK v59 true (fun k12 =>
       vK (aBin Try.prog BinOp.neq 27 v60_1 (Value.int IntKind.i64 23)) h fun v61 h =>
       k12 v61 h) (fun v61_1 h =>
       gdK v59 true (fun k13 =>
        mvK v61_1 h fun v62 h =>
        k13 v62 h) (fun v62_1 h =>
        gdK v62_1 false (fun k14 =>
         mvK v5 h fun v63 h =>
         k14 v63 h) (fun v63_1 h =>
         gdK v62_1 false (fun k15 =>
          vK (aBin Try.prog BinOp.neq 3 v63_1 (Value.int IntKind.i64 0)) h fun v64 h =>
          k15 v64 h) (fun v64_1 h =>
          gdK v59 true (fun k16 =>
           vK (pickV v62_1 (Value.bool true) v64_1) h fun v65 h =>
           k16 v65 h) (fun v65_1 h =>
           vK (pickV v59 v65_1 (Value.bool false)) h fun v66 h =>
           mvK v66 h fun v67 h =>
           gdK v67 false (fun k17 =>
            mvK v11 h fun v68 h =>
            k17 v68 h) (fun v68_1 h =>
            gdK v67 false (fun k18 =>
             vK (aBin Try.prog BinOp.neq 3 v68_1 (Value.int IntKind.i64 (-1))) h fun v69 h =>
             k18 v69 h) (fun v69_1 h =>
             gdK v67 false (fun k19 =>
              mvK v69_1 h fun v70 h =>
              k19 v70 h) (fun v70_1 h =>
              gdK v70_1 true (fun k20 =>
               mvK v6 h fun v71 h =>
               k20 v71 h) (fun v71_1 h =>
               gdK v70_1 true (fun k21 =>
                vK (aBin Try.prog BinOp.neq 27 v71_1 (Value.int IntKind.i64 0)) h fun v72 h =>
                k21 v72 h) (fun v72_1 h =>
                gdK v70_1 true (fun k22 =>
                 mvK v72_1 h fun v73 h =>
                 k22 v73 h) (fun v73_1 h =>
                 gdK v73_1 false (fun k23 =>
                  mvK v5 h fun v74 h =>
                  k23 v74 h) (fun v74_1 h =>
                  gdK v73_1 false (fun k24 =>
                   mvK v11 h fun v75 h =>
                   k24 v75 h) (fun v75_1 h =>
                   gdK v73_1 false (fun k25 =>
                    vK (aBin Try.prog BinOp.neq 3 v74_1 v75_1) h fun v76 h =>
                    k25 v76 h) (fun v76_1 h =>
                    gdK v70_1 true (fun k26 =>
                     vK (pickV v73_1 (Value.bool true) v76_1) h fun v77 h =>
                     k26 v77 h) (fun v77_1 h =>
                     gdK v67 false (fun k27 =>
                      vK (pickV v70_1 v77_1 (Value.bool false)) h fun v78 h =>
                      k27 v78 h) (fun v78_1 h =>
                      vK (pickV v67 (Value.bool true) v78_1) h fun v79 h =>
                      cnd v79 (
                       mvK (Value.bool false) h fun v4_4 h =>
                       retV [some v4_4] R h) (
                       vK (aLoad Try.prog 24 v2 h) h fun v80 h =>
                       mvK a1 h fun v81 h =>
                       cK Try.prog 20 [v80, v81] h fun v82 h =>
                       okK (aAlloc Try.prog 39 h) fun v12 h =>
                       okK ((aStore Try.prog 39 v12 v82 h).map (undef, ·)) fun _ h =>
                       vK (aLoad Try.prog 24 v7 h) h fun v83 h =>
                       mvK v9 h fun v84 h =>
                       vK (aLoad Try.prog 39 v12 h) h fun v85 h =>
                       cK Try.prog 18 [v83, v84, v85] h fun v86 h =>
                       mvK v86 h fun v87 h =>
                       gdK v87 true (fun k28 =>
                        mvK v8 h fun v88 h =>
                        k28 v88 h) (fun v88_1 h =>
                        gdK v87 true (fun k29 =>
                         vK (aFieldAddr Try.prog 39 v12 1) h fun v89 h =>
                         k29 v89 h) (fun v89_1 h =>
                         gdK v87 true (fun k30 =>
                          vK (aLoad Try.prog 33 v89_1 h) h fun v90 h =>
                          k30 v90 h) (fun v90_1 h =>
                          gdK v87 true (fun k31 =>
                           cK Try.prog 21 [v88_1, v90_1] h fun v91 h =>
                           k31 v91 h) (fun v91_1 h =>
                           vK (pickV v87 v91_1 (Value.bool false)) h fun v92 h =>
                           mvK v92 h fun v4_5 h =>
                           retV [some v4_5] R h) h) h) h) h)) h) h) h) h) h) h) h) h) h) h) h) h) h) h) h) h) h)))
def lv4 (q : Nat) : List Nat := []
theorem ok4 : lkOK Try.prog lv4 Try.f4 2 (Try.f4.body.getD .skip) 4 = true := by kernel_rfl
theorem e4 (a0 a1 : Value) (h : Heap) (R : Value → Heap → Prop) : n4 a0 a1 h R = wpK Try.prog lv4 (Try.f4.body.getD .skip) (endK Try.prog [.tmp 4] R) (argT [a0, a1]) h := by kernel_rfl
theorem w4 {a0 a1 : Value} {h : Heap} {R : Value → Heap → Prop} (hn : n4 a0 a1 h R) : DetP Try.prog 4 [a0, a1] h R :=
  DetP.of_code (rs := [.tmp 4]) (n := 2) Try.func4 (by kernel_rfl) (by kernel_rfl) lv4 ok4 rfl ((e4 a0 a1 h R) ▸ hn)

/-! ### examiner/examinerlaw27.ClockOnTime: function 5 -/
def n5 (a0 : Value) (h : Heap) (R : Value → Heap → Prop) : Prop :=
  okK (some (aBox Try.prog 24 a0 h)) fun v1 h =>
  mvK (Value.bool false) h fun v2 h =>
  cK Try.prog 10 [] h fun v15 h =>
  vK (aUn UnOp.not v15) h fun v16 h =>
  cnd v16 (
   mvK (Value.bool false) h fun v2_1 h =>
   retV [some v2_1] R h) (
   vK (aLoad Try.prog 24 v1 h) h fun v17 h =>
   cK Try.prog 11 [v17] h fun v18 h =>
   vK (aUn UnOp.not v18) h fun v19 h =>
   mvK v19 h fun v20 h =>
   gdK v20 false (fun k0 =>
    vK (aLoad Try.prog 24 v1 h) h fun v21 h =>
    k0 v21 h) (fun v21_1 h =>
    gdK v20 false (fun k1 =>
     cK Try.prog 17 [v21_1] h fun v22 h =>
     k1 v22 h) (fun v22_1 h =>
     gdK v20 false (fun k2 =>
      vK (aBin Try.prog BinOp.neq 3 v22_1 (Value.int IntKind.i64 0)) h fun v23 h =>
      k2 v23 h) (fun v23_1 h =>
      vK (pickV v20 (Value.bool true) v23_1) h fun v24 h =>
      cnd v24 (
       mvK (Value.bool true) h fun v2_2 h =>
       retV [some v2_2] R h) (
       vK (aLoad Try.prog 24 v1 h) h fun v25 h =>
       cK Try.prog 13 [v25] h fun v26 h =>
       okK (aAlloc Try.prog 24 h) fun v3 h =>
       okK ((aStore Try.prog 24 v3 v26 h).map (undef, ·)) fun _ h =>
       mvK (Value.int IntKind.i64 0) h fun v4 h =>
       ∃ (I7 : List Value → Heap → Prop) (μ7 : List Value → Heap → Nat), I7 [v4] h ∧
       ∀ (h7 : Heap) (j7 : Tmps) (v4_1 : Value), I7 [v4_1] h7 → (let h := h7
        mvK v4_1 h fun v27 h =>
        vK (aFieldAddr Try.prog 24 v1 1) h fun v28 h =>
        vK (aLoad Try.prog 22 v28 h) h fun v29 h =>
        vK (aLen Try.prog 22 v29) h fun v30 h =>
        vK (aBin Try.prog BinOp.leq 3 v27 v30) h fun v31 h =>
        cnd v31 (
         vK (aLoad Try.prog 24 v3 h) h fun v35 h =>
         cK Try.prog 13 [v35] h fun v36 h =>
         cK Try.prog 15 [v36] h fun v37 h =>
         mvK v37 h fun v34 h =>
         vK (aExtract v34 0) h fun v38 h =>
         vK (aExtract v34 1) h fun v39 h =>
         mvK v38 h fun v5 h =>
         mvK v39 h fun v6 h =>
         mvK v6 h fun v40 h =>
         vK (aBin Try.prog BinOp.eql 27 v40 (Value.int IntKind.i64 23)) h fun v41 h =>
         cnd v41 (
          mvK (Value.int IntKind.i64 0) h fun v7 h =>
          ∃ (I12 : List Value → Heap → Prop) (μ12 : List Value → Heap → Nat), I12 [v7] h ∧
          ∀ (h12 : Heap) (j12 : Tmps) (v7_1 : Value), I12 [v7_1] h12 → (let h := h12
           mvK v7_1 h fun v42 h =>
           vK (aFieldAddr Try.prog 24 v3 1) h fun v43 h =>
           vK (aLoad Try.prog 22 v43 h) h fun v44 h =>
           vK (aLen Try.prog 22 v44) h fun v45 h =>
           vK (aBin Try.prog BinOp.lss 3 v42 v45) h fun v46 h =>
           cnd v46 (
            vK (aFieldAddr Try.prog 24 v3 1) h fun v49 h =>
            vK (aLoad Try.prog 22 v49 h) h fun v50 h =>
            mvK v7_1 h fun v51 h =>
            vK (aIndexAddr Try.prog 22 v50 v51) h fun v52 h =>
            vK (aFieldAddr Try.prog 44 v52 4) h fun v53 h =>
            vK (aLoad Try.prog 4 v53 h) h fun v54 h =>
            cnd v54 (
             mvK (Value.bool false) h fun v2_3 h =>
             retV [some v2_3] R h) (
             mvK v7_1 h fun v47 h =>
             vK (aBin Try.prog BinOp.add 3 v47 (Value.int IntKind.i64 1)) h fun v48 h =>
             mvK v48 h fun v7_2 h =>
             I12 [v7_2] h ∧ μ12 [v7_2] h < μ12 [v7_1] h12)) (
            mvK (Value.bool true) h fun v2_4 h =>
            retV [some v2_4] R h))) (
          mvK v6 h fun v55 h =>
          vK (aBin Try.prog BinOp.neq 27 v55 (Value.int IntKind.i64 0)) h fun v56 h =>
          mvK v56 h fun v57 h =>
          gdK v57 false (fun k3 =>
           mvK v5 h fun v58 h =>
           k3 v58 h) (fun v58_1 h =>
           gdK v57 false (fun k4 =>
            vK (aFieldAddr Try.prog 24 v3 0) h fun v59 h =>
            k4 v59 h) (fun v59_1 h =>
            gdK v57 false (fun k5 =>
             vK (aLoad Try.prog 3 v59_1 h) h fun v60 h =>
             k5 v60 h) (fun v60_1 h =>
             gdK v57 false (fun k6 =>
              vK (aBin Try.prog BinOp.lss 3 v58_1 v60_1) h fun v61 h =>
              k6 v61 h) (fun v61_1 h =>
              vK (pickV v57 (Value.bool true) v61_1) h fun v62 h =>
              cnd v62 (
               mvK (Value.bool false) h fun v2_5 h =>
               retV [some v2_5] R h) (
               vK (aLoad Try.prog 24 v3 h) h fun v64 h =>
               cK Try.prog 13 [v64] h fun v65 h =>
               mvK v5 h fun v66 h =>
               cK Try.prog 16 [v65, v66] h fun v67 h =>
               mvK v67 h fun v63 h =>
               vK (aExtract v63 0) h fun v68 h =>
               vK (aExtract v63 1) h fun v69 h =>
               vK (aExtract v63 2) h fun v70 h =>
               okK (aAlloc Try.prog 24 h) fun v8 h =>
               okK ((aStore Try.prog 24 v8 v68 h).map (undef, ·)) fun _ h =>
               mvK v69 h fun v9 h =>
               mvK v70 h fun v10 h =>
               mvK v10 h fun v71 h =>
               vK (aBin Try.prog BinOp.neq 27 v71 (Value.int IntKind.i64 0)) h fun v72 h =>
               mvK v72 h fun v73 h =>
               gdK v73 false (fun k7 =>
                vK (aFieldAddr Try.prog 24 v8 0) h fun v74 h =>
                k7 v74 h) (fun v74_1 h =>
                gdK v73 false (fun k8 =>
                 vK (aLoad Try.prog 3 v74_1 h) h fun v75 h =>
                 k8 v75 h) (fun v75_1 h =>
                 gdK v73 false (fun k9 =>
                  mvK v5 h fun v76 h =>
                  k9 v76 h) (fun v76_1 h =>
                  gdK v73 false (fun k10 =>
                   vK (aBin Try.prog BinOp.neq 3 v75_1 v76_1) h fun v77 h =>
                   k10 v77 h) (fun v77_1 h =>
                   vK (pickV v73 (Value.bool true) v77_1) h fun v78 h =>
                   mvK v78 h fun v79 h =>
                   gdK v79 false (fun k11 =>
                    vK (aFieldAddr Try.prog 24 v8 1) h fun v80 h =>
                    k11 v80 h) (fun v80_1 h =>
                    gdK v79 false (fun k12 =>
                     vK (aLoad Try.prog 22 v80_1 h) h fun v81 h =>
                     k12 v81 h) (fun v81_1 h =>
                     gdK v79 false (fun k13 =>
                      vK (aLen Try.prog 22 v81_1) h fun v82 h =>
                      k13 v82 h) (fun v82_1 h =>
                      gdK v79 false (fun k14 =>
                       vK (aFieldAddr Try.prog 24 v3 1) h fun v83 h =>
                       k14 v83 h) (fun v83_1 h =>
                       gdK v79 false (fun k15 =>
                        vK (aLoad Try.prog 22 v83_1 h) h fun v84 h =>
                        k15 v84 h) (fun v84_1 h =>
                        gdK v79 false (fun k16 =>
                         vK (aLen Try.prog 22 v84_1) h fun v85 h =>
                         k16 v85 h) (fun v85_1 h =>
                         gdK v79 false (fun k17 =>
                          vK (aBin Try.prog BinOp.neq 3 v82_1 v85_1) h fun v86 h =>
                          k17 v86 h) (fun v86_1 h =>
                          vK (pickV v79 (Value.bool true) v86_1) h fun v87 h =>
                          mvK v87 h fun v88 h =>
                          gdK v88 false (fun k18 =>
                           mvK v9 h fun v89 h =>
                           k18 v89 h) (fun v89_1 h =>
                           gdK v88 false (fun k19 =>
                            vK (aLen Try.prog 33 v89_1) h fun v90 h =>
                            k19 v90 h) (fun v90_1 h =>
                            gdK v88 false (fun k20 =>
                             vK (aBin Try.prog BinOp.eql 3 v90_1 (Value.int IntKind.i64 0)) h fun v91 h =>
                             k20 v91 h) (fun v91_1 h =>
                             vK (pickV v88 (Value.bool true) v91_1) h fun v92 h =>
                             cnd v92 (
                              mvK (Value.bool false) h fun v2_6 h =>
                              retV [some v2_6] R h) (
                              mvK (Value.int IntKind.i64 0) h fun v11 h =>
                              ∃ (I23 : List Value → Heap → Prop) (μ23 : List Value → Heap → Nat), I23 [v11] h ∧
                              ∀ (h23 : Heap) (j23 : Tmps) (v11_1 : Value), I23 [v11_1] h23 → (let h := h23
                               mvK v11_1 h fun v93 h =>
                               vK (aFieldAddr Try.prog 24 v8 1) h fun v94 h =>
                               vK (aLoad Try.prog 22 v94 h) h fun v95 h =>
                               vK (aLen Try.prog 22 v95) h fun v96 h =>
                               vK (aBin Try.prog BinOp.lss 3 v93 v96) h fun v97 h =>
                               cnd v97 (
                                vK (aFieldAddr Try.prog 24 v3 1) h fun v100 h =>
                                vK (aLoad Try.prog 22 v100 h) h fun v101 g =>
                                VB h.length v101 ∧ (let h := g
                                 mvK v11_1 h fun v102 h =>
                                 vK (aIndexAddr Try.prog 22 v101 v102) h fun v103 h =>
                                 vK (aLoad Try.prog 44 v103 h) h fun v104 g =>
                                 VB h.length v104 ∧ (let h := g
                                  vK (aFieldAddr Try.prog 24 v8 1) h fun v105 h =>
                                  vK (aLoad Try.prog 22 v105 h) h fun v106 g =>
                                  VB h.length v106 ∧ (let h := g
                                   mvK v11_1 h fun v107 h =>
                                   vK (aIndexAddr Try.prog 22 v106 v107) h fun v108 h =>
                                   vK (aLoad Try.prog 44 v108 h) h fun v109 g =>
                                   VB h.length v109 ∧ (let h := g
                                    okK (aAlloc Try.prog 44 h) fun v12 h =>
                                    okK (aAlloc Try.prog 44 h) fun v13 h =>
                                    okK ((aStore Try.prog 44 v12 v104 h).map (undef, ·)) fun _ h =>
                                    ((aLoad Try.prog 44 v108 h).map (·, h) = some (v109, h) ∧ (aLoad Try.prog 22 v105 h).map (·, h) = some (v106, h) ∧ True) ∧ (
                                     okK ((aStore Try.prog 44 v13 v109 h).map (undef, ·)) fun _ h =>
                                     (True) ∧ (
                                      vK (aFieldAddr Try.prog 44 v12 4) h fun v110 h =>
                                      vK (aLoad Try.prog 4 v110 h) h fun v111 h =>
                                      mvK v111 h fun v112 h =>
                                      gdK v112 true (fun k21 =>
                                       vK (aFieldAddr Try.prog 44 v12 3) h fun v113 h =>
                                       k21 v113 h) (fun v113_1 h =>
                                       gdK v112 true (fun k22 =>
                                        vK (aLoad Try.prog 3 v113_1 h) h fun v114 h =>
                                        k22 v114 h) (fun v114_1 h =>
                                        gdK v112 true (fun k23 =>
                                         mvK v5 h fun v115 h =>
                                         k23 v115 h) (fun v115_1 h =>
                                         gdK v112 true (fun k24 =>
                                          vK (aBin Try.prog BinOp.eql 3 v114_1 v115_1) h fun v116 h =>
                                          k24 v116 h) (fun v116_1 h =>
                                          vK (pickV v112 v116_1 (Value.bool false)) h fun v117 h =>
                                          mvK v117 h fun v14 h =>
                                          mvK v14 h fun v118 h =>
                                          mvK v9 h fun v119 h =>
                                          mvK v11_1 h fun v120 h =>
                                          cK Try.prog 22 [v119, v120] h fun v121 h =>
                                          vK (aBin Try.prog BinOp.neq 4 v118 v121) h fun v122 h =>
                                          mvK v122 h fun v123 h =>
                                          gdK v123 false (fun k25 =>
                                           mvK v14 h fun v124 h =>
                                           k25 v124 h) (fun v124_1 h =>
                                           gdK v123 false (fun k26 =>
                                            vK (aFieldAddr Try.prog 44 v13 5) h fun v125 h =>
                                            k26 v125 h) (fun v125_1 h =>
                                            gdK v123 false (fun k27 =>
                                             vK (aLoad Try.prog 4 v125_1 h) h fun v126 h =>
                                             k27 v126 h) (fun v126_1 h =>
                                             gdK v123 false (fun k28 =>
                                              mvK v126_1 h fun v127 h =>
                                              k28 v127 h) (fun v127_1 h =>
                                              gdK v127_1 true (fun k29 =>
                                               vK (aFieldAddr Try.prog 44 v12 5) h fun v128 h =>
                                               k29 v128 h) (fun v128_1 h =>
                                               gdK v127_1 true (fun k30 =>
                                                vK (aLoad Try.prog 4 v128_1 h) h fun v129 h =>
                                                k30 v129 h) (fun v129_1 h =>
                                                gdK v127_1 true (fun k31 =>
                                                 vK (aUn UnOp.not v129_1) h fun v130 h =>
                                                 k31 v130 h) (fun v130_1 h =>
                                                 gdK v123 false (fun k32 =>
                                                  vK (pickV v127_1 v130_1 (Value.bool false)) h fun v131 h =>
                                                  k32 v131 h) (fun v131_1 h =>
                                                  gdK v123 false (fun k33 =>
                                                   vK (aBin Try.prog BinOp.neq 4 v124_1 v131_1) h fun v132 h =>
                                                   k33 v132 h) (fun v132_1 h =>
                                                   vK (pickV v123 (Value.bool true) v132_1) h fun v133 h =>
                                                   mvK v133 h fun v134 h =>
                                                   gdK v134 false (fun k34 =>
                                                    mvK v14 h fun v135 h =>
                                                    k34 v135 h) (fun v135_1 h =>
                                                    gdK v134 false (fun k35 =>
                                                     vK (aUn UnOp.not v135_1) h fun v136 h =>
                                                     k35 v136 h) (fun v136_1 h =>
                                                     gdK v134 false (fun k36 =>
                                                      mvK v136_1 h fun v137 h =>
                                                      k36 v137 h) (fun v137_1 h =>
                                                      gdK v137_1 true (fun k37 =>
                                                       vK (aLoad Try.prog 44 v12 h) h fun v138 h =>
                                                       k37 v138 h) (fun v138_1 h =>
                                                       gdK v137_1 true (fun k38 =>
                                                        vK (aLoad Try.prog 44 v13 h) h fun v139 h =>
                                                        k38 v139 h) (fun v139_1 h =>
                                                        gdK v137_1 true (fun k39 =>
                                                         vK (aBin Try.prog BinOp.neq 44 v138_1 v139_1) h fun v140 h =>
                                                         k39 v140 h) (fun v140_1 h =>
                                                         gdK v134 false (fun k40 =>
                                                          vK (pickV v137_1 v140_1 (Value.bool false)) h fun v141 h =>
                                                          k40 v141 h) (fun v141_1 h =>
                                                          vK (pickV v134 (Value.bool true) v141_1) h fun v142 h =>
                                                          mvK v142 h fun v143 h =>
                                                          gdK v143 false (fun k41 =>
                                                           vK (aFieldAddr Try.prog 44 v12 4) h fun v144 h =>
                                                           k41 v144 h) (fun v144_1 h =>
                                                           gdK v143 false (fun k42 =>
                                                            vK (aLoad Try.prog 4 v144_1 h) h fun v145 h =>
                                                            k42 v145 h) (fun v145_1 h =>
                                                            gdK v143 false (fun k43 =>
                                                             mvK v145_1 h fun v146 h =>
                                                             k43 v146 h) (fun v146_1 h =>
                                                             gdK v146_1 true (fun k44 =>
                                                              vK (aFieldAddr Try.prog 44 v12 3) h fun v147 h =>
                                                              k44 v147 h) (fun v147_1 h =>
                                                              gdK v146_1 true (fun k45 =>
                                                               vK (aLoad Try.prog 3 v147_1 h) h fun v148 h =>
                                                               k45 v148 h) (fun v148_1 h =>
                                                               gdK v146_1 true (fun k46 =>
                                                                mvK v5 h fun v149 h =>
                                                                k46 v149 h) (fun v149_1 h =>
                                                                gdK v146_1 true (fun k47 =>
                                                                 vK (aBin Try.prog BinOp.lss 3 v148_1 v149_1) h fun v150 h =>
                                                                 k47 v150 h) (fun v150_1 h =>
                                                                 gdK v143 false (fun k48 =>
                                                                  vK (pickV v146_1 v150_1 (Value.bool false)) h fun v151 h =>
                                                                  k48 v151 h) (fun v151_1 h =>
                                                                  vK (pickV v143 (Value.bool true) v151_1) h fun v152 h =>
                                                                  cnd v152 (
                                                                   mvK (Value.bool false) h fun v2_7 h =>
                                                                   retV [some v2_7] R h) (
                                                                   mvK v11_1 h fun v98 h =>
                                                                   vK (aBin Try.prog BinOp.add 3 v98 (Value.int IntKind.i64 1)) h fun v99 h =>
                                                                   mvK v99 h fun v11_2 h =>
                                                                   I23 [v11_2] h ∧ μ23 [v11_2] h < μ23 [v11_1] h23)) h) h) h) h) h) h) h) h) h) h) h) h) h) h) h) h) h) h) h) h) h) h) h) h) h) h) h) h))))))) (
                                vK (aLoad Try.prog 24 v8 h) h fun v153 h =>
                                okK ((aStore Try.prog 24 v3 v153 h).map (undef, ·)) fun _ h =>
                                mvK v4_1 h fun v32 h =>
                                vK (aBin Try.prog BinOp.add 3 v32 (Value.int IntKind.i64 1)) h fun v33 h =>
                                mvK v33 h fun v4_2 h =>
                                I7 [v4_2] h ∧ μ7 [v4_2] h < μ7 [v4_1] h7)))) h) h) h) h) h) h) h) h) h) h) h) h) h) h)) h) h) h) h)) (
         mvK (Value.bool false) h fun v2_8 h =>
         retV [some v2_8] R h)))) h) h) h)
def lv5 (q : Nat) : List Nat := bif Nat.beq q 14 then [22835963083295358096932575511191922181989761012, 4] else bif Nat.beq q 24 then [36024398972452996, 7] else bif Nat.beq q 46 then [11417981541647679038562767441312918891869009924, 11] else []
theorem ok5 : lkOK Try.prog lv5 Try.f5 1 (Try.f5.body.getD .skip) 5 = true := by kernel_rfl
theorem e5 (a0 : Value) (h : Heap) (R : Value → Heap → Prop) : n5 a0 h R = wpK Try.prog lv5 (Try.f5.body.getD .skip) (endK Try.prog [.tmp 2] R) (argT [a0]) h := by kernel_rfl
theorem w5 {a0 : Value} {h : Heap} {R : Value → Heap → Prop} (hn : n5 a0 h R) : DetP Try.prog 5 [a0] h R :=
  DetP.of_code (rs := [.tmp 2]) (n := 1) Try.func5 (by kernel_rfl) (by kernel_rfl) lv5 ok5 rfl ((e5 a0 h R) ▸ hn)

/-! ### examiner/examinerlaw27.ClockTakes: function 6 -/
def n6 (a0 a1 a2 : Value) (h : Heap) (R : Value → Heap → Prop) : Prop :=
  okK (some (aBox Try.prog 24 a0 h)) fun v3 h =>
  mvK (Value.bool false) h fun v6 h =>
  cK Try.prog 10 [] h fun v14 h =>
  vK (aUn UnOp.not v14) h fun v15 h =>
  cnd v15 (
   mvK (Value.bool false) h fun v6_1 h =>
   retV [some v6_1] R h) (
   vK (aLoad Try.prog 24 v3 h) h fun v16 h =>
   cK Try.prog 11 [v16] h fun v17 h =>
   vK (aUn UnOp.not v17) h fun v18 h =>
   mvK v18 h fun v19 h =>
   gdK v19 false (fun k0 =>
    mvK a2 h fun v20 h =>
    k0 v20 h) (fun v20_1 h =>
    gdK v19 false (fun k1 =>
     vK (aLen Try.prog 9 v20_1) h fun v21 h =>
     k1 v21 h) (fun v21_1 h =>
     gdK v19 false (fun k2 =>
      vK (aBin Try.prog BinOp.gtr 3 v21_1 (Value.int IntKind.i64 60)) h fun v22 h =>
      k2 v22 h) (fun v22_1 h =>
      vK (pickV v19 (Value.bool true) v22_1) h fun v23 h =>
      cnd v23 (
       mvK (Value.bool true) h fun v6_2 h =>
       retV [some v6_2] R h) (
       vK (aLoad Try.prog 24 v3 h) h fun v25 h =>
       cK Try.prog 13 [v25] h fun v26 h =>
       mvK a1 h fun v27 h =>
       cK Try.prog 23 [v26, v27] h fun v28 h =>
       mvK v28 h fun v24 h =>
       vK (aExtract v24 0) h fun v29 h =>
       vK (aExtract v24 1) h fun v30 h =>
       mvK v29 h fun v7 h =>
       mvK v30 h fun v8 h =>
       vK (aLoad Try.prog 24 v3 h) h fun v32 h =>
       cK Try.prog 13 [v32] h fun v33 h =>
       mvK a1 h fun v34 h =>
       mvK a2 h fun v35 h =>
       cK Try.prog 24 [v33, v34, v35] h fun v36 h =>
       mvK v36 h fun v31 h =>
       vK (aExtract v31 0) h fun v37 h =>
       vK (aExtract v31 1) h fun v38 h =>
       vK (aExtract v31 2) h fun v39 h =>
       okK (aAlloc Try.prog 24 h) fun v9 h =>
       okK ((aStore Try.prog 24 v9 v37 h).map (undef, ·)) fun _ h =>
       mvK v38 h fun v10 h =>
       mvK v39 h fun v11 h =>
       vK (aLoad Try.prog 24 v3 h) h fun v40 h =>
       cK Try.prog 17 [v40] h fun v41 h =>
       mvK v41 h fun v12 h =>
       mvK v12 h fun v42 h =>
       vK (aBin Try.prog BinOp.neq 3 v42 (Value.int IntKind.i64 0)) h fun v43 h =>
       cnd v43 (
        mvK v8 h fun v44 h =>
        mvK v12 h fun v45 h =>
        vK (aBin Try.prog BinOp.eql 3 v44 v45) h fun v46 h =>
        mvK v46 h fun v47 h =>
        gdK v47 true (fun k3 =>
         mvK v7 h fun v48 h =>
         k3 v48 h) (fun v48_1 h =>
         gdK v47 true (fun k4 =>
          vK (aLen Try.prog 46 v48_1) h fun v49 h =>
          k4 v49 h) (fun v49_1 h =>
          gdK v47 true (fun k5 =>
           vK (aBin Try.prog BinOp.eql 3 v49_1 (Value.int IntKind.i64 0)) h fun v50 h =>
           k5 v50 h) (fun v50_1 h =>
           vK (pickV v47 v50_1 (Value.bool false)) h fun v51 h =>
           mvK v51 h fun v52 h =>
           gdK v52 true (fun k6 =>
            vK (aLoad Try.prog 24 v9 h) h fun v53 h =>
            k6 v53 h) (fun v53_1 h =>
            gdK v52 true (fun k7 =>
             mvK v11 h fun v54 h =>
             k7 v54 h) (fun v54_1 h =>
             gdK v52 true (fun k8 =>
              mvK v12 h fun v55 h =>
              k8 v55 h) (fun v55_1 h =>
              gdK v52 true (fun k9 =>
               vK (aBuild Try.prog 39 [(3, v55_1)]) h fun v56 h =>
               k9 v56 h) (fun v56_1 h =>
               gdK v52 true (fun k10 =>
                cK Try.prog 18 [v53_1, v54_1, v56_1] h fun v57 h =>
                k10 v57 h) (fun v57_1 h =>
                vK (pickV v52 v57_1 (Value.bool false)) h fun v58 h =>
                mvK v58 h fun v59 h =>
                gdK v59 true (fun k11 =>
                 mvK v10 h fun v60 h =>
                 k11 v60 h) (fun v60_1 h =>
                 gdK v59 true (fun k12 =>
                  vK (aBin Try.prog BinOp.eql 9 v60_1 (Value.string { data := #[] })) h fun v61 h =>
                  k12 v61 h) (fun v61_1 h =>
                  vK (pickV v59 v61_1 (Value.bool false)) h fun v62 h =>
                  mvK v62 h fun v6_3 h =>
                  retV [some v6_3] R h) h) h) h) h) h) h) h) h) h) h) (
        vK (aLoad Try.prog 24 v3 h) h fun v63 h =>
        mvK a1 h fun v64 h =>
        mvK a2 h fun v65 h =>
        cK Try.prog 25 [v63, v64, v65] h fun v66 h =>
        okK (aAlloc Try.prog 39 h) fun v13 h =>
        okK ((aStore Try.prog 39 v13 v66 h).map (undef, ·)) fun _ h =>
        vK (aLoad Try.prog 24 v9 h) h fun v67 h =>
        mvK v11 h fun v68 h =>
        vK (aLoad Try.prog 39 v13 h) h fun v69 h =>
        cK Try.prog 18 [v67, v68, v69] h fun v70 h =>
        vK (aUn UnOp.not v70) h fun v71 h =>
        mvK v71 h fun v72 h =>
        gdK v72 false (fun k13 =>
         mvK v10 h fun v73 h =>
         k13 v73 h) (fun v73_1 h =>
         gdK v72 false (fun k14 =>
          vK (aFieldAddr Try.prog 39 v13 2) h fun v74 h =>
          k14 v74 h) (fun v74_1 h =>
          gdK v72 false (fun k15 =>
           vK (aLoad Try.prog 9 v74_1 h) h fun v75 h =>
           k15 v75 h) (fun v75_1 h =>
           gdK v72 false (fun k16 =>
            vK (aBin Try.prog BinOp.neq 9 v73_1 v75_1) h fun v76 h =>
            k16 v76 h) (fun v76_1 h =>
            vK (pickV v72 (Value.bool true) v76_1) h fun v77 h =>
            cnd v77 (
             mvK (Value.bool false) h fun v6_4 h =>
             retV [some v6_4] R h) (
             mvK a1 h fun v78 h =>
             cK Try.prog 26 [v78, (Value.int IntKind.i64 0), (Value.int IntKind.i64 11)] h fun v79 h =>
             vK (aUn UnOp.not v79) h fun v80 h =>
             cnd v80 (
              mvK v8 h fun v81 h =>
              vK (aBin Try.prog BinOp.eql 27 v81 (Value.int IntKind.i64 3)) h fun v82 h =>
              mvK v82 h fun v83 h =>
              gdK v83 true (fun k17 =>
               mvK v7 h fun v84 h =>
               k17 v84 h) (fun v84_1 h =>
               gdK v83 true (fun k18 =>
                vK (aLen Try.prog 46 v84_1) h fun v85 h =>
                k18 v85 h) (fun v85_1 h =>
                gdK v83 true (fun k19 =>
                 vK (aBin Try.prog BinOp.eql 3 v85_1 (Value.int IntKind.i64 0)) h fun v86 h =>
                 k19 v86 h) (fun v86_1 h =>
                 vK (pickV v83 v86_1 (Value.bool false)) h fun v87 h =>
                 mvK v87 h fun v6_5 h =>
                 retV [some v6_5] R h) h) h) h) (
              mvK v8 h fun v88 h =>
              vK (aBin Try.prog BinOp.eql 27 v88 (Value.int IntKind.i64 0)) h fun v89 h =>
              mvK v89 h fun v90 h =>
              gdK v90 true (fun k20 =>
               mvK v7 h fun v91 h =>
               k20 v91 h) (fun v91_1 h =>
               gdK v90 true (fun k21 =>
                vK (aLoad Try.prog 24 v3 h) h fun v92 h =>
                k21 v92 h) (fun v92_1 h =>
                gdK v90 true (fun k22 =>
                 mvK a1 h fun v93 h =>
                 k22 v93 h) (fun v93_1 h =>
                 gdK v90 true (fun k23 =>
                  cK Try.prog 28 [v92_1, v93_1] h fun v94 h =>
                  k23 v94 h) (fun v94_1 h =>
                  gdK v90 true (fun k24 =>
                   cK Try.prog 27 [v91_1, v94_1] h fun v95 h =>
                   k24 v95 h) (fun v95_1 h =>
                   vK (pickV v90 v95_1 (Value.bool false)) h fun v96 h =>
                   mvK v96 h fun v6_6 h =>
                   retV [some v6_6] R h) h) h) h) h) h))) h) h) h) h))) h) h) h)
def lv6 (q : Nat) : List Nat := []
theorem e6 (a0 a1 a2 : Value) (h : Heap) (R : Value → Heap → Prop) : n6 a0 a1 a2 h R = wpK Try.prog lv6 (Try.f6.body.getD .skip) (endK Try.prog [.tmp 6] R) (argT [a0, a1, a2]) h := by kernel_rfl
/-! ### examiner/examinerlaw27.ClockStarts: function 7 -/
def n7 (a0 a1 a2 : Value) (h : Heap) (R : Value → Heap → Prop) : Prop :=
  okK (some (aBox Try.prog 24 a0 h)) fun v3 h =>
  okK (some (aBox Try.prog 44 a1 h)) fun v4 h =>
  mvK (Value.bool false) h fun v6 h =>
  cK Try.prog 10 [] h fun v17 h =>
  vK (aUn UnOp.not v17) h fun v18 h =>
  cnd v18 (
   mvK (Value.bool false) h fun v6_1 h =>
   retV [some v6_1] R h) (
   vK (aLoad Try.prog 24 v3 h) h fun v19 h =>
   cK Try.prog 11 [v19] h fun v20 h =>
   vK (aUn UnOp.not v20) h fun v21 h =>
   mvK v21 h fun v22 h =>
   gdK v22 false (fun k0 =>
    vK (aFieldAddr Try.prog 44 v4 1) h fun v23 h =>
    k0 v23 h) (fun v23_1 h =>
    gdK v22 false (fun k1 =>
     vK (aLoad Try.prog 9 v23_1 h) h fun v24 h =>
     k1 v24 h) (fun v24_1 h =>
     gdK v22 false (fun k2 =>
      vK (aLen Try.prog 9 v24_1) h fun v25 h =>
      k2 v25 h) (fun v25_1 h =>
      gdK v22 false (fun k3 =>
       vK (aBin Try.prog BinOp.gtr 3 v25_1 (Value.int IntKind.i64 60)) h fun v26 h =>
       k3 v26 h) (fun v26_1 h =>
       vK (pickV v22 (Value.bool true) v26_1) h fun v27 h =>
       cnd v27 (
        mvK (Value.bool true) h fun v6_2 h =>
        retV [some v6_2] R h) (
        vK (aLoad Try.prog 24 v3 h) h fun v29 g =>
        VB h.length v29 ∧ (let h := g
         cKD Try.prog 13 [v29] h fun v30 g =>
         (∃ new, g = h ++ new) ∧ (let h := g
          vK (aLoad Try.prog 44 v4 h) h fun v31 g =>
          VB h.length v31 ∧ (let h := g
           mvK a2 h fun v32 h =>
           cKD Try.prog 29 [v30, v31, v32] h fun v33 g =>
           (∃ new, g = h ++ new) ∧ (let h := g
            mvK v33 h fun v28 h =>
            vK (aExtract v28 0) h fun v34 h =>
            vK (aExtract v28 1) h fun v35 h =>
            okK (aAlloc Try.prog 24 h) fun v7 h =>
            okK ((aStore Try.prog 24 v7 v34 h).map (undef, ·)) fun _ h =>
            (True) ∧ (
             mvK v35 h fun v8 h =>
             vK (aLoad Try.prog 24 v3 h) h fun v37 g =>
             VB h.length v37 ∧ (let h := g
              cKD Try.prog 13 [v37] h fun v38 g =>
              (∃ new, g = h ++ new) ∧ (let h := g
               vK (aFieldAddr Try.prog 44 v4 0) h fun v39 h =>
               vK (aLoad Try.prog 3 v39 h) h fun v40 g =>
               VB h.length v40 ∧ (let h := g
                vK (aFieldAddr Try.prog 44 v4 1) h fun v41 h =>
                vK (aLoad Try.prog 9 v41 h) h fun v42 g =>
                VB h.length v42 ∧ (let h := g
                 cKD Try.prog 30 [v38, v40, v42] h fun v43 g =>
                 (∃ new, g = h ++ new) ∧ (let h := g
                  mvK v43 h fun v36 h =>
                  vK (aExtract v36 0) h fun v44 h =>
                  vK (aExtract v36 1) h fun v45 h =>
                  okK (aAlloc Try.prog 24 h) fun v9 h =>
                  okK ((aStore Try.prog 24 v9 v44 h).map (undef, ·)) fun _ h =>
                  (True) ∧ (
                   mvK v45 h fun v10 h =>
                   vK (aLoad Try.prog 24 v3 h) h fun v47 g =>
                   VB h.length v47 ∧ (let h := g
                    cKD Try.prog 13 [v47] h fun v48 g =>
                    (∃ new, g = h ++ new) ∧ (let h := g
                     vK (aFieldAddr Try.prog 44 v4 0) h fun v49 h =>
                     vK (aLoad Try.prog 3 v49 h) h fun v50 g =>
                     VB h.length v50 ∧ (let h := g
                      vK (aFieldAddr Try.prog 44 v4 1) h fun v51 h =>
                      vK (aLoad Try.prog 9 v51 h) h fun v52 g =>
                      VB h.length v52 ∧ (let h := g
                       cKD Try.prog 31 [v48, v50, v52] h fun v53 g =>
                       (∃ new, g = h ++ new) ∧ (let h := g
                        mvK v53 h fun v46 h =>
                        vK (aExtract v46 0) h fun v54 h =>
                        vK (aExtract v46 1) h fun v55 h =>
                        mvK v54 h fun v11 h =>
                        mvK v55 h fun v12 h =>
                        vK (aLoad Try.prog 24 v3 h) h fun v56 h =>
                        cK Try.prog 17 [v56] h fun v57 h =>
                        mvK v57 h fun v13 h =>
                        mvK v13 h fun v58 h =>
                        vK (aBin Try.prog BinOp.neq 3 v58 (Value.int IntKind.i64 0)) h fun v59 h =>
                        cnd v59 (
                         mvK v13 h fun v60 h =>
                         vK (aBuild Try.prog 39 [(3, v60)]) h fun v61 h =>
                         okK (aAlloc Try.prog 39 h) fun v14 h =>
                         okK ((aStore Try.prog 39 v14 v61 h).map (undef, ·)) fun _ h =>
                         vK (aLoad Try.prog 24 v7 h) h fun v62 h =>
                         mvK v8 h fun v63 h =>
                         vK (aLoad Try.prog 39 v14 h) h fun v64 h =>
                         cK Try.prog 18 [v62, v63, v64] h fun v65 h =>
                         mvK v65 h fun v66 h =>
                         gdK v66 true (fun k4 =>
                          vK (aLoad Try.prog 24 v9 h) h fun v67 h =>
                          k4 v67 h) (fun v67_1 h =>
                          gdK v66 true (fun k5 =>
                           mvK v10 h fun v68 h =>
                           k5 v68 h) (fun v68_1 h =>
                           gdK v66 true (fun k6 =>
                            vK (aLoad Try.prog 39 v14 h) h fun v69 h =>
                            k6 v69 h) (fun v69_1 h =>
                            gdK v66 true (fun k7 =>
                             cK Try.prog 18 [v67_1, v68_1, v69_1] h fun v70 h =>
                             k7 v70 h) (fun v70_1 h =>
                             vK (pickV v66 v70_1 (Value.bool false)) h fun v71 h =>
                             mvK v71 h fun v72 h =>
                             gdK v72 true (fun k8 =>
                              mvK v11 h fun v73 h =>
                              k8 v73 h) (fun v73_1 h =>
                              gdK v72 true (fun k9 =>
                               vK (aBin Try.prog BinOp.eql 3 v73_1 (Value.int IntKind.i64 0)) h fun v74 h =>
                               k9 v74 h) (fun v74_1 h =>
                               vK (pickV v72 v74_1 (Value.bool false)) h fun v75 h =>
                               mvK v75 h fun v76 h =>
                               gdK v76 true (fun k10 =>
                                mvK v12 h fun v77 h =>
                                k10 v77 h) (fun v77_1 h =>
                                gdK v76 true (fun k11 =>
                                 mvK v13 h fun v78 h =>
                                 k11 v78 h) (fun v78_1 h =>
                                 gdK v76 true (fun k12 =>
                                  vK (aBin Try.prog BinOp.eql 3 v77_1 v78_1) h fun v79 h =>
                                  k12 v79 h) (fun v79_1 h =>
                                  vK (pickV v76 v79_1 (Value.bool false)) h fun v80 h =>
                                  mvK v80 h fun v6_3 h =>
                                  retV [some v6_3] R h) h) h) h) h) h) h) h) h) h) (
                         vK (aLoad Try.prog 24 v3 h) h fun v82 h =>
                         vK (aFieldAddr Try.prog 44 v4 0) h fun v83 h =>
                         vK (aLoad Try.prog 3 v83 h) h fun v84 h =>
                         vK (aFieldAddr Try.prog 44 v4 1) h fun v85 h =>
                         vK (aLoad Try.prog 9 v85 h) h fun v86 h =>
                         cK Try.prog 32 [v82, v84, v86] h fun v87 h =>
                         mvK v87 h fun v81 h =>
                         vK (aExtract v81 0) h fun v88 h =>
                         vK (aExtract v81 1) h fun v89 h =>
                         mvK v88 h fun v15 h =>
                         mvK v89 h fun v16 h =>
                         vK (aLoad Try.prog 24 v7 h) h fun v90 g =>
                         VB h.length v90 ∧ (let h := g
                          mvK v8 h fun v91 h =>
                          vK (aLoad Try.prog 24 v3 h) h fun v92 g =>
                          VB h.length v92 ∧ (let h := g
                           vK (aLoad Try.prog 44 v4 h) h fun v93 g =>
                           VB h.length v93 ∧ (let h := g
                            mvK a2 h fun v94 h =>
                            cKD Try.prog 33 [v92, v93, v94] h fun v95 g =>
                            (∃ new, g = h ++ new) ∧ (let h := g
                             cKD Try.prog 18 [v90, v91, v95] h fun v96 g =>
                             (∃ new, g = h ++ new) ∧ (let h := g
                              mvK v96 h fun v97 h =>
                              gdK v97 true (fun k13 =>
                               vK (aLoad Try.prog 24 v9 h) h fun v98 g =>
                               VB h.length v98 ∧ (let h := g
                                k13 v98 h)) (fun v98_1 h =>
                               gdK v97 true (fun k14 =>
                                mvK v10 h fun v99 h =>
                                k14 v99 h) (fun v99_1 h =>
                                gdK v97 true (fun k15 =>
                                 vK (aLoad Try.prog 24 v3 h) h fun v100 g =>
                                 VB h.length v100 ∧ (let h := g
                                  k15 v100 h)) (fun v100_1 h =>
                                 gdK v97 true (fun k16 =>
                                  vK (aFieldAddr Try.prog 44 v4 0) h fun v101 h =>
                                  k16 v101 h) (fun v101_1 h =>
                                  gdK v97 true (fun k17 =>
                                   vK (aLoad Try.prog 3 v101_1 h) h fun v102 g =>
                                   VB h.length v102 ∧ (let h := g
                                    k17 v102 h)) (fun v102_1 h =>
                                   gdK v97 true (fun k18 =>
                                    vK (aFieldAddr Try.prog 44 v4 1) h fun v103 h =>
                                    k18 v103 h) (fun v103_1 h =>
                                    gdK v97 true (fun k19 =>
                                     vK (aLoad Try.prog 9 v103_1 h) h fun v104 g =>
                                     VB h.length v104 ∧ (let h := g
                                      k19 v104 h)) (fun v104_1 h =>
                                     gdK v97 true (fun k20 =>
                                      cKD Try.prog 34 [v100_1, v102_1, v104_1] h fun v105 g =>
                                      (∃ new, g = h ++ new) ∧ (let h := g
                                       k20 v105 h)) (fun v105_1 h =>
                                      gdK v97 true (fun k21 =>
                                       cKD Try.prog 18 [v98_1, v99_1, v105_1] h fun v106 g =>
                                       (∃ new, g = h ++ new) ∧ (let h := g
                                        k21 v106 h)) (fun v106_1 h =>
                                       vK (pickV v97 v106_1 (Value.bool false)) h fun v107 h =>
                                       mvK v107 h fun v108 h =>
                                       gdK v108 true (fun k22 =>
                                        mvK v11 h fun v109 h =>
                                        k22 v109 h) (fun v109_1 h =>
                                        gdK v108 true (fun k23 =>
                                         mvK v15 h fun v110 h =>
                                         k23 v110 h) (fun v110_1 h =>
                                         gdK v108 true (fun k24 =>
                                          vK (aBin Try.prog BinOp.eql 3 v109_1 v110_1) h fun v111 h =>
                                          k24 v111 h) (fun v111_1 h =>
                                          vK (pickV v108 v111_1 (Value.bool false)) h fun v112 h =>
                                          mvK v112 h fun v113 h =>
                                          gdK v113 true (fun k25 =>
                                           mvK v12 h fun v114 h =>
                                           k25 v114 h) (fun v114_1 h =>
                                           gdK v113 true (fun k26 =>
                                            mvK v16 h fun v115 h =>
                                            k26 v115 h) (fun v115_1 h =>
                                            gdK v113 true (fun k27 =>
                                             vK (aBin Try.prog BinOp.eql 3 v114_1 v115_1) h fun v116 h =>
                                             k27 v116 h) (fun v116_1 h =>
                                             vK (pickV v113 v116_1 (Value.bool false)) h fun v117 h =>
                                             mvK v117 h fun v6_4 h =>
                                             retV [some v6_4] R h) h) h) h) h) h) h) h) h) h) h) h) h) h) h) h)))))))))))))))))))))))) h) h) h) h)
def lv7 (q : Nat) : List Nat := []
theorem e7 (a0 a1 a2 : Value) (h : Heap) (R : Value → Heap → Prop) : n7 a0 a1 a2 h R = wpK Try.prog lv7 (Try.f7.body.getD .skip) (endK Try.prog [.tmp 6] R) (argT [a0, a1, a2]) h := by kernel_rfl
/-! ### examiner/examinerlaw27.ClockSteps: function 8 -/
def n8 (a0 a1 : Value) (h : Heap) (R : Value → Heap → Prop) : Prop :=
  okK (some (aBox Try.prog 24 a0 h)) fun v2 h =>
  mvK (Value.bool false) h fun v4 h =>
  cK Try.prog 10 [] h fun v25 h =>
  vK (aUn UnOp.not v25) h fun v26 h =>
  cnd v26 (
   mvK (Value.bool false) h fun v4_1 h =>
   retV [some v4_1] R h) (
   vK (aLoad Try.prog 24 v2 h) h fun v27 h =>
   cK Try.prog 11 [v27] h fun v28 h =>
   vK (aUn UnOp.not v28) h fun v29 h =>
   mvK v29 h fun v30 h =>
   gdK v30 false (fun k0 =>
    vK (aLoad Try.prog 24 v2 h) h fun v31 h =>
    k0 v31 h) (fun v31_1 h =>
    gdK v30 false (fun k1 =>
     cK Try.prog 17 [v31_1] h fun v32 h =>
     k1 v32 h) (fun v32_1 h =>
     gdK v30 false (fun k2 =>
      vK (aBin Try.prog BinOp.neq 3 v32_1 (Value.int IntKind.i64 0)) h fun v33 h =>
      k2 v33 h) (fun v33_1 h =>
      vK (pickV v30 (Value.bool true) v33_1) h fun v34 h =>
      mvK v34 h fun v35 h =>
      gdK v35 false (fun k3 =>
       mvK a1 h fun v36 h =>
       k3 v36 h) (fun v36_1 h =>
       gdK v35 false (fun k4 =>
        vK (aLen Try.prog 33 v36_1) h fun v37 h =>
        k4 v37 h) (fun v37_1 h =>
        gdK v35 false (fun k5 =>
         vK (aBin Try.prog BinOp.neq 3 v37_1 (Value.int IntKind.i64 3)) h fun v38 h =>
         k5 v38 h) (fun v38_1 h =>
         vK (pickV v35 (Value.bool true) v38_1) h fun v39 h =>
         cnd v39 (
          mvK (Value.bool true) h fun v4_2 h =>
          retV [some v4_2] R h) (
          vK (aLoad Try.prog 24 v2 h) h fun v41 g =>
          VB h.length v41 ∧ (let h := g
           cKD Try.prog 13 [v41] h fun v42 g =>
           (∃ new, g = h ++ new) ∧ (let h := g
            mvK a1 h fun v43 h =>
            vK (aIndexAddr Try.prog 33 v43 (Value.int IntKind.i64 0)) h fun v44 h =>
            vK (aLoad Try.prog 3 v44 h) h fun v45 g =>
            VB h.length v45 ∧ (let h := g
             cKD Try.prog 16 [v42, v45] h fun v46 g =>
             (∃ new, g = h ++ new) ∧ (let h := g
              mvK v46 h fun v40 h =>
              vK (aExtract v40 0) h fun v47 h =>
              vK (aExtract v40 1) h fun v48 h =>
              vK (aExtract v40 2) h fun v49 h =>
              okK (aAlloc Try.prog 24 h) fun v5 h =>
              okK ((aStore Try.prog 24 v5 v47 h).map (undef, ·)) fun _ h =>
              (True) ∧ (
               mvK v48 h fun v6 h =>
               mvK v49 h fun v7 h =>
               vK (aLoad Try.prog 24 v5 h) h fun v51 g =>
               VB h.length v51 ∧ (let h := g
                cKD Try.prog 13 [v51] h fun v52 g =>
                (∃ new, g = h ++ new) ∧ (let h := g
                 mvK a1 h fun v53 h =>
                 vK (aIndexAddr Try.prog 33 v53 (Value.int IntKind.i64 1)) h fun v54 h =>
                 vK (aLoad Try.prog 3 v54 h) h fun v55 g =>
                 VB h.length v55 ∧ (let h := g
                  cKD Try.prog 16 [v52, v55] h fun v56 g =>
                  (∃ new, g = h ++ new) ∧ (let h := g
                   mvK v56 h fun v50 h =>
                   vK (aExtract v50 0) h fun v57 h =>
                   vK (aExtract v50 1) h fun v58 h =>
                   vK (aExtract v50 2) h fun v59 h =>
                   okK (aAlloc Try.prog 24 h) fun v8 h =>
                   okK ((aStore Try.prog 24 v8 v57 h).map (undef, ·)) fun _ h =>
                   (True) ∧ (
                    mvK v58 h fun v9 h =>
                    mvK v59 h fun v10 h =>
                    seqK (fun k6 =>
                     mvK v7 h fun v60 h =>
                     vK (aBin Try.prog BinOp.eql 27 v60 (Value.int IntKind.i64 0)) h fun v61 h =>
                     mvK v61 h fun v62 h =>
                     gdK v62 true (fun k7 =>
                      mvK v10 h fun v63 h =>
                      k7 v63 h) (fun v63_1 h =>
                      gdK v62 true (fun k8 =>
                       vK (aBin Try.prog BinOp.eql 27 v63_1 (Value.int IntKind.i64 0)) h fun v64 h =>
                       k8 v64 h) (fun v64_1 h =>
                       vK (pickV v62 v64_1 (Value.bool false)) h fun v65 h =>
                       cnd v65 (
                        vK (aFieldAddr Try.prog 24 v8 0) h fun v66 h =>
                        vK (aLoad Try.prog 3 v66 h) h fun v67 g =>
                        VB h.length v67 ∧ (let h := g
                         mvK a1 h fun v68 h =>
                         vK (aIndexAddr Try.prog 33 v68 (Value.int IntKind.i64 1)) h fun v69 h =>
                         vK (aLoad Try.prog 3 v69 h) h fun v70 g =>
                         VB h.length v70 ∧ (let h := g
                          vK (aBin Try.prog BinOp.neq 3 v67 v70) h fun v71 h =>
                          mvK v71 h fun v72 h =>
                          gdK v72 false (fun k9 =>
                           vK (aFieldAddr Try.prog 24 v8 1) h fun v73 h =>
                           k9 v73 h) (fun v73_1 h =>
                           gdK v72 false (fun k10 =>
                            vK (aLoad Try.prog 22 v73_1 h) h fun v74 g =>
                            VB h.length v74 ∧ (let h := g
                             k10 v74 h)) (fun v74_1 h =>
                            gdK v72 false (fun k11 =>
                             vK (aLen Try.prog 22 v74_1) h fun v75 h =>
                             k11 v75 h) (fun v75_1 h =>
                             gdK v72 false (fun k12 =>
                              vK (aFieldAddr Try.prog 24 v2 1) h fun v76 h =>
                              k12 v76 h) (fun v76_1 h =>
                              gdK v72 false (fun k13 =>
                               vK (aLoad Try.prog 22 v76_1 h) h fun v77 g =>
                               VB h.length v77 ∧ (let h := g
                                k13 v77 h)) (fun v77_1 h =>
                               gdK v72 false (fun k14 =>
                                vK (aLen Try.prog 22 v77_1) h fun v78 h =>
                                k14 v78 h) (fun v78_1 h =>
                                gdK v72 false (fun k15 =>
                                 vK (aBin Try.prog BinOp.neq 3 v75_1 v78_1) h fun v79 h =>
                                 k15 v79 h) (fun v79_1 h =>
                                 vK (pickV v72 (Value.bool true) v79_1) h fun v80 h =>
                                 cnd v80 (
                                  mvK (Value.bool false) h fun v4_3 h =>
                                  retV [some v4_3] R h) (
                                  mvK (Value.int IntKind.i64 0) h fun v11 h =>
                                  ∃ (I11 : List Value → Heap → Prop) (μ11 : List Value → Heap → Nat), I11 [v11] h ∧
                                  ∀ (h11 : Heap) (j11 : Tmps) (v11_1 : Value), I11 [v11_1] h11 → (let h := h11
                                   mvK v11_1 h fun v81 h =>
                                   vK (aFieldAddr Try.prog 24 v2 1) h fun v82 h =>
                                   vK (aLoad Try.prog 22 v82 h) h fun v83 h =>
                                   vK (aLen Try.prog 22 v83) h fun v84 h =>
                                   vK (aBin Try.prog BinOp.lss 3 v81 v84) h fun v85 h =>
                                   cnd v85 (
                                    vK (aFieldAddr Try.prog 24 v2 1) h fun v88 h =>
                                    vK (aLoad Try.prog 22 v88 h) h fun v89 g =>
                                    VB h.length v89 ∧ (let h := g
                                     mvK v11_1 h fun v90 h =>
                                     vK (aIndexAddr Try.prog 22 v89 v90) h fun v91 h =>
                                     vK (aLoad Try.prog 44 v91 h) h fun v92 g =>
                                     VB h.length v92 ∧ (let h := g
                                      vK (aFieldAddr Try.prog 24 v8 1) h fun v93 h =>
                                      vK (aLoad Try.prog 22 v93 h) h fun v94 g =>
                                      VB h.length v94 ∧ (let h := g
                                       mvK v11_1 h fun v95 h =>
                                       vK (aIndexAddr Try.prog 22 v94 v95) h fun v96 h =>
                                       vK (aLoad Try.prog 44 v96 h) h fun v97 g =>
                                       VB h.length v97 ∧ (let h := g
                                        okK (aAlloc Try.prog 44 h) fun v12 h =>
                                        okK (aAlloc Try.prog 44 h) fun v13 h =>
                                        okK ((aStore Try.prog 44 v12 v92 h).map (undef, ·)) fun _ h =>
                                        ((aLoad Try.prog 44 v96 h).map (·, h) = some (v97, h) ∧ (aLoad Try.prog 22 v93 h).map (·, h) = some (v94, h) ∧ True) ∧ (
                                         okK ((aStore Try.prog 44 v13 v97 h).map (undef, ·)) fun _ h =>
                                         (True) ∧ (
                                          vK (aFieldAddr Try.prog 44 v12 4) h fun v98 h =>
                                          vK (aLoad Try.prog 4 v98 h) h fun v99 g =>
                                          VB h.length v99 ∧ (let h := g
                                           mvK v99 h fun v100 h =>
                                           gdK v100 true (fun k16 =>
                                            vK (aFieldAddr Try.prog 44 v12 3) h fun v101 h =>
                                            k16 v101 h) (fun v101_1 h =>
                                            gdK v100 true (fun k17 =>
                                             vK (aLoad Try.prog 3 v101_1 h) h fun v102 g =>
                                             VB h.length v102 ∧ (let h := g
                                              k17 v102 h)) (fun v102_1 h =>
                                             gdK v100 true (fun k18 =>
                                              mvK a1 h fun v103 h =>
                                              k18 v103 h) (fun v103_1 h =>
                                              gdK v100 true (fun k19 =>
                                               vK (aIndexAddr Try.prog 33 v103_1 (Value.int IntKind.i64 1)) h fun v104 h =>
                                               k19 v104 h) (fun v104_1 h =>
                                               gdK v100 true (fun k20 =>
                                                vK (aLoad Try.prog 3 v104_1 h) h fun v105 g =>
                                                VB h.length v105 ∧ (let h := g
                                                 k20 v105 h)) (fun v105_1 h =>
                                                gdK v100 true (fun k21 =>
                                                 vK (aBin Try.prog BinOp.leq 3 v102_1 v105_1) h fun v106 h =>
                                                 k21 v106 h) (fun v106_1 h =>
                                                 vK (pickV v100 v106_1 (Value.bool false)) h fun v107 h =>
                                                 mvK v107 h fun v14 h =>
                                                 mvK v14 h fun v108 h =>
                                                 vK (aFieldAddr Try.prog 44 v13 5) h fun v109 h =>
                                                 vK (aLoad Try.prog 4 v109 h) h fun v110 h =>
                                                 mvK v110 h fun v111 h =>
                                                 gdK v111 true (fun k22 =>
                                                  vK (aFieldAddr Try.prog 44 v12 5) h fun v112 h =>
                                                  k22 v112 h) (fun v112_1 h =>
                                                  gdK v111 true (fun k23 =>
                                                   vK (aLoad Try.prog 4 v112_1 h) h fun v113 h =>
                                                   k23 v113 h) (fun v113_1 h =>
                                                   gdK v111 true (fun k24 =>
                                                    vK (aUn UnOp.not v113_1) h fun v114 h =>
                                                    k24 v114 h) (fun v114_1 h =>
                                                    vK (pickV v111 v114_1 (Value.bool false)) h fun v115 h =>
                                                    vK (aBin Try.prog BinOp.neq 4 v108 v115) h fun v116 h =>
                                                    mvK v116 h fun v117 h =>
                                                    gdK v117 false (fun k25 =>
                                                     mvK v14 h fun v118 h =>
                                                     k25 v118 h) (fun v118_1 h =>
                                                     gdK v117 false (fun k26 =>
                                                      vK (aUn UnOp.not v118_1) h fun v119 h =>
                                                      k26 v119 h) (fun v119_1 h =>
                                                      gdK v117 false (fun k27 =>
                                                       mvK v119_1 h fun v120 h =>
                                                       k27 v120 h) (fun v120_1 h =>
                                                       gdK v120_1 true (fun k28 =>
                                                        vK (aLoad Try.prog 44 v12 h) h fun v121 h =>
                                                        k28 v121 h) (fun v121_1 h =>
                                                        gdK v120_1 true (fun k29 =>
                                                         vK (aLoad Try.prog 44 v13 h) h fun v122 h =>
                                                         k29 v122 h) (fun v122_1 h =>
                                                         gdK v120_1 true (fun k30 =>
                                                          vK (aBin Try.prog BinOp.neq 44 v121_1 v122_1) h fun v123 h =>
                                                          k30 v123 h) (fun v123_1 h =>
                                                          gdK v117 false (fun k31 =>
                                                           vK (pickV v120_1 v123_1 (Value.bool false)) h fun v124 h =>
                                                           k31 v124 h) (fun v124_1 h =>
                                                           vK (pickV v117 (Value.bool true) v124_1) h fun v125 h =>
                                                           cnd v125 (
                                                            mvK (Value.bool false) h fun v4_4 h =>
                                                            retV [some v4_4] R h) (
                                                            mvK v11_1 h fun v86 h =>
                                                            vK (aBin Try.prog BinOp.add 3 v86 (Value.int IntKind.i64 1)) h fun v87 h =>
                                                            mvK v87 h fun v11_2 h =>
                                                            I11 [v11_2] h ∧ μ11 [v11_2] h < μ11 [v11_1] h11)) h) h) h) h) h) h) h) h) h) h) h) h) h) h) h) h)))))))) (
                                    k6 [] h)))) h) h) h) h) h) h) h))) (
                        k6 [] h)) h) h) fun x6 h => ∀ jx6 : Tmps,
                     vK (aFieldAddr Try.prog 24 v2 1) h fun v126 h =>
                     vK (aLoad Try.prog 22 v126 h) h fun v127 h =>
                     vK (aLen Try.prog 22 v127) h fun v128 h =>
                     vK (aBin Try.prog BinOp.lss 3 v128 (Value.int IntKind.i64 2)) h fun v129 h =>
                     mvK v129 h fun v130 h =>
                     gdK v130 false (fun k32 =>
                      mvK a1 h fun v131 h =>
                      k32 v131 h) (fun v131_1 h =>
                      gdK v130 false (fun k33 =>
                       vK (aIndexAddr Try.prog 33 v131_1 (Value.int IntKind.i64 2)) h fun v132 h =>
                       k33 v132 h) (fun v132_1 h =>
                       gdK v130 false (fun k34 =>
                        vK (aLoad Try.prog 3 v132_1 h) h fun v133 h =>
                        k34 v133 h) (fun v133_1 h =>
                        gdK v130 false (fun k35 =>
                         cK Try.prog 26 [v133_1, (Value.int IntKind.i64 0), (Value.int IntKind.i64 1099511627776)] h fun v134 h =>
                         k35 v134 h) (fun v134_1 h =>
                         gdK v130 false (fun k36 =>
                          vK (aUn UnOp.not v134_1) h fun v135 h =>
                          k36 v135 h) (fun v135_1 h =>
                          vK (pickV v130 (Value.bool true) v135_1) h fun v136 h =>
                          cnd v136 (
                           mvK (Value.bool true) h fun v4_5 h =>
                           retV [some v4_5] R h) (
                           vK (aFieldAddr Try.prog 24 v2 1) h fun v137 h =>
                           vK (aLoad Try.prog 22 v137 h) h fun v138 g =>
                           VB h.length v138 ∧ (let h := g
                            vK (aIndexAddr Try.prog 22 v138 (Value.int IntKind.i64 0)) h fun v139 h =>
                            vK (aLoad Try.prog 44 v139 h) h fun v140 g =>
                            VB h.length v140 ∧ (let h := g
                             vK (aFieldAddr Try.prog 24 v2 1) h fun v141 h =>
                             vK (aLoad Try.prog 22 v141 h) h fun v142 g =>
                             VB h.length v142 ∧ (let h := g
                              vK (aFieldAddr Try.prog 24 v2 1) h fun v143 h =>
                              vK (aLoad Try.prog 22 v143 h) h fun v144 g =>
                              VB h.length v144 ∧ (let h := g
                               vK (aLen Try.prog 22 v144) h fun v145 h =>
                               vK (aBin Try.prog BinOp.sub 3 v145 (Value.int IntKind.i64 1)) h fun v146 h =>
                               vK (aIndexAddr Try.prog 22 v142 v146) h fun v147 h =>
                               vK (aLoad Try.prog 44 v147 h) h fun v148 g =>
                               VB h.length v148 ∧ (let h := g
                                okK (aAlloc Try.prog 44 h) fun v15 h =>
                                okK (aAlloc Try.prog 44 h) fun v16 h =>
                                okK ((aStore Try.prog 44 v15 v140 h).map (undef, ·)) fun _ h =>
                                ((aLoad Try.prog 44 v147 h).map (·, h) = some (v148, h) ∧ (aLoad Try.prog 22 v143 h).map (·, h) = some (v144, h) ∧ (aLoad Try.prog 22 v141 h).map (·, h) = some (v142, h) ∧ True) ∧ (
                                 okK ((aStore Try.prog 44 v16 v148 h).map (undef, ·)) fun _ h =>
                                 (True) ∧ (
                                  vK (aLoad Try.prog 24 v2 h) h fun v150 g =>
                                  VB h.length v150 ∧ (let h := g
                                   cKD Try.prog 13 [v150] h fun v151 g =>
                                   (∃ new, g = h ++ new) ∧ (let h := g
                                    vK (aLoad Try.prog 44 v15 h) h fun v152 g =>
                                    VB h.length v152 ∧ (let h := g
                                     mvK a1 h fun v153 h =>
                                     vK (aIndexAddr Try.prog 33 v153 (Value.int IntKind.i64 2)) h fun v154 h =>
                                     vK (aLoad Try.prog 3 v154 h) h fun v155 g =>
                                     VB h.length v155 ∧ (let h := g
                                      cKD Try.prog 29 [v151, v152, v155] h fun v156 g =>
                                      (∃ new, g = h ++ new) ∧ (let h := g
                                       mvK v156 h fun v149 h =>
                                       vK (aExtract v149 0) h fun v157 h =>
                                       vK (aExtract v149 1) h fun v158 h =>
                                       okK (aAlloc Try.prog 24 h) fun v17 h =>
                                       okK ((aStore Try.prog 24 v17 v157 h).map (undef, ·)) fun _ h =>
                                       (True) ∧ (
                                        mvK v158 h fun v18 h =>
                                        vK (aLoad Try.prog 24 v17 h) h fun v160 g =>
                                        VB h.length v160 ∧ (let h := g
                                         cKD Try.prog 13 [v160] h fun v161 g =>
                                         (∃ new, g = h ++ new) ∧ (let h := g
                                          vK (aFieldAddr Try.prog 44 v16 0) h fun v162 h =>
                                          vK (aLoad Try.prog 3 v162 h) h fun v163 g =>
                                          VB h.length v163 ∧ (let h := g
                                           vK (aFieldAddr Try.prog 44 v16 1) h fun v164 h =>
                                           vK (aLoad Try.prog 9 v164 h) h fun v165 g =>
                                           VB h.length v165 ∧ (let h := g
                                            cKD Try.prog 30 [v161, v163, v165] h fun v166 g =>
                                            (∃ new, g = h ++ new) ∧ (let h := g
                                             mvK v166 h fun v159 h =>
                                             vK (aExtract v159 0) h fun v167 h =>
                                             vK (aExtract v159 1) h fun v168 h =>
                                             okK (aAlloc Try.prog 24 h) fun v19 h =>
                                             okK ((aStore Try.prog 24 v19 v167 h).map (undef, ·)) fun _ h =>
                                             (True) ∧ (
                                              mvK v168 h fun v20 h =>
                                              vK (aLoad Try.prog 24 v2 h) h fun v170 g =>
                                              VB h.length v170 ∧ (let h := g
                                               cKD Try.prog 13 [v170] h fun v171 g =>
                                               (∃ new, g = h ++ new) ∧ (let h := g
                                                vK (aFieldAddr Try.prog 44 v16 0) h fun v172 h =>
                                                vK (aLoad Try.prog 3 v172 h) h fun v173 g =>
                                                VB h.length v173 ∧ (let h := g
                                                 vK (aFieldAddr Try.prog 44 v16 1) h fun v174 h =>
                                                 vK (aLoad Try.prog 9 v174 h) h fun v175 g =>
                                                 VB h.length v175 ∧ (let h := g
                                                  cKD Try.prog 30 [v171, v173, v175] h fun v176 g =>
                                                  (∃ new, g = h ++ new) ∧ (let h := g
                                                   mvK v176 h fun v169 h =>
                                                   vK (aExtract v169 0) h fun v177 h =>
                                                   vK (aExtract v169 1) h fun v178 h =>
                                                   okK (aAlloc Try.prog 24 h) fun v21 h =>
                                                   okK ((aStore Try.prog 24 v21 v177 h).map (undef, ·)) fun _ h =>
                                                   (True) ∧ (
                                                    mvK v178 h fun v22 h =>
                                                    vK (aLoad Try.prog 24 v21 h) h fun v180 g =>
                                                    VB h.length v180 ∧ (let h := g
                                                     cKD Try.prog 13 [v180] h fun v181 g =>
                                                     (∃ new, g = h ++ new) ∧ (let h := g
                                                      vK (aLoad Try.prog 44 v15 h) h fun v182 g =>
                                                      VB h.length v182 ∧ (let h := g
                                                       mvK a1 h fun v183 h =>
                                                       vK (aIndexAddr Try.prog 33 v183 (Value.int IntKind.i64 2)) h fun v184 h =>
                                                       vK (aLoad Try.prog 3 v184 h) h fun v185 g =>
                                                       VB h.length v185 ∧ (let h := g
                                                        cKD Try.prog 29 [v181, v182, v185] h fun v186 g =>
                                                        (∃ new, g = h ++ new) ∧ (let h := g
                                                         mvK v186 h fun v179 h =>
                                                         vK (aExtract v179 0) h fun v187 h =>
                                                         vK (aExtract v179 1) h fun v188 h =>
                                                         okK (aAlloc Try.prog 24 h) fun v23 h =>
                                                         okK ((aStore Try.prog 24 v23 v187 h).map (undef, ·)) fun _ h =>
                                                         (True) ∧ (
                                                          mvK v188 h fun v24 h =>
                                                          mvK v18 h fun v189 h =>
                                                          vK (aBin Try.prog BinOp.neq 27 v189 (Value.int IntKind.i64 0)) h fun v190 h =>
                                                          cnd v190 (
                                                           mvK v24 h fun v191 h =>
                                                           mvK v18 h fun v192 h =>
                                                           vK (aBin Try.prog BinOp.eql 27 v191 v192) h fun v193 h =>
                                                           mvK v193 h fun v194 h =>
                                                           gdK v194 true (fun k37 =>
                                                            mvK v22 h fun v195 h =>
                                                            k37 v195 h) (fun v195_1 h =>
                                                            gdK v194 true (fun k38 =>
                                                             vK (aBin Try.prog BinOp.eql 27 v195_1 (Value.int IntKind.i64 0)) h fun v196 h =>
                                                             k38 v196 h) (fun v196_1 h =>
                                                             vK (pickV v194 v196_1 (Value.bool false)) h fun v197 h =>
                                                             mvK v197 h fun v4_6 h =>
                                                             retV [some v4_6] R h) h) h) (
                                                           mvK v20 h fun v198 h =>
                                                           vK (aBin Try.prog BinOp.eql 27 v198 (Value.int IntKind.i64 0)) h fun v199 h =>
                                                           mvK v199 h fun v200 h =>
                                                           gdK v200 true (fun k39 =>
                                                            mvK v22 h fun v201 h =>
                                                            k39 v201 h) (fun v201_1 h =>
                                                            gdK v200 true (fun k40 =>
                                                             vK (aBin Try.prog BinOp.eql 27 v201_1 (Value.int IntKind.i64 0)) h fun v202 h =>
                                                             k40 v202 h) (fun v202_1 h =>
                                                             vK (pickV v200 v202_1 (Value.bool false)) h fun v203 h =>
                                                             mvK v203 h fun v204 h =>
                                                             gdK v204 true (fun k41 =>
                                                              mvK v24 h fun v205 h =>
                                                              k41 v205 h) (fun v205_1 h =>
                                                              gdK v204 true (fun k42 =>
                                                               vK (aBin Try.prog BinOp.eql 27 v205_1 (Value.int IntKind.i64 0)) h fun v206 h =>
                                                               k42 v206 h) (fun v206_1 h =>
                                                               vK (pickV v204 v206_1 (Value.bool false)) h fun v207 h =>
                                                               mvK v207 h fun v208 h =>
                                                               gdK v208 true (fun k43 =>
                                                                vK (aLoad Try.prog 24 v19 h) h fun v209 h =>
                                                                k43 v209 h) (fun v209_1 h =>
                                                                gdK v208 true (fun k44 =>
                                                                 vK (aLoad Try.prog 24 v23 h) h fun v210 h =>
                                                                 k44 v210 h) (fun v210_1 h =>
                                                                 gdK v208 true (fun k45 =>
                                                                  cK Try.prog 35 [v209_1, v210_1] h fun v211 h =>
                                                                  k45 v211 h) (fun v211_1 h =>
                                                                  vK (pickV v208 v211_1 (Value.bool false)) h fun v212 h =>
                                                                  mvK v212 h fun v4_7 h =>
                                                                  retV [some v4_7] R h) h) h) h) h) h) h) h)))))))))))))))))))))))))))))))))) h) h) h) h) h)))))))))))) h) h) h) h) h) h)
def lv8 (q : Nat) : List Nat := bif Nat.beq q 22 then [85070591730232198014204422599592671248, 11] else bif Nat.beq q 35 then [85070591730234615864690730353335236624] else []
theorem ok8 : lkOK Try.prog lv8 Try.f8 2 (Try.f8.body.getD .skip) 8 = true := by kernel_rfl
theorem e8 (a0 a1 : Value) (h : Heap) (R : Value → Heap → Prop) : n8 a0 a1 h R = wpK Try.prog lv8 (Try.f8.body.getD .skip) (endK Try.prog [.tmp 4] R) (argT [a0, a1]) h := by kernel_rfl
theorem w8 {a0 a1 : Value} {h : Heap} {R : Value → Heap → Prop} (hn : n8 a0 a1 h R) : DetP Try.prog 8 [a0, a1] h R :=
  DetP.of_code (rs := [.tmp 4]) (n := 2) Try.func8 (by kernel_rfl) (by kernel_rfl) lv8 ok8 rfl ((e8 a0 a1 h R) ▸ hn)

/-! ### examiner/examinerlaw27.ClockDeclares: function 9 -/
def n9 (a0 a1 a2 : Value) (h : Heap) (R : Value → Heap → Prop) : Prop :=
  okK (some (aBox Try.prog 24 a0 h)) fun v3 h =>
  mvK (Value.bool false) h fun v6 h =>
  cK Try.prog 10 [] h fun v13 h =>
  vK (aUn UnOp.not v13) h fun v14 h =>
  cnd v14 (
   mvK (Value.bool false) h fun v6_1 h =>
   retV [some v6_1] R h) (
   vK (aLoad Try.prog 24 v3 h) h fun v15 h =>
   cK Try.prog 11 [v15] h fun v16 h =>
   vK (aUn UnOp.not v16) h fun v17 h =>
   mvK v17 h fun v18 h =>
   gdK v18 false (fun k0 =>
    mvK a2 h fun v19 h =>
    k0 v19 h) (fun v19_1 h =>
    gdK v18 false (fun k1 =>
     vK (aLen Try.prog 9 v19_1) h fun v20 h =>
     k1 v20 h) (fun v20_1 h =>
     gdK v18 false (fun k2 =>
      vK (aBin Try.prog BinOp.gtr 3 v20_1 (Value.int IntKind.i64 60)) h fun v21 h =>
      k2 v21 h) (fun v21_1 h =>
      vK (pickV v18 (Value.bool true) v21_1) h fun v22 h =>
      cnd v22 (
       mvK (Value.bool true) h fun v6_2 h =>
       retV [some v6_2] R h) (
       vK (aLoad Try.prog 24 v3 h) h fun v24 h =>
       cK Try.prog 13 [v24] h fun v25 h =>
       mvK a1 h fun v26 h =>
       mvK a2 h fun v27 h =>
       cK Try.prog 36 [v25, v26, v27] h fun v28 h =>
       mvK v28 h fun v23 h =>
       vK (aExtract v23 0) h fun v29 h =>
       vK (aExtract v23 1) h fun v30 h =>
       okK (aAlloc Try.prog 24 h) fun v7 h =>
       okK ((aStore Try.prog 24 v7 v29 h).map (undef, ·)) fun _ h =>
       mvK v30 h fun v8 h =>
       vK (aLoad Try.prog 24 v3 h) h fun v32 h =>
       cK Try.prog 13 [v32] h fun v33 h =>
       mvK a1 h fun v34 h =>
       cK Try.prog 37 [v33, v34] h fun v35 h =>
       mvK v35 h fun v31 h =>
       vK (aExtract v31 0) h fun v36 h =>
       vK (aExtract v31 1) h fun v37 h =>
       okK (aAlloc Try.prog 24 h) fun v9 h =>
       okK ((aStore Try.prog 24 v9 v36 h).map (undef, ·)) fun _ h =>
       mvK v37 h fun v10 h =>
       vK (aLoad Try.prog 24 v3 h) h fun v38 h =>
       cK Try.prog 17 [v38] h fun v39 h =>
       mvK v39 h fun v11 h =>
       mvK v11 h fun v40 h =>
       vK (aBin Try.prog BinOp.neq 3 v40 (Value.int IntKind.i64 0)) h fun v41 h =>
       cnd v41 (
        mvK v11 h fun v42 h =>
        vK (aBuild Try.prog 39 [(3, v42)]) h fun v43 h =>
        okK (aAlloc Try.prog 39 h) fun v12 h =>
        okK ((aStore Try.prog 39 v12 v43 h).map (undef, ·)) fun _ h =>
        vK (aLoad Try.prog 24 v7 h) h fun v44 h =>
        mvK v8 h fun v45 h =>
        vK (aLoad Try.prog 39 v12 h) h fun v46 h =>
        cK Try.prog 18 [v44, v45, v46] h fun v47 h =>
        mvK v47 h fun v48 h =>
        gdK v48 true (fun k3 =>
         vK (aLoad Try.prog 24 v9 h) h fun v49 h =>
         k3 v49 h) (fun v49_1 h =>
         gdK v48 true (fun k4 =>
          mvK v10 h fun v50 h =>
          k4 v50 h) (fun v50_1 h =>
          gdK v48 true (fun k5 =>
           vK (aLoad Try.prog 39 v12 h) h fun v51 h =>
           k5 v51 h) (fun v51_1 h =>
           gdK v48 true (fun k6 =>
            cK Try.prog 18 [v49_1, v50_1, v51_1] h fun v52 h =>
            k6 v52 h) (fun v52_1 h =>
            vK (pickV v48 v52_1 (Value.bool false)) h fun v53 h =>
            mvK v53 h fun v6_3 h =>
            retV [some v6_3] R h) h) h) h) h) (
        vK (aLoad Try.prog 24 v7 h) h fun v54 g =>
        VB h.length v54 ∧ (let h := g
         mvK v8 h fun v55 h =>
         vK (aLoad Try.prog 24 v3 h) h fun v56 g =>
         VB h.length v56 ∧ (let h := g
          mvK a1 h fun v57 h =>
          mvK a2 h fun v58 h =>
          cKD Try.prog 38 [v56, v57, v58] h fun v59 g =>
          (∃ new, g = h ++ new) ∧ (let h := g
           cKD Try.prog 18 [v54, v55, v59] h fun v60 g =>
           (∃ new, g = h ++ new) ∧ (let h := g
            mvK v60 h fun v61 h =>
            gdK v61 true (fun k7 =>
             vK (aLoad Try.prog 24 v9 h) h fun v62 g =>
             VB h.length v62 ∧ (let h := g
              k7 v62 h)) (fun v62_1 h =>
             gdK v61 true (fun k8 =>
              mvK v10 h fun v63 h =>
              k8 v63 h) (fun v63_1 h =>
              gdK v61 true (fun k9 =>
               vK (aLoad Try.prog 24 v3 h) h fun v64 g =>
               VB h.length v64 ∧ (let h := g
                k9 v64 h)) (fun v64_1 h =>
               gdK v61 true (fun k10 =>
                mvK a1 h fun v65 h =>
                k10 v65 h) (fun v65_1 h =>
                gdK v61 true (fun k11 =>
                 cKD Try.prog 39 [v64_1, v65_1] h fun v66 g =>
                 (∃ new, g = h ++ new) ∧ (let h := g
                  k11 v66 h)) (fun v66_1 h =>
                 gdK v61 true (fun k12 =>
                  cKD Try.prog 18 [v62_1, v63_1, v66_1] h fun v67 g =>
                  (∃ new, g = h ++ new) ∧ (let h := g
                   k12 v67 h)) (fun v67_1 h =>
                  vK (pickV v61 v67_1 (Value.bool false)) h fun v68 h =>
                  mvK v68 h fun v6_4 h =>
                  retV [some v6_4] R h) h) h) h) h) h) h))))))) h) h) h)
def lv9 (q : Nat) : List Nat := []
theorem e9 (a0 a1 a2 : Value) (h : Heap) (R : Value → Heap → Prop) : n9 a0 a1 a2 h R = wpK Try.prog lv9 (Try.f9.body.getD .skip) (endK Try.prog [.tmp 6] R) (argT [a0, a1, a2]) h := by kernel_rfl
/-! ### examiner/examinerlaw27.awake: function 10 -/
def n10 (h : Heap) (R : Value → Heap → Prop) : Prop :=
  mvK (Value.bool false) h fun v0 h =>
  cK Try.prog 40 [] h fun v12 h =>
  cK Try.prog 15 [v12] h fun v13 h =>
  mvK v13 h fun v11 h =>
  vK (aExtract v11 0) h fun v14 h =>
  vK (aExtract v11 1) h fun v15 h =>
  mvK v14 h fun v1 h =>
  mvK v15 h fun v2 h =>
  cK Try.prog 40 [] h fun v17 h =>
  cK Try.prog 16 [v17, (Value.int IntKind.i64 3)] h fun v18 h =>
  mvK v18 h fun v16 h =>
  vK (aExtract v16 0) h fun v19 h =>
  vK (aExtract v16 1) h fun v20 h =>
  vK (aExtract v16 2) h fun v21 h =>
  okK (aAlloc Try.prog 24 h) fun v3 h =>
  okK ((aStore Try.prog 24 v3 v19 h).map (undef, ·)) fun _ h =>
  mvK v20 h fun v4 h =>
  mvK v21 h fun v5 h =>
  vK (aLoad Try.prog 24 v3 h) h fun v23 h =>
  cK Try.prog 24 [v23, (Value.int IntKind.i64 1), (Value.string { data := #[] })] h fun v24 h =>
  mvK v24 h fun v22 h =>
  vK (aExtract v22 0) h fun v25 h =>
  vK (aExtract v22 1) h fun v26 h =>
  vK (aExtract v22 2) h fun v27 h =>
  okK (aAlloc Try.prog 24 h) fun v6 h =>
  okK ((aStore Try.prog 24 v6 v25 h).map (undef, ·)) fun _ h =>
  mvK v26 h fun v7 h =>
  mvK v27 h fun v8 h =>
  vK (aLoad Try.prog 24 v6 h) h fun v29 h =>
  cK Try.prog 31 [v29, (Value.int IntKind.i64 1), (Value.string { data := #[97] })] h fun v30 h =>
  mvK v30 h fun v28 h =>
  vK (aExtract v28 0) h fun v31 h =>
  vK (aExtract v28 1) h fun v32 h =>
  mvK v31 h fun v9 h =>
  mvK v32 h fun v10 h =>
  mvK v2 h fun v33 h =>
  vK (aBin Try.prog BinOp.eql 27 v33 (Value.int IntKind.i64 0)) h fun v34 h =>
  mvK v34 h fun v35 h =>
  gdK v35 true (fun k0 =>
   mvK v1 h fun v36 h =>
   k0 v36 h) (fun v36_1 h =>
   gdK v35 true (fun k1 =>
    vK (aBin Try.prog BinOp.eql 3 v36_1 (Value.int IntKind.i64 3)) h fun v37 h =>
    k1 v37 h) (fun v37_1 h =>
    vK (pickV v35 v37_1 (Value.bool false)) h fun v38 h =>
    mvK v38 h fun v39 h =>
    gdK v39 true (fun k2 =>
     mvK v5 h fun v40 h =>
     k2 v40 h) (fun v40_1 h =>
     gdK v39 true (fun k3 =>
      vK (aBin Try.prog BinOp.eql 27 v40_1 (Value.int IntKind.i64 0)) h fun v41 h =>
      k3 v41 h) (fun v41_1 h =>
      vK (pickV v39 v41_1 (Value.bool false)) h fun v42 h =>
      mvK v42 h fun v43 h =>
      gdK v43 true (fun k4 =>
       mvK v4 h fun v44 h =>
       k4 v44 h) (fun v44_1 h =>
       gdK v43 true (fun k5 =>
        okK (aBuildSlice Try.prog 33 1 [(0, (Value.int IntKind.i64 1))] h) fun v45 h =>
        k5 v45 h) (fun v45_1 h =>
        gdK v43 true (fun k6 =>
         cK Try.prog 21 [v44_1, v45_1] h fun v46 h =>
         k6 v46 h) (fun v46_1 h =>
         vK (pickV v43 v46_1 (Value.bool false)) h fun v47 h =>
         mvK v47 h fun v48 h =>
         gdK v48 true (fun k7 =>
          mvK v8 h fun v49 h =>
          k7 v49 h) (fun v49_1 h =>
          gdK v48 true (fun k8 =>
           vK (aBin Try.prog BinOp.eql 27 v49_1 (Value.int IntKind.i64 0)) h fun v50 h =>
           k8 v50 h) (fun v50_1 h =>
           vK (pickV v48 v50_1 (Value.bool false)) h fun v51 h =>
           mvK v51 h fun v52 h =>
           gdK v52 true (fun k9 =>
            mvK v7 h fun v53 h =>
            k9 v53 h) (fun v53_1 h =>
            gdK v52 true (fun k10 =>
             vK (aBin Try.prog BinOp.eql 9 v53_1 (Value.string { data := #[98] })) h fun v54 h =>
             k10 v54 h) (fun v54_1 h =>
             vK (pickV v52 v54_1 (Value.bool false)) h fun v55 h =>
             mvK v55 h fun v56 h =>
             gdK v56 true (fun k11 =>
              mvK v10 h fun v57 h =>
              k11 v57 h) (fun v57_1 h =>
              gdK v56 true (fun k12 =>
               vK (aBin Try.prog BinOp.eql 27 v57_1 (Value.int IntKind.i64 0)) h fun v58 h =>
               k12 v58 h) (fun v58_1 h =>
               vK (pickV v56 v58_1 (Value.bool false)) h fun v59 h =>
               mvK v59 h fun v60 h =>
               gdK v60 true (fun k13 =>
                mvK v9 h fun v61 h =>
                k13 v61 h) (fun v61_1 h =>
                gdK v60 true (fun k14 =>
                 vK (aBin Try.prog BinOp.eql 3 v61_1 (Value.int IntKind.i64 3)) h fun v62 h =>
                 k14 v62 h) (fun v62_1 h =>
                 vK (pickV v60 v62_1 (Value.bool false)) h fun v63 h =>
                 mvK v63 h fun v0_1 h =>
                 retV [some v0_1] R h) h) h) h) h) h) h) h) h) h) h) h) h) h) h) h
def lv10 (q : Nat) : List Nat := []
theorem ok10 : lkOK Try.prog lv10 Try.f10 0 (Try.f10.body.getD .skip) 10 = true := by kernel_rfl
theorem e10 (h : Heap) (R : Value → Heap → Prop) : n10  h R = wpK Try.prog lv10 (Try.f10.body.getD .skip) (endK Try.prog [.tmp 0] R) (argT []) h := by kernel_rfl
theorem w10 {h : Heap} {R : Value → Heap → Prop} (hn : n10  h R) : DetP Try.prog 10 [] h R :=
  DetP.of_code (rs := [.tmp 0]) (n := 0) Try.func10 (by kernel_rfl) (by kernel_rfl) lv10 ok10 rfl ((e10  h R) ▸ hn)

/-! ### examiner/clock.NextDue: function 15 -/
def n15 (a0 : Value) (h : Heap) (R : Value → Heap → Prop) : Prop :=
  okK (some (aBox Try.prog 24 a0 h)) fun v1 h =>
  mvK (Value.int IntKind.i64 0) h fun v2 h =>
  mvK (Value.int IntKind.i64 0) h fun v3 h =>
  vK (aLoad Try.prog 24 v1 h) h fun v6 h =>
  cK Try.prog 48 [v6] h fun v7 h =>
  mvK v7 h fun v4 h =>
  mvK v4 h fun v8 h =>
  vK (aBin Try.prog BinOp.neq 27 v8 (Value.int IntKind.i64 0)) h fun v9 h =>
  cnd v9 (
   mvK v4 h fun v10 h =>
   mvK (Value.int IntKind.i64 0) h fun v2_1 h =>
   mvK v10 h fun v3_1 h =>
   retV [some v2_1, some v3_1] R h) (
   vK (aLoad Try.prog 24 v1 h) h fun v11 h =>
   cK Try.prog 49 [v11] h fun v12 h =>
   mvK v12 h fun v5 h =>
   mvK v5 h fun v13 h =>
   vK (aBin Try.prog BinOp.lss 3 v13 (Value.int IntKind.i64 0)) h fun v14 h =>
   cnd v14 (
    mvK (Value.int IntKind.i64 0) h fun v2_2 h =>
    mvK (Value.int IntKind.i64 23) h fun v3_2 h =>
    retV [some v2_2, some v3_2] R h) (
    mvK v5 h fun v15 h =>
    mvK v15 h fun v2_3 h =>
    mvK (Value.int IntKind.i64 0) h fun v3_3 h =>
    retV [some v2_3, some v3_3] R h))
def lv15 (q : Nat) : List Nat := []
theorem ok15 : lkOK Try.prog lv15 Try.f15 1 (Try.f15.body.getD .skip) 15 = true := by kernel_rfl
theorem e15 (a0 : Value) (h : Heap) (R : Value → Heap → Prop) : n15 a0 h R = wpK Try.prog lv15 (Try.f15.body.getD .skip) (endK Try.prog [.tmp 2, .tmp 3] R) (argT [a0]) h := by kernel_rfl
theorem w15 {a0 : Value} {h : Heap} {R : Value → Heap → Prop} (hn : n15 a0 h R) : DetP Try.prog 15 [a0] h R :=
  DetP.of_code (rs := [.tmp 2, .tmp 3]) (n := 1) Try.func15 (by kernel_rfl) (by kernel_rfl) lv15 ok15 rfl ((e15 a0 h R) ▸ hn)

/-! ### examiner/clock.Advanced: function 16 -/
def n16 (a0 a1 : Value) (h : Heap) (R : Value → Heap → Prop) : Prop :=
  okK (some (aBox Try.prog 24 a0 h)) fun v2 h =>
  okK (aAlloc Try.prog 24 h) fun v4 h =>
  mvK (Value.slice none 0 0) h fun v5 h =>
  mvK (Value.int IntKind.i64 0) h fun v6 h =>
  vK (aLoad Try.prog 24 v2 h) h fun v12 h =>
  cK Try.prog 48 [v12] h fun v13 h =>
  mvK v13 h fun v7 h =>
  seqK (fun k0 =>
   vK (aLoad Try.prog 24 v2 h) h fun v14 h =>
   cK Try.prog 49 [v14] h fun v15 h =>
   mvK v15 h fun v8 h =>
   mvK v7 h fun v17 h =>
   vK (aBin Try.prog BinOp.neq 27 v17 (Value.int IntKind.i64 0)) h fun v18 h =>
   mvK v18 h fun v16 h =>
   cnd v16 (
    k0 [v7] h) (
    mvK a1 h fun v20 h =>
    vK (aFieldAddr Try.prog 24 v2 0) h fun v21 h =>
    vK (aLoad Try.prog 3 v21 h) h fun v22 h =>
    cK Try.prog 41 [v20, v22, (Value.int IntKind.i64 1099511627776)] h fun v23 h =>
    vK (aUn UnOp.not v23) h fun v24 h =>
    mvK v24 h fun v19 h =>
    cnd v19 (
     mvK (Value.int IntKind.i64 3) h fun v7_1 h =>
     k0 [v7_1] h) (
     mvK v8 h fun v26 h =>
     vK (aBin Try.prog BinOp.geq 3 v26 (Value.int IntKind.i64 0)) h fun v27 h =>
     mvK v27 h fun v28 h =>
     gdK v28 true (fun k1 =>
      mvK v8 h fun v29 h =>
      k1 v29 h) (fun v29_1 h =>
      gdK v28 true (fun k2 =>
       mvK a1 h fun v30 h =>
       k2 v30 h) (fun v30_1 h =>
       gdK v28 true (fun k3 =>
        vK (aBin Try.prog BinOp.lss 3 v29_1 v30_1) h fun v31 h =>
        k3 v31 h) (fun v31_1 h =>
        vK (pickV v28 v31_1 (Value.bool false)) h fun v32 h =>
        mvK v32 h fun v25 h =>
        cnd v25 (
         mvK (Value.int IntKind.i64 14) h fun v7_2 h =>
         k0 [v7_2] h) (
         k0 [v7] h)) h) h) h))) fun x0 h => ∀ jx0 : Tmps,
   let v7_3 : Value := nth x0 0
   mvK v7_3 h fun v33 h =>
   vK (aBin Try.prog BinOp.neq 27 v33 (Value.int IntKind.i64 0)) h fun v34 h =>
   cnd v34 (
    vK (aBuild Try.prog 24 []) h fun v35 h =>
    mvK v7_3 h fun v36 h =>
    okK ((aStore Try.prog 24 v4 v35 h).map (undef, ·)) fun _ h =>
    mvK (Value.slice none 0 0) h fun v5_1 h =>
    mvK v36 h fun v6_1 h =>
    retV [aLoad Try.prog 24 v4 h, some v5_1, some v6_1] R h) (
    vK (aLoad Try.prog 24 v2 h) h fun v37 h =>
    cK Try.prog 50 [v37] h fun v38 h =>
    okK ((aStore Try.prog 24 v2 v38 h).map (undef, ·)) fun _ h =>
    mvK a1 h fun v39 h =>
    vK (aFieldAddr Try.prog 24 v2 0) h fun v40 h =>
    okK ((aStore Try.prog 3 v40 v39 h).map (undef, ·)) fun _ h =>
    mvK (Value.slice none 0 0) h fun v9 h =>
    vK (aFieldAddr Try.prog 24 v2 1) h fun v41 h =>
    vK (aLoad Try.prog 22 v41 h) h fun v42 h =>
    vK (aLen Try.prog 22 v42) h fun v43 h =>
    mvK (Value.int IntKind.i64 0) h fun v44 h =>
    ∃ (I14 : List Value → Heap → Prop) (μ14 : List Value → Heap → Nat), I14 [v9, v44] h ∧
    ∀ (h14 : Heap) (j14 : Tmps) (v9_1 : Value) (v44_1 : Value), I14 [v9_1, v44_1] h14 → (let h := h14
     vK (aBin Try.prog BinOp.lss 3 v44_1 v43) h fun v45 h =>
     cnd v45 (
      seqK (fun k4 =>
       mvK v44_1 h fun v46 h =>
       mvK v46 h fun v10 h =>
       vK (aFieldAddr Try.prog 24 v2 1) h fun v47 h =>
       vK (aLoad Try.prog 22 v47 h) h fun v48 h =>
       mvK v10 h fun v49 h =>
       vK (aIndexAddr Try.prog 22 v48 v49) h fun v50 h =>
       mvK v50 h fun v11 h =>
       mvK v11 h fun v51 h =>
       vK (nilV v51) h fun v52 h =>
       vK (aFieldAddr Try.prog 44 v52 4) h fun v53 h =>
       vK (aLoad Try.prog 4 v53 h) h fun v54 h =>
       mvK v54 h fun v55 h =>
       gdK v55 true (fun k5 =>
        mvK v11 h fun v56 h =>
        k5 v56 h) (fun v56_1 h =>
        gdK v55 true (fun k6 =>
         vK (nilV v56_1) h fun v57 h =>
         k6 v57 h) (fun v57_1 h =>
         gdK v55 true (fun k7 =>
          vK (aFieldAddr Try.prog 44 v57_1 3) h fun v58 h =>
          k7 v58 h) (fun v58_1 h =>
          gdK v55 true (fun k8 =>
           vK (aLoad Try.prog 3 v58_1 h) h fun v59 h =>
           k8 v59 h) (fun v59_1 h =>
           gdK v55 true (fun k9 =>
            mvK a1 h fun v60 h =>
            k9 v60 h) (fun v60_1 h =>
            gdK v55 true (fun k10 =>
             vK (aBin Try.prog BinOp.eql 3 v59_1 v60_1) h fun v61 h =>
             k10 v61 h) (fun v61_1 h =>
             vK (pickV v55 v61_1 (Value.bool false)) h fun v62 h =>
             cnd v62 (
              mvK v11 h fun v63 h =>
              mvK v11 h fun v64 h =>
              vK (nilV v63) h fun v65 h =>
              vK (aFieldAddr Try.prog 44 v65 4) h fun v66 h =>
              okK ((aStore Try.prog 4 v66 (Value.bool false) h).map (undef, ·)) fun _ h =>
              vK (nilV v64) h fun v67 h =>
              vK (aFieldAddr Try.prog 44 v67 5) h fun v68 h =>
              okK ((aStore Try.prog 4 v68 (Value.bool true) h).map (undef, ·)) fun _ h =>
              mvK v9_1 h fun v69 h =>
              mvK v10 h fun v70 h =>
              okK (aBuildSlice Try.prog 33 1 [(0, v70)] h) fun v71 h =>
              okK (aAppend Try.prog 33 33 v69 v71 h) fun v72 h =>
              mvK v72 h fun v9_2 h =>
              k4 [v9_2] h) (
              k4 [v9_1] h)) h) h) h) h) h) h) fun x4 h => ∀ jx4 : Tmps,
       let v9_3 : Value := nth x4 0
       vK (aBin Try.prog BinOp.add 3 v44_1 (Value.int IntKind.i64 1)) h fun v73 h =>
       mvK v73 h fun v44_2 h =>
       I14 [v9_3, v44_2] h ∧ μ14 [v9_3, v44_2] h < μ14 [v9_1, v44_1] h14) (
      vK (aLoad Try.prog 24 v2 h) h fun v74 h =>
      mvK v9_1 h fun v75 h =>
      okK ((aStore Try.prog 24 v4 v74 h).map (undef, ·)) fun _ h =>
      mvK v75 h fun v5_2 h =>
      mvK (Value.int IntKind.i64 0) h fun v6_2 h =>
      retV [aLoad Try.prog 24 v4 h, some v5_2, some v6_2] R h)))
def lv16 (q : Nat) : List Nat := bif Nat.beq q 17 then [8589918592, 7] else bif Nat.beq q 28 then [18889465913886394813952, 9, 44] else bif Nat.beq q 41 then [9444732895370546253312, 9] else []
theorem ok16 : lkOK Try.prog lv16 Try.f16 2 (Try.f16.body.getD .skip) 16 = true := by kernel_rfl
theorem e16 (a0 a1 : Value) (h : Heap) (R : Value → Heap → Prop) : n16 a0 a1 h R = wpK Try.prog lv16 (Try.f16.body.getD .skip) (endK Try.prog [.cell 4 24, .tmp 5, .tmp 6] R) (argT [a0, a1]) h := by kernel_rfl
theorem w16 {a0 a1 : Value} {h : Heap} {R : Value → Heap → Prop} (hn : n16 a0 a1 h R) : DetP Try.prog 16 [a0, a1] h R :=
  DetP.of_code (rs := [.cell 4 24, .tmp 5, .tmp 6]) (n := 2) Try.func16 (by kernel_rfl) (by kernel_rfl) lv16 ok16 rfl ((e16 a0 a1 h R) ▸ hn)

/-! ### examiner/clock.ExpiredOf: function 23 -/
/-! ### examiner/clock.Taken: function 24 -/
def n24 (a0 a1 a2 : Value) (h : Heap) (R : Value → Heap → Prop) : Prop :=
  okK (some (aBox Try.prog 24 a0 h)) fun v3 h =>
  okK (aAlloc Try.prog 24 h) fun v6 h =>
  mvK (Value.string { data := #[] }) h fun v7 h =>
  mvK (Value.int IntKind.i64 0) h fun v8 h =>
  vK (aLoad Try.prog 24 v3 h) h fun v14 h =>
  mvK a1 h fun v15 h =>
  mvK a2 h fun v16 h =>
  cK Try.prog 52 [v14, v15, v16] h fun v17 h =>
  mvK v17 h fun v9 h =>
  mvK v9 h fun v18 h =>
  vK (aBin Try.prog BinOp.neq 27 v18 (Value.int IntKind.i64 0)) h fun v19 h =>
  cnd v19 (
   vK (aBuild Try.prog 24 []) h fun v20 h =>
   mvK v9 h fun v21 h =>
   okK ((aStore Try.prog 24 v6 v20 h).map (undef, ·)) fun _ h =>
   mvK (Value.string { data := #[] }) h fun v7_1 h =>
   mvK v21 h fun v8_1 h =>
   retV [aLoad Try.prog 24 v6 h, some v7_1, some v8_1] R h) (
   mvK (Value.int IntKind.i64 (-1)) h fun v10 h =>
   vK (aFieldAddr Try.prog 24 v3 1) h fun v22 h =>
   vK (aLoad Try.prog 22 v22 h) h fun v23 h =>
   vK (aLen Try.prog 22 v23) h fun v24 h =>
   mvK (Value.int IntKind.i64 0) h fun v25 h =>
   ∃ (I6 : List Value → Heap → Prop) (μ6 : List Value → Heap → Nat), I6 [v10, v25] h ∧
   ∀ (h6 : Heap) (j6 : Tmps) (v10_1 : Value) (v25_1 : Value), I6 [v10_1, v25_1] h6 → (let h := h6
    vK (aBin Try.prog BinOp.lss 3 v25_1 v24) h fun v26 h =>
    cnd v26 (
     seqK (fun k0 =>
      mvK v25_1 h fun v27 h =>
      vK (aIndexAddr Try.prog 22 v23 v25_1) h fun v28 h =>
      vK (aLoad Try.prog 44 v28 h) h fun v29 h =>
      okK (aAlloc Try.prog 44 h) fun v12 h =>
      mvK v27 h fun v11 h =>
      okK ((aStore Try.prog 44 v12 v29 h).map (undef, ·)) fun _ h =>
      vK (aFieldAddr Try.prog 44 v12 0) h fun v30 h =>
      vK (aLoad Try.prog 3 v30 h) h fun v31 g =>
      VB h.length v31 ∧ (let h := g
       mvK a1 h fun v32 h =>
       vK (aBin Try.prog BinOp.eql 3 v31 v32) h fun v33 h =>
       mvK v33 h fun v34 h =>
       gdK v34 true (fun k1 =>
        vK (aFieldAddr Try.prog 44 v12 5) h fun v35 h =>
        k1 v35 h) (fun v35_1 h =>
        gdK v34 true (fun k2 =>
         vK (aLoad Try.prog 4 v35_1 h) h fun v36 g =>
         VB h.length v36 ∧ (let h := g
          k2 v36 h)) (fun v36_1 h =>
         vK (pickV v34 v36_1 (Value.bool false)) h fun v37 h =>
         mvK v37 h fun v38 h =>
         gdK v38 true (fun k3 =>
          mvK a2 h fun v39 h =>
          k3 v39 h) (fun v39_1 h =>
          gdK v38 true (fun k4 =>
           vK (aBin Try.prog BinOp.eql 9 v39_1 (Value.string { data := #[] })) h fun v40 h =>
           k4 v40 h) (fun v40_1 h =>
           gdK v38 true (fun k5 =>
            mvK v40_1 h fun v41 h =>
            k5 v41 h) (fun v41_1 h =>
            gdK v41_1 false (fun k6 =>
             vK (aFieldAddr Try.prog 44 v12 1) h fun v42 h =>
             k6 v42 h) (fun v42_1 h =>
             gdK v41_1 false (fun k7 =>
              vK (aLoad Try.prog 9 v42_1 h) h fun v43 g =>
              VB h.length v43 ∧ (let h := g
               k7 v43 h)) (fun v43_1 h =>
              gdK v41_1 false (fun k8 =>
               mvK a2 h fun v44 h =>
               k8 v44 h) (fun v44_1 h =>
               gdK v41_1 false (fun k9 =>
                vK (aBin Try.prog BinOp.eql 9 v43_1 v44_1) h fun v45 h =>
                k9 v45 h) (fun v45_1 h =>
                gdK v38 true (fun k10 =>
                 vK (pickV v41_1 (Value.bool true) v45_1) h fun v46 h =>
                 k10 v46 h) (fun v46_1 h =>
                 vK (pickV v38 v46_1 (Value.bool false)) h fun v47 h =>
                 mvK v47 h fun v48 h =>
                 gdK v48 true (fun k11 =>
                  mvK v10_1 h fun v49 h =>
                  k11 v49 h) (fun v49_1 h =>
                  gdK v48 true (fun k12 =>
                   vK (aBin Try.prog BinOp.lss 3 v49_1 (Value.int IntKind.i64 0)) h fun v50 h =>
                   k12 v50 h) (fun v50_1 h =>
                   gdK v48 true (fun k13 =>
                    mvK v50_1 h fun v51 h =>
                    k13 v51 h) (fun v51_1 h =>
                    gdK v51_1 false (fun k14 =>
                     vK (aFieldAddr Try.prog 44 v12 3) h fun v52 h =>
                     k14 v52 h) (fun v52_1 h =>
                     gdK v51_1 false (fun k15 =>
                      vK (aLoad Try.prog 3 v52_1 h) h fun v53 g =>
                      VB h.length v53 ∧ (let h := g
                       k15 v53 h)) (fun v53_1 h =>
                      gdK v51_1 false (fun k16 =>
                       vK (aFieldAddr Try.prog 24 v3 1) h fun v54 h =>
                       k16 v54 h) (fun v54_1 h =>
                       gdK v51_1 false (fun k17 =>
                        vK (aLoad Try.prog 22 v54_1 h) h fun v55 g =>
                        VB h.length v55 ∧ (let h := g
                         k17 v55 h)) (fun v55_1 h =>
                        gdK v51_1 false (fun k18 =>
                         mvK v10_1 h fun v56 h =>
                         k18 v56 h) (fun v56_1 h =>
                         gdK v51_1 false (fun k19 =>
                          vK (aIndexAddr Try.prog 22 v55_1 v56_1) h fun v57 h =>
                          k19 v57 h) (fun v57_1 h =>
                          gdK v51_1 false (fun k20 =>
                           vK (aFieldAddr Try.prog 44 v57_1 3) h fun v58 h =>
                           k20 v58 h) (fun v58_1 h =>
                           gdK v51_1 false (fun k21 =>
                            vK (aLoad Try.prog 3 v58_1 h) h fun v59 g =>
                            VB h.length v59 ∧ (let h := g
                             k21 v59 h)) (fun v59_1 h =>
                            gdK v51_1 false (fun k22 =>
                             vK (aBin Try.prog BinOp.lss 3 v53_1 v59_1) h fun v60 h =>
                             k22 v60 h) (fun v60_1 h =>
                             gdK v48 true (fun k23 =>
                              vK (pickV v51_1 (Value.bool true) v60_1) h fun v61 h =>
                              k23 v61 h) (fun v61_1 h =>
                              vK (pickV v48 v61_1 (Value.bool false)) h fun v62 h =>
                              cnd v62 (
                               mvK v11 h fun v63 h =>
                               mvK v63 h fun v10_2 h =>
                               k0 [v10_2] h) (
                               k0 [v10_1] h)) h) h) h) h) h) h) h) h) h) h) h) h) h) h) h) h) h) h) h) h) h) h) h)) fun x0 h => ∀ jx0 : Tmps,
      let v10_3 : Value := nth x0 0
      vK (aBin Try.prog BinOp.add 3 v25_1 (Value.int IntKind.i64 1)) h fun v64 h =>
      mvK v64 h fun v25_2 h =>
      I6 [v10_3, v25_2] h ∧ μ6 [v10_3, v25_2] h < μ6 [v10_1, v25_1] h6) (
     mvK v10_1 h fun v65 h =>
     vK (aBin Try.prog BinOp.lss 3 v65 (Value.int IntKind.i64 0)) h fun v66 h =>
     cnd v66 (
      vK (aBuild Try.prog 24 []) h fun v67 h =>
      okK ((aStore Try.prog 24 v6 v67 h).map (undef, ·)) fun _ h =>
      mvK (Value.string { data := #[] }) h fun v7_2 h =>
      mvK (Value.int IntKind.i64 23) h fun v8_2 h =>
      retV [aLoad Try.prog 24 v6 h, some v7_2, some v8_2] R h) (
      vK (aLoad Try.prog 24 v3 h) h fun v68 h =>
      cK Try.prog 50 [v68] h fun v69 h =>
      okK ((aStore Try.prog 24 v3 v69 h).map (undef, ·)) fun _ h =>
      vK (aFieldAddr Try.prog 24 v3 1) h fun v70 h =>
      vK (aLoad Try.prog 22 v70 h) h fun v71 h =>
      mvK v10_1 h fun v72 h =>
      vK (aIndexAddr Try.prog 22 v71 v72) h fun v73 h =>
      mvK v73 h fun v13 h =>
      mvK v13 h fun v74 h =>
      mvK v13 h fun v75 h =>
      vK (nilV v75) h fun v76 h =>
      vK (aFieldAddr Try.prog 44 v76 0) h fun v77 h =>
      vK (aLoad Try.prog 3 v77 h) h fun v78 g =>
      VB h.length v78 ∧ (let h := g
       mvK v13 h fun v79 h =>
       vK (nilV v79) h fun v80 h =>
       vK (aFieldAddr Try.prog 44 v80 1) h fun v81 h =>
       vK (aLoad Try.prog 9 v81 h) h fun v82 g =>
       VB h.length v82 ∧ (let h := g
        vK (aBuild Try.prog 44 [(0, v78), (1, v82)]) h fun v83 h =>
        vK (nilV v74) h fun v84 h =>
        okK ((aStore Try.prog 44 v84 v83 h).map (undef, ·)) fun _ h =>
        (True) ∧ (
         vK (aLoad Try.prog 24 v3 h) h fun v85 g =>
         VB h.length v85 ∧ (let h := g
          mvK v13 h fun v86 h =>
          vK (nilV v86) h fun v87 h =>
          vK (aFieldAddr Try.prog 44 v87 1) h fun v88 h =>
          vK (aLoad Try.prog 9 v88 h) h fun v89 g =>
          VB h.length v89 ∧ (let h := g
           okK ((aStore Try.prog 24 v6 v85 h).map (undef, ·)) fun _ h =>
           ((aLoad Try.prog 9 v88 h).map (·, h) = some (v89, h) ∧ True) ∧ (
            mvK v89 h fun v7_3 h =>
            mvK (Value.int IntKind.i64 0) h fun v8_3 h =>
            retV [aLoad Try.prog 24 v6 h, some v7_3, some v8_3] R h))))))))))
def lv24 (q : Nat) : List Nat := bif Nat.beq q 12 then [36893488147385555968, 10, 25] else bif Nat.beq q 21 then [18446744073575341056, 10] else []
theorem ok24 : lkOK Try.prog lv24 Try.f24 3 (Try.f24.body.getD .skip) 24 = true := by kernel_rfl
theorem e24 (a0 a1 a2 : Value) (h : Heap) (R : Value → Heap → Prop) : n24 a0 a1 a2 h R = wpK Try.prog lv24 (Try.f24.body.getD .skip) (endK Try.prog [.cell 6 24, .tmp 7, .tmp 8] R) (argT [a0, a1, a2]) h := by kernel_rfl
theorem w24 {a0 a1 a2 : Value} {h : Heap} {R : Value → Heap → Prop} (hn : n24 a0 a1 a2 h R) : DetP Try.prog 24 [a0, a1, a2] h R :=
  DetP.of_code (rs := [.cell 6 24, .tmp 7, .tmp 8]) (n := 3) Try.func24 (by kernel_rfl) (by kernel_rfl) lv24 ok24 rfl ((e24 a0 a1 a2 h R) ▸ hn)

/-! ### examiner/clock.Started: function 29 -/
def n29 (a0 a1 a2 : Value) (h : Heap) (R : Value → Heap → Prop) : Prop :=
  okK (some (aBox Try.prog 24 a0 h)) fun v3 h =>
  okK (some (aBox Try.prog 44 a1 h)) fun v4 h =>
  okK (aAlloc Try.prog 24 h) fun v6 h =>
  mvK (Value.int IntKind.i64 0) h fun v7 h =>
  vK (aLoad Try.prog 24 v3 h) h fun v10 h =>
  vK (aFieldAddr Try.prog 44 v4 0) h fun v11 h =>
  vK (aLoad Try.prog 3 v11 h) h fun v12 h =>
  vK (aFieldAddr Try.prog 44 v4 1) h fun v13 h =>
  vK (aLoad Try.prog 9 v13 h) h fun v14 h =>
  cK Try.prog 55 [v10, v12, v14] h fun v15 h =>
  mvK v15 h fun v8 h =>
  seqK (fun k0 =>
   mvK v8 h fun v17 h =>
   vK (aBin Try.prog BinOp.neq 27 v17 (Value.int IntKind.i64 0)) h fun v18 h =>
   mvK v18 h fun v16 h =>
   cnd v16 (
    k0 [v8] h) (
    mvK a2 h fun v20 h =>
    cK Try.prog 41 [v20, (Value.int IntKind.i64 0), (Value.int IntKind.i64 1099511627776)] h fun v21 h =>
    vK (aUn UnOp.not v21) h fun v22 h =>
    mvK v22 h fun v19 h =>
    cnd v19 (
     mvK (Value.int IntKind.i64 3) h fun v8_1 h =>
     k0 [v8_1] h) (
     mvK a2 h fun v24 h =>
     vK (aFieldAddr Try.prog 24 v3 0) h fun v25 h =>
     vK (aLoad Try.prog 3 v25 h) h fun v26 h =>
     vK (aBin Try.prog BinOp.sub 3 (Value.int IntKind.i64 1099511627776) v26) h fun v27 h =>
     vK (aBin Try.prog BinOp.gtr 3 v24 v27) h fun v28 h =>
     mvK v28 h fun v23 h =>
     cnd v23 (
      mvK (Value.int IntKind.i64 25) h fun v8_2 h =>
      k0 [v8_2] h) (
      k0 [v8] h)))) fun x0 h => ∀ jx0 : Tmps,
   let v8_3 : Value := nth x0 0
   mvK v8_3 h fun v29 h =>
   vK (aBin Try.prog BinOp.neq 27 v29 (Value.int IntKind.i64 0)) h fun v30 h =>
   cnd v30 (
    vK (aBuild Try.prog 24 []) h fun v31 h =>
    mvK v8_3 h fun v32 h =>
    okK ((aStore Try.prog 24 v6 v31 h).map (undef, ·)) fun _ h =>
    mvK v32 h fun v7_1 h =>
    retV [aLoad Try.prog 24 v6 h, some v7_1] R h) (
    vK (aLoad Try.prog 24 v3 h) h fun v33 h =>
    cK Try.prog 50 [v33] h fun v34 h =>
    okK ((aStore Try.prog 24 v3 v34 h).map (undef, ·)) fun _ h =>
    vK (aFieldAddr Try.prog 24 v3 1) h fun v35 h =>
    vK (aLoad Try.prog 22 v35 h) h fun v36 g =>
    VB h.length v36 ∧ (let h := g
     vK (aLoad Try.prog 24 v3 h) h fun v37 g =>
     VB h.length v37 ∧ (let h := g
      vK (aFieldAddr Try.prog 44 v4 0) h fun v38 h =>
      vK (aLoad Try.prog 3 v38 h) h fun v39 g =>
      VB h.length v39 ∧ (let h := g
       vK (aFieldAddr Try.prog 44 v4 1) h fun v40 h =>
       vK (aLoad Try.prog 9 v40 h) h fun v41 g =>
       VB h.length v41 ∧ (let h := g
        cKD Try.prog 56 [v37, v39, v41] h fun v42 g =>
        (∃ new, g = h ++ new) ∧ (let h := g
         vK (aIndexAddr Try.prog 22 v36 v42) h fun v43 h =>
         mvK v43 h fun v9 h =>
         mvK v9 h fun v44 h =>
         mvK v9 h fun v45 h =>
         mvK v9 h fun v46 h =>
         mvK v9 h fun v47 h =>
         vK (aFieldAddr Try.prog 24 v3 0) h fun v48 h =>
         vK (aLoad Try.prog 3 v48 h) h fun v49 g =>
         VB h.length v49 ∧ (let h := g
          vK (aFieldAddr Try.prog 24 v3 0) h fun v50 h =>
          vK (aLoad Try.prog 3 v50 h) h fun v51 g =>
          VB h.length v51 ∧ (let h := g
           mvK a2 h fun v52 h =>
           vK (aBin Try.prog BinOp.add 3 v51 v52) h fun v53 h =>
           vK (nilV v44) h fun v54 h =>
           vK (aFieldAddr Try.prog 44 v54 2) h fun v55 h =>
           okK ((aStore Try.prog 3 v55 v49 h).map (undef, ·)) fun _ h =>
           ((aLoad Try.prog 3 v50 h).map (·, h) = some (v51, h) ∧ True) ∧ (
            vK (nilV v45) h fun v56 h =>
            vK (aFieldAddr Try.prog 44 v56 3) h fun v57 h =>
            okK ((aStore Try.prog 3 v57 v53 h).map (undef, ·)) fun _ h =>
            (True) ∧ (
             vK (nilV v46) h fun v58 h =>
             vK (aFieldAddr Try.prog 44 v58 4) h fun v59 h =>
             okK ((aStore Try.prog 4 v59 (Value.bool true) h).map (undef, ·)) fun _ h =>
             (True) ∧ (
              vK (nilV v47) h fun v60 h =>
              vK (aFieldAddr Try.prog 44 v60 5) h fun v61 h =>
              okK ((aStore Try.prog 4 v61 (Value.bool false) h).map (undef, ·)) fun _ h =>
              (True) ∧ (
               vK (aLoad Try.prog 24 v3 h) h fun v62 h =>
               okK ((aStore Try.prog 24 v6 v62 h).map (undef, ·)) fun _ h =>
               mvK (Value.int IntKind.i64 0) h fun v7_2 h =>
               retV [aLoad Try.prog 24 v6 h, some v7_2] R h))))))))))))
def lv29 (q : Nat) : List Nat := bif Nat.beq q 15 then [536805632, 8] else []
theorem ok29 : lkOK Try.prog lv29 Try.f29 3 (Try.f29.body.getD .skip) 29 = true := by kernel_rfl
theorem e29 (a0 a1 a2 : Value) (h : Heap) (R : Value → Heap → Prop) : n29 a0 a1 a2 h R = wpK Try.prog lv29 (Try.f29.body.getD .skip) (endK Try.prog [.cell 6 24, .tmp 7] R) (argT [a0, a1, a2]) h := by kernel_rfl
theorem w29 {a0 a1 a2 : Value} {h : Heap} {R : Value → Heap → Prop} (hn : n29 a0 a1 a2 h R) : DetP Try.prog 29 [a0, a1, a2] h R :=
  DetP.of_code (rs := [.cell 6 24, .tmp 7]) (n := 3) Try.func29 (by kernel_rfl) (by kernel_rfl) lv29 ok29 rfl ((e29 a0 a1 a2 h R) ▸ hn)

/-! ### examiner/clock.Stopped: function 30 -/
def n30 (a0 a1 a2 : Value) (h : Heap) (R : Value → Heap → Prop) : Prop :=
  okK (some (aBox Try.prog 24 a0 h)) fun v3 h =>
  okK (aAlloc Try.prog 24 h) fun v6 h =>
  mvK (Value.int IntKind.i64 0) h fun v7 h =>
  vK (aLoad Try.prog 24 v3 h) h fun v11 h =>
  mvK a1 h fun v12 h =>
  mvK a2 h fun v13 h =>
  cK Try.prog 52 [v11, v12, v13] h fun v14 h =>
  mvK v14 h fun v8 h =>
  mvK v8 h fun v15 h =>
  vK (aBin Try.prog BinOp.neq 27 v15 (Value.int IntKind.i64 0)) h fun v16 h =>
  cnd v16 (
   vK (aBuild Try.prog 24 []) h fun v17 h =>
   mvK v8 h fun v18 h =>
   okK ((aStore Try.prog 24 v6 v17 h).map (undef, ·)) fun _ h =>
   mvK v18 h fun v7_1 h =>
   retV [aLoad Try.prog 24 v6 h, some v7_1] R h) (
   vK (aLoad Try.prog 24 v3 h) h fun v19 h =>
   cK Try.prog 50 [v19] h fun v20 h =>
   okK ((aStore Try.prog 24 v3 v20 h).map (undef, ·)) fun _ h =>
   vK (aFieldAddr Try.prog 24 v3 1) h fun v21 h =>
   vK (aLoad Try.prog 22 v21 h) h fun v22 h =>
   vK (aLen Try.prog 22 v22) h fun v23 h =>
   mvK (Value.int IntKind.i64 0) h fun v24 h =>
   ∃ (I6 : List Value → Heap → Prop) (μ6 : List Value → Heap → Nat), I6 [v24] h ∧
   ∀ (h6 : Heap) (j6 : Tmps) (v24_1 : Value), I6 [v24_1] h6 → (let h := h6
    vK (aBin Try.prog BinOp.lss 3 v24_1 v23) h fun v25 h =>
    cnd v25 (
     seqK (fun k0 =>
      mvK v24_1 h fun v26 h =>
      vK (aIndexAddr Try.prog 22 v22 v24_1) h fun v27 h =>
      vK (aLoad Try.prog 44 v27 h) h fun v28 h =>
      okK (aAlloc Try.prog 44 h) fun v10 h =>
      mvK v26 h fun v9 h =>
      okK ((aStore Try.prog 44 v10 v28 h).map (undef, ·)) fun _ h =>
      vK (aFieldAddr Try.prog 44 v10 0) h fun v29 h =>
      vK (aLoad Try.prog 3 v29 h) h fun v30 h =>
      mvK a1 h fun v31 h =>
      vK (aBin Try.prog BinOp.eql 3 v30 v31) h fun v32 h =>
      mvK v32 h fun v33 h =>
      gdK v33 true (fun k1 =>
       mvK a2 h fun v34 h =>
       k1 v34 h) (fun v34_1 h =>
       gdK v33 true (fun k2 =>
        vK (aBin Try.prog BinOp.eql 9 v34_1 (Value.string { data := #[] })) h fun v35 h =>
        k2 v35 h) (fun v35_1 h =>
        gdK v33 true (fun k3 =>
         mvK v35_1 h fun v36 h =>
         k3 v36 h) (fun v36_1 h =>
         gdK v36_1 false (fun k4 =>
          vK (aFieldAddr Try.prog 44 v10 1) h fun v37 h =>
          k4 v37 h) (fun v37_1 h =>
          gdK v36_1 false (fun k5 =>
           vK (aLoad Try.prog 9 v37_1 h) h fun v38 h =>
           k5 v38 h) (fun v38_1 h =>
           gdK v36_1 false (fun k6 =>
            mvK a2 h fun v39 h =>
            k6 v39 h) (fun v39_1 h =>
            gdK v36_1 false (fun k7 =>
             vK (aBin Try.prog BinOp.eql 9 v38_1 v39_1) h fun v40 h =>
             k7 v40 h) (fun v40_1 h =>
             gdK v33 true (fun k8 =>
              vK (pickV v36_1 (Value.bool true) v40_1) h fun v41 h =>
              k8 v41 h) (fun v41_1 h =>
              vK (pickV v33 v41_1 (Value.bool false)) h fun v42 h =>
              cnd v42 (
               vK (aFieldAddr Try.prog 24 v3 1) h fun v43 h =>
               vK (aLoad Try.prog 22 v43 h) h fun v44 h =>
               mvK v9 h fun v45 h =>
               vK (aFieldAddr Try.prog 44 v10 0) h fun v46 h =>
               vK (aLoad Try.prog 3 v46 h) h fun v47 h =>
               vK (aFieldAddr Try.prog 44 v10 1) h fun v48 h =>
               vK (aLoad Try.prog 9 v48 h) h fun v49 h =>
               vK (aBuild Try.prog 44 [(0, v47), (1, v49)]) h fun v50 h =>
               vK (aIndexAddr Try.prog 22 v44 v45) h fun v51 h =>
               okK ((aStore Try.prog 44 v51 v50 h).map (undef, ·)) fun _ h =>
               k0 [] h) (
               k0 [] h)) h) h) h) h) h) h) h) h) fun x0 h => ∀ jx0 : Tmps,
      vK (aBin Try.prog BinOp.add 3 v24_1 (Value.int IntKind.i64 1)) h fun v52 h =>
      mvK v52 h fun v24_2 h =>
      I6 [v24_2] h ∧ μ6 [v24_2] h < μ6 [v24_1] h6) (
     vK (aLoad Try.prog 24 v3 h) h fun v53 h =>
     okK ((aStore Try.prog 24 v6 v53 h).map (undef, ·)) fun _ h =>
     mvK (Value.int IntKind.i64 0) h fun v7_2 h =>
     retV [aLoad Try.prog 24 v6 h, some v7_2] R h)))
def lv30 (q : Nat) : List Nat := bif Nat.beq q 12 then [9007199237965312, 24] else bif Nat.beq q 21 then [4503599560263168] else []
theorem ok30 : lkOK Try.prog lv30 Try.f30 3 (Try.f30.body.getD .skip) 30 = true := by kernel_rfl
theorem e30 (a0 a1 a2 : Value) (h : Heap) (R : Value → Heap → Prop) : n30 a0 a1 a2 h R = wpK Try.prog lv30 (Try.f30.body.getD .skip) (endK Try.prog [.cell 6 24, .tmp 7] R) (argT [a0, a1, a2]) h := by kernel_rfl
theorem w30 {a0 a1 a2 : Value} {h : Heap} {R : Value → Heap → Prop} (hn : n30 a0 a1 a2 h R) : DetP Try.prog 30 [a0, a1, a2] h R :=
  DetP.of_code (rs := [.cell 6 24, .tmp 7]) (n := 3) Try.func30 (by kernel_rfl) (by kernel_rfl) lv30 ok30 rfl ((e30 a0 a1 a2 h R) ▸ hn)

/-! ### examiner/clock.ReadTimer: function 31 -/
def n31 (a0 a1 a2 : Value) (h : Heap) (R : Value → Heap → Prop) : Prop :=
  okK (some (aBox Try.prog 24 a0 h)) fun v3 h =>
  mvK (Value.int IntKind.i64 0) h fun v6 h =>
  mvK (Value.int IntKind.i64 0) h fun v7 h =>
  vK (aLoad Try.prog 24 v3 h) h fun v10 h =>
  mvK a1 h fun v11 h =>
  mvK a2 h fun v12 h =>
  cK Try.prog 55 [v10, v11, v12] h fun v13 h =>
  mvK v13 h fun v8 h =>
  mvK v8 h fun v14 h =>
  vK (aBin Try.prog BinOp.neq 27 v14 (Value.int IntKind.i64 0)) h fun v15 h =>
  cnd v15 (
   mvK v8 h fun v16 h =>
   mvK (Value.int IntKind.i64 0) h fun v6_1 h =>
   mvK v16 h fun v7_1 h =>
   retV [some v6_1, some v7_1] R h) (
   vK (aFieldAddr Try.prog 24 v3 1) h fun v17 h =>
   vK (aLoad Try.prog 22 v17 h) h fun v18 g =>
   VB h.length v18 ∧ (let h := g
    vK (aLoad Try.prog 24 v3 h) h fun v19 g =>
    VB h.length v19 ∧ (let h := g
     mvK a1 h fun v20 h =>
     mvK a2 h fun v21 h =>
     cKD Try.prog 56 [v19, v20, v21] h fun v22 g =>
     (∃ new, g = h ++ new) ∧ (let h := g
      vK (aIndexAddr Try.prog 22 v18 v22) h fun v23 h =>
      vK (aLoad Try.prog 44 v23 h) h fun v24 g =>
      VB h.length v24 ∧ (let h := g
       okK (aAlloc Try.prog 44 h) fun v9 h =>
       okK ((aStore Try.prog 44 v9 v24 h).map (undef, ·)) fun _ h =>
       (True) ∧ (
        vK (aFieldAddr Try.prog 44 v9 4) h fun v25 h =>
        vK (aLoad Try.prog 4 v25 h) h fun v26 h =>
        cnd v26 (
         vK (aFieldAddr Try.prog 24 v3 0) h fun v27 h =>
         vK (aLoad Try.prog 3 v27 h) h fun v28 h =>
         vK (aFieldAddr Try.prog 44 v9 2) h fun v29 h =>
         vK (aLoad Try.prog 3 v29 h) h fun v30 h =>
         vK (aBin Try.prog BinOp.sub 3 v28 v30) h fun v31 h =>
         mvK v31 h fun v6_2 h =>
         mvK (Value.int IntKind.i64 0) h fun v7_2 h =>
         retV [some v6_2, some v7_2] R h) (
         mvK (Value.int IntKind.i64 0) h fun v6_3 h =>
         mvK (Value.int IntKind.i64 0) h fun v7_3 h =>
         retV [some v6_3, some v7_3] R h)))))))
def lv31 (q : Nat) : List Nat := []
theorem ok31 : lkOK Try.prog lv31 Try.f31 3 (Try.f31.body.getD .skip) 31 = true := by kernel_rfl
theorem e31 (a0 a1 a2 : Value) (h : Heap) (R : Value → Heap → Prop) : n31 a0 a1 a2 h R = wpK Try.prog lv31 (Try.f31.body.getD .skip) (endK Try.prog [.tmp 6, .tmp 7] R) (argT [a0, a1, a2]) h := by kernel_rfl
theorem w31 {a0 a1 a2 : Value} {h : Heap} {R : Value → Heap → Prop} (hn : n31 a0 a1 a2 h R) : DetP Try.prog 31 [a0, a1, a2] h R :=
  DetP.of_code (rs := [.tmp 6, .tmp 7]) (n := 3) Try.func31 (by kernel_rfl) (by kernel_rfl) lv31 ok31 rfl ((e31 a0 a1 a2 h R) ▸ hn)

/-! ### examiner/examinerref27.Read: function 32 -/
/-! ### examiner/examinerref27.Start: function 33 -/
/-! ### examiner/examinerref27.Stop: function 34 -/
/-! ### examiner/examinerref27.Same: function 35 -/
def n35 (a0 a1 : Value) (h : Heap) (R : Value → Heap → Prop) : Prop :=
  okK (some (aBox Try.prog 24 a0 h)) fun v2 h =>
  okK (some (aBox Try.prog 24 a1 h)) fun v3 h =>
  mvK (Value.bool false) h fun v4 h =>
  vK (aFieldAddr Try.prog 24 v2 0) h fun v6 h =>
  vK (aLoad Try.prog 3 v6 h) h fun v7 h =>
  vK (aFieldAddr Try.prog 24 v3 0) h fun v8 h =>
  vK (aLoad Try.prog 3 v8 h) h fun v9 h =>
  vK (aBin Try.prog BinOp.neq 3 v7 v9) h fun v10 h =>
  mvK v10 h fun v11 h =>
  gdK v11 false (fun k0 =>
   vK (aFieldAddr Try.prog 24 v2 1) h fun v12 h =>
   k0 v12 h) (fun v12_1 h =>
   gdK v11 false (fun k1 =>
    vK (aLoad Try.prog 22 v12_1 h) h fun v13 h =>
    k1 v13 h) (fun v13_1 h =>
    gdK v11 false (fun k2 =>
     vK (aLen Try.prog 22 v13_1) h fun v14 h =>
     k2 v14 h) (fun v14_1 h =>
     gdK v11 false (fun k3 =>
      vK (aFieldAddr Try.prog 24 v3 1) h fun v15 h =>
      k3 v15 h) (fun v15_1 h =>
      gdK v11 false (fun k4 =>
       vK (aLoad Try.prog 22 v15_1 h) h fun v16 h =>
       k4 v16 h) (fun v16_1 h =>
       gdK v11 false (fun k5 =>
        vK (aLen Try.prog 22 v16_1) h fun v17 h =>
        k5 v17 h) (fun v17_1 h =>
        gdK v11 false (fun k6 =>
         vK (aBin Try.prog BinOp.neq 3 v14_1 v17_1) h fun v18 h =>
         k6 v18 h) (fun v18_1 h =>
         vK (pickV v11 (Value.bool true) v18_1) h fun v19 h =>
         cnd v19 (
          mvK (Value.bool false) h fun v4_1 h =>
          retV [some v4_1] R h) (
          mvK (Value.int IntKind.i64 0) h fun v5 h =>
          ∃ (I4 : List Value → Heap → Prop) (μ4 : List Value → Heap → Nat), I4 [v5] h ∧
          ∀ (h4 : Heap) (j4 : Tmps) (v5_1 : Value), I4 [v5_1] h4 → (let h := h4
           mvK v5_1 h fun v20 h =>
           vK (aFieldAddr Try.prog 24 v2 1) h fun v21 h =>
           vK (aLoad Try.prog 22 v21 h) h fun v22 h =>
           vK (aLen Try.prog 22 v22) h fun v23 h =>
           vK (aBin Try.prog BinOp.lss 3 v20 v23) h fun v24 h =>
           cnd v24 (
            vK (aFieldAddr Try.prog 24 v2 1) h fun v27 h =>
            vK (aLoad Try.prog 22 v27 h) h fun v28 g =>
            VB h.length v28 ∧ (let h := g
             mvK v5_1 h fun v29 h =>
             vK (aIndexAddr Try.prog 22 v28 v29) h fun v30 h =>
             vK (aLoad Try.prog 44 v30 h) h fun v31 g =>
             VB h.length v31 ∧ (let h := g
              vK (aFieldAddr Try.prog 24 v3 1) h fun v32 h =>
              vK (aLoad Try.prog 22 v32 h) h fun v33 g =>
              VB h.length v33 ∧ (let h := g
               mvK v5_1 h fun v34 h =>
               vK (aIndexAddr Try.prog 22 v33 v34) h fun v35 h =>
               vK (aLoad Try.prog 44 v35 h) h fun v36 g =>
               VB h.length v36 ∧ (let h := g
                vK (aBin Try.prog BinOp.neq 44 v31 v36) h fun v37 h =>
                cnd v37 (
                 mvK (Value.bool false) h fun v4_2 h =>
                 retV [some v4_2] R h) (
                 mvK v5_1 h fun v25 h =>
                 vK (aBin Try.prog BinOp.add 3 v25 (Value.int IntKind.i64 1)) h fun v26 h =>
                 mvK v26 h fun v5_2 h =>
                 I4 [v5_2] h ∧ μ4 [v5_2] h < μ4 [v5_1] h4)))))) (
            mvK (Value.bool true) h fun v4_3 h =>
            retV [some v4_3] R h)))) h) h) h) h) h) h) h
def lv35 (q : Nat) : List Nat := bif Nat.beq q 8 then [274876858416, 5] else []
theorem ok35 : lkOK Try.prog lv35 Try.f35 2 (Try.f35.body.getD .skip) 35 = true := by kernel_rfl
theorem e35 (a0 a1 : Value) (h : Heap) (R : Value → Heap → Prop) : n35 a0 a1 h R = wpK Try.prog lv35 (Try.f35.body.getD .skip) (endK Try.prog [.tmp 4] R) (argT [a0, a1]) h := by kernel_rfl
theorem w35 {a0 a1 : Value} {h : Heap} {R : Value → Heap → Prop} (hn : n35 a0 a1 h R) : DetP Try.prog 35 [a0, a1] h R :=
  DetP.of_code (rs := [.tmp 4]) (n := 2) Try.func35 (by kernel_rfl) (by kernel_rfl) lv35 ok35 rfl ((e35 a0 a1 h R) ▸ hn)

/-! ### examiner/clock.Declared: function 36 -/
/-! ### examiner/clock.Dropped: function 37 -/
/-! ### examiner/examinerref27.Declare: function 38 -/
/-! ### examiner/examinerref27.Drop: function 39 -/
/-! ### examiner/examinerlaw27.Two: function 40 -/
def n40 (h : Heap) (R : Value → Heap → Prop) : Prop :=
  okK (aAlloc Try.prog 24 h) fun v0 h =>
  vK (aBuild Try.prog 44 [(0, (Value.int IntKind.i64 1)), (1, (Value.string { data := #[97] })), (3, (Value.int IntKind.i64 5)), (4, (Value.bool true))]) h fun v1 h =>
  vK (aBuild Try.prog 44 [(0, (Value.int IntKind.i64 1)), (1, (Value.string { data := #[98] })), (3, (Value.int IntKind.i64 3)), (4, (Value.bool true))]) h fun v2 h =>
  okK (aBuildSlice Try.prog 22 2 [(0, v1), (1, v2)] h) fun v3 h =>
  vK (aBuild Try.prog 24 [(1, v3)]) h fun v4 h =>
  okK ((aStore Try.prog 24 v0 v4 h).map (undef, ·)) fun _ h =>
  retV [aLoad Try.prog 24 v0 h] R h
def lv40 (q : Nat) : List Nat := []
theorem ok40 : lkOK Try.prog lv40 Try.f40 0 (Try.f40.body.getD .skip) 40 = true := by kernel_rfl
theorem e40 (h : Heap) (R : Value → Heap → Prop) : n40  h R = wpK Try.prog lv40 (Try.f40.body.getD .skip) (endK Try.prog [.cell 0 24] R) (argT []) h := by kernel_rfl
theorem w40 {h : Heap} {R : Value → Heap → Prop} (hn : n40  h R) : DetP Try.prog 40 [] h R :=
  DetP.of_code (rs := [.cell 0 24]) (n := 0) Try.func40 (by kernel_rfl) (by kernel_rfl) lv40 ok40 rfl ((e40  h R) ▸ hn)

/-! ### examiner/clock.next: function 49 -/
def n49 (a0 : Value) (h : Heap) (R : Value → Heap → Prop) : Prop :=
  okK (some (aBox Try.prog 24 a0 h)) fun v1 h =>
  mvK (Value.int IntKind.i64 0) h fun v2 h =>
  mvK (Value.int IntKind.i64 (-1)) h fun v3 h =>
  vK (aFieldAddr Try.prog 24 v1 1) h fun v6 h =>
  vK (aLoad Try.prog 22 v6 h) h fun v7 h =>
  vK (aLen Try.prog 22 v7) h fun v8 h =>
  mvK (Value.int IntKind.i64 0) h fun v9 h =>
  ∃ (I3 : List Value → Heap → Prop) (μ3 : List Value → Heap → Nat), I3 [v3, v9] h ∧
  ∀ (h3 : Heap) (j3 : Tmps) (v3_1 : Value) (v9_1 : Value), I3 [v3_1, v9_1] h3 → (let h := h3
   vK (aBin Try.prog BinOp.lss 3 v9_1 v8) h fun v10 h =>
   cnd v10 (
    seqK (fun k0 =>
     vK (aIndexAddr Try.prog 22 v7 v9_1) h fun v11 h =>
     vK (aLoad Try.prog 44 v11 h) h fun v12 h =>
     okK (aAlloc Try.prog 44 h) fun v5 h =>
     okK ((aStore Try.prog 44 v5 v12 h).map (undef, ·)) fun _ h =>
     vK (aFieldAddr Try.prog 44 v5 4) h fun v13 h =>
     vK (aLoad Try.prog 4 v13 h) h fun v14 h =>
     mvK v14 h fun v15 h =>
     gdK v15 true (fun k1 =>
      mvK v3_1 h fun v16 h =>
      k1 v16 h) (fun v16_1 h =>
      gdK v15 true (fun k2 =>
       vK (aBin Try.prog BinOp.lss 3 v16_1 (Value.int IntKind.i64 0)) h fun v17 h =>
       k2 v17 h) (fun v17_1 h =>
       gdK v15 true (fun k3 =>
        mvK v17_1 h fun v18 h =>
        k3 v18 h) (fun v18_1 h =>
        gdK v18_1 false (fun k4 =>
         vK (aFieldAddr Try.prog 44 v5 3) h fun v19 h =>
         k4 v19 h) (fun v19_1 h =>
         gdK v18_1 false (fun k5 =>
          vK (aLoad Try.prog 3 v19_1 h) h fun v20 h =>
          k5 v20 h) (fun v20_1 h =>
          gdK v18_1 false (fun k6 =>
           mvK v3_1 h fun v21 h =>
           k6 v21 h) (fun v21_1 h =>
           gdK v18_1 false (fun k7 =>
            vK (aBin Try.prog BinOp.lss 3 v20_1 v21_1) h fun v22 h =>
            k7 v22 h) (fun v22_1 h =>
            gdK v15 true (fun k8 =>
             vK (pickV v18_1 (Value.bool true) v22_1) h fun v23 h =>
             k8 v23 h) (fun v23_1 h =>
             vK (pickV v15 v23_1 (Value.bool false)) h fun v24 h =>
             cnd v24 (
              vK (aFieldAddr Try.prog 44 v5 3) h fun v25 h =>
              vK (aLoad Try.prog 3 v25 h) h fun v26 h =>
              mvK v26 h fun v3_2 h =>
              k0 [v3_2] h) (
              k0 [v3_1] h)) h) h) h) h) h) h) h) h) fun x0 h => ∀ jx0 : Tmps,
     let v3_3 : Value := nth x0 0
     vK (aBin Try.prog BinOp.add 3 v9_1 (Value.int IntKind.i64 1)) h fun v27 h =>
     mvK v27 h fun v9_2 h =>
     I3 [v3_3, v9_2] h ∧ μ3 [v3_3, v9_2] h < μ3 [v3_1, v9_1] h3) (
    mvK v3_1 h fun v28 h =>
    mvK v28 h fun v2_1 h =>
    retV [some v2_1] R h))
def lv49 (q : Nat) : List Nat := bif Nat.beq q 6 then [268434984, 3, 9] else bif Nat.beq q 15 then [134215720, 3] else []
theorem ok49 : lkOK Try.prog lv49 Try.f49 1 (Try.f49.body.getD .skip) 49 = true := by kernel_rfl
theorem e49 (a0 : Value) (h : Heap) (R : Value → Heap → Prop) : n49 a0 h R = wpK Try.prog lv49 (Try.f49.body.getD .skip) (endK Try.prog [.tmp 2] R) (argT [a0]) h := by kernel_rfl
theorem w49 {a0 : Value} {h : Heap} {R : Value → Heap → Prop} (hn : n49 a0 h R) : DetP Try.prog 49 [a0] h R :=
  DetP.of_code (rs := [.tmp 2]) (n := 1) Try.func49 (by kernel_rfl) (by kernel_rfl) lv49 ok49 rfl ((e49 a0 h R) ▸ hn)

/-! ### examiner/clock.own: function 50 -/
def n50 (a0 : Value) (h : Heap) (R : Value → Heap → Prop) : Prop :=
  okK (some (aBox Try.prog 24 a0 h)) fun v1 h =>
  okK (aAlloc Try.prog 24 h) fun v2 h =>
  vK (aFieldAddr Try.prog 24 v1 1) h fun v3 h =>
  vK (aLoad Try.prog 22 v3 h) h fun v4 h =>
  cK Try.prog 74 [v4] h fun v5 h =>
  vK (aFieldAddr Try.prog 24 v1 1) h fun v6 h =>
  okK ((aStore Try.prog 22 v6 v5 h).map (undef, ·)) fun _ h =>
  vK (aLoad Try.prog 24 v1 h) h fun v7 h =>
  okK ((aStore Try.prog 24 v2 v7 h).map (undef, ·)) fun _ h =>
  retV [aLoad Try.prog 24 v2 h] R h
def lv50 (q : Nat) : List Nat := []
theorem ok50 : lkOK Try.prog lv50 Try.f50 1 (Try.f50.body.getD .skip) 50 = true := by kernel_rfl
theorem e50 (a0 : Value) (h : Heap) (R : Value → Heap → Prop) : n50 a0 h R = wpK Try.prog lv50 (Try.f50.body.getD .skip) (endK Try.prog [.cell 2 24] R) (argT [a0]) h := by kernel_rfl
theorem w50 {a0 : Value} {h : Heap} {R : Value → Heap → Prop} (hn : n50 a0 h R) : DetP Try.prog 50 [a0] h R :=
  DetP.of_code (rs := [.cell 2 24]) (n := 1) Try.func50 (by kernel_rfl) (by kernel_rfl) lv50 ok50 rfl ((e50 a0 h R) ▸ hn)

/-! ### examiner/clock.anyErr: function 52 -/
def n52 (a0 a1 a2 : Value) (h : Heap) (R : Value → Heap → Prop) : Prop :=
  okK (some (aBox Try.prog 24 a0 h)) fun v3 h =>
  mvK (Value.int IntKind.i64 0) h fun v6 h =>
  mvK a2 h fun v7 h =>
  vK (aBin Try.prog BinOp.eql 9 v7 (Value.string { data := #[] })) h fun v8 h =>
  cnd v8 (
   vK (aLoad Try.prog 24 v3 h) h fun v9 h =>
   cK Try.prog 48 [v9] h fun v10 h =>
   mvK a1 h fun v11 h =>
   cK Try.prog 43 [v11] h fun v12 h =>
   okK (aBuildSlice Try.prog 88 2 [(0, v10), (1, v12)] h) fun v13 h =>
   cK Try.prog 42 [v13] h fun v14 h =>
   mvK v14 h fun v6_1 h =>
   retV [some v6_1] R h) (
   vK (aLoad Try.prog 24 v3 h) h fun v15 h =>
   mvK a1 h fun v16 h =>
   mvK a2 h fun v17 h =>
   cK Try.prog 55 [v15, v16, v17] h fun v18 h =>
   mvK v18 h fun v6_2 h =>
   retV [some v6_2] R h)
def lv52 (q : Nat) : List Nat := []
theorem ok52 : lkOK Try.prog lv52 Try.f52 3 (Try.f52.body.getD .skip) 52 = true := by kernel_rfl
theorem e52 (a0 a1 a2 : Value) (h : Heap) (R : Value → Heap → Prop) : n52 a0 a1 a2 h R = wpK Try.prog lv52 (Try.f52.body.getD .skip) (endK Try.prog [.tmp 6] R) (argT [a0, a1, a2]) h := by kernel_rfl
theorem w52 {a0 a1 a2 : Value} {h : Heap} {R : Value → Heap → Prop} (hn : n52 a0 a1 a2 h R) : DetP Try.prog 52 [a0, a1, a2] h R :=
  DetP.of_code (rs := [.tmp 6]) (n := 3) Try.func52 (by kernel_rfl) (by kernel_rfl) lv52 ok52 rfl ((e52 a0 a1 a2 h R) ▸ hn)

/-! ### examiner/clock.namedErr: function 55 -/
def n55 (a0 a1 a2 : Value) (h : Heap) (R : Value → Heap → Prop) : Prop :=
  okK (some (aBox Try.prog 24 a0 h)) fun v3 h =>
  mvK (Value.int IntKind.i64 0) h fun v6 h =>
  vK (aLoad Try.prog 24 v3 h) h fun v8 h =>
  cK Try.prog 48 [v8] h fun v9 h =>
  mvK a1 h fun v10 h =>
  cK Try.prog 43 [v10] h fun v11 h =>
  mvK a2 h fun v12 h =>
  cK Try.prog 44 [v12] h fun v13 h =>
  okK (aBuildSlice Try.prog 88 3 [(0, v9), (1, v11), (2, v13)] h) fun v14 h =>
  cK Try.prog 42 [v14] h fun v15 h =>
  mvK v15 h fun v7 h =>
  seqK (fun k0 =>
   mvK v7 h fun v16 h =>
   vK (aBin Try.prog BinOp.eql 27 v16 (Value.int IntKind.i64 0)) h fun v17 h =>
   mvK v17 h fun v18 h =>
   gdK v18 true (fun k1 =>
    vK (aLoad Try.prog 24 v3 h) h fun v19 h =>
    k1 v19 h) (fun v19_1 h =>
    gdK v18 true (fun k2 =>
     mvK a1 h fun v20 h =>
     k2 v20 h) (fun v20_1 h =>
     gdK v18 true (fun k3 =>
      mvK a2 h fun v21 h =>
      k3 v21 h) (fun v21_1 h =>
      gdK v18 true (fun k4 =>
       cK Try.prog 56 [v19_1, v20_1, v21_1] h fun v22 h =>
       k4 v22 h) (fun v22_1 h =>
       gdK v18 true (fun k5 =>
        vK (aBin Try.prog BinOp.lss 3 v22_1 (Value.int IntKind.i64 0)) h fun v23 h =>
        k5 v23 h) (fun v23_1 h =>
        vK (pickV v18 v23_1 (Value.bool false)) h fun v24 h =>
        cnd v24 (
         mvK (Value.int IntKind.i64 11) h fun v7_1 h =>
         k0 [v7_1] h) (
         k0 [v7] h)) h) h) h) h) h) fun x0 h => ∀ jx0 : Tmps,
   let v7_2 : Value := nth x0 0
   mvK v7_2 h fun v25 h =>
   mvK v25 h fun v6_1 h =>
   retV [some v6_1] R h
def lv55 (q : Nat) : List Nat := bif Nat.beq q 9 then [33489024, 7] else []
theorem ok55 : lkOK Try.prog lv55 Try.f55 3 (Try.f55.body.getD .skip) 55 = true := by kernel_rfl
theorem e55 (a0 a1 a2 : Value) (h : Heap) (R : Value → Heap → Prop) : n55 a0 a1 a2 h R = wpK Try.prog lv55 (Try.f55.body.getD .skip) (endK Try.prog [.tmp 6] R) (argT [a0, a1, a2]) h := by kernel_rfl
theorem w55 {a0 a1 a2 : Value} {h : Heap} {R : Value → Heap → Prop} (hn : n55 a0 a1 a2 h R) : DetP Try.prog 55 [a0, a1, a2] h R :=
  DetP.of_code (rs := [.tmp 6]) (n := 3) Try.func55 (by kernel_rfl) (by kernel_rfl) lv55 ok55 rfl ((e55 a0 a1 a2 h R) ▸ hn)

/-! ### examiner/clock.find: function 56 -/
def n56 (a0 a1 a2 : Value) (h : Heap) (R : Value → Heap → Prop) : Prop :=
  okK (some (aBox Try.prog 24 a0 h)) fun v3 h =>
  okK (some (aBox Try.prog 3 a1 h)) fun v4 h =>
  okK (some (aBox Try.prog 9 a2 h)) fun v5 h =>
  mvK (Value.int IntKind.i64 0) h fun v6 h =>
  vK (aFieldAddr Try.prog 24 v3 1) h fun v7 h =>
  vK (aLoad Try.prog 22 v7 h) h fun v8 h =>
  mvK (Value.func (Fn.func 76) #[] #[v4, v5]) h fun v9 h =>
  cK Try.prog 75 [v8, v9] h fun v10 h =>
  mvK v10 h fun v6_1 h =>
  retV [some v6_1] R h
def lv56 (q : Nat) : List Nat := []
theorem ok56 : lkOK Try.prog lv56 Try.f56 3 (Try.f56.body.getD .skip) 56 = true := by kernel_rfl
theorem e56 (a0 a1 a2 : Value) (h : Heap) (R : Value → Heap → Prop) : n56 a0 a1 a2 h R = wpK Try.prog lv56 (Try.f56.body.getD .skip) (endK Try.prog [.tmp 6] R) (argT [a0, a1, a2]) h := by kernel_rfl
theorem w56 {a0 a1 a2 : Value} {h : Heap} {R : Value → Heap → Prop} (hn : n56 a0 a1 a2 h R) : DetP Try.prog 56 [a0, a1, a2] h R :=
  DetP.of_code (rs := [.tmp 6]) (n := 3) Try.func56 (by kernel_rfl) (by kernel_rfl) lv56 ok56 rfl ((e56 a0 a1 a2 h R) ▸ hn)

/-! ### examiner/examinerref27.Find: function 57 -/
def n57 (a0 a1 a2 : Value) (h : Heap) (R : Value → Heap → Prop) : Prop :=
  okK (some (aBox Try.prog 24 a0 h)) fun v3 h =>
  mvK (Value.int IntKind.i64 0) h fun v6 h =>
  mvK (Value.int IntKind.i64 0) h fun v7 h =>
  ∃ (I2 : List Value → Heap → Prop) (μ2 : List Value → Heap → Nat), I2 [v7] h ∧
  ∀ (h2 : Heap) (j2 : Tmps) (v7_1 : Value), I2 [v7_1] h2 → (let h := h2
   mvK v7_1 h fun v8 h =>
   vK (aFieldAddr Try.prog 24 v3 1) h fun v9 h =>
   vK (aLoad Try.prog 22 v9 h) h fun v10 h =>
   vK (aLen Try.prog 22 v10) h fun v11 h =>
   vK (aBin Try.prog BinOp.lss 3 v8 v11) h fun v12 h =>
   cnd v12 (
    vK (aFieldAddr Try.prog 24 v3 1) h fun v15 h =>
    vK (aLoad Try.prog 22 v15 h) h fun v16 h =>
    mvK v7_1 h fun v17 h =>
    vK (aIndexAddr Try.prog 22 v16 v17) h fun v18 h =>
    vK (aFieldAddr Try.prog 44 v18 0) h fun v19 h =>
    vK (aLoad Try.prog 3 v19 h) h fun v20 h =>
    mvK a1 h fun v21 h =>
    vK (aBin Try.prog BinOp.eql 3 v20 v21) h fun v22 h =>
    mvK v22 h fun v23 h =>
    gdK v23 true (fun k0 =>
     vK (aFieldAddr Try.prog 24 v3 1) h fun v24 h =>
     k0 v24 h) (fun v24_1 h =>
     gdK v23 true (fun k1 =>
      vK (aLoad Try.prog 22 v24_1 h) h fun v25 h =>
      k1 v25 h) (fun v25_1 h =>
      gdK v23 true (fun k2 =>
       mvK v7_1 h fun v26 h =>
       k2 v26 h) (fun v26_1 h =>
       gdK v23 true (fun k3 =>
        vK (aIndexAddr Try.prog 22 v25_1 v26_1) h fun v27 h =>
        k3 v27 h) (fun v27_1 h =>
        gdK v23 true (fun k4 =>
         vK (aFieldAddr Try.prog 44 v27_1 1) h fun v28 h =>
         k4 v28 h) (fun v28_1 h =>
         gdK v23 true (fun k5 =>
          vK (aLoad Try.prog 9 v28_1 h) h fun v29 h =>
          k5 v29 h) (fun v29_1 h =>
          gdK v23 true (fun k6 =>
           mvK a2 h fun v30 h =>
           k6 v30 h) (fun v30_1 h =>
           gdK v23 true (fun k7 =>
            vK (aBin Try.prog BinOp.eql 9 v29_1 v30_1) h fun v31 h =>
            k7 v31 h) (fun v31_1 h =>
            vK (pickV v23 v31_1 (Value.bool false)) h fun v32 h =>
            cnd v32 (
             mvK v7_1 h fun v33 h =>
             mvK v33 h fun v6_1 h =>
             retV [some v6_1] R h) (
             mvK v7_1 h fun v13 h =>
             vK (aBin Try.prog BinOp.add 3 v13 (Value.int IntKind.i64 1)) h fun v14 h =>
             mvK v14 h fun v7_2 h =>
             I2 [v7_2] h ∧ μ2 [v7_2] h < μ2 [v7_1] h2)) h) h) h) h) h) h) h) h) (
    mvK (Value.int IntKind.i64 (-1)) h fun v6_2 h =>
    retV [some v6_2] R h))
def lv57 (q : Nat) : List Nat := bif Nat.beq q 4 then [17179869120, 7] else []
theorem ok57 : lkOK Try.prog lv57 Try.f57 3 (Try.f57.body.getD .skip) 57 = true := by kernel_rfl
theorem e57 (a0 a1 a2 : Value) (h : Heap) (R : Value → Heap → Prop) : n57 a0 a1 a2 h R = wpK Try.prog lv57 (Try.f57.body.getD .skip) (endK Try.prog [.tmp 6] R) (argT [a0, a1, a2]) h := by kernel_rfl
theorem w57 {a0 a1 a2 : Value} {h : Heap} {R : Value → Heap → Prop} (hn : n57 a0 a1 a2 h R) : DetP Try.prog 57 [a0, a1, a2] h R :=
  DetP.of_code (rs := [.tmp 6]) (n := 3) Try.func57 (by kernel_rfl) (by kernel_rfl) lv57 ok57 rfl ((e57 a0 a1 a2 h R) ▸ hn)

/-! ### slices.BinarySearchFunc[[]examiner/api.ClockTimer,examiner/api.ClockTimer,examiner/api.ClockTimer]: function 58 -/
/-! ### examiner/clock.Dropped$1: function 61 -/
/-! ### slices.Clone[[]examiner/api.ClockTimer,examiner/api.ClockTimer]: function 74 -/
def n74 (a0 : Value) (h : Heap) (R : Value → Heap → Prop) : Prop :=
  mvK (Value.slice none 0 0) h fun v2 h =>
  mvK a0 h fun v3 h =>
  vK (aBin Try.prog BinOp.eql 22 v3 (Value.slice none 0 0)) h fun v4 h =>
  cnd v4 (
   mvK (Value.slice none 0 0) h fun v2_1 h =>
   retV [some v2_1] R h) (
   okK (aBuildSlice Try.prog 22 0 [] h) fun v5 h =>
   mvK a0 h fun v6 h =>
   okK (aAppend Try.prog 22 22 v5 v6 h) fun v7 h =>
   mvK v7 h fun v2_2 h =>
   retV [some v2_2] R h)
def lv74 (q : Nat) : List Nat := []
theorem ok74 : lkOK Try.prog lv74 Try.f74 1 (Try.f74.body.getD .skip) 74 = true := by kernel_rfl
theorem e74 (a0 : Value) (h : Heap) (R : Value → Heap → Prop) : n74 a0 h R = wpK Try.prog lv74 (Try.f74.body.getD .skip) (endK Try.prog [.tmp 2] R) (argT [a0]) h := by kernel_rfl
theorem w74 {a0 : Value} {h : Heap} {R : Value → Heap → Prop} (hn : n74 a0 h R) : DetP Try.prog 74 [a0] h R :=
  DetP.of_code (rs := [.tmp 2]) (n := 1) Try.func74 (by kernel_rfl) (by kernel_rfl) lv74 ok74 rfl ((e74 a0 h R) ▸ hn)

/-! ### slices.IndexFunc[[]examiner/api.ClockTimer,examiner/api.ClockTimer]: function 75 -/
def n75 (a0 a1 : Value) (h : Heap) (R : Value → Heap → Prop) : Prop :=
  mvK (Value.int IntKind.i64 0) h fun v4 h =>
  mvK a0 h fun v6 h =>
  vK (aLen Try.prog 22 v6) h fun v7 h =>
  mvK (Value.int IntKind.i64 0) h fun v8 h =>
  ∃ (I2 : List Value → Heap → Prop) (μ2 : List Value → Heap → Nat), I2 [v8] h ∧
  ∀ (h2 : Heap) (j2 : Tmps) (v8_1 : Value), I2 [v8_1] h2 → (let h := h2
   vK (aBin Try.prog BinOp.lss 3 v8_1 v7) h fun v9 h =>
   cnd v9 (
    mvK v8_1 h fun v10 h =>
    mvK v10 h fun v5 h =>
    mvK a1 h fun v11 h =>
    mvK a0 h fun v12 h =>
    mvK v5 h fun v13 h =>
    vK (aIndexAddr Try.prog 22 v12 v13) h fun v14 h =>
    vK (aLoad Try.prog 44 v14 h) h fun v15 h =>
    callK Try.prog (fnOf v11 [v15]) h fun v16 h =>
    cnd v16 (
     mvK v5 h fun v17 h =>
     mvK v17 h fun v4_1 h =>
     retV [some v4_1] R h) (
     vK (aBin Try.prog BinOp.add 3 v8_1 (Value.int IntKind.i64 1)) h fun v18 h =>
     mvK v18 h fun v8_2 h =>
     I2 [v8_2] h ∧ μ2 [v8_2] h < μ2 [v8_1] h2)) (
    mvK (Value.int IntKind.i64 (-1)) h fun v4_2 h =>
    retV [some v4_2] R h))
def lv75 (q : Nat) : List Nat := bif Nat.beq q 4 then [524080, 8] else []
theorem ok75 : lkOK Try.prog lv75 Try.f75 2 (Try.f75.body.getD .skip) 75 = true := by kernel_rfl
theorem e75 (a0 a1 : Value) (h : Heap) (R : Value → Heap → Prop) : n75 a0 a1 h R = wpK Try.prog lv75 (Try.f75.body.getD .skip) (endK Try.prog [.tmp 4] R) (argT [a0, a1]) h := by kernel_rfl
theorem w75 {a0 a1 : Value} {h : Heap} {R : Value → Heap → Prop} (hn : n75 a0 a1 h R) : DetP Try.prog 75 [a0, a1] h R :=
  DetP.of_code (rs := [.tmp 4]) (n := 2) Try.func75 (by kernel_rfl) (by kernel_rfl) lv75 ok75 rfl ((e75 a0 a1 h R) ▸ hn)

end Go.Proofs.Ytalnnkpdpjmmkaa

set_option linter.unusedSimpArgs false
set_option linter.unusedVariables false
set_option maxRecDepth 100000
set_option maxHeartbeats 4000000
namespace Go.Proofs.Ytalnnkpdpjmmkaa
open Go.AM
variable {h : Heap}
structure Tim where
  owner : Int
  name : ByteArray
  since : Int
  due : Int
  running : Bool
  expired : Bool
  deriving DecidableEq
instance : Flat Tim := ⟨6, fun t => [.int .i64 t.owner, .string t.name, .int .i64 t.since, .int .i64 t.due, .bool t.running, .bool t.expired], fun _ => rfl, fun _ => rfl⟩
instance : Df Tim := ⟨⟨0, ⟨#[]⟩, 0, 0, false, false⟩⟩
structure Clk where
  now : Int
  timers : List Tim
def ClkV (h : Heap) (v : Value) (c : Clk) : Prop := ∃ tv, v = .agg #[.int .i64 c.now, tv] ∧ L h tv c.timers
theorem ClkV.mono {h h' : Heap} {v : Value} {c : Clk} (s : ClkV h v c) (hs : Stab h h') : ClkV h' v c := by
  obtain ⟨tv, e, l⟩ := s
  exact ⟨tv, e, l.mono hs⟩
/-! ### orders -/
def cmpI (a b : Int) : Int := if a < b then -1 else if b < a then 1 else 0
theorem c83 (a : Int) : Runs Try.prog 83 [.int .i64 a] h (.bool false) h := by
  refine DetP.runs (w83 ?_)
  unfold n83
  ((with_reducible (refine mv_i ?_; refine mv_i ?_; refine mv_i ?_; refine neq_i (fun hc => ?_) (fun hc => ?_); refine mv_i ?_; refine ret1 ?_));
      (rotate_left);
      (with_reducible (refine mv_i ?_; refine ret1 ?_));
      (rotate_left))
  all_goals first | exact ⟨rfl, rfl⟩ | (exfalso; simp_all; done)
theorem c71 (a b : Int) : Runs Try.prog 71 [.int .i64 a, .int .i64 b] h (.int .i64 (cmpI a b)) h := by
  refine DetP.runs (w71 ?_)
  unfold n71
  ((with_reducible (refine mv_i ?_; refine mv_i ?_));
      (refine call_r (c83 _) ?_);
      (with_reducible (refine mv_i ?_; refine mv_i ?_));
      (refine call_r (c83 _) ?_);
      (with_reducible (refine mv_i ?_; refine mv_i ?_; refine cnd_f ?_; refine mv_i ?_; refine cnd_f ?_; refine mv_i ?_; refine mv_i ?_; refine lss_i (fun hc => ?_) (fun hc => ?_); refine cnd_t ?_; refine mv_i ?_; refine ret1 ?_));
      (rotate_left);
      (with_reducible (refine cnd_f ?_; refine mv_i ?_; refine mv_i ?_; refine gtr_i (fun hc => ?_) (fun hc => ?_); refine cnd_t ?_; refine mv_i ?_; refine ret1 ?_));
      (rotate_left);
      (with_reducible (refine cnd_f ?_; refine mv_i ?_; refine ret1 ?_));
      (rotate_left))
  all_goals exact ⟨by unfold cmpI; simp_all <;> omega, rfl⟩
theorem c42 {x : Value} {xs : List Int} (s : IntS h x xs) : Runs Try.prog 42 [x] h (.int .i64 (orOf xs)) h := by
  have lt := s.lt
  refine DetP.runs (w42 ?_)
  unfold n42
  ((with_reducible (refine mv_i ?_; refine mv_i ?_; refine mv_i ?_; refine leni_t (by assumption) ?_; refine mv_i ?_)))
  refine loop1 xs.length (fun k h2 => h = h2 ∧ ∀ j, j < k → xs.getD j 0 = 0) ⟨rfl, fun j hj => by omega⟩ ?_
  rintro k _ _ hk ⟨rfl, hJ⟩
  ((with_reducible (refine lss_i (fun hc => ?_) (fun hc => ?_); refine cnd_t ?_));
      (refine idxi_t (by assumption) (by omega) ?_);
      (refine ldi_t (by assumption) (by omega) ?_);
      (with_reducible (refine mv_i ?_; refine mv_i ?_; refine mv_i ?_; refine neq_i (fun hc => ?_) (fun hc => ?_); refine cnd_f ?_; refine inc_i (by omega) ?_; refine mv_i ?_));
      (rotate_left);
      (with_reducible (refine cnd_t ?_; refine mv_i ?_; refine mv_i ?_; refine ret1 ?_));
      (rotate_left);
      (with_reducible (refine cnd_f ?_; refine mv_i ?_; refine mv_i ?_; refine ret1 ?_));
      (rotate_left))
  · refine next1 (by omega) ⟨rfl, fun j hj => ?_⟩
    by_cases q : j = k
    · subst q; assumption
    · exact hJ j (by omega)
  · exact ⟨by rw [orOf_at (by omega) hJ (by assumption)], rfl⟩
  · exact ⟨by rw [orOf_no fun j hj => hJ j (by omega)], rfl⟩
theorem c70 {x : Value} {xs : List Int} (s : IntS h x xs) : Runs Try.prog 70 [x] h (.int .i64 (orOf xs)) h := by
  have lt := s.lt
  refine DetP.runs (w70 ?_)
  unfold n70
  ((with_reducible (refine mv_i ?_; refine mv_i ?_; refine mv_i ?_; refine leni_t (by assumption) ?_; refine mv_i ?_)))
  refine loop1 xs.length (fun k h2 => h = h2 ∧ ∀ j, j < k → xs.getD j 0 = 0) ⟨rfl, fun j hj => by omega⟩ ?_
  rintro k _ _ hk ⟨rfl, hJ⟩
  ((with_reducible (refine lss_i (fun hc => ?_) (fun hc => ?_); refine cnd_t ?_));
      (refine idxi_t (by assumption) (by omega) ?_);
      (refine ldi_t (by assumption) (by omega) ?_);
      (with_reducible (refine mv_i ?_; refine mv_i ?_; refine mv_i ?_; refine neq_i (fun hc => ?_) (fun hc => ?_); refine cnd_f ?_; refine inc_i (by omega) ?_; refine mv_i ?_));
      (rotate_left);
      (with_reducible (refine cnd_t ?_; refine mv_i ?_; refine mv_i ?_; refine ret1 ?_));
      (rotate_left);
      (with_reducible (refine cnd_f ?_; refine mv_i ?_; refine mv_i ?_; refine ret1 ?_));
      (rotate_left))
  · refine next1 (by omega) ⟨rfl, fun j hj => ?_⟩
    by_cases q : j = k
    · subst q; assumption
    · exact hJ j (by omega)
  · exact ⟨by rw [orOf_at (by omega) hJ (by assumption)], rfl⟩
  · exact ⟨by rw [orOf_no fun j hj => hJ j (by omega)], rfl⟩
theorem bs88_2 (a b : Int) (h : Heap) : aBuildSlice Try.prog 88 2 [(0, .int .i64 a), (1, .int .i64 b)] h = some (.slice (some ⟨h.length, 0, none⟩) 2 3, newArr h [.int .i64 a, .int .i64 b] 1) := by kernel_rfl
theorem bs88_3 (a b c : Int) (h : Heap) : aBuildSlice Try.prog 88 3 [(0, .int .i64 a), (1, .int .i64 b), (2, .int .i64 c)] h = some (.slice (some ⟨h.length, 0, none⟩) 3 4, newArr h [.int .i64 a, .int .i64 b, .int .i64 c] 1) := by kernel_rfl
theorem bs33_2 (a b : Int) (h : Heap) : aBuildSlice Try.prog 33 2 [(0, .int .i64 a), (1, .int .i64 b)] h = some (.slice (some ⟨h.length, 0, none⟩) 2 3, newArr h [.int .i64 a, .int .i64 b] 1) := by kernel_rfl
def cmpT (a b : Tim) : Int := orOf [cmpI a.owner b.owner, Extern.BytealgCompare.cmp a.name b.name]
theorem c45 (a b : Tim) : Runs Try.prog 45 [fv a, fv b] h (.int .i64 (cmpT a b)) h := by
  have m := Mem.start h
  refine DetP.forget rfl ?_
  refine w45 ?_
  unfold n45
  ((with_reducible (refine box_a (by assumption) fun i h z p m => ?_; refine box_a (by assumption) fun i h z p m => ?_; refine mv_i ?_; refine fao ?_));
      (refine ldo (by assumption) (q := by infer_instance) (by with_unfolding_all rfl) ?_);
      (refine vb_n (by with_unfolding_all rfl) ?_);
      (with_reducible (refine fao ?_));
      (refine ldo (by assumption) (q := by infer_instance) (by with_unfolding_all rfl) ?_);
      (refine vb_n (by with_unfolding_all rfl) ?_);
      (refine calld_r (c71 _ _) ?_);
      (with_reducible (refine new_n ?_; refine fao ?_));
      (refine ldo (by assumption) (q := by infer_instance) (by with_unfolding_all rfl) ?_);
      (refine vb_n (by with_unfolding_all rfl) ?_);
      (with_reducible (refine fao ?_));
      (refine ldo (by assumption) (q := by infer_instance) (by with_unfolding_all rfl) ?_);
      (refine vb_n (by with_unfolding_all rfl) ?_);
      (refine calld_r (c72 _ _) ?_);
      (with_reducible (refine new_n ?_));
      (refine bs_g (bs88_2 _ _ _) (by assumption) fun i h p m => ?_);
      (refine calld_r (c70 (own_ints (xs := [_, _]) (by assumption) (q := by infer_instance) rfl rfl (by decide))) ?_);
      (with_reducible (refine new_n ?_; refine mv_i ?_; refine ret1 ?_)))
  exact ⟨rfl, Mem.pre (by assumption)⟩
def less (a b : Tim) : Bool := decide (a.owner < b.owner ∨ (a.owner = b.owner ∧ Op.bytesLess a.name.toList b.name.toList = true))
theorem c64 (a b : Tim) : Runs Try.prog 64 [fv a, fv b] h (.bool (less a b)) h := by
  have m := Mem.start h
  refine DetP.forget rfl ?_
  refine w64 ?_
  unfold n64
  ((with_reducible (refine box_a (by assumption) fun i h z p m => ?_; refine box_a (by assumption) fun i h z p m => ?_; refine mv_i ?_; refine fao ?_));
      (refine ldo (by assumption) (q := by infer_instance) (by with_unfolding_all rfl) ?_);
      (with_reducible (refine fao ?_));
      (refine ldo (by assumption) (q := by infer_instance) (by with_unfolding_all rfl) ?_);
      (with_reducible (refine lss_i (fun hc => ?_) (fun hc => ?_); refine mv_i ?_; refine gd_tf ?_; refine gd_tf ?_; refine gd_tf ?_; refine gd_tf ?_; refine gd_tf ?_; refine gd_tf ?_; refine gd_u ?_; refine gd_u ?_; refine gd_u ?_; refine gd_u ?_; refine gd_u ?_; refine gd_tf ?_; refine pick_t ?_; refine mv_i ?_; refine ret1 ?_));
      (rotate_left);
      (with_reducible (refine mv_i ?_; refine gd_ff ?_; refine fao ?_; refine gd_ff ?_));
      (refine ldo (by assumption) (q := by infer_instance) (by with_unfolding_all rfl) ?_);
      (with_reducible (refine gd_ff ?_; refine fao ?_; refine gd_ff ?_));
      (refine ldo (by assumption) (q := by infer_instance) (by with_unfolding_all rfl) ?_);
      (with_reducible (refine gd_ff ?_; refine eql_i (fun hc => ?_) (fun hc => ?_); refine gd_ff ?_; refine mv_i ?_; refine gd_tt ?_; refine fao ?_; refine gd_tt ?_));
      (refine ldo (by assumption) (q := by infer_instance) (by with_unfolding_all rfl) ?_);
      (with_reducible (refine gd_tt ?_; refine fao ?_; refine gd_tt ?_));
      (refine ldo (by assumption) (q := by infer_instance) (by with_unfolding_all rfl) ?_);
      (with_reducible (refine gd_tt ?_; refine sls_i ?_; refine gd_ff ?_; refine pick_t ?_; refine pick_f ?_; refine mv_i ?_; refine ret1 ?_));
      (rotate_left);
      (with_reducible (refine gd_ff ?_; refine mv_i ?_; refine gd_ft ?_; refine gd_ft ?_; refine gd_ft ?_; refine gd_ft ?_; refine gd_ft ?_; refine gd_ff ?_; refine pick_f ?_; refine pick_f ?_; refine mv_i ?_; refine ret1 ?_));
      (rotate_left))
  all_goals exact ⟨by simp_all [less], Mem.pre (by assumption)⟩
def stE (now : Int) (t : Tim) : Int :=
  if t.running = true ∧ t.expired = true then 28
  else if t.running = false ∧ t.expired = false then (if t.since ≠ 0 ∨ t.due ≠ 0 then 5 else 0)
  else if ¬ (0 ≤ t.since ∧ t.since ≤ now) ∨ ¬ (t.since ≤ t.due ∧ t.due ≤ 1099511627776) ∨ (t.running = true ∧ t.due < now) ∨ (t.expired = true ∧ now < t.due) then 3 else 0
theorem c46 (now : Int) (t : Tim) : Runs Try.prog 46 [.int .i64 now, fv t] h (.int .i64 (stE now t)) h := by
  have m := Mem.start h
  refine DetP.forget rfl ?_
  refine w46 ?_
  unfold n46
  ((with_reducible (refine box_a (by assumption) fun i h z p m => ?_; refine mv_i ?_; refine fao ?_));
      (refine ldo (by assumption) (q := by infer_instance) (by with_unfolding_all rfl) ?_);
      (with_reducible (refine not_s (fun hb => ?_) (fun hb => ?_); refine mv_i ?_; refine gd_ft ?_; refine gd_ft ?_; refine gd_ft ?_; refine pick_f ?_; refine mv_i ?_; refine fao ?_));
      (refine ldo (by assumption) (q := by infer_instance) (by with_unfolding_all rfl) ?_);
      (with_reducible (refine mv_i ?_; refine gd_ht (by assumption) ?_; refine fao ?_; refine gd_ht (by assumption) ?_));
      (refine ldo (by assumption) (q := by infer_instance) (by with_unfolding_all rfl) ?_);
      (with_reducible (refine pick_h (by assumption) ?_; refine mv_i ?_; refine cnd_b (fun hb => ?_) (fun hb => ?_); refine mv_i ?_; refine ret1 ?_));
      (rotate_left);
      (with_reducible (refine mv_i ?_; refine mv_i ?_; refine gd_ft ?_; refine gd_ft ?_; refine gd_ft ?_; refine gd_ft ?_; refine gd_u ?_; refine gd_u ?_; refine gd_u ?_; refine gd_ft ?_; refine pick_f ?_; refine mv_i ?_; refine cnd_f ?_; refine mv_i ?_; refine mv_i ?_; refine cnd_f ?_; refine seq_i ?_; refine fao ?_));
      (refine ldo (by assumption) (q := by infer_instance) (by with_unfolding_all rfl) ?_);
      (with_reducible (refine mv_i ?_));
      (refine call_r (c41 _ _ _) ?_);
      (with_reducible (refine not_s (fun hb => ?_) (fun hb => ?_); refine mv_i ?_; refine cnd_f ?_; refine fao ?_));
      (refine ldo (by assumption) (q := by infer_instance) (by with_unfolding_all rfl) ?_);
      (with_reducible (refine fao ?_));
      (refine ldo (by assumption) (q := by infer_instance) (by with_unfolding_all rfl) ?_);
      (refine call_r (c41 _ _ _) ?_);
      (with_reducible (refine not_s (fun hb => ?_) (fun hb => ?_); refine mv_i ?_; refine cnd_f ?_; refine fao ?_));
      (refine ldo (by assumption) (q := by infer_instance) (by with_unfolding_all rfl) ?_);
      (with_reducible (refine mv_i ?_; refine gd_ht (by assumption) ?_; refine fao ?_; refine gd_ht (by assumption) ?_));
      (refine ldo (by assumption) (q := by infer_instance) (by with_unfolding_all rfl) ?_);
      (with_reducible (refine gd_ht (by assumption) ?_; refine mv_i ?_; refine gd_ht (by assumption) ?_; refine lss_i (fun hc => ?_) (fun hc => ?_); refine pick_h (by assumption) ?_; refine mv_i ?_; refine cnd_t ?_));
      ((with_reducible refine fun (_ : Tmps) => ?_); dsimp only [nth]);
      (with_reducible (refine cnd_t ?_; refine mv_i ?_; refine ret1 ?_));
      (rotate_left);
      (with_reducible (refine pick_h (by assumption) ?_; refine mv_i ?_; refine cnd_f ?_; refine fao ?_));
      (refine ldo (by assumption) (q := by infer_instance) (by with_unfolding_all rfl) ?_);
      (with_reducible (refine mv_i ?_; refine gd_nt (by assumption) ?_; refine gd_nt (by assumption) ?_; refine gd_nt (by assumption) ?_; refine gd_nt (by assumption) ?_; refine pick_n (by assumption) ?_; refine mv_i ?_));
      ((with_reducible refine fun (_ : Tmps) => ?_); dsimp only [nth]);
      (with_reducible (refine cnd_f ?_; refine mv_i ?_; refine ret1 ?_));
      (rotate_left);
      (with_reducible (refine mv_i ?_; refine cnd_t ?_));
      ((with_reducible refine fun (_ : Tmps) => ?_); dsimp only [nth]);
      (with_reducible (refine cnd_t ?_; refine mv_i ?_; refine ret1 ?_));
      (rotate_left);
      (with_reducible (refine mv_i ?_; refine cnd_t ?_));
      ((with_reducible refine fun (_ : Tmps) => ?_); dsimp only [nth]);
      (with_reducible (refine cnd_t ?_; refine mv_i ?_; refine ret1 ?_));
      (rotate_left);
      (with_reducible (refine mv_i ?_; refine gd_tt ?_; refine fao ?_; refine gd_tt ?_));
      (refine ldo (by assumption) (q := by infer_instance) (by with_unfolding_all rfl) ?_);
      (with_reducible (refine gd_tt ?_; refine not_s (fun hb => ?_) (fun hb => ?_); refine pick_t ?_; refine mv_i ?_; refine fao ?_));
      (refine ldo (by assumption) (q := by infer_instance) (by with_unfolding_all rfl) ?_);
      (with_reducible (refine mv_i ?_; refine gd_nt (by assumption) ?_; refine gd_nt (by assumption) ?_; refine pick_n (by assumption) ?_; refine mv_i ?_; refine cnd_f ?_; refine mv_i ?_; refine mv_i ?_; refine gd_ft ?_; refine gd_ft ?_; refine gd_ft ?_; refine gd_ft ?_; refine gd_u ?_; refine gd_u ?_; refine gd_u ?_; refine gd_ft ?_; refine pick_f ?_; refine mv_i ?_; refine cnd_f ?_; refine mv_i ?_; refine mv_i ?_; refine cnd_f ?_; refine seq_i ?_; refine fao ?_));
      (refine ldo (by assumption) (q := by infer_instance) (by with_unfolding_all rfl) ?_);
      (with_reducible (refine mv_i ?_));
      (refine call_r (c41 _ _ _) ?_);
      (with_reducible (refine not_s (fun hb => ?_) (fun hb => ?_); refine mv_i ?_; refine cnd_f ?_; refine fao ?_));
      (refine ldo (by assumption) (q := by infer_instance) (by with_unfolding_all rfl) ?_);
      (with_reducible (refine fao ?_));
      (refine ldo (by assumption) (q := by infer_instance) (by with_unfolding_all rfl) ?_);
      (refine call_r (c41 _ _ _) ?_);
      (with_reducible (refine not_s (fun hb => ?_) (fun hb => ?_); refine mv_i ?_; refine cnd_f ?_; refine fao ?_));
      (refine ldo (by assumption) (q := by infer_instance) (by with_unfolding_all rfl) ?_);
      (with_reducible (refine mv_i ?_; refine gd_nt (by assumption) ?_; refine gd_nt (by assumption) ?_; refine gd_nt (by assumption) ?_; refine gd_nt (by assumption) ?_; refine pick_n (by assumption) ?_; refine mv_i ?_; refine cnd_f ?_; refine fao ?_));
      (refine ldo (by assumption) (q := by infer_instance) (by with_unfolding_all rfl) ?_);
      (with_reducible (refine mv_i ?_; refine gd_ht (by assumption) ?_; refine fao ?_; refine gd_ht (by assumption) ?_));
      (refine ldo (by assumption) (q := by infer_instance) (by with_unfolding_all rfl) ?_);
      (with_reducible (refine gd_ht (by assumption) ?_; refine mv_i ?_; refine gd_ht (by assumption) ?_; refine gtr_i (fun hc => ?_) (fun hc => ?_); refine pick_h (by assumption) ?_; refine mv_i ?_));
      ((with_reducible refine fun (_ : Tmps) => ?_); dsimp only [nth]);
      (with_reducible (refine cnd_t ?_; refine mv_i ?_; refine ret1 ?_));
      (rotate_left);
      (with_reducible (refine pick_h (by assumption) ?_; refine mv_i ?_));
      ((with_reducible refine fun (_ : Tmps) => ?_); dsimp only [nth]);
      (with_reducible (refine cnd_f ?_; refine mv_i ?_; refine ret1 ?_));
      (rotate_left);
      (with_reducible (refine mv_i ?_; refine cnd_t ?_));
      ((with_reducible refine fun (_ : Tmps) => ?_); dsimp only [nth]);
      (with_reducible (refine cnd_t ?_; refine mv_i ?_; refine ret1 ?_));
      (rotate_left);
      (with_reducible (refine mv_i ?_; refine cnd_t ?_));
      ((with_reducible refine fun (_ : Tmps) => ?_); dsimp only [nth]);
      (with_reducible (refine cnd_t ?_; refine mv_i ?_; refine ret1 ?_));
      (rotate_left);
      (with_reducible (refine pick_t ?_; refine mv_i ?_; refine fao ?_));
      (refine ldo (by assumption) (q := by infer_instance) (by with_unfolding_all rfl) ?_);
      (with_reducible (refine mv_i ?_; refine gd_nt (by assumption) ?_; refine gd_nt (by assumption) ?_; refine pick_n (by assumption) ?_; refine mv_i ?_; refine cnd_f ?_; refine mv_i ?_; refine mv_i ?_; refine gd_tt ?_; refine fao ?_; refine gd_tt ?_));
      (refine ldo (by assumption) (q := by infer_instance) (by with_unfolding_all rfl) ?_);
      (with_reducible (refine gd_tt ?_; refine neq_i (fun hc => ?_) (fun hc => ?_); refine gd_tt ?_; refine mv_i ?_; refine gd_ff ?_; refine fao ?_; refine gd_ff ?_));
      (refine ldo (by assumption) (q := by infer_instance) (by with_unfolding_all rfl) ?_);
      (with_reducible (refine gd_ff ?_; refine neq_i (fun hc => ?_) (fun hc => ?_); refine gd_tt ?_; refine pick_f ?_; refine pick_t ?_; refine mv_i ?_; refine cnd_f ?_; refine mv_i ?_; refine mv_i ?_; refine cnd_t ?_; refine mv_i ?_; refine ret1 ?_));
      (rotate_left);
      (with_reducible (refine gd_tt ?_; refine pick_f ?_; refine pick_t ?_; refine mv_i ?_; refine cnd_t ?_; refine mv_i ?_; refine ret1 ?_));
      (rotate_left);
      (with_reducible (refine gd_tt ?_; refine mv_i ?_; refine gd_tf ?_; refine gd_tf ?_; refine gd_tf ?_; refine gd_tt ?_; refine pick_t ?_; refine pick_t ?_; refine mv_i ?_; refine cnd_t ?_; refine mv_i ?_; refine ret1 ?_));
      (rotate_left))
  all_goals exact ⟨by simp_all [stE], Mem.pre (by assumption)⟩
end Go.Proofs.Ytalnnkpdpjmmkaa

set_option linter.unusedSimpArgs false
set_option linter.unusedVariables false
set_option maxRecDepth 100000
set_option maxHeartbeats 4000000
namespace Go.Proofs.Ytalnnkpdpjmmkaa
open Go.AM
variable {h : Heap}
/-! ### texts in order -/
theorem bl_diff : ∀ (la lb : List UInt8) (i : Nat) (x y : UInt8), (∀ j, j < i → la[j]? = lb[j]?) → la[i]? = some x → lb[i]? = some y → x ≠ y → Op.bytesLess la lb = decide (x < y)
  | a :: la, b :: lb, 0, x, y, _, h1, h2, hne => by
    simp at h1 h2
    subst h1 h2
    have : (a == b) = false := beq_eq_false_iff_ne.mpr hne
    simp [Op.bytesLess, this]
  | a :: la, b :: lb, i + 1, x, y, hj, h1, h2, hne => by
    have h0 := hj 0 (by omega)
    simp at h0 h1 h2
    subst h0
    simp only [Op.bytesLess, UInt8.lt_irrefl, decide_false, Bool.false_or, beq_self_eq_true, Bool.true_and]
    exact bl_diff la lb i x y (fun j hjj => by simpa using hj (j + 1) (by omega)) h1 h2 hne
  | [], _, 0, _, _, _, h1, _, _ => by simp at h1
  | [], _, _ + 1, _, _, _, h1, _, _ => by simp at h1
  | _ :: _, [], 0, _, _, _, _, h2, _ => by simp at h2
  | _ :: _, [], _ + 1, _, _, _, _, h2, _ => by simp at h2
theorem bl_pre : ∀ (la lb : List UInt8), (∀ j, j < min la.length lb.length → la[j]? = lb[j]?) → Op.bytesLess la lb = decide (la.length < lb.length)
  | [], [], _ => by simp [Op.bytesLess]
  | [], b :: lb, _ => by simp [Op.bytesLess]
  | a :: la, [], _ => by simp [Op.bytesLess]
  | a :: la, b :: lb, hj => by
    have h0 := hj 0 (by simp)
    simp at h0
    subst h0
    simp only [Op.bytesLess, UInt8.lt_irrefl, decide_false, Bool.false_or, beq_self_eq_true, Bool.true_and, List.length_cons, Nat.add_lt_add_iff_right]
    exact bl_pre la lb fun j hjj => by simpa using hj (j + 1) (by simp at hjj ⊢; omega)
theorem cmp_less (a b : ByteArray) : Extern.BytealgCompare.cmp a b < 0 ↔ Op.bytesLess a.toList b.toList = true := by
  have ea : a.toList = a.data.toList := by rw [ByteArray.toList_eq]
  have eb : b.toList = b.data.toList := by rw [ByteArray.toList_eq]
  rw [ea, eb]
  have la : a.data.toList.length = a.size := by simp
  have lb : b.data.toList.length = b.size := by simp
  have ga : ∀ i, i < a.size → a.data.toList[i]? = some a[i]! := by
    intro i hi
    rw [List.getElem?_eq_getElem (by omega), getElem!_pos a i hi, Array.getElem_toList]; rfl
  have gb : ∀ i, i < b.size → b.data.toList[i]? = some b[i]! := by
    intro i hi
    rw [List.getElem?_eq_getElem (by omega), getElem!_pos b i hi, Array.getElem_toList]; rfl
  unfold Extern.BytealgCompare.cmp
  cases hf : (List.range (min a.size b.size)).find? (fun i => a[i]! != b[i]!) with
  | some i =>
    obtain ⟨h1, us, bs, h2, h3⟩ := List.find?_eq_some_iff_append.mp hf
    have hi : i < min a.size b.size := by
      have : i ∈ List.range (min a.size b.size) := by rw [h2]; simp
      simpa using this
    have hne : a[i]! ≠ b[i]! := by simpa using h1
    have hlt : ∀ j, j < i → a.data.toList[j]? = b.data.toList[j]? := by
      intro j hj
      rw [ga j (by omega), gb j (by omega)]
      congr 1
      have hm : j ∈ us := by
        have hr := List.pairwise_lt_range (n := min a.size b.size)
        rw [h2, List.pairwise_append] at hr
        have hjr : j ∈ us ++ i :: bs := by rw [← h2]; simp; omega
        rcases List.mem_append.mp hjr with q | q
        · exact q
        · rcases List.mem_cons.mp q with q | q
          · omega
          · have := (List.pairwise_cons.mp hr.2.1).1 j q
            omega
      have := h3 j hm
      simpa using this
    rw [bl_diff _ _ i _ _ hlt (ga i (by omega)) (gb i (by omega)) hne]
    simp only
    split <;> simp_all
  | none =>
    have hn := List.find?_eq_none.mp hf
    rw [bl_pre _ _ (fun j hj => by
      rw [la, lb] at hj
      rw [ga j (by omega), gb j (by omega)]
      have := hn j (by simpa using hj)
      simpa using this)]
    rw [la, lb]
    simp only
    split
    · simp_all
    · split <;> simp_all
theorem cmpT_less (a b : Tim) : cmpT a b < 0 ↔ less a b = true := by
  unfold cmpT less
  rw [orOf_cons, orOf_cons, orOf_nil]
  have hc := cmp_less a.name b.name
  unfold cmpI
  rw [decide_eq_true_iff, ← hc]
  generalize Extern.BytealgCompare.cmp a.name b.name = z
  split <;> split <;> simp_all <;> omega
/-! ### a clock's error -/
noncomputable def tmE (c : Clk) (k : Nat) : Int :=
  if ownE (gt c.timers k).owner ≠ 0 then ownE (gt c.timers k).owner
  else if nameE (gt c.timers k).name ≠ 0 then nameE (gt c.timers k).name
  else if 0 < k ∧ less (gt c.timers (k - 1)) (gt c.timers k) = false then 14 else stE c.now (gt c.timers k)
def few (c : Clk) : Prop := c.timers.length ≤ 27 ∧ ∀ t ∈ c.timers, t.name.size ≤ 60
theorem few_at {c : Clk} (f : few c) (k : Nat) : (gt c.timers k).name.size ≤ 60 := by
  unfold gt
  by_cases hk : k < c.timers.length
  · exact f.2 _ (gd_mem _ hk)
  · rw [List.getD, List.getElem?_eq_none (by omega)]; decide
open Classical in
theorem c63 (s : ByteArray) : Runs Try.prog 63 [.string s] h (.int .i64 (nameE s)) h := by
  refine DetP.runs (w63 ?_)
  unfold n63
  ((with_reducible (refine mv_i ?_; refine mv_i ?_)))
  refine call_r (c79 s) ?_
  ((with_reducible (refine not_s (fun hb => ?_) (fun hb => ?_)));
      (refine call_r (c73 _) ?_);
      (refine mulc_i (by simp [R64]) ?_);
      (with_reducible (refine mv_i ?_; refine ret1 ?_));
      (rotate_left);
      (refine call_r (c73 _) ?_);
      (refine mulc_i (by simp [R64]) ?_);
      (with_reducible (refine mv_i ?_; refine ret1 ?_));
      (rotate_left))
  all_goals exact ⟨by simp_all [nameE], rfl⟩
theorem c47 {v : Value} {c : Clk} (s : ClkV h v c) (f : few c) {k : Nat} (hk : k < c.timers.length) : Runs Try.prog 47 [v, .int .i64 (k : Int)] h (.int .i64 (tmE c k)) h := by
  obtain ⟨x, rfl, s⟩ := s
  have lt := s.lt
  have m := Mem.start h
  refine DetP.forget rfl ?_
  refine w47 ?_
  unfold n47
  ((with_reducible (refine box_a (by assumption) fun i h z p m => ?_; refine mv_i ?_; refine fao ?_));
      (refine ldo (by assumption) (q := by infer_instance) (by with_unfolding_all rfl) ?_);
      (with_reducible (refine mv_i ?_));
      (refine idx_d (by assumption) (by with_unfolding_all rfl) (by omega) fun p hp => ?_);
      (refine ldr_w (by assumption) (by with_unfolding_all rfl) ?_);
      (with_reducible (refine alloc_z (by assumption) fun i h z p m => ?_));
      (refine st_w (by assumption) (by infer_instance) (by with_unfolding_all rfl) (by with_unfolding_all rfl) (by first | rfl | exact flat_ones (Flat.flat _)) (by infer_instance) fun h p m => ?_);
      (with_reducible (refine fao ?_));
      (refine ldo (by assumption) (q := by infer_instance) (by with_unfolding_all rfl) ?_);
      (refine call_r (c62 _) ?_);
      (with_reducible (refine mv_i ?_; refine mv_i ?_; refine neq_i (fun hc => ?_) (fun hc => ?_); refine cnd_f ?_; refine fao ?_));
      (refine ldo (by assumption) (q := by infer_instance) (by with_unfolding_all rfl) ?_);
      (refine call_r (c63 _) ?_);
      (with_reducible (refine mv_i ?_; refine mv_i ?_; refine neq_i (fun hc => ?_) (fun hc => ?_); refine cnd_f ?_; refine mv_i ?_; refine gtr_i (fun hc => ?_) (fun hc => ?_); refine mv_i ?_; refine gd_tt ?_; refine fao ?_; refine gd_tt ?_));
      (refine ldo (by assumption) (q := by infer_instance) (by with_unfolding_all rfl) ?_);
      (with_reducible (refine vb_l (by assumption) ?_; refine gd_tt ?_; refine mv_i ?_; refine gd_tt ?_));
      (refine sub_i ⟨by omega, by omega⟩ ?_);
      (with_reducible (refine gd_tt ?_));
      (refine idx_dp (by assumption) (by with_unfolding_all rfl) (by omega) (by omega) fun p hp => ?_);
      (with_reducible (refine gd_tt ?_));
      (refine ldr_w (by assumption) (by with_unfolding_all rfl) ?_);
      (with_reducible (refine vb_f ?_; refine gd_tt ?_));
      (refine ldo_w (by assumption) (by infer_instance) (by with_unfolding_all rfl) ?_);
      (with_reducible (refine vb_f ?_; refine gd_tt ?_));
      (refine calld_r (c64 _ _) ?_);
      (with_reducible (refine new_n ?_; refine gd_tt ?_; refine not_s (fun hb => ?_) (fun hb => ?_); refine pick_t ?_; refine cnd_f ?_; refine fao ?_));
      (refine ldo (by assumption) (q := by infer_instance) (by with_unfolding_all rfl) ?_);
      (with_reducible (refine mv_i ?_; refine gd_st (fun hb => ?_) (fun hb => ?_); refine fao ?_; refine gd_ht (by assumption) ?_));
      (refine ldo (by assumption) (q := by infer_instance) (by with_unfolding_all rfl) ?_);
      (with_reducible (refine pick_h (by assumption) ?_; refine cnd_b (fun hb => ?_) (fun hb => ?_); refine mv_i ?_; refine ret1 ?_));
      (rotate_left);
      (with_reducible (refine fao ?_));
      (refine ldo (by assumption) (q := by infer_instance) (by with_unfolding_all rfl) ?_);
      (with_reducible (refine not_h (by assumption) ?_; refine mv_i ?_; refine gd_ft ?_; refine gd_ft ?_; refine gd_ft ?_; refine pick_f ?_; refine cnd_f ?_; refine fao ?_));
      (refine ldo (by assumption) (q := by infer_instance) (by with_unfolding_all rfl) ?_);
      (with_reducible (refine fao ?_));
      (refine ldo (by assumption) (q := by infer_instance) (by with_unfolding_all rfl) ?_);
      (refine call_r (c26 _ _ _) ?_);
      (with_reducible (refine not_s (fun hb => ?_) (fun hb => ?_); refine mv_i ?_; refine gd_ff ?_; refine fao ?_; refine gd_ff ?_));
      (refine ldo (by assumption) (q := by infer_instance) (by with_unfolding_all rfl) ?_);
      (with_reducible (refine gd_ff ?_; refine fao ?_; refine gd_ff ?_));
      (refine ldo (by assumption) (q := by infer_instance) (by with_unfolding_all rfl) ?_);
      (with_reducible (refine gd_ff ?_));
      (refine call_r (c26 _ _ _) ?_);
      (with_reducible (refine gd_ff ?_; refine not_s (fun hb => ?_) (fun hb => ?_); refine pick_f ?_; refine mv_i ?_; refine gd_ff ?_; refine fao ?_; refine gd_ff ?_));
      (refine ldo (by assumption) (q := by infer_instance) (by with_unfolding_all rfl) ?_);
      (with_reducible (refine gd_ff ?_; refine mv_i ?_; refine gd_ht (by assumption) ?_; refine fao ?_; refine gd_ht (by assumption) ?_));
      (refine ldo (by assumption) (q := by infer_instance) (by with_unfolding_all rfl) ?_);
      (with_reducible (refine gd_ht (by assumption) ?_; refine fao ?_; refine gd_ht (by assumption) ?_));
      (refine ldo (by assumption) (q := by infer_instance) (by with_unfolding_all rfl) ?_);
      (with_reducible (refine gd_ht (by assumption) ?_; refine lss_i (fun hc => ?_) (fun hc => ?_); refine gd_ff ?_; refine pick_h (by assumption) ?_; refine pick_f ?_; refine mv_i ?_; refine gd_tf ?_; refine gd_tf ?_; refine gd_tf ?_; refine gd_u ?_; refine gd_u ?_; refine gd_u ?_; refine gd_u ?_; refine gd_u ?_; refine gd_tf ?_; refine pick_t ?_; refine mv_i ?_; refine mv_i ?_));
      (refine call_r (c73 _) ?_);
      (refine mulc_i (by simp [R64]) ?_);
      (with_reducible (refine mv_i ?_; refine ret1 ?_));
      (rotate_left);
      (with_reducible (refine gd_ff ?_; refine pick_h (by assumption) ?_; refine pick_f ?_; refine mv_i ?_; refine gd_ff ?_; refine fao ?_; refine gd_ff ?_));
      (refine ldo (by assumption) (q := by infer_instance) (by with_unfolding_all rfl) ?_);
      (with_reducible (refine gd_ff ?_; refine mv_i ?_; refine gd_nt (by assumption) ?_; refine gd_nt (by assumption) ?_; refine gd_nt (by assumption) ?_; refine gd_nt (by assumption) ?_; refine gd_nt (by assumption) ?_; refine gd_ff ?_; refine pick_n (by assumption) ?_; refine pick_f ?_; refine mv_i ?_; refine mv_i ?_));
      (refine call_r (c73 _) ?_);
      (refine mulc_i (by simp [R64]) ?_);
      (with_reducible (refine mv_i ?_; refine ret1 ?_));
      (rotate_left);
      (with_reducible (refine pick_f ?_; refine mv_i ?_; refine gd_tf ?_; refine gd_tf ?_; refine gd_tf ?_; refine gd_u ?_; refine gd_u ?_; refine gd_u ?_; refine gd_u ?_; refine gd_u ?_; refine gd_tf ?_; refine pick_t ?_; refine mv_i ?_; refine gd_tf ?_; refine gd_tf ?_; refine gd_tf ?_; refine gd_u ?_; refine gd_u ?_; refine gd_u ?_; refine gd_u ?_; refine gd_u ?_; refine gd_tf ?_; refine pick_t ?_; refine mv_i ?_; refine mv_i ?_));
      (refine call_r (c73 _) ?_);
      (refine mulc_i (by simp [R64]) ?_);
      (with_reducible (refine mv_i ?_; refine ret1 ?_));
      (rotate_left);
      (with_reducible (refine mv_i ?_; refine gd_tf ?_; refine gd_tf ?_; refine gd_tf ?_; refine gd_tf ?_; refine gd_tf ?_; refine gd_tf ?_; refine pick_t ?_; refine mv_i ?_; refine gd_tf ?_; refine gd_tf ?_; refine gd_tf ?_; refine gd_u ?_; refine gd_u ?_; refine gd_u ?_; refine gd_u ?_; refine gd_u ?_; refine gd_tf ?_; refine pick_t ?_; refine mv_i ?_; refine gd_tf ?_; refine gd_tf ?_; refine gd_tf ?_; refine gd_u ?_; refine gd_u ?_; refine gd_u ?_; refine gd_u ?_; refine gd_u ?_; refine gd_tf ?_; refine pick_t ?_; refine mv_i ?_; refine mv_i ?_));
      (refine call_r (c73 _) ?_);
      (refine mulc_i (by simp [R64]) ?_);
      (with_reducible (refine mv_i ?_; refine ret1 ?_));
      (rotate_left);
      (with_reducible (refine gd_nt (by assumption) ?_; refine pick_n (by assumption) ?_; refine cnd_f ?_; refine fao ?_));
      (refine ldo (by assumption) (q := by infer_instance) (by with_unfolding_all rfl) ?_);
      (with_reducible (refine not_n (by assumption) ?_; refine mv_i ?_; refine gd_tt ?_; refine fao ?_; refine gd_tt ?_));
      (refine ldo (by assumption) (q := by infer_instance) (by with_unfolding_all rfl) ?_);
      (with_reducible (refine gd_tt ?_; refine not_s (fun hb => ?_) (fun hb => ?_); refine pick_t ?_; refine cnd_f ?_; refine fao ?_));
      (refine ldo (by assumption) (q := by infer_instance) (by with_unfolding_all rfl) ?_);
      (with_reducible (refine fao ?_));
      (refine ldo (by assumption) (q := by infer_instance) (by with_unfolding_all rfl) ?_);
      (refine call_r (c26 _ _ _) ?_);
      (with_reducible (refine not_s (fun hb => ?_) (fun hb => ?_); refine mv_i ?_; refine gd_ff ?_; refine fao ?_; refine gd_ff ?_));
      (refine ldo (by assumption) (q := by infer_instance) (by with_unfolding_all rfl) ?_);
      (with_reducible (refine gd_ff ?_; refine fao ?_; refine gd_ff ?_));
      (refine ldo (by assumption) (q := by infer_instance) (by with_unfolding_all rfl) ?_);
      (with_reducible (refine gd_ff ?_));
      (refine call_r (c26 _ _ _) ?_);
      (with_reducible (refine gd_ff ?_; refine not_s (fun hb => ?_) (fun hb => ?_); refine pick_f ?_; refine mv_i ?_; refine gd_ff ?_; refine fao ?_; refine gd_ff ?_));
      (refine ldo (by assumption) (q := by infer_instance) (by with_unfolding_all rfl) ?_);
      (with_reducible (refine gd_ff ?_; refine mv_i ?_; refine gd_nt (by assumption) ?_; refine gd_nt (by assumption) ?_; refine gd_nt (by assumption) ?_; refine gd_nt (by assumption) ?_; refine gd_nt (by assumption) ?_; refine gd_ff ?_; refine pick_n (by assumption) ?_; refine pick_f ?_; refine mv_i ?_; refine gd_ff ?_; refine fao ?_; refine gd_ff ?_));
      (refine ldo (by assumption) (q := by infer_instance) (by with_unfolding_all rfl) ?_);
      (with_reducible (refine gd_ff ?_; refine mv_i ?_; refine gd_ht (by assumption) ?_; refine fao ?_; refine gd_ht (by assumption) ?_));
      (refine ldo (by assumption) (q := by infer_instance) (by with_unfolding_all rfl) ?_);
      (with_reducible (refine gd_ht (by assumption) ?_; refine fao ?_; refine gd_ht (by assumption) ?_));
      (refine ldo (by assumption) (q := by infer_instance) (by with_unfolding_all rfl) ?_);
      (with_reducible (refine gd_ht (by assumption) ?_; refine gtr_i (fun hc => ?_) (fun hc => ?_); refine gd_ff ?_; refine pick_h (by assumption) ?_; refine pick_f ?_; refine mv_i ?_; refine mv_i ?_));
      (refine call_r (c73 _) ?_);
      (refine mulc_i (by simp [R64]) ?_);
      (with_reducible (refine mv_i ?_; refine ret1 ?_));
      (rotate_left);
      (with_reducible (refine gd_ff ?_; refine pick_h (by assumption) ?_; refine pick_f ?_; refine mv_i ?_; refine mv_i ?_));
      (refine call_r (c73 _) ?_);
      (refine mulc_i (by simp [R64]) ?_);
      (with_reducible (refine mv_i ?_; refine ret1 ?_));
      (rotate_left);
      (with_reducible (refine pick_f ?_; refine mv_i ?_; refine gd_tf ?_; refine gd_tf ?_; refine gd_tf ?_; refine gd_u ?_; refine gd_u ?_; refine gd_u ?_; refine gd_u ?_; refine gd_u ?_; refine gd_tf ?_; refine pick_t ?_; refine mv_i ?_; refine gd_tf ?_; refine gd_tf ?_; refine gd_tf ?_; refine gd_u ?_; refine gd_u ?_; refine gd_u ?_; refine gd_u ?_; refine gd_u ?_; refine gd_tf ?_; refine pick_t ?_; refine mv_i ?_; refine mv_i ?_));
      (refine call_r (c73 _) ?_);
      (refine mulc_i (by simp [R64]) ?_);
      (with_reducible (refine mv_i ?_; refine ret1 ?_));
      (rotate_left);
      (with_reducible (refine mv_i ?_; refine gd_tf ?_; refine gd_tf ?_; refine gd_tf ?_; refine gd_tf ?_; refine gd_tf ?_; refine gd_tf ?_; refine pick_t ?_; refine mv_i ?_; refine gd_tf ?_; refine gd_tf ?_; refine gd_tf ?_; refine gd_u ?_; refine gd_u ?_; refine gd_u ?_; refine gd_u ?_; refine gd_u ?_; refine gd_tf ?_; refine pick_t ?_; refine mv_i ?_; refine gd_tf ?_; refine gd_tf ?_; refine gd_tf ?_; refine gd_u ?_; refine gd_u ?_; refine gd_u ?_; refine gd_u ?_; refine gd_u ?_; refine gd_tf ?_; refine pick_t ?_; refine mv_i ?_; refine mv_i ?_));
      (refine call_r (c73 _) ?_);
      (refine mulc_i (by simp [R64]) ?_);
      (with_reducible (refine mv_i ?_; refine ret1 ?_));
      (rotate_left);
      (with_reducible (refine pick_t ?_; refine cnd_t ?_; refine fao ?_));
      (refine ldo (by assumption) (q := by infer_instance) (by with_unfolding_all rfl) ?_);
      (with_reducible (refine neq_i (fun hc => ?_) (fun hc => ?_); refine mv_i ?_; refine gd_ff ?_; refine fao ?_; refine gd_ff ?_));
      (refine ldo (by assumption) (q := by infer_instance) (by with_unfolding_all rfl) ?_);
      (with_reducible (refine gd_ff ?_; refine neq_i (fun hc => ?_) (fun hc => ?_); refine pick_f ?_));
      (refine call_r (c73 _) ?_);
      (refine mulc_i (by simp [R64]) ?_);
      (with_reducible (refine mv_i ?_; refine ret1 ?_));
      (rotate_left);
      (with_reducible (refine pick_f ?_));
      (refine call_r (c73 _) ?_);
      (refine mulc_i (by simp [R64]) ?_);
      (with_reducible (refine mv_i ?_; refine ret1 ?_));
      (rotate_left);
      (with_reducible (refine mv_i ?_; refine gd_tf ?_; refine gd_tf ?_; refine gd_tf ?_; refine pick_t ?_));
      (refine call_r (c73 _) ?_);
      (refine mulc_i (by simp [R64]) ?_);
      (with_reducible (refine mv_i ?_; refine ret1 ?_));
      (rotate_left);
      (with_reducible (refine pick_t ?_; refine cnd_t ?_; refine mv_i ?_; refine ret1 ?_));
      (rotate_left);
      (with_reducible (refine mv_i ?_; refine gd_ft ?_; refine gd_ft ?_; refine gd_ft ?_; refine gd_ft ?_; refine gd_ft ?_; refine gd_ft ?_; refine gd_ft ?_; refine gd_ft ?_; refine gd_ft ?_; refine pick_f ?_; refine cnd_f ?_; refine fao ?_));
      (refine ldo (by assumption) (q := by infer_instance) (by with_unfolding_all rfl) ?_);
      (with_reducible (refine mv_i ?_; refine gd_st (fun hb => ?_) (fun hb => ?_); refine fao ?_; refine gd_ht (by assumption) ?_));
      (refine ldo (by assumption) (q := by infer_instance) (by with_unfolding_all rfl) ?_);
      (with_reducible (refine pick_h (by assumption) ?_; refine cnd_b (fun hb => ?_) (fun hb => ?_); refine mv_i ?_; refine ret1 ?_));
      (rotate_left);
      (with_reducible (refine fao ?_));
      (refine ldo (by assumption) (q := by infer_instance) (by with_unfolding_all rfl) ?_);
      (with_reducible (refine not_h (by assumption) ?_; refine mv_i ?_; refine gd_ft ?_; refine gd_ft ?_; refine gd_ft ?_; refine pick_f ?_; refine cnd_f ?_; refine fao ?_));
      (refine ldo (by assumption) (q := by infer_instance) (by with_unfolding_all rfl) ?_);
      (with_reducible (refine fao ?_));
      (refine ldo (by assumption) (q := by infer_instance) (by with_unfolding_all rfl) ?_);
      (refine call_r (c26 _ _ _) ?_);
      (with_reducible (refine not_s (fun hb => ?_) (fun hb => ?_); refine mv_i ?_; refine gd_ff ?_; refine fao ?_; refine gd_ff ?_));
      (refine ldo (by assumption) (q := by infer_instance) (by with_unfolding_all rfl) ?_);
      (with_reducible (refine gd_ff ?_; refine fao ?_; refine gd_ff ?_));
      (refine ldo (by assumption) (q := by infer_instance) (by with_unfolding_all rfl) ?_);
      (with_reducible (refine gd_ff ?_));
      (refine call_r (c26 _ _ _) ?_);
      (with_reducible (refine gd_ff ?_; refine not_s (fun hb => ?_) (fun hb => ?_); refine pick_f ?_; refine mv_i ?_; refine gd_ff ?_; refine fao ?_; refine gd_ff ?_));
      (refine ldo (by assumption) (q := by infer_instance) (by with_unfolding_all rfl) ?_);
      (with_reducible (refine gd_ff ?_; refine mv_i ?_; refine gd_ht (by assumption) ?_; refine fao ?_; refine gd_ht (by assumption) ?_));
      (refine ldo (by assumption) (q := by infer_instance) (by with_unfolding_all rfl) ?_);
      (with_reducible (refine gd_ht (by assumption) ?_; refine fao ?_; refine gd_ht (by assumption) ?_));
      (refine ldo (by assumption) (q := by infer_instance) (by with_unfolding_all rfl) ?_);
      (with_reducible (refine gd_ht (by assumption) ?_; refine lss_i (fun hc => ?_) (fun hc => ?_); refine gd_ff ?_; refine pick_h (by assumption) ?_; refine pick_f ?_; refine mv_i ?_; refine gd_tf ?_; refine gd_tf ?_; refine gd_tf ?_; refine gd_u ?_; refine gd_u ?_; refine gd_u ?_; refine gd_u ?_; refine gd_u ?_; refine gd_tf ?_; refine pick_t ?_; refine mv_i ?_; refine mv_i ?_));
      (refine call_r (c73 _) ?_);
      (refine mulc_i (by simp [R64]) ?_);
      (with_reducible (refine mv_i ?_; refine ret1 ?_));
      (rotate_left);
      (with_reducible (refine gd_ff ?_; refine pick_h (by assumption) ?_; refine pick_f ?_; refine mv_i ?_; refine gd_ff ?_; refine fao ?_; refine gd_ff ?_));
      (refine ldo (by assumption) (q := by infer_instance) (by with_unfolding_all rfl) ?_);
      (with_reducible (refine gd_ff ?_; refine mv_i ?_; refine gd_nt (by assumption) ?_; refine gd_nt (by assumption) ?_; refine gd_nt (by assumption) ?_; refine gd_nt (by assumption) ?_; refine gd_nt (by assumption) ?_; refine gd_ff ?_; refine pick_n (by assumption) ?_; refine pick_f ?_; refine mv_i ?_; refine mv_i ?_));
      (refine call_r (c73 _) ?_);
      (refine mulc_i (by simp [R64]) ?_);
      (with_reducible (refine mv_i ?_; refine ret1 ?_));
      (rotate_left);
      (with_reducible (refine pick_f ?_; refine mv_i ?_; refine gd_tf ?_; refine gd_tf ?_; refine gd_tf ?_; refine gd_u ?_; refine gd_u ?_; refine gd_u ?_; refine gd_u ?_; refine gd_u ?_; refine gd_tf ?_; refine pick_t ?_; refine mv_i ?_; refine gd_tf ?_; refine gd_tf ?_; refine gd_tf ?_; refine gd_u ?_; refine gd_u ?_; refine gd_u ?_; refine gd_u ?_; refine gd_u ?_; refine gd_tf ?_; refine pick_t ?_; refine mv_i ?_; refine mv_i ?_));
      (refine call_r (c73 _) ?_);
      (refine mulc_i (by simp [R64]) ?_);
      (with_reducible (refine mv_i ?_; refine ret1 ?_));
      (rotate_left);
      (with_reducible (refine mv_i ?_; refine gd_tf ?_; refine gd_tf ?_; refine gd_tf ?_; refine gd_tf ?_; refine gd_tf ?_; refine gd_tf ?_; refine pick_t ?_; refine mv_i ?_; refine gd_tf ?_; refine gd_tf ?_; refine gd_tf ?_; refine gd_u ?_; refine gd_u ?_; refine gd_u ?_; refine gd_u ?_; refine gd_u ?_; refine gd_tf ?_; refine pick_t ?_; refine mv_i ?_; refine gd_tf ?_; refine gd_tf ?_; refine gd_tf ?_; refine gd_u ?_; refine gd_u ?_; refine gd_u ?_; refine gd_u ?_; refine gd_u ?_; refine gd_tf ?_; refine pick_t ?_; refine mv_i ?_; refine mv_i ?_));
      (refine call_r (c73 _) ?_);
      (refine mulc_i (by simp [R64]) ?_);
      (with_reducible (refine mv_i ?_; refine ret1 ?_));
      (rotate_left);
      (with_reducible (refine gd_nt (by assumption) ?_; refine pick_n (by assumption) ?_; refine cnd_f ?_; refine fao ?_));
      (refine ldo (by assumption) (q := by infer_instance) (by with_unfolding_all rfl) ?_);
      (with_reducible (refine not_n (by assumption) ?_; refine mv_i ?_; refine gd_tt ?_; refine fao ?_; refine gd_tt ?_));
      (refine ldo (by assumption) (q := by infer_instance) (by with_unfolding_all rfl) ?_);
      (with_reducible (refine gd_tt ?_; refine not_s (fun hb => ?_) (fun hb => ?_); refine pick_t ?_; refine cnd_f ?_; refine fao ?_));
      (refine ldo (by assumption) (q := by infer_instance) (by with_unfolding_all rfl) ?_);
      (with_reducible (refine fao ?_));
      (refine ldo (by assumption) (q := by infer_instance) (by with_unfolding_all rfl) ?_);
      (refine call_r (c26 _ _ _) ?_);
      (with_reducible (refine not_s (fun hb => ?_) (fun hb => ?_); refine mv_i ?_; refine gd_ff ?_; refine fao ?_; refine gd_ff ?_));
      (refine ldo (by assumption) (q := by infer_instance) (by with_unfolding_all rfl) ?_);
      (with_reducible (refine gd_ff ?_; refine fao ?_; refine gd_ff ?_));
      (refine ldo (by assumption) (q := by infer_instance) (by with_unfolding_all rfl) ?_);
      (with_reducible (refine gd_ff ?_));
      (refine call_r (c26 _ _ _) ?_);
      (with_reducible (refine gd_ff ?_; refine not_s (fun hb => ?_) (fun hb => ?_); refine pick_f ?_; refine mv_i ?_; refine gd_ff ?_; refine fao ?_; refine gd_ff ?_));
      (refine ldo (by assumption) (q := by infer_instance) (by with_unfolding_all rfl) ?_);
      (with_reducible (refine gd_ff ?_; refine mv_i ?_; refine gd_nt (by assumption) ?_; refine gd_nt (by assumption) ?_; refine gd_nt (by assumption) ?_; refine gd_nt (by assumption) ?_; refine gd_nt (by assumption) ?_; refine gd_ff ?_; refine pick_n (by assumption) ?_; refine pick_f ?_; refine mv_i ?_; refine gd_ff ?_; refine fao ?_; refine gd_ff ?_));
      (refine ldo (by assumption) (q := by infer_instance) (by with_unfolding_all rfl) ?_);
      (with_reducible (refine gd_ff ?_; refine mv_i ?_; refine gd_ht (by assumption) ?_; refine fao ?_; refine gd_ht (by assumption) ?_));
      (refine ldo (by assumption) (q := by infer_instance) (by with_unfolding_all rfl) ?_);
      (with_reducible (refine gd_ht (by assumption) ?_; refine fao ?_; refine gd_ht (by assumption) ?_));
      (refine ldo (by assumption) (q := by infer_instance) (by with_unfolding_all rfl) ?_);
      (with_reducible (refine gd_ht (by assumption) ?_; refine gtr_i (fun hc => ?_) (fun hc => ?_); refine gd_ff ?_; refine pick_h (by assumption) ?_; refine pick_f ?_; refine mv_i ?_; refine mv_i ?_));
      (refine call_r (c73 _) ?_);
      (refine mulc_i (by simp [R64]) ?_);
      (with_reducible (refine mv_i ?_; refine ret1 ?_));
      (rotate_left);
      (with_reducible (refine gd_ff ?_; refine pick_h (by assumption) ?_; refine pick_f ?_; refine mv_i ?_; refine mv_i ?_));
      (refine call_r (c73 _) ?_);
      (refine mulc_i (by simp [R64]) ?_);
      (with_reducible (refine mv_i ?_; refine ret1 ?_));
      (rotate_left);
      (with_reducible (refine pick_f ?_; refine mv_i ?_; refine gd_tf ?_; refine gd_tf ?_; refine gd_tf ?_; refine gd_u ?_; refine gd_u ?_; refine gd_u ?_; refine gd_u ?_; refine gd_u ?_; refine gd_tf ?_; refine pick_t ?_; refine mv_i ?_; refine gd_tf ?_; refine gd_tf ?_; refine gd_tf ?_; refine gd_u ?_; refine gd_u ?_; refine gd_u ?_; refine gd_u ?_; refine gd_u ?_; refine gd_tf ?_; refine pick_t ?_; refine mv_i ?_; refine mv_i ?_));
      (refine call_r (c73 _) ?_);
      (refine mulc_i (by simp [R64]) ?_);
      (with_reducible (refine mv_i ?_; refine ret1 ?_));
      (rotate_left);
      (with_reducible (refine mv_i ?_; refine gd_tf ?_; refine gd_tf ?_; refine gd_tf ?_; refine gd_tf ?_; refine gd_tf ?_; refine gd_tf ?_; refine pick_t ?_; refine mv_i ?_; refine gd_tf ?_; refine gd_tf ?_; refine gd_tf ?_; refine gd_u ?_; refine gd_u ?_; refine gd_u ?_; refine gd_u ?_; refine gd_u ?_; refine gd_tf ?_; refine pick_t ?_; refine mv_i ?_; refine gd_tf ?_; refine gd_tf ?_; refine gd_tf ?_; refine gd_u ?_; refine gd_u ?_; refine gd_u ?_; refine gd_u ?_; refine gd_u ?_; refine gd_tf ?_; refine pick_t ?_; refine mv_i ?_; refine mv_i ?_));
      (refine call_r (c73 _) ?_);
      (refine mulc_i (by simp [R64]) ?_);
      (with_reducible (refine mv_i ?_; refine ret1 ?_));
      (rotate_left);
      (with_reducible (refine pick_t ?_; refine cnd_t ?_; refine fao ?_));
      (refine ldo (by assumption) (q := by infer_instance) (by with_unfolding_all rfl) ?_);
      (with_reducible (refine neq_i (fun hc => ?_) (fun hc => ?_); refine mv_i ?_; refine gd_ff ?_; refine fao ?_; refine gd_ff ?_));
      (refine ldo (by assumption) (q := by infer_instance) (by with_unfolding_all rfl) ?_);
      (with_reducible (refine gd_ff ?_; refine neq_i (fun hc => ?_) (fun hc => ?_); refine pick_f ?_));
      (refine call_r (c73 _) ?_);
      (refine mulc_i (by simp [R64]) ?_);
      (with_reducible (refine mv_i ?_; refine ret1 ?_));
      (rotate_left);
      (with_reducible (refine pick_f ?_));
      (refine call_r (c73 _) ?_);
      (refine mulc_i (by simp [R64]) ?_);
      (with_reducible (refine mv_i ?_; refine ret1 ?_));
      (rotate_left);
      (with_reducible (refine mv_i ?_; refine gd_tf ?_; refine gd_tf ?_; refine gd_tf ?_; refine pick_t ?_));
      (refine call_r (c73 _) ?_);
      (refine mulc_i (by simp [R64]) ?_);
      (with_reducible (refine mv_i ?_; refine ret1 ?_));
      (rotate_left);
      (with_reducible (refine cnd_t ?_; refine mv_i ?_; refine mv_i ?_; refine ret1 ?_));
      (rotate_left);
      (with_reducible (refine cnd_t ?_; refine mv_i ?_; refine mv_i ?_; refine ret1 ?_));
      (rotate_left))
  all_goals exact ⟨by first | (simp [tmE, stE, *]; done) | (simp_all [tmE, stE]; done) | (simp_all [tmE, stE]; omega), Mem.pre (by assumption)⟩
/-- The first error of so many, with its index. -/
def firstErr (f : Nat → Int) : Nat → Nat × Int
  | 0 => (0, 0)
  | n + 1 => if (firstErr f n).2 ≠ 0 then firstErr f n else if f n ≠ 0 then (n, f n) else (0, 0)
theorem firstErr_no {f : Nat → Int} {n : Nat} (hf : ∀ j, j < n → f j = 0) : firstErr f n = (0, 0) := by
  induction n with
  | zero => rfl
  | succ n ih =>
    unfold firstErr
    rw [ih fun j hj => hf j (by omega), hf n (by omega)]
    simp
theorem firstErr_at {f : Nat → Int} {n k : Nat} (hf : ∀ j, j < k → f j = 0) (hk : k < n) (he : f k ≠ 0) : firstErr f n = (k, f k) := by
  induction n with
  | zero => omega
  | succ n ih =>
    unfold firstErr
    by_cases q : k = n
    · subst q; rw [firstErr_no hf]; simp [he]
    · rw [ih (by omega)]; simp [he]
theorem firstErr_zero {f : Nat → Int} {n : Nat} (h0 : (firstErr f n).2 = 0) : ∀ j, j < n → f j = 0 := by
  induction n with
  | zero => intro j hj; omega
  | succ n ih =>
    unfold firstErr at h0
    split at h0
    · contradiction
    · rename_i h1
      split at h0
      · contradiction
      · rename_i h2
        intro j hj
        by_cases q : j = n
        · subst q; simpa using h2
        · exact ih (by simpa using h1) j (by omega)
noncomputable def chk (c : Clk) : Nat × Int :=
  if ¬ (0 ≤ c.now ∧ c.now ≤ 1099511627776) then (0, 3) else if 24 < c.timers.length then (0, 2) else firstErr (tmE c) c.timers.length
def mk2 (i : Nat) (e : Int) : Value := .tuple #[.int .i64 (i : Int), .int .i64 e]
theorem chk_at {c : Clk} (h1 : decide (0 ≤ c.now ∧ c.now ≤ 1099511627776) = true) (h2 : (c.timers.length : Int) ≤ 24) {k : Nat} (hJ : ∀ j, j < k → tmE c j = 0) (hk : (k : Int) < c.timers.length) (he : ¬ tmE c k = 0) : chk c = (k, tmE c k) := by
  unfold chk
  rw [if_neg (by simpa using h1), if_neg (by omega), firstErr_at hJ (by omega) he]
theorem chk_no {c : Clk} (h1 : decide (0 ≤ c.now ∧ c.now ≤ 1099511627776) = true) (h2 : (c.timers.length : Int) ≤ 24) {k : Nat} (hJ : ∀ j, j < k → tmE c j = 0) (hk : ¬ (k : Int) < c.timers.length) : chk c = (0, 0) := by
  unfold chk
  rw [if_neg (by simpa using h1), if_neg (by omega), firstErr_no fun j hj => hJ j (by omega)]
theorem chk_large {c : Clk} (h1 : decide (0 ≤ c.now ∧ c.now ≤ 1099511627776) = true) (h2 : 24 < (c.timers.length : Int)) : chk c = (0, 2) := by
  unfold chk
  rw [if_neg (by simpa using h1), if_pos (by omega)]
theorem chk_now {c : Clk} (h1 : decide (0 ≤ c.now ∧ c.now ≤ 1099511627776) = false) : chk c = (0, 3) := by
  unfold chk
  rw [if_pos (by simpa using h1)]
theorem c14 {v : Value} {c : Clk} (s : ClkV h v c) (f : few c) : Runs Try.prog 14 [v] h (mk2 (chk c).1 (chk c).2) h := by
  obtain ⟨x, rfl, s⟩ := s
  have lt := s.lt
  have m := Mem.start h
  refine DetP.forget rfl ?_
  refine w14 ?_
  unfold n14
  ((with_reducible (refine box_a (by assumption) fun i h z p m => ?_; refine mv_i ?_; refine mv_i ?_; refine fao ?_));
      (refine ldo (by assumption) (q := by infer_instance) (by with_unfolding_all rfl) ?_);
      (refine call_r (c26 _ _ _) ?_);
      (with_reducible (refine not_s (fun hb => ?_) (fun hb => ?_); refine cnd_f ?_; refine fao ?_));
      (refine ldo (by assumption) (q := by infer_instance) (by with_unfolding_all rfl) ?_);
      (with_reducible (refine len_g (by assumption) ?_; refine gtr_i (fun hc => ?_) (fun hc => ?_); refine cnd_t ?_; refine mv_i ?_; refine mv_i ?_; refine ret2 ?_));
      (rotate_left);
      (with_reducible (refine cnd_f ?_; refine mv_i ?_));
      (rotate_left);
      (with_reducible (refine cnd_t ?_; refine mv_i ?_; refine mv_i ?_; refine ret2 ?_));
      (rotate_left))
  · exact ⟨by rw [chk_large (by assumption) (by omega)]; rfl, Mem.pre (by assumption)⟩
  · refine loop1 c.timers.length (fun k h2 => h = h2 ∧ ∀ j, j < k → tmE c j = 0) ⟨rfl, fun j hj => by omega⟩ ?_
    rintro k _ _ hk ⟨rfl, hJ⟩
    ((with_reducible (refine mv_i ?_; refine fao ?_));
        (refine ldo (by assumption) (q := by infer_instance) (by with_unfolding_all rfl) ?_);
        (with_reducible (refine len_g (by assumption) ?_; refine lss_i (fun hc => ?_) (fun hc => ?_); refine cnd_t ?_));
        (refine ldo_w (by assumption) (by infer_instance) (by with_unfolding_all rfl) ?_);
        (with_reducible (refine mv_i ?_));
        (refine call_r (c47 ⟨_, by with_unfolding_all rfl, L.up (by assumption)⟩ (by assumption) (by omega)) ?_);
        (with_reducible (refine mv_i ?_; refine mv_i ?_; refine neq_i (fun hc => ?_) (fun hc => ?_); refine cnd_f ?_; refine mv_i ?_; refine inc_i (by omega) ?_; refine mv_i ?_));
        (rotate_left);
        (with_reducible (refine cnd_t ?_; refine mv_i ?_; refine mv_i ?_; refine mv_i ?_; refine mv_i ?_; refine ret2 ?_));
        (rotate_left);
        (with_reducible (refine cnd_f ?_; refine mv_i ?_; refine mv_i ?_; refine ret2 ?_));
        (rotate_left))
    · refine next1 (by omega) ⟨rfl, fun j hj => ?_⟩
      by_cases q : j = k
      · subst q; assumption
      · exact hJ j (by omega)
    · exact ⟨by rw [chk_at (by assumption) (by omega) hJ (by omega) (by assumption)]; rfl, Mem.pre (by assumption)⟩
    · exact ⟨by rw [chk_no (by assumption) (by omega) hJ (by omega)]; rfl, Mem.pre (by assumption)⟩
  · exact ⟨by rw [chk_now (by assumption)]; rfl, Mem.pre (by assumption)⟩
end Go.Proofs.Ytalnnkpdpjmmkaa

set_option linter.unusedSimpArgs false
set_option linter.unusedVariables false
set_option maxRecDepth 100000
set_option maxHeartbeats 4000000
namespace Go.Proofs.Ytalnnkpdpjmmkaa
open Go.AM
variable {g : Heap}
theorem tm0 {c : Clk} {k : Nat} (he : ¬ orOf [ownE (gt c.timers k).owner, nameE (gt c.timers k).name] = 0) : tmE c k = orOf [ownE (gt c.timers k).owner, nameE (gt c.timers k).name] := by
  rw [orOf_cons, orOf_cons, orOf_nil] at *
  unfold tmE
  split <;> simp_all
theorem tm1 {c : Clk} {k : Nat} (he : orOf [ownE (gt c.timers k).owner, nameE (gt c.timers k).name] = 0) (hk : 0 < (k : Int)) (hc : 0 ≤ cmpT (gt c.timers (k - 1)) (gt c.timers k)) : tmE c k = 14 := by
  rw [orOf_cons, orOf_cons, orOf_nil] at he
  have := cmpT_less (gt c.timers (k - 1)) (gt c.timers k)
  unfold tmE
  have h2 : less (gt c.timers (k - 1)) (gt c.timers k) = false := by
    rw [Bool.eq_false_iff]; intro q; have := this.mpr q; omega
  split at he
  · split at he
    · simp_all
    · contradiction
  · contradiction
theorem tm2 {c : Clk} {k : Nat} (he : orOf [ownE (gt c.timers k).owner, nameE (gt c.timers k).name] = 0) (hc : ¬ 0 < (k : Int) ∨ ¬ 0 ≤ cmpT (gt c.timers (k - 1)) (gt c.timers k)) : tmE c k = stE c.now (gt c.timers k) := by
  rw [orOf_cons, orOf_cons, orOf_nil] at he
  have := cmpT_less (gt c.timers (k - 1)) (gt c.timers k)
  unfold tmE
  split at he
  · split at he
    · rename_i a b
      rw [if_neg (by simpa using a), if_neg (by simpa using b), if_neg]
      rintro ⟨h1, h2⟩
      rcases hc with hc | hc
      · omega
      · have := this.mp (by omega)
        rw [this] at h2; cases h2
    · contradiction
  · contradiction
theorem fin_at {c : Clk} {k : Nat} {e : Int} (hE : tmE c k = e) (he : ¬ e = 0) (h1 : decide (0 ≤ c.now ∧ c.now ≤ 1099511627776) = true) (h2 : ¬ 24 < (c.timers.length : Int)) (hJ : ∀ j, j < k → tmE c j = 0) (hk : (k : Int) < c.timers.length) :
    Value.tuple #[.int .i64 (k : Int), .int .i64 e] = mk2 (chk c).1 (chk c).2 := by
  subst hE
  rw [chk_at h1 (by omega) hJ hk he]; rfl
theorem up_no {c : Clk} {k : Nat} (hE : tmE c k = 0) (hJ : ∀ j, j < k → tmE c j = 0) : ∀ j, j < k + 1 → tmE c j = 0 := by
  intro j hj
  by_cases q : j = k
  · subst q; exact hE
  · exact hJ j (by omega)
theorem c12 [GM g] {v : Value} {c : Clk} (s : ClkV g v c) (f : few c) : Runs Try.prog 12 [v] g (mk2 (chk c).1 (chk c).2) g := by
  obtain ⟨x, rfl, s⟩ := s
  have lt := s.lt
  have m := Mem.start g
  refine DetP.forget rfl ?_
  refine w12 ?_
  unfold n12
  ((with_reducible (refine box_a (by assumption) fun i h z p m => ?_; refine mv_i ?_; refine mv_i ?_; refine fao ?_));
      (refine ldo (by assumption) (q := by infer_instance) (by with_unfolding_all rfl) ?_);
      (refine call_r (c41 _ _ _) ?_);
      (with_reducible (refine not_s (fun hb => ?_) (fun hb => ?_); refine mv_i ?_; refine cnd_f ?_; refine fao ?_));
      (refine ldo (by assumption) (q := by infer_instance) (by with_unfolding_all rfl) ?_);
      (with_reducible (refine len_g (by assumption) ?_; refine gtr_i (fun hc => ?_) (fun hc => ?_); refine mv_i ?_; refine cnd_t ?_; refine mv_i ?_; refine mv_i ?_; refine ret2 ?_));
      (rotate_left);
      (with_reducible (refine mv_i ?_; refine cnd_f ?_; refine fao ?_));
      (refine ldo (by assumption) (q := by infer_instance) (by with_unfolding_all rfl) ?_);
      (with_reducible (refine len_g (by assumption) ?_; refine mv_i ?_));
      (rotate_left);
      (with_reducible (refine mv_i ?_; refine cnd_t ?_; refine mv_i ?_; refine mv_i ?_; refine ret2 ?_));
      (rotate_left))
  · exact ⟨by rw [chk_large (by assumption) (by omega)]; rfl, Mem.pre (by assumption)⟩
  · refine loop1 c.timers.length (fun k h2 => Prec h h2 ∧ Mem g h2 [⟨some i, [.int .i64 c.now, x], z⟩] ∧ ∀ j, j < k → tmE c j = 0) ⟨⟨Stab.refl h⟩, m, fun j hj => by omega⟩ ?_
    rintro k h2 _ hk ⟨p2, m2, hJ⟩
    ((with_reducible (refine lss_i (fun hc => ?_) (fun hc => ?_); refine cnd_t ?_; refine mv_i ?_));
        (refine idx_d (by assumption) (by with_unfolding_all rfl) (by omega) fun p hp => ?_);
        (refine ldr_w (by assumption) (by with_unfolding_all rfl) ?_);
        (with_reducible (refine alloc_z (by assumption) fun i h z p m => ?_; refine mv_i ?_));
        (refine st_w (by assumption) (by infer_instance) (by with_unfolding_all rfl) (by with_unfolding_all rfl) (by first | rfl | exact flat_ones (Flat.flat _)) (by infer_instance) fun h p m => ?_);
        (with_reducible (refine fao ?_));
        (refine ldo (by assumption) (q := by infer_instance) (by with_unfolding_all rfl) ?_);
        (refine vb_n (by with_unfolding_all rfl) ?_);
        (refine calld_r (c43 _) ?_);
        (with_reducible (refine new_n ?_; refine fao ?_));
        (refine ldo (by assumption) (q := by infer_instance) (by with_unfolding_all rfl) ?_);
        (refine vb_n (by with_unfolding_all rfl) ?_);
        (refine calld_r (c44 _ (few_at (by assumption) _)) ?_);
        (with_reducible (refine new_n ?_));
        (refine bs_g (bs88_2 _ _ _) (by assumption) fun i h p m => ?_);
        (refine calld_r (c42 (own_ints (xs := [_, _]) (by assumption) (q := by infer_instance) rfl rfl (by decide))) ?_);
        (with_reducible (refine new_n ?_; refine mv_i ?_; refine seq_i ?_; refine mv_i ?_; refine eql_i (fun hc => ?_) (fun hc => ?_); refine mv_i ?_; refine gd_tt ?_; refine mv_i ?_; refine gd_tt ?_; refine gtr_i (fun hc => ?_) (fun hc => ?_); refine pick_t ?_; refine mv_i ?_; refine gd_tt ?_; refine fao ?_; refine gd_tt ?_));
        (refine ldo (by assumption) (q := by infer_instance) (by with_unfolding_all rfl) ?_);
        (with_reducible (refine vb_l (by assumption) ?_; refine gd_tt ?_; refine mv_i ?_; refine gd_tt ?_));
        (refine sub_i ⟨by omega, by omega⟩ ?_);
        (with_reducible (refine gd_tt ?_));
        (refine idx_dp (by assumption) (by with_unfolding_all rfl) (by omega) (by omega) fun p hp => ?_);
        (with_reducible (refine gd_tt ?_));
        (refine ldr_w (by assumption) (by with_unfolding_all rfl) ?_);
        (with_reducible (refine vb_f ?_; refine gd_tt ?_));
        (refine ldo_w (by assumption) (by infer_instance) (by with_unfolding_all rfl) ?_);
        (with_reducible (refine vb_f ?_; refine gd_tt ?_));
        (refine calld_r (c45 _ _) ?_);
        (with_reducible (refine new_n ?_; refine gd_tt ?_; refine geq_i (fun hc => ?_) (fun hc => ?_); refine pick_t ?_; refine cnd_t ?_; refine mv_i ?_));
        ((with_reducible refine fun (_ : Tmps) => ?_); dsimp only [nth]);
        (with_reducible (refine seq_i ?_; refine mv_i ?_; refine eql_n (by first | assumption | decide) ?_; refine cnd_f ?_));
        ((with_reducible refine fun (_ : Tmps) => ?_); dsimp only [nth]);
        (with_reducible (refine mv_i ?_; refine neq_n (by first | assumption | decide) ?_; refine cnd_t ?_; refine mv_i ?_; refine mv_i ?_; refine mv_i ?_; refine mv_i ?_; refine ret2 ?_));
        (rotate_left);
        (with_reducible (refine pick_t ?_; refine cnd_f ?_));
        ((with_reducible refine fun (_ : Tmps) => ?_); dsimp only [nth]);
        (with_reducible (refine seq_i ?_; refine mv_i ?_; refine eql_h (by first | assumption | decide) ?_; refine cnd_t ?_; refine fao ?_));
        (refine ldo (by assumption) (q := by infer_instance) (by with_unfolding_all rfl) ?_);
        (refine ldo_w (by assumption) (by infer_instance) (by with_unfolding_all rfl) ?_);
        (refine call_r (c46 _ _) ?_);
        (with_reducible (refine mv_i ?_));
        ((with_reducible refine fun (_ : Tmps) => ?_); dsimp only [nth]);
        (with_reducible (refine mv_i ?_; refine neq_i (fun hc => ?_) (fun hc => ?_); refine cnd_f ?_; refine inc_i (by omega) ?_; refine mv_i ?_));
        (rotate_left);
        (with_reducible (refine cnd_t ?_; refine mv_i ?_; refine mv_i ?_; refine mv_i ?_; refine mv_i ?_; refine ret2 ?_));
        (rotate_left);
        (with_reducible (refine pick_t ?_; refine mv_i ?_; refine gd_ft ?_; refine gd_ft ?_; refine gd_ft ?_; refine gd_ft ?_; refine gd_ft ?_; refine gd_ft ?_; refine gd_ft ?_; refine gd_ft ?_; refine gd_ft ?_; refine pick_f ?_; refine cnd_f ?_));
        ((with_reducible refine fun (_ : Tmps) => ?_); dsimp only [nth]);
        (with_reducible (refine seq_i ?_; refine mv_i ?_; refine eql_h (by first | assumption | decide) ?_; refine cnd_t ?_; refine fao ?_));
        (refine ldo (by assumption) (q := by infer_instance) (by with_unfolding_all rfl) ?_);
        (refine ldo_w (by assumption) (by infer_instance) (by with_unfolding_all rfl) ?_);
        (refine call_r (c46 _ _) ?_);
        (with_reducible (refine mv_i ?_));
        ((with_reducible refine fun (_ : Tmps) => ?_); dsimp only [nth]);
        (with_reducible (refine mv_i ?_; refine neq_i (fun hc => ?_) (fun hc => ?_); refine cnd_f ?_; refine inc_i (by omega) ?_; refine mv_i ?_));
        (rotate_left);
        (with_reducible (refine cnd_t ?_; refine mv_i ?_; refine mv_i ?_; refine mv_i ?_; refine mv_i ?_; refine ret2 ?_));
        (rotate_left);
        (with_reducible (refine mv_i ?_; refine gd_ft ?_; refine gd_ft ?_; refine pick_f ?_; refine mv_i ?_; refine gd_ft ?_; refine gd_ft ?_; refine gd_ft ?_; refine gd_ft ?_; refine gd_ft ?_; refine gd_ft ?_; refine gd_ft ?_; refine gd_ft ?_; refine gd_ft ?_; refine pick_f ?_; refine cnd_f ?_));
        ((with_reducible refine fun (_ : Tmps) => ?_); dsimp only [nth]);
        (with_reducible (refine seq_i ?_; refine mv_i ?_; refine eql_n (by first | assumption | decide) ?_; refine cnd_f ?_));
        ((with_reducible refine fun (_ : Tmps) => ?_); dsimp only [nth]);
        (with_reducible (refine mv_i ?_; refine neq_n (by first | assumption | decide) ?_; refine cnd_t ?_; refine mv_i ?_; refine mv_i ?_; refine mv_i ?_; refine mv_i ?_; refine ret2 ?_));
        (rotate_left);
        (with_reducible (refine cnd_f ?_; refine mv_i ?_; refine mv_i ?_; refine ret2 ?_));
        (rotate_left))
    all_goals first
      | contradiction
      | (refine ⟨?_, Mem.pre (by assumption)⟩
         first
           | exact fin_at (tm0 (by assumption)) (by assumption) hb (by assumption) hJ (by assumption)
           | exact fin_at (tm1 (by assumption) (by assumption) (by assumption)) (by decide) hb (by assumption) hJ (by assumption)
           | exact fin_at (tm2 (by assumption) (.inl (by assumption))) (by assumption) hb (by assumption) hJ (by assumption)
           | exact fin_at (tm2 (by assumption) (.inr (by assumption))) (by assumption) hb (by assumption) hJ (by assumption)
           | (rw [chk_no hb (by omega) hJ (by omega)]; rfl))
      | (have hE : tmE c k = 0 := by
           first
             | (rw [tm2 (by assumption) (.inl (by assumption))]; assumption)
             | (rw [tm2 (by assumption) (.inr (by assumption))]; assumption)
         exact next1 (by omega) ⟨⟨Stb.st⟩, m.tail.tail, up_no hE hJ⟩)
  · exact ⟨by rw [chk_now (by assumption)]; rfl, Mem.pre (by assumption)⟩
end Go.Proofs.Ytalnnkpdpjmmkaa

set_option linter.unusedSimpArgs false
set_option linter.unusedVariables false
set_option maxRecDepth 100000
set_option maxHeartbeats 4000000
namespace Go.Proofs.Ytalnnkpdpjmmkaa
open Go.AM
variable {g : Heap}
theorem bd24_01 (a1 : Int) (o2 : Option Addr) (no2 co2 : Nat) : aBuild Try.prog 24 [(0, (.int .i64 a1)), (1, (.slice o2 no2 co2))] = some (.agg #[(.int .i64 a1), (.slice o2 no2 co2)]) := by kernel_rfl
theorem bd39_0 (a1 : Int) (o2 : Option Addr) (no2 co2 : Nat) : aBuild Try.prog 39 [(0, (.agg #[(.int .i64 a1), (.slice o2 no2 co2)]))] = some (.agg #[(.int .i64 a1), (.slice o2 no2 co2), (.slice none 0 0), (.string ⟨#[]⟩), (.int .i64 0)]) := by kernel_rfl
theorem bd39_3 (a1 : Int) : aBuild Try.prog 39 [(3, (.int .i64 a1))] = some (.agg #[(.int .i64 0), (.slice none 0 0), (.slice none 0 0), (.string ⟨#[]⟩), (.int .i64 a1)]) := by kernel_rfl
theorem bd44_01 (a1 : Int) (s2 : ByteArray) : aBuild Try.prog 44 [(0, (.int .i64 a1)), (1, (.string s2))] = some (fv (⟨a1, s2, 0, 0, false, false⟩ : Tim)) := by kernel_rfl
theorem bd24_z  : aBuild Try.prog 24 [] = some (.agg #[(.int .i64 0), (.slice none 0 0)]) := by kernel_rfl
theorem bd44_01234 (a1 : Int) (s2 : ByteArray) (a3 : Int) (a4 : Int) (b5 : Bool) : aBuild Try.prog 44 [(0, (.int .i64 a1)), (1, (.string s2)), (2, (.int .i64 a3)), (3, (.int .i64 a4)), (4, (.bool b5))] = some (fv (⟨a1, s2, a3, a4, b5, false⟩ : Tim)) := by kernel_rfl
theorem bd24_0 (a1 : Int) : aBuild Try.prog 24 [(0, (.int .i64 a1))] = some (.agg #[(.int .i64 a1), (.slice none 0 0)]) := by kernel_rfl
theorem bd44_0134 (a1 : Int) (s2 : ByteArray) (a3 : Int) (b4 : Bool) : aBuild Try.prog 44 [(0, (.int .i64 a1)), (1, (.string s2)), (3, (.int .i64 a3)), (4, (.bool b4))] = some (fv (⟨a1, s2, 0, a3, b4, false⟩ : Tim)) := by kernel_rfl
theorem bd24_1 (o1 : Option Addr) (no1 co1 : Nat) : aBuild Try.prog 24 [(1, (.slice o1 no1 co1))] = some (.agg #[(.int .i64 0), (.slice o1 no1 co1)]) := by kernel_rfl
theorem bs22_0  (h : Heap) : aBuildSlice Try.prog 22 0 [] h = some (.slice (some ⟨h.length, 0, none⟩) 0 1, newArr h [] 6) := by kernel_rfl
theorem bs33_1 (a1 : Int) (h : Heap) : aBuildSlice Try.prog 33 1 [(0, (.int .i64 a1))] h = some (.slice (some ⟨h.length, 0, none⟩) 1 2, newArr h [(.int .i64 a1)] 1) := by kernel_rfl
theorem bs46_1 (s1 : ByteArray) (h : Heap) : aBuildSlice Try.prog 46 1 [(0, (.string s1))] h = some (.slice (some ⟨h.length, 0, none⟩) 1 2, newArr h [(.string s1)] 1) := by kernel_rfl
theorem bs22_1 (x1 : Tim) (h : Heap) : aBuildSlice Try.prog 22 1 [(0, (fv x1))] h = some (.slice (some ⟨h.length, 0, none⟩) 1 2, newArr h (flat [x1]) 6) := by kernel_rfl
theorem bs22_2 (x1 : Tim) (x2 : Tim) (h : Heap) : aBuildSlice Try.prog 22 2 [(0, (fv x1)), (1, (fv x2))] h = some (.slice (some ⟨h.length, 0, none⟩) 2 3, newArr h (flat [x1, x2]) 6) := by kernel_rfl
theorem bytes_ok {n : Nat} (hn : n ≤ 1048576) : (0 + n) * 48 ≤ 2 ^ 46 ∧ 0 + n ≤ 2 ^ 46 := by omega
/-- A list copied into memory of one's own. -/
theorem c74 {x : Value} {l : List Tim} (s : L g x l) (hb : l.length ≤ 1048576) : DetP Try.prog 74 [x] g fun v h' => g <+: h' ∧ ∃ o, IsSl v o l.length ∧ OwnNew g h' o (flat l) 6 := by
  have m := Mem.start g
  refine w74 ?_
  unfold n74
  obtain ⟨b, c, rfl, hb2⟩ := s.shape
  ((with_reducible (refine mv_i ?_; refine mv_i ?_));
      (refine snil_i (fun hn => ?_) (fun hn => ?_));
      (with_reducible (refine cnd_t ?_; refine mv_i ?_; refine ret1 ?_));
      (rotate_left);
      (with_reducible (refine cnd_f ?_));
      (refine bs_g (bs22_0 _) (by assumption) fun i h p m => ?_);
      (with_reducible (refine mv_i ?_));
      (rotate_left))
  · subst hn
    have := s.none_len
    subst this
    exact ⟨m.pre, none, IsSl.nil, fun _ _ m' => m'.nil 6⟩
  · by_cases hl : l = []
    · subst hl
      refine app_none (b := b) (c2 := c) rfl hb2 ?_
      ((with_reducible (refine mv_i ?_; refine ret1 ?_)))
      exact ⟨m.pre, some i, IsSl.some1, OwnNew.of m⟩
    · have hpos : 0 < l.length := List.length_pos_iff.mpr hl
      refine app_o m (IsSl.some1 (n := 0)) (by infer_instance) (by simp) (src_ro s hpos) (bytes_ok hb) fun i h p m => ?_
      ((with_reducible (refine mv_i ?_; refine ret1 ?_)))
      refine ⟨m.pre, some i, ?_, ?_⟩
      · rw [Nat.zero_add]; exact IsSl.some0
      · simp only [List.nil_append, List.set_cons_zero] at m
        exact OwnNew.of m
/-- The reference's copy, to be read only. -/
theorem c13 {v : Value} {c : Clk} (s : ClkV g v c) (hb : c.timers.length ≤ 1048576) : DetP Try.prog 13 [v] g fun v h' => g <+: h' ∧ ClkV h' v c := by
  refine DetP.freeze ?_
  obtain ⟨x, rfl, s⟩ := s
  have m := Mem.start g
  refine w13 ?_
  unfold n13
  obtain ⟨b, q, rfl, hb2⟩ := s.shape
  ((with_reducible (refine box_a (by assumption) fun i h z p m => ?_; refine alloc_z (by assumption) fun i h z p m => ?_; refine fao ?_));
      (refine ldo (by assumption) (q := by infer_instance) (by with_unfolding_all rfl) ?_);
      (refine vb_n (by with_unfolding_all rfl) ?_);
      (refine bs_g (bs22_0 _) (by assumption) fun i h p m => ?_);
      (with_reducible (refine fao ?_));
      (refine ldo (by assumption) (q := by infer_instance) (by with_unfolding_all rfl) ?_);
      (with_reducible (refine vb_l (by assumption) ?_)))
  by_cases hl : c.timers = []
  · refine app_none (b := b) (c2 := q) (by rw [hl]; rfl) hb2 ?_
    ((refine pd_c (by assumption) (by infer_instance) (by with_unfolding_all rfl) ?_);
        (with_reducible (refine ⟨trivial, ?_⟩));
        (refine vk_i (bd24_01 _ _ _ _) ?_);
        (refine st_w (by assumption) (by infer_instance) (by with_unfolding_all rfl) (by with_unfolding_all rfl) (by first | rfl | exact flat_ones (Flat.flat _)) (by infer_instance) fun h p m => ?_);
        (with_reducible (refine ⟨trivial, ?_⟩));
        (refine rt_w1 (by assumption) (by infer_instance) (by with_unfolding_all rfl) ?_);
        (with_reducible (refine ret1 ?_)))
    exact ⟨m.pre, _, rfl, by rw [hl]; exact ret_flat (xs := ([] : List Tim)) (k := 0) m rfl (by decide) (.inr (by decide))⟩
  · have hpos : 0 < c.timers.length := List.length_pos_iff.mpr hl
    refine app_o m (IsSl.some1 (n := 0)) (by infer_instance) (by simp) (src_ro s hpos) (bytes_ok hb) fun i h p m => ?_
    rw [Nat.zero_add]
    simp only [List.nil_append, List.set_cons_zero] at m
    ((refine pd_c (by assumption) (by infer_instance) (by with_unfolding_all rfl) ?_);
        (with_reducible (refine ⟨trivial, ?_⟩));
        (refine vk_i (bd24_01 _ _ _ _) ?_);
        (refine st_w (by assumption) (by infer_instance) (by with_unfolding_all rfl) (by with_unfolding_all rfl) (by first | rfl | exact flat_ones (Flat.flat _)) (by infer_instance) fun h p m => ?_);
        (with_reducible (refine ⟨trivial, ?_⟩));
        (refine rt_w1 (by assumption) (by infer_instance) (by with_unfolding_all rfl) ?_);
        (with_reducible (refine ret1 ?_)))
    refine ⟨m.pre, _, rfl, ?_⟩
    rw [Nat.zero_add]
    exact ret_flat (k := 0) m rfl (by omega) (.inl rfl)
/-- The program's copy. -/
theorem c50 {v : Value} {c : Clk} (s : ClkV g v c) (hb : c.timers.length ≤ 1048576) : DetP Try.prog 50 [v] g fun v h' => g <+: h' ∧ ∃ y o, v = .agg #[.int .i64 c.now, y] ∧ IsSl y o c.timers.length ∧ OwnNew g h' o (flat c.timers) 6 := by
  obtain ⟨x, rfl, s⟩ := s
  have m := Mem.start g
  refine w50 ?_
  unfold n50
  obtain ⟨b, q, rfl, hb2⟩ := s.shape
  ((with_reducible (refine box_a (by assumption) fun i h z p m => ?_; refine alloc_z (by assumption) fun i h z p m => ?_; refine fao ?_));
      (refine ldo (by assumption) (q := by infer_instance) (by with_unfolding_all rfl) ?_))
  refine call_d (c74 s.up hb) m fun y h' p1 p2 _ ⟨o, hs, hn⟩ => ?_
  have m := hn _ _ m
  obtain ⟨a, d, rfl⟩ := hs.isS
  ((with_reducible (refine fao ?_));
      (refine sto (by assumption) (q := by infer_instance) (by with_unfolding_all exact Nat.le_of_ble_eq_true rfl) rfl rfl (u := by infer_instance) fun h p m => ?_);
      (refine ldo_w (by assumption) (by infer_instance) (by with_unfolding_all rfl) ?_);
      (refine st_w (by assumption) (by infer_instance) (by with_unfolding_all rfl) (by with_unfolding_all rfl) (by first | rfl | exact flat_ones (Flat.flat _)) (by infer_instance) fun h p m => ?_);
      (refine rt_w1 (by assumption) (by infer_instance) (by with_unfolding_all rfl) ?_);
      (with_reducible (refine ret1 ?_)))
  exact ⟨m.pre, _, o, rfl, hs, OwnNew.of m⟩
theorem c48 [GM g] {v : Value} {c : Clk} (s : ClkV g v c) (f : few c) : Runs Try.prog 48 [v] g (.int .i64 (chk c).2) g := by
  obtain ⟨x, rfl, s⟩ := s
  have m := Mem.start g
  refine DetP.forget rfl ?_
  refine w48 ?_
  unfold n48
  ((with_reducible (refine box_a (by assumption) fun i h z p m => ?_; refine mv_i ?_));
      (refine ldo_w (by assumption) (by infer_instance) (by with_unfolding_all rfl) ?_))
  refine call_r (c12 ⟨_, rfl, s.up⟩ f) ?_
  unfold mk2
  ((with_reducible (refine mv_i ?_; refine ex2_0 ?_; refine ex2_1 ?_; refine mv_i ?_; refine mv_i ?_; refine mv_i ?_; refine mv_i ?_; refine ret1 ?_)))
  exact ⟨rfl, m.pre⟩
theorem c17 {v : Value} {c : Clk} (s : ClkV g v c) (f : few c) : Runs Try.prog 17 [v] g (.int .i64 (chk c).2) g := by
  obtain ⟨x, rfl, s⟩ := s
  have m := Mem.start g
  refine DetP.forget rfl ?_
  refine w17 ?_
  unfold n17
  ((with_reducible (refine box_a (by assumption) fun i h z p m => ?_; refine mv_i ?_));
      (refine ldo_w (by assumption) (by infer_instance) (by with_unfolding_all rfl) ?_))
  refine call_r (c14 ⟨_, rfl, s.up⟩ f) ?_
  unfold mk2
  ((with_reducible (refine mv_i ?_; refine ex2_0 ?_; refine ex2_1 ?_; refine mv_i ?_; refine mv_i ?_; refine mv_i ?_; refine mv_i ?_; refine ret1 ?_)))
  exact ⟨rfl, m.pre⟩
/-! ### the next moment -/
def nextOf (l : List Tim) : Int := l.foldl (fun n t => if t.running = true ∧ (n < 0 ∨ t.due < n) then t.due else n) (-1)
theorem nextOf_snoc {l : List Tim} {k : Nat} (hk : k < l.length) : nextOf (l.take (k + 1)) = if (gt l k).running = true ∧ (nextOf (l.take k) < 0 ∨ (gt l k).due < nextOf (l.take k)) then (gt l k).due else nextOf (l.take k) := by
  unfold nextOf
  rw [take_gd Df.d hk, List.foldl_append]
  rfl
theorem c49 {v : Value} {c : Clk} (s : ClkV g v c) : Runs Try.prog 49 [v] g (.int .i64 (nextOf c.timers)) g := by
  obtain ⟨x, rfl, s⟩ := s
  have lt := s.lt
  have m := Mem.start g
  refine DetP.forget rfl ?_
  refine w49 ?_
  unfold n49
  ((with_reducible (refine box_a (by assumption) fun i h z p m => ?_; refine mv_i ?_; refine mv_i ?_; refine fao ?_));
      (refine ldo (by assumption) (q := by infer_instance) (by with_unfolding_all rfl) ?_);
      (with_reducible (refine len_g (by assumption) ?_; refine mv_i ?_)))
  refine loop2 c.timers.length (fun k v h2 => Prec h h2 ∧ Mem g h2 [⟨some i, [.int .i64 c.now, x], z⟩] ∧ v = .int .i64 (nextOf (c.timers.take k))) ⟨⟨Stab.refl h⟩, m, rfl⟩ ?_
  rintro k _ h2 _ hk ⟨p2, m2, rfl⟩
  ((with_reducible (refine lss_i (fun hc => ?_) (fun hc => ?_); refine cnd_t ?_; refine seq_i ?_));
      (refine idx_d (by assumption) (by with_unfolding_all rfl) (by omega) fun p hp => ?_);
      (refine ldr_w (by assumption) (by with_unfolding_all rfl) ?_);
      (with_reducible (refine alloc_z (by assumption) fun i h z p m => ?_));
      (refine st_w (by assumption) (by infer_instance) (by with_unfolding_all rfl) (by with_unfolding_all rfl) (by first | rfl | exact flat_ones (Flat.flat _)) (by infer_instance) fun h p m => ?_);
      (with_reducible (refine fao ?_));
      (refine ldo (by assumption) (q := by infer_instance) (by with_unfolding_all rfl) ?_);
      (with_reducible (refine mv_i ?_; refine gd_st (fun hb => ?_) (fun hb => ?_); refine mv_i ?_; refine gd_ht (by assumption) ?_; refine lss_i (fun hc => ?_) (fun hc => ?_); refine gd_ht (by assumption) ?_; refine mv_i ?_; refine gd_tf ?_; refine gd_tf ?_; refine gd_tf ?_; refine gd_tf ?_; refine gd_ht (by assumption) ?_; refine pick_t ?_; refine pick_h (by assumption) ?_; refine cnd_t ?_; refine fao ?_));
      (refine ldo (by assumption) (q := by infer_instance) (by with_unfolding_all rfl) ?_);
      (with_reducible (refine mv_i ?_));
      ((with_reducible refine fun (_ : Tmps) => ?_); dsimp only [nth]);
      (with_reducible (refine inc_i (by omega) ?_; refine mv_i ?_));
      (rotate_left);
      (with_reducible (refine gd_ht (by assumption) ?_; refine mv_i ?_; refine gd_ff ?_; refine fao ?_; refine gd_ff ?_));
      (refine ldo (by assumption) (q := by infer_instance) (by with_unfolding_all rfl) ?_);
      (with_reducible (refine gd_ff ?_; refine mv_i ?_; refine gd_ff ?_; refine lss_i (fun hc => ?_) (fun hc => ?_); refine gd_ht (by assumption) ?_; refine pick_f ?_; refine pick_h (by assumption) ?_; refine cnd_t ?_; refine fao ?_));
      (refine ldo (by assumption) (q := by infer_instance) (by with_unfolding_all rfl) ?_);
      (with_reducible (refine mv_i ?_));
      ((with_reducible refine fun (_ : Tmps) => ?_); dsimp only [nth]);
      (with_reducible (refine inc_i (by omega) ?_; refine mv_i ?_));
      (rotate_left);
      (with_reducible (refine gd_ht (by assumption) ?_; refine pick_f ?_; refine pick_h (by assumption) ?_; refine cnd_f ?_));
      ((with_reducible refine fun (_ : Tmps) => ?_); dsimp only [nth]);
      (with_reducible (refine inc_i (by omega) ?_; refine mv_i ?_));
      (rotate_left);
      (with_reducible (refine gd_nt (by assumption) ?_; refine gd_nt (by assumption) ?_; refine gd_u ?_; refine gd_u ?_; refine gd_u ?_; refine gd_u ?_; refine gd_nt (by assumption) ?_; refine pick_n (by assumption) ?_; refine cnd_f ?_));
      ((with_reducible refine fun (_ : Tmps) => ?_); dsimp only [nth]);
      (with_reducible (refine inc_i (by omega) ?_; refine mv_i ?_));
      (rotate_left);
      (with_reducible (refine cnd_f ?_; refine mv_i ?_; refine mv_i ?_; refine ret1 ?_));
      (rotate_left))
  all_goals first
    | (refine next2 (by omega) ⟨⟨Stb.st⟩, m.tail, ?_⟩
       rw [nextOf_snoc (by omega)]
       first
         | rw [if_pos ⟨by assumption, by first | exact .inl (by assumption) | exact .inr (by assumption)⟩]
         | (rw [if_neg]; rintro ⟨q1, q2⟩; simp_all <;> omega))
    | (refine ⟨?_, Mem.pre (by assumption)⟩
       rw [List.take_of_length_le (by omega)])
end Go.Proofs.Ytalnnkpdpjmmkaa

set_option linter.unusedSimpArgs false
set_option linter.unusedVariables false
set_option maxRecDepth 100000
set_option maxHeartbeats 4000000
namespace Go.Proofs.Ytalnnkpdpjmmkaa
open Go.AM
variable {g : Heap}
/-! ### the reference's copy, one's own -/
theorem c13o {v : Value} {c : Clk} (s : ClkV g v c) (hb : c.timers.length ≤ 1048576) : DetP Try.prog 13 [v] g fun v h' => g <+: h' ∧ ∃ y o, v = .agg #[.int .i64 c.now, y] ∧ IsSl y o c.timers.length ∧ OwnNew g h' o (flat c.timers) 6 := by
  obtain ⟨x, rfl, s⟩ := s
  have m := Mem.start g
  refine w13 ?_
  unfold n13
  obtain ⟨b, q, rfl, hb2⟩ := s.shape
  ((with_reducible (refine box_a (by assumption) fun i h z p m => ?_; refine alloc_z (by assumption) fun i h z p m => ?_; refine fao ?_));
      (refine ldo (by assumption) (q := by infer_instance) (by with_unfolding_all rfl) ?_);
      (refine vb_n (by with_unfolding_all rfl) ?_);
      (refine bs_g (bs22_0 _) (by assumption) fun i h p m => ?_);
      (with_reducible (refine fao ?_));
      (refine ldo (by assumption) (q := by infer_instance) (by with_unfolding_all rfl) ?_);
      (with_reducible (refine vb_l (by assumption) ?_)))
  by_cases hl : c.timers = []
  · refine app_none (b := b) (c2 := q) (by rw [hl]; rfl) hb2 ?_
    ((refine pd_c (by assumption) (by infer_instance) (by with_unfolding_all rfl) ?_);
        (with_reducible (refine ⟨trivial, ?_⟩));
        (refine vk_i (bd24_01 _ _ _ _) ?_);
        (refine st_w (by assumption) (by infer_instance) (by with_unfolding_all rfl) (by with_unfolding_all rfl) (by first | rfl | exact flat_ones (Flat.flat _)) (by infer_instance) fun h p m => ?_);
        (with_reducible (refine ⟨trivial, ?_⟩));
        (refine rt_w1 (by assumption) (by infer_instance) (by with_unfolding_all rfl) ?_);
        (with_reducible (refine ret1 ?_)))
    refine ⟨m.pre, _, some i, rfl, ?_, ?_⟩
    · rw [hl]; exact IsSl.some1 (n := 0)
    · rw [hl]; exact OwnNew.of m
  · have hpos : 0 < c.timers.length := List.length_pos_iff.mpr hl
    refine app_o m (IsSl.some1 (n := 0)) (by infer_instance) (by simp) (src_ro s hpos) (bytes_ok hb) fun i h p m => ?_
    rw [Nat.zero_add]
    simp only [List.nil_append, List.set_cons_zero] at m
    ((refine pd_c (by assumption) (by infer_instance) (by with_unfolding_all rfl) ?_);
        (with_reducible (refine ⟨trivial, ?_⟩));
        (refine vk_i (bd24_01 _ _ _ _) ?_);
        (refine st_w (by assumption) (by infer_instance) (by with_unfolding_all rfl) (by with_unfolding_all rfl) (by first | rfl | exact flat_ones (Flat.flat _)) (by infer_instance) fun h p m => ?_);
        (with_reducible (refine ⟨trivial, ?_⟩));
        (refine rt_w1 (by assumption) (by infer_instance) (by with_unfolding_all rfl) ?_);
        (with_reducible (refine ret1 ?_)))
    exact ⟨m.pre, _, some i, rfl, by rw [Nat.zero_add]; exact IsSl.some0, OwnNew.of m⟩
/-! ### the reference's next moment -/
def nextR (l : List Tim) : Int := l.foldl (fun n t => if t.running = true ∧ (n = -1 ∨ t.due < n) then t.due else n) (-1)
theorem nextR_snoc {l : List Tim} {k : Nat} (hk : k < l.length) : nextR (l.take (k + 1)) = if (gt l k).running = true ∧ (nextR (l.take k) = -1 ∨ (gt l k).due < nextR (l.take k)) then (gt l k).due else nextR (l.take k) := by
  unfold nextR
  rw [take_gd Df.d hk, List.foldl_append]
  rfl
theorem c19 {v : Value} {c : Clk} (s : ClkV g v c) : Runs Try.prog 19 [v] g (.int .i64 (nextR c.timers)) g := by
  obtain ⟨x, rfl, s⟩ := s
  have lt := s.lt
  have m := Mem.start g
  refine DetP.forget rfl ?_
  refine w19 ?_
  unfold n19
  ((with_reducible (refine box_a (by assumption) fun i h z p m => ?_; refine mv_i ?_; refine mv_i ?_; refine mv_i ?_)))
  refine loop2 c.timers.length (fun k v h2 => h = h2 ∧ v = .int .i64 (nextR (c.timers.take k))) ⟨rfl, rfl⟩ ?_
  rintro k _ h2 _ hk ⟨rfl, rfl⟩
  ((with_reducible (refine mv_i ?_; refine fao ?_));
      (refine ldo (by assumption) (q := by infer_instance) (by with_unfolding_all rfl) ?_);
      (with_reducible (refine len_g (by assumption) ?_; refine lss_i (fun hc => ?_) (fun hc => ?_); refine cnd_t ?_; refine seq_i ?_; refine fao ?_));
      (refine ldo (by assumption) (q := by infer_instance) (by with_unfolding_all rfl) ?_);
      (with_reducible (refine mv_i ?_));
      (refine idx_d (by assumption) (by with_unfolding_all rfl) (by omega) fun p hp => ?_);
      (with_reducible (refine fa_g (by assumption) fun p hp => ?_));
      (refine ld_g (by assumption) (by with_unfolding_all rfl) ?_);
      (with_reducible (refine mv_i ?_; refine gd_st (fun hb => ?_) (fun hb => ?_); refine mv_i ?_; refine gd_ht (by assumption) ?_; refine eql_i (fun hc => ?_) (fun hc => ?_); refine gd_ht (by assumption) ?_; refine mv_i ?_; refine gd_tf ?_; refine gd_tf ?_; refine gd_tf ?_; refine gd_tf ?_; refine gd_tf ?_; refine gd_tf ?_; refine gd_tf ?_; refine gd_tf ?_; refine gd_ht (by assumption) ?_; refine pick_t ?_; refine pick_h (by assumption) ?_; refine cnd_t ?_; refine fao ?_));
      (refine ldo (by assumption) (q := by infer_instance) (by with_unfolding_all rfl) ?_);
      (with_reducible (refine mv_i ?_));
      (refine idx_d (by assumption) (by with_unfolding_all rfl) (by omega) fun p hp => ?_);
      (with_reducible (refine fa_g (by assumption) fun p hp => ?_));
      (refine ld_g (by assumption) (by with_unfolding_all rfl) ?_);
      (with_reducible (refine mv_i ?_));
      ((with_reducible refine fun (_ : Tmps) => ?_); dsimp only [nth]);
      (with_reducible (refine mv_i ?_; refine inc_i (by omega) ?_; refine mv_i ?_));
      (rotate_left);
      (with_reducible (refine gd_ht (by assumption) ?_; refine mv_i ?_; refine gd_ff ?_; refine fao ?_; refine gd_ff ?_));
      (refine ldo (by assumption) (q := by infer_instance) (by with_unfolding_all rfl) ?_);
      (with_reducible (refine gd_ff ?_; refine mv_i ?_; refine gd_ff ?_));
      (refine idx_d (by assumption) (by with_unfolding_all rfl) (by omega) fun p hp => ?_);
      (with_reducible (refine gd_ff ?_; refine fa_g (by assumption) fun p hp => ?_; refine gd_ff ?_));
      (refine ld_g (by assumption) (by with_unfolding_all rfl) ?_);
      (with_reducible (refine gd_ff ?_; refine mv_i ?_; refine gd_ff ?_; refine lss_i (fun hc => ?_) (fun hc => ?_); refine gd_ht (by assumption) ?_; refine pick_f ?_; refine pick_h (by assumption) ?_; refine cnd_t ?_; refine fao ?_));
      (refine ldo (by assumption) (q := by infer_instance) (by with_unfolding_all rfl) ?_);
      (with_reducible (refine mv_i ?_));
      (refine idx_d (by assumption) (by with_unfolding_all rfl) (by omega) fun p hp => ?_);
      (with_reducible (refine fa_g (by assumption) fun p hp => ?_));
      (refine ld_g (by assumption) (by with_unfolding_all rfl) ?_);
      (with_reducible (refine mv_i ?_));
      ((with_reducible refine fun (_ : Tmps) => ?_); dsimp only [nth]);
      (with_reducible (refine mv_i ?_; refine inc_i (by omega) ?_; refine mv_i ?_));
      (rotate_left);
      (with_reducible (refine gd_ht (by assumption) ?_; refine pick_f ?_; refine pick_h (by assumption) ?_; refine cnd_f ?_));
      ((with_reducible refine fun (_ : Tmps) => ?_); dsimp only [nth]);
      (with_reducible (refine mv_i ?_; refine inc_i (by omega) ?_; refine mv_i ?_));
      (rotate_left);
      (with_reducible (refine gd_nt (by assumption) ?_; refine gd_nt (by assumption) ?_; refine gd_u ?_; refine gd_u ?_; refine gd_u ?_; refine gd_u ?_; refine gd_u ?_; refine gd_u ?_; refine gd_u ?_; refine gd_u ?_; refine gd_nt (by assumption) ?_; refine pick_n (by assumption) ?_; refine cnd_f ?_));
      ((with_reducible refine fun (_ : Tmps) => ?_); dsimp only [nth]);
      (with_reducible (refine mv_i ?_; refine inc_i (by omega) ?_; refine mv_i ?_));
      (rotate_left);
      (with_reducible (refine cnd_f ?_; refine mv_i ?_; refine mv_i ?_; refine ret1 ?_));
      (rotate_left))
  all_goals first
    | (refine next2 (by omega) ⟨rfl, ?_⟩
       rw [nextR_snoc (by omega)]
       first
         | rw [if_pos ⟨by assumption, by first | exact .inl (by assumption) | exact .inr (by assumption)⟩]
         | (rw [if_neg]; rintro ⟨q1, q2⟩; simp_all <;> omega))
    | (refine ⟨?_, Mem.pre (by assumption)⟩
       rw [List.take_of_length_le (by omega)])
/-! ### the least errors, and clocks that are the same -/
def resE (e : Int) : Value := .agg #[.int .i64 0, .slice none 0 0, .slice none 0 0, .string ⟨#[]⟩, .int .i64 e]
theorem c51 (e : Int) : Runs Try.prog 51 [.int .i64 e] g (resE e) g := by
  have m := Mem.start g
  refine DetP.forget rfl ?_
  refine w51 ?_
  unfold n51 resE
  ((with_reducible (refine alloc_z (by assumption) fun i h z p m => ?_; refine mv_i ?_));
      (refine vk_i (bd39_3 _) ?_);
      (refine st_w (by assumption) (by infer_instance) (by with_unfolding_all rfl) (by with_unfolding_all rfl) (by first | rfl | exact flat_ones (Flat.flat _)) (by infer_instance) fun h p m => ?_);
      (refine rt_w1 (by assumption) (by infer_instance) (by with_unfolding_all rfl) ?_);
      (with_reducible (refine ret1 ?_)))
  exact ⟨rfl, m.pre⟩
theorem eq44 (a b : Tim) : eqSt Try.prog 44 (Flat.cells a).toArray (Flat.cells b).toArray =
    cond (a.owner == b.owner) (cond (a.name.toList == b.name.toList) (cond (a.since == b.since) (cond (a.due == b.due) (cond (a.running == b.running) (cond (a.expired == b.expired) (some true) (some false)) (some false)) (some false)) (some false)) (some false)) (some false) := by kernel_rfl
theorem eq44' (a b : Tim) : eqSt Try.prog 44 (Flat.cells a).toArray (Flat.cells b).toArray = some (decide (a = b)) := by
  rw [eq44]
  by_cases e : a = b
  · subst e; simp
  · rw [decide_eq_false e]
    cases a; cases b
    simp only [Tim.mk.injEq] at e
    simp only [Bool.cond_eq_ite, beq_iff_eq, ba_toList]
    repeat' split
    all_goals first
      | rfl
      | (exfalso; simp_all; done)
theorem tne_i {K : Value → Heap → Prop} {a b : Tim} (h1 : a = b → K (.bool false) g) (h2 : ¬ a = b → K (.bool true) g) : vK (aBin Try.prog .neq 44 (fv a) (fv b)) g K := by
  refine vk_i (v := .bool (!decide (a = b))) (by show (eqSt Try.prog 44 (Flat.cells a).toArray (Flat.cells b).toArray).map (fun r => Value.bool !r) = _; rw [eq44']; rfl) ?_
  by_cases e : a = b
  · subst e; simpa using h1 rfl
  · rw [decide_eq_false e]; exact h2 e
end Go.Proofs.Ytalnnkpdpjmmkaa

set_option linter.unusedSimpArgs false
set_option linter.unusedVariables false
set_option maxRecDepth 100000
set_option maxHeartbeats 4000000
namespace Go.Proofs.Ytalnnkpdpjmmkaa
open Go.AM
variable {g : Heap}
open Classical in
theorem c35 {v w : Value} {a b : Clk} (s : ClkV g v a) (t : ClkV g w b) : Runs Try.prog 35 [v, w] g (.bool (decide (a.now = b.now ∧ a.timers = b.timers))) g := by
  obtain ⟨x, rfl, s⟩ := s
  obtain ⟨y, rfl, t⟩ := t
  have lt := s.lt
  have m := Mem.start g
  refine DetP.forget rfl ?_
  refine w35 ?_
  unfold n35
  ((with_reducible (refine box_a (by assumption) fun i h z p m => ?_; refine box_a (by assumption) fun i h z p m => ?_; refine mv_i ?_; refine fao ?_));
      (refine ldo (by assumption) (q := by infer_instance) (by with_unfolding_all rfl) ?_);
      (with_reducible (refine fao ?_));
      (refine ldo (by assumption) (q := by infer_instance) (by with_unfolding_all rfl) ?_);
      (with_reducible (refine neq_i (fun hc => ?_) (fun hc => ?_); refine mv_i ?_; refine gd_ff ?_; refine fao ?_; refine gd_ff ?_));
      (refine ldo (by assumption) (q := by infer_instance) (by with_unfolding_all rfl) ?_);
      (with_reducible (refine gd_ff ?_; refine len_g (by assumption) ?_; refine gd_ff ?_; refine fao ?_; refine gd_ff ?_));
      (refine ldo (by assumption) (q := by infer_instance) (by with_unfolding_all rfl) ?_);
      (with_reducible (refine gd_ff ?_; refine len_g (by assumption) ?_; refine gd_ff ?_; refine neq_i (fun hc => ?_) (fun hc => ?_); refine pick_f ?_; refine cnd_f ?_; refine mv_i ?_));
      (rotate_left);
      (with_reducible (refine pick_f ?_; refine cnd_t ?_; refine mv_i ?_; refine ret1 ?_));
      (rotate_left);
      (with_reducible (refine mv_i ?_; refine gd_tf ?_; refine gd_tf ?_; refine gd_tf ?_; refine gd_tf ?_; refine gd_tf ?_; refine gd_tf ?_; refine gd_tf ?_; refine pick_t ?_; refine cnd_t ?_; refine mv_i ?_; refine ret1 ?_));
      (rotate_left))
  · refine loop1 a.timers.length (fun k h2 => h = h2 ∧ ∀ j, j < k → gt a.timers j = gt b.timers j) ⟨rfl, fun j hj => by omega⟩ ?_
    rintro k _ _ hk ⟨rfl, hJ⟩
    ((with_reducible (refine mv_i ?_; refine fao ?_));
        (refine ldo (by assumption) (q := by infer_instance) (by with_unfolding_all rfl) ?_);
        (with_reducible (refine len_g (by assumption) ?_; refine lss_i (fun hc => ?_) (fun hc => ?_); refine cnd_t ?_; refine fao ?_));
        (refine ldo (by assumption) (q := by infer_instance) (by with_unfolding_all rfl) ?_);
        (with_reducible (refine vb_l (by assumption) ?_; refine mv_i ?_));
        (refine idx_d (by assumption) (by with_unfolding_all rfl) (by omega) fun p hp => ?_);
        (refine ldr_w (by assumption) (by with_unfolding_all rfl) ?_);
        (with_reducible (refine vb_f ?_; refine fao ?_));
        (refine ldo (by assumption) (q := by infer_instance) (by with_unfolding_all rfl) ?_);
        (with_reducible (refine vb_l (by assumption) ?_; refine mv_i ?_));
        (refine idx_d (by assumption) (by with_unfolding_all rfl) (by omega) fun p hp => ?_);
        (refine ldr_w (by assumption) (by with_unfolding_all rfl) ?_);
        (with_reducible (refine vb_f ?_));
        (refine tne_i (fun hc => ?_) (fun hc => ?_));
        (with_reducible (refine cnd_f ?_; refine mv_i ?_; refine inc_i (by omega) ?_; refine mv_i ?_));
        (rotate_left);
        (with_reducible (refine cnd_t ?_; refine mv_i ?_; refine ret1 ?_));
        (rotate_left);
        (with_reducible (refine cnd_f ?_; refine mv_i ?_; refine ret1 ?_));
        (rotate_left))
    · refine next1 (by omega) ⟨rfl, fun j hj => ?_⟩
      by_cases q : j = k
      · subst q; assumption
      · exact hJ j (by omega)
    · refine ⟨?_, Mem.pre (by assumption)⟩
      rw [decide_eq_false]
      rintro ⟨_, e⟩
      exact hc (by rw [e])
    · refine ⟨?_, Mem.pre (by assumption)⟩
      rw [decide_eq_true]
      refine ⟨by assumption, List.ext_getElem (by omega) fun j h1 h2 => ?_⟩
      rw [gt_at h1, gt_at h2]
      exact hJ j (by omega)
  · refine ⟨?_, m.pre⟩
    rw [decide_eq_false]
    rintro ⟨_, e⟩
    exact hc (by rw [e])
  · exact ⟨by rw [decide_eq_false]; rintro ⟨e, _⟩; contradiction, m.pre⟩
/-- A result: a clock, numbers, a name, an error. -/
def ResV (h : Heap) (v : Value) (c : Clk) (l : List Int) (s : ByteArray) (e : Int) : Prop := ∃ x y, v = .agg #[.int .i64 c.now, x, y, .string s, .int .i64 e] ∧ L h x c.timers ∧ L h y l
open Classical in
theorem c18 {v w : Value} {a b : Clk} {l : List Int} {n : ByteArray} {e e2 : Int} (s : ClkV g v a) (t : ResV g w b l n e2) : Runs Try.prog 18 [v, .int .i64 e, w] g (.bool (decide (e = e2 ∧ a.now = b.now ∧ a.timers = b.timers))) g := by
  obtain ⟨x, rfl, s⟩ := s
  obtain ⟨y, z, rfl, t, t2⟩ := t
  have m := Mem.start g
  refine DetP.forget rfl ?_
  refine w18 ?_
  unfold n18
  ((with_reducible (refine box_a (by assumption) fun i h z p m => ?_; refine box_a (by assumption) fun i h z p m => ?_; refine mv_i ?_; refine mv_i ?_; refine fao ?_));
      (refine ldo (by assumption) (q := by infer_instance) (by with_unfolding_all rfl) ?_);
      (with_reducible (refine eql_i (fun hc => ?_) (fun hc => ?_); refine mv_i ?_; refine gd_tt ?_));
      (refine ldo_w (by assumption) (by infer_instance) (by with_unfolding_all rfl) ?_);
      (with_reducible (refine gd_tt ?_; refine fao ?_; refine gd_tt ?_));
      (refine ldor (by assumption) (q := by infer_instance) (by with_unfolding_all rfl) (by with_unfolding_all exact Nat.le_refl _) ?_);
      (with_reducible (refine gd_tt ?_));
      (rotate_left);
      (with_reducible (refine mv_i ?_; refine gd_ft ?_; refine gd_ft ?_; refine gd_ft ?_; refine gd_ft ?_; refine pick_f ?_; refine mv_i ?_; refine ret1 ?_));
      (rotate_left))
  · refine call_r (c35 ⟨_, by with_unfolding_all rfl, s.up⟩ ⟨_, by with_unfolding_all rfl, t.up⟩) ?_
    ((with_reducible (refine pick_t ?_; refine mv_i ?_; refine ret1 ?_)))
    all_goals exact ⟨by simp_all, m.pre⟩
  · exact ⟨by simp_all, m.pre⟩
theorem c15 [GM g] {v : Value} {c : Clk} (s : ClkV g v c) (f : few c) : Runs Try.prog 15 [v] g
    (if (chk c).2 ≠ 0 then .tuple #[.int .i64 0, .int .i64 (chk c).2] else if nextOf c.timers < 0 then .tuple #[.int .i64 0, .int .i64 23] else .tuple #[.int .i64 (nextOf c.timers), .int .i64 0]) g := by
  obtain ⟨x, rfl, s⟩ := s
  have m := Mem.start g
  refine DetP.forget (by split; rfl; split <;> rfl) ?_
  refine w15 ?_
  unfold n15
  ((with_reducible (refine box_a (by assumption) fun i h z p m => ?_; refine mv_i ?_; refine mv_i ?_));
      (refine ldo_w (by assumption) (by infer_instance) (by with_unfolding_all rfl) ?_))
  refine call_r (c48 ⟨_, rfl, s.up⟩ f) ?_
  ((with_reducible (refine mv_i ?_; refine mv_i ?_; refine neq_i (fun hc => ?_) (fun hc => ?_); refine cnd_f ?_));
      (refine ldo_w (by assumption) (by infer_instance) (by with_unfolding_all rfl) ?_);
      (rotate_left);
      (with_reducible (refine cnd_t ?_; refine mv_i ?_; refine mv_i ?_; refine mv_i ?_; refine ret2 ?_));
      (rotate_left))
  · refine call_r (c49 ⟨_, rfl, s.up⟩) ?_
    ((with_reducible (refine mv_i ?_; refine mv_i ?_; refine lss_i (fun hc => ?_) (fun hc => ?_); refine cnd_t ?_; refine mv_i ?_; refine mv_i ?_; refine ret2 ?_));
        (rotate_left);
        (with_reducible (refine cnd_f ?_; refine mv_i ?_; refine mv_i ?_; refine mv_i ?_; refine ret2 ?_));
        (rotate_left))
    all_goals exact ⟨by simp_all, m.pre⟩
  · exact ⟨by simp_all, m.pre⟩
theorem few_iff {c : Clk} : few c ↔ c.timers.length ≤ 27 ∧ ∀ j, j < c.timers.length → (gt c.timers j).name.size ≤ 60 := by
  unfold few
  refine and_congr_right fun _ => ⟨fun h j hj => h _ (gd_mem _ hj), fun h t ht => ?_⟩
  obtain ⟨j, hj, e⟩ := mem_gd Df.d ht
  rw [← e]; exact h j hj
open Classical in
theorem c11 {v : Value} {c : Clk} (s : ClkV g v c) : Runs Try.prog 11 [v] g (.bool (decide (few c))) g := by
  obtain ⟨x, rfl, s⟩ := s
  have lt := s.lt
  have m := Mem.start g
  refine DetP.forget rfl ?_
  refine w11 ?_
  unfold n11
  ((with_reducible (refine box_a (by assumption) fun i h z p m => ?_; refine mv_i ?_; refine fao ?_));
      (refine ldo (by assumption) (q := by infer_instance) (by with_unfolding_all rfl) ?_);
      (with_reducible (refine len_g (by assumption) ?_; refine gtr_i (fun hc => ?_) (fun hc => ?_); refine cnd_t ?_; refine mv_i ?_; refine ret1 ?_));
      (rotate_left);
      (with_reducible (refine cnd_f ?_; refine mv_i ?_));
      (rotate_left))
  · exact ⟨by rw [decide_eq_false]; rintro ⟨e, _⟩; omega, m.pre⟩
  · refine loop1 c.timers.length (fun k h2 => h = h2 ∧ ∀ j, j < k → (gt c.timers j).name.size ≤ 60) ⟨rfl, fun j hj => by omega⟩ ?_
    rintro k _ _ hk ⟨rfl, hJ⟩
    ((with_reducible (refine mv_i ?_; refine fao ?_));
        (refine ldo (by assumption) (q := by infer_instance) (by with_unfolding_all rfl) ?_);
        (with_reducible (refine len_g (by assumption) ?_; refine lss_i (fun hc => ?_) (fun hc => ?_); refine cnd_t ?_; refine fao ?_));
        (refine ldo (by assumption) (q := by infer_instance) (by with_unfolding_all rfl) ?_);
        (with_reducible (refine mv_i ?_));
        (refine idx_d (by assumption) (by with_unfolding_all rfl) (by omega) fun p hp => ?_);
        (with_reducible (refine fa_g (by assumption) fun p hp => ?_));
        (refine ld_g (by assumption) (by with_unfolding_all rfl) ?_);
        (with_reducible (refine slen_i ?_; refine gtr_i (fun hc => ?_) (fun hc => ?_); refine cnd_t ?_; refine mv_i ?_; refine ret1 ?_));
        (rotate_left);
        (with_reducible (refine cnd_f ?_; refine mv_i ?_; refine inc_i (by omega) ?_; refine mv_i ?_));
        (rotate_left);
        (with_reducible (refine cnd_f ?_; refine mv_i ?_; refine ret1 ?_));
        (rotate_left))
    · refine ⟨?_, Mem.pre (by assumption)⟩
      rw [decide_eq_false]
      rw [few_iff]
      rintro ⟨_, e⟩
      have := e k (by omega)
      omega
    · refine next1 (by omega) ⟨rfl, fun j hj => ?_⟩
      by_cases q : j = k
      · subst q; omega
      · exact hJ j (by omega)
    · refine ⟨?_, Mem.pre (by assumption)⟩
      rw [decide_eq_true]
      rw [few_iff]
      exact ⟨by omega, fun j hj => hJ j (by omega)⟩
end Go.Proofs.Ytalnnkpdpjmmkaa

set_option linter.unusedSimpArgs false
set_option linter.unusedVariables false
set_option maxRecDepth 100000
set_option maxHeartbeats 4000000
namespace Go.Proofs.Ytalnnkpdpjmmkaa
open Go.AM
variable {g : Heap}
/-! ### a timer by its owner and name -/
def isT (o : Int) (n : ByteArray) (t : Tim) : Bool := decide (t.owner = o ∧ t.name = n)
/-- The first index at which it is so, or -1. -/
def idxOf (p : Tim → Bool) : List Tim → Int
  | [] => -1
  | t :: l => if p t = true then 0 else if idxOf p l < 0 then -1 else idxOf p l + 1
theorem idxOf_no {p : Tim → Bool} {l : List Tim} (hf : ∀ j, j < l.length → p (gt l j) = false) : idxOf p l = -1 := by
  induction l with
  | nil => rfl
  | cons t l ih =>
    unfold idxOf
    have h0 := hf 0 (by simp)
    rw [show gt (t :: l) 0 = t from rfl] at h0
    rw [if_neg (by simp [h0]), ih fun j hj => hf (j + 1) (by simpa using hj)]
    rfl
theorem idxOf_at {p : Tim → Bool} {l : List Tim} {k : Nat} (hf : ∀ j, j < k → p (gt l j) = false) (hk : k < l.length) (he : p (gt l k) = true) : idxOf p l = k := by
  induction l generalizing k with
  | nil => simp at hk
  | cons t l ih =>
    unfold idxOf
    cases k with
    | zero => rw [if_pos (by simpa [gt] using he)]; rfl
    | succ k =>
      have h0 := hf 0 (by omega)
      rw [show gt (t :: l) 0 = t from rfl] at h0
      rw [if_neg (by simp [h0]), ih (k := k) (fun j hj => hf (j + 1) (by omega)) (by simpa using hk) he]
      rw [if_neg (by omega)]
      push_cast; rfl
theorem c57 {v : Value} {c : Clk} (s : ClkV g v c) (o : Int) (n : ByteArray) : Runs Try.prog 57 [v, .int .i64 o, .string n] g (.int .i64 (idxOf (isT o n) c.timers)) g := by
  obtain ⟨x, rfl, s⟩ := s
  have lt := s.lt
  have m := Mem.start g
  refine DetP.forget rfl ?_
  refine w57 ?_
  unfold n57
  ((with_reducible (refine box_a (by assumption) fun i h z p m => ?_; refine mv_i ?_; refine mv_i ?_)))
  refine loop1 c.timers.length (fun k h2 => h = h2 ∧ ∀ j, j < k → isT o n (gt c.timers j) = false) ⟨rfl, fun j hj => by omega⟩ ?_
  rintro k _ _ hk ⟨rfl, hJ⟩
  ((with_reducible (refine mv_i ?_; refine fao ?_));
      (refine ldo (by assumption) (q := by infer_instance) (by with_unfolding_all rfl) ?_);
      (with_reducible (refine len_g (by assumption) ?_; refine lss_i (fun hc => ?_) (fun hc => ?_); refine cnd_t ?_; refine fao ?_));
      (refine ldo (by assumption) (q := by infer_instance) (by with_unfolding_all rfl) ?_);
      (with_reducible (refine mv_i ?_));
      (refine idx_d (by assumption) (by with_unfolding_all rfl) (by omega) fun p hp => ?_);
      (with_reducible (refine fa_g (by assumption) fun p hp => ?_));
      (refine ld_g (by assumption) (by with_unfolding_all rfl) ?_);
      (with_reducible (refine mv_i ?_; refine eql_i (fun hc => ?_) (fun hc => ?_); refine mv_i ?_; refine gd_tt ?_; refine fao ?_; refine gd_tt ?_));
      (refine ldo (by assumption) (q := by infer_instance) (by with_unfolding_all rfl) ?_);
      (with_reducible (refine gd_tt ?_; refine mv_i ?_; refine gd_tt ?_));
      (refine idx_d (by assumption) (by with_unfolding_all rfl) (by omega) fun p hp => ?_);
      (with_reducible (refine gd_tt ?_; refine fa_g (by assumption) fun p hp => ?_; refine gd_tt ?_));
      (refine ld_g (by assumption) (by with_unfolding_all rfl) ?_);
      (with_reducible (refine gd_tt ?_; refine mv_i ?_; refine gd_tt ?_; refine seq_s (fun hc => ?_) (fun hc => ?_); refine pick_t ?_; refine cnd_t ?_; refine mv_i ?_; refine mv_i ?_; refine ret1 ?_));
      (rotate_left);
      (with_reducible (refine pick_t ?_; refine cnd_f ?_; refine mv_i ?_; refine inc_i (by omega) ?_; refine mv_i ?_));
      (rotate_left);
      (with_reducible (refine mv_i ?_; refine gd_ft ?_; refine gd_ft ?_; refine gd_ft ?_; refine gd_ft ?_; refine gd_ft ?_; refine gd_ft ?_; refine gd_ft ?_; refine gd_ft ?_; refine pick_f ?_; refine cnd_f ?_; refine mv_i ?_; refine inc_i (by omega) ?_; refine mv_i ?_));
      (rotate_left);
      (with_reducible (refine cnd_f ?_; refine mv_i ?_; refine ret1 ?_));
      (rotate_left))
  all_goals first
    | (refine next1 (by omega) ⟨rfl, fun j hj => ?_⟩
       by_cases q : j = k
       · subst q; simp [isT, *]
       · exact hJ j (by omega))
    | (refine ⟨?_, Mem.pre (by assumption)⟩
       rw [idxOf_at hJ (by omega) (by simp [isT, *])])
    | (refine ⟨?_, Mem.pre (by assumption)⟩
       rw [idxOf_no fun j hj => hJ j (by omega)])
/-- The function value that the program hands to the search. -/
theorem c76 {i j k l z1 z2 : Nat} {o : Int} {n : ByteArray} {Lm : List E} {g0 : Heap} (t : Tim) (m : Mem g0 g Lm) (q1 : Ent Lm i k [.int .i64 o] z1) (q2 : Ent Lm j l [.string n] z2) :
    Runs Try.prog 76 [fv t, .pointer (some ⟨i, 0, none⟩), .pointer (some ⟨j, 0, none⟩)] g (.bool (isT o n t)) g := by
  refine DetP.forget rfl ?_
  refine w76 ?_
  unfold n76
  refine box_ap m fun i2 h z pp p m => ?_
  ((with_reducible (refine mv_i ?_; refine fao ?_));
      (refine ldo (by assumption) (q := by infer_instance) (by with_unfolding_all rfl) ?_);
      (refine ldo (by assumption) (q := by infer_instance) (by with_unfolding_all rfl) ?_);
      (with_reducible (refine eql_i (fun hc => ?_) (fun hc => ?_); refine mv_i ?_; refine gd_tt ?_; refine fao ?_; refine gd_tt ?_));
      (refine ldo (by assumption) (q := by infer_instance) (by with_unfolding_all rfl) ?_);
      (with_reducible (refine gd_tt ?_));
      (refine ldo (by assumption) (q := by infer_instance) (by with_unfolding_all rfl) ?_);
      (with_reducible (refine gd_tt ?_; refine seq_s (fun hc => ?_) (fun hc => ?_); refine pick_t ?_; refine mv_i ?_; refine ret1 ?_));
      (rotate_left);
      (with_reducible (refine pick_t ?_; refine mv_i ?_; refine ret1 ?_));
      (rotate_left);
      (with_reducible (refine mv_i ?_; refine gd_ft ?_; refine gd_ft ?_; refine gd_ft ?_; refine gd_ft ?_; refine pick_f ?_; refine mv_i ?_; refine ret1 ?_));
      (rotate_left))
  all_goals exact ⟨by simp [isT, *], pp⟩
theorem c75 {x : Value} {l : List Tim} {f : FuncId} {cap : Array Value} (s : L g x l) {p : Tim → Bool} (hpp : ∀ t, Runs Try.prog f ([fv t] ++ cap.toList) g (.bool (p t)) g) :
    Runs Try.prog 75 [x, .func (.func f) #[] cap] g (.int .i64 (idxOf p l)) g := by
  have lt := s.lt
  refine DetP.runs (w75 ?_)
  unfold n75
  ((with_reducible (refine mv_i ?_; refine mv_i ?_; refine len_g (by assumption) ?_; refine mv_i ?_)))
  refine loop1 l.length (fun k h2 => g = h2 ∧ ∀ j, j < k → p (gt l j) = false) ⟨rfl, fun j hj => by omega⟩ ?_
  rintro k _ _ hk ⟨rfl, hJ⟩
  ((with_reducible (refine lss_i (fun hc => ?_) (fun hc => ?_); refine cnd_t ?_; refine mv_i ?_; refine mv_i ?_; refine mv_i ?_; refine mv_i ?_; refine mv_i ?_));
      (refine idx_d (by assumption) (by with_unfolding_all rfl) (by omega) fun p hp => ?_);
      (refine ldr_w (by assumption) (by with_unfolding_all rfl) ?_);
      (rotate_left);
      (with_reducible (refine cnd_f ?_; refine mv_i ?_; refine ret1 ?_));
      (rotate_left))
  · refine call_r (hpp _) ?_
    ((with_reducible (refine cnd_b (fun hb => ?_) (fun hb => ?_); refine mv_i ?_; refine mv_i ?_; refine ret1 ?_));
        (rotate_left);
        (with_reducible (refine inc_i (by omega) ?_; refine mv_i ?_));
        (rotate_left))
    · exact ⟨by rw [idxOf_at hJ (by omega) hb], rfl⟩
    · refine next1 (by omega) ⟨rfl, fun j hj => ?_⟩
      by_cases q : j = k
      · subst q; exact hb
      · exact hJ j (by omega)
  · exact ⟨by rw [idxOf_no fun j hj => hJ j (by omega)], rfl⟩
theorem c56 {v : Value} {c : Clk} (s : ClkV g v c) (o : Int) (n : ByteArray) : Runs Try.prog 56 [v, .int .i64 o, .string n] g (.int .i64 (idxOf (isT o n) c.timers)) g := by
  obtain ⟨x, rfl, s⟩ := s
  have m := Mem.start g
  refine DetP.forget rfl ?_
  refine w56 ?_
  unfold n56
  ((with_reducible (refine box_a (by assumption) fun i h z p m => ?_));
      (refine box_1 (by assumption) (by with_unfolding_all rfl) fun i h z p m => ?_);
      (refine box_1 (by assumption) (by with_unfolding_all rfl) fun i h z p m => ?_);
      (with_reducible (refine mv_i ?_; refine fao ?_));
      (refine ldo (by assumption) (q := by infer_instance) (by with_unfolding_all rfl) ?_);
      (with_reducible (refine mv_i ?_)))
  refine call_r (c75 (p := isT o n) s.up fun t => c76 t m (by infer_instance) (by infer_instance)) ?_
  ((with_reducible (refine mv_i ?_; refine ret1 ?_)))
  exact ⟨rfl, m.pre⟩
noncomputable def namE (c : Clk) (o : Int) (n : ByteArray) : Int :=
  if orOf [(chk c).2, ownE o, nameE n] ≠ 0 then orOf [(chk c).2, ownE o, nameE n] else if idxOf (isT o n) c.timers < 0 then 11 else 0
theorem c55 [GM g] {v : Value} {c : Clk} (s : ClkV g v c) (f : few c) (o : Int) (n : ByteArray) (hn : n.size ≤ 60) : Runs Try.prog 55 [v, .int .i64 o, .string n] g (.int .i64 (namE c o n)) g := by
  obtain ⟨x, rfl, s⟩ := s
  have m := Mem.start g
  refine DetP.forget rfl ?_
  refine w55 ?_
  unfold n55
  ((with_reducible (refine box_a (by assumption) fun i h z p m => ?_; refine mv_i ?_));
      (refine ldo_w (by assumption) (by infer_instance) (by with_unfolding_all rfl) ?_);
      (refine call_r (c48 ⟨_, by with_unfolding_all rfl, L.up (by assumption)⟩ (by assumption)) ?_);
      (with_reducible (refine mv_i ?_));
      (refine call_r (c43 _) ?_);
      (with_reducible (refine mv_i ?_));
      (refine call_r (c44 _ (by assumption)) ?_);
      (refine bs_g (bs88_3 _ _ _ _) (by assumption) fun i h p m => ?_);
      (refine call_r (c42 (own_ints (xs := [_, _, _]) (by assumption) (q := by infer_instance) rfl rfl (by decide))) ?_);
      (with_reducible (refine mv_i ?_; refine seq_i ?_; refine mv_i ?_; refine eql_i (fun hc => ?_) (fun hc => ?_); refine mv_i ?_; refine gd_tt ?_));
      (refine ldo_w (by assumption) (by infer_instance) (by with_unfolding_all rfl) ?_);
      (with_reducible (refine gd_tt ?_; refine mv_i ?_; refine gd_tt ?_; refine mv_i ?_; refine gd_tt ?_));
      (refine call_r (c56 ⟨_, by with_unfolding_all rfl, L.up (by assumption)⟩ _ _) ?_);
      (with_reducible (refine gd_tt ?_; refine lss_i (fun hc => ?_) (fun hc => ?_); refine pick_t ?_; refine cnd_t ?_; refine mv_i ?_));
      ((with_reducible refine fun (_ : Tmps) => ?_); dsimp only [nth]);
      (with_reducible (refine mv_i ?_; refine mv_i ?_; refine ret1 ?_));
      (rotate_left);
      (with_reducible (refine pick_t ?_; refine cnd_f ?_));
      ((with_reducible refine fun (_ : Tmps) => ?_); dsimp only [nth]);
      (with_reducible (refine mv_i ?_; refine mv_i ?_; refine ret1 ?_));
      (rotate_left);
      (with_reducible (refine mv_i ?_; refine gd_ft ?_; refine gd_ft ?_; refine gd_ft ?_; refine gd_ft ?_; refine gd_ft ?_; refine pick_f ?_; refine cnd_f ?_));
      ((with_reducible refine fun (_ : Tmps) => ?_); dsimp only [nth]);
      (with_reducible (refine mv_i ?_; refine mv_i ?_; refine ret1 ?_));
      (rotate_left))
  all_goals exact ⟨by simp [namE, *], Mem.pre (by assumption)⟩
noncomputable def anyE (c : Clk) (o : Int) (n : ByteArray) : Int := if n = ⟨#[]⟩ then orOf [(chk c).2, ownE o] else namE c o n
theorem c52 [GM g] {v : Value} {c : Clk} (s : ClkV g v c) (f : few c) (o : Int) (n : ByteArray) (hn : n.size ≤ 60) : Runs Try.prog 52 [v, .int .i64 o, .string n] g (.int .i64 (anyE c o n)) g := by
  obtain ⟨x, rfl, s⟩ := s
  have m := Mem.start g
  refine DetP.forget rfl ?_
  refine w52 ?_
  unfold n52
  ((with_reducible (refine box_a (by assumption) fun i h z p m => ?_; refine mv_i ?_; refine mv_i ?_; refine seq_s (fun hc => ?_) (fun hc => ?_); refine cnd_t ?_));
      (refine ldo_w (by assumption) (by infer_instance) (by with_unfolding_all rfl) ?_);
      (refine call_r (c48 ⟨_, by with_unfolding_all rfl, L.up (by assumption)⟩ (by assumption)) ?_);
      (with_reducible (refine mv_i ?_));
      (refine call_r (c43 _) ?_);
      (refine bs_g (bs88_2 _ _ _) (by assumption) fun i h p m => ?_);
      (refine call_r (c42 (own_ints (xs := [_, _]) (by assumption) (q := by infer_instance) rfl rfl (by decide))) ?_);
      (with_reducible (refine mv_i ?_; refine ret1 ?_));
      (rotate_left);
      (with_reducible (refine cnd_f ?_));
      (refine ldo_w (by assumption) (by infer_instance) (by with_unfolding_all rfl) ?_);
      (with_reducible (refine mv_i ?_; refine mv_i ?_));
      (rotate_left))
  · exact ⟨by rw [anyE, if_pos hc], Mem.pre (by assumption)⟩
  · refine call_r (c55 ⟨_, rfl, s.up⟩ f o n hn) ?_
    ((with_reducible (refine mv_i ?_; refine ret1 ?_)))
    exact ⟨by rw [anyE, if_neg hc], Mem.pre (by assumption)⟩
def idle (t : Tim) : Tim := ⟨t.owner, t.name, 0, 0, false, false⟩
end Go.Proofs.Ytalnnkpdpjmmkaa
