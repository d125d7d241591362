import Derived.Test.YtgmgmkhenhaniaaAmX
import Derived.Test.YtgmgmkhenhaniaaProg
import Derived.KernelRfl
import Derived.Test.YtgmgmkhenhaniaaAmW
import Derived.Test.YtgmgmkhenhaniaaAnC
import Derived.Test.YtgmgmkhenhaniaaAnH
import Derived.Test.YtgmgmkhenhaniaaAnS
set_option linter.unusedSimpArgs false
set_option linter.unusedVariables false
set_option maxRecDepth 100000
namespace Go.Proofs.Ytgmgmkhenhaniaa
open Go.AM
variable {h h' h0 : Heap}
/-! ### awake: a closed call, by evaluation -/
def isTrue : Option (Value × Heap) → Bool | some (.bool true, _) => true | _ => false
def aw : List Nat := [4, 10, 11, 12, 15, 18, 26, 30, 31, 32, 35, 36, 37, 40, 41, 46, 49, 50, 51, 52, 54, 56, 57, 58, 69, 70, 73, 74, 75, 76, 90, 91, 92, 93, 94, 95, 100, 101]
theorem aw_ok : aw.all (fOK Try.prog) = true := by kernel_rfl
theorem aw_ev : isTrue (evF Try.prog aw 400 60 4 [] []) = true := by kernel_rfl
theorem c11 : Runs Try.prog 4 [] h (.bool true) h := by
  have := aw_ev
  unfold isTrue at this
  split at this
  · rename_i hr he
    exact Runs.closed rfl (evF_ok (fun f hf => List.all_eq_true.mp aw_ok f hf) _ _ _ _ _ _ he)
  · cases this
end Go.Proofs.Ytgmgmkhenhaniaa

set_option linter.unusedVariables false
set_option maxRecDepth 100000
namespace Go.Proofs.Ytgmgmkhenhaniaa
open Go.AM

/-! ### examiner/examinertop.MutantsExact: function 3 -/
def n1003 (a0 a1 : Value) (h : Heap) (R : Value → Heap → Prop) : Prop :=
  okK (some (aBox Try.prog 24 a0 h)) fun v2 h =>
  mvK (Value.bool false) h fun v4 h =>
  cK Try.prog 4 [] h fun v10 h =>
  vK (aUn UnOp.not v10) h fun v11 h =>
  cnd v11 (
   mvK (Value.bool false) h fun v4_1 h =>
   retV [some v4_1] R h) (
   vK (aLoad Try.prog 24 v2 h) h fun v12 h =>
   cK Try.prog 5 [v12] h fun v13 h =>
   vK (aBin Try.prog BinOp.neq 3 v13 (Value.int IntKind.i64 0)) h fun v14 h =>
   mvK v14 h fun v15 h =>
   gdK v15 false (fun k0 =>
    vK (aFieldAddr Try.prog 24 v2 0) h fun v16 h =>
    k0 v16 h) (fun v16_1 h =>
    gdK v15 false (fun k1 =>
     vK (aLoad Try.prog 3 v16_1 h) h fun v17 h =>
     k1 v17 h) (fun v17_1 h =>
     gdK v15 false (fun k2 =>
      vK (aBin Try.prog BinOp.gtr 3 v17_1 (Value.int IntKind.i64 3)) h fun v18 h =>
      k2 v18 h) (fun v18_1 h =>
      vK (pickV v15 (Value.bool true) v18_1) h fun v19 h =>
      mvK v19 h fun v20 h =>
      gdK v20 false (fun k3 =>
       vK (aFieldAddr Try.prog 24 v2 1) h fun v21 h =>
       k3 v21 h) (fun v21_1 h =>
       gdK v20 false (fun k4 =>
        vK (aLoad Try.prog 3 v21_1 h) h fun v22 h =>
        k4 v22 h) (fun v22_1 h =>
        gdK v20 false (fun k5 =>
         vK (aBin Try.prog BinOp.gtr 3 v22_1 (Value.int IntKind.i64 2)) h fun v23 h =>
         k5 v23 h) (fun v23_1 h =>
         vK (pickV v20 (Value.bool true) v23_1) h fun v24 h =>
         mvK v24 h fun v25 h =>
         gdK v25 false (fun k6 =>
          vK (aFieldAddr Try.prog 24 v2 2) h fun v26 h =>
          k6 v26 h) (fun v26_1 h =>
          gdK v25 false (fun k7 =>
           vK (aLoad Try.prog 3 v26_1 h) h fun v27 h =>
           k7 v27 h) (fun v27_1 h =>
           gdK v25 false (fun k8 =>
            vK (aBin Try.prog BinOp.gtr 3 v27_1 (Value.int IntKind.i64 3)) h fun v28 h =>
            k8 v28 h) (fun v28_1 h =>
            vK (pickV v25 (Value.bool true) v28_1) h fun v29 h =>
            cnd v29 (
             mvK (Value.bool true) h fun v4_2 h =>
             retV [some v4_2] R h) (
             vK (aLoad Try.prog 24 v2 h) h fun v31 h =>
             cK Try.prog 7 [v31] h fun v32 h =>
             cK Try.prog 6 [v32] h fun v33 h =>
             mvK v33 h fun v30 h =>
             vK (aExtract v30 0) h fun v34 h =>
             vK (aExtract v30 1) h fun v35 h =>
             mvK v34 h fun v5 h =>
             mvK v35 h fun v6 h =>
             mvK v6 h fun v36 h =>
             vK (aBin Try.prog BinOp.neq 28 v36 (Value.int IntKind.i64 0)) h fun v37 h =>
             cnd v37 (
              mvK (Value.bool false) h fun v4_3 h =>
              retV [some v4_3] R h) (
              vK (aLoad Try.prog 24 v2 h) h fun v39 h =>
              mvK a1 h fun v40 h =>
              cK Try.prog 8 [v39, v40] h fun v41 h =>
              mvK v41 h fun v38 h =>
              vK (aExtract v38 0) h fun v42 h =>
              vK (aExtract v38 1) h fun v43 h =>
              mvK v42 h fun v7 h =>
              mvK v43 h fun v8 h =>
              mvK v8 h fun v44 h =>
              vK (aBin Try.prog BinOp.eql 3 v44 (Value.int IntKind.i64 0)) h fun v45 h =>
              mvK v45 h fun v46 h =>
              gdK v46 true (fun k9 =>
               vK (aLoad Try.prog 24 v2 h) h fun v47 h =>
               k9 v47 h) (fun v47_1 h =>
               gdK v46 true (fun k10 =>
                mvK a1 h fun v48 h =>
                k10 v48 h) (fun v48_1 h =>
                gdK v46 true (fun k11 =>
                 cK Try.prog 9 [v47_1, v48_1] h fun v49 h =>
                 k11 v49 h) (fun v49_1 h =>
                 gdK v46 true (fun k12 =>
                  vK (aUn UnOp.not v49_1) h fun v50 h =>
                  k12 v50 h) (fun v50_1 h =>
                  vK (pickV v46 v50_1 (Value.bool false)) h fun v51 h =>
                  cnd v51 (
                   mvK (Value.bool false) h fun v4_4 h =>
                   retV [some v4_4] R h) (
                   mvK (Value.int IntKind.i64 0) h fun v9 h =>
                   ∃ (I12 : List Value → Heap → Prop) (μ12 : List Value → Heap → Nat), I12 [v9] h ∧
                   ∀ (h12 : Heap) (j12 : Tmps) (v9_1 : Value), I12 [v9_1] h12 → (let h := h12
                    mvK v9_1 h fun v52 h =>
                    mvK v5 h fun v53 h =>
                    vK (aLen Try.prog 25 v53) h fun v54 h =>
                    vK (aBin Try.prog BinOp.lss 3 v52 v54) h fun v55 h =>
                    cnd v55 (
                     vK (aLoad Try.prog 24 v2 h) h fun v58 g =>
                     VB h.length v58 ∧ (let h := g
                      mvK v5 h fun v59 h =>
                      mvK v9_1 h fun v60 h =>
                      vK (aIndexAddr Try.prog 25 v59 v60) h fun v61 h =>
                      vK (aLoad Try.prog 36 v61 h) h fun v62 g =>
                      VB h.length v62 ∧ (let h := g
                       okK (aBuildSlice Try.prog 25 1 [(0, v62)] h) fun v63 h =>
                       cKD Try.prog 9 [v58, v63] h fun v64 g =>
                       (∃ new, g = h ++ new) ∧ (let h := g
                        vK (aUn UnOp.not v64) h fun v65 h =>
                        cnd v65 (
                         mvK (Value.bool false) h fun v4_5 h =>
                         retV [some v4_5] R h) (
                         mvK v9_1 h fun v56 h =>
                         vK (aBin Try.prog BinOp.add 3 v56 (Value.int IntKind.i64 1)) h fun v57 h =>
                         mvK v57 h fun v9_2 h =>
                         I12 [v9_2] h ∧ μ12 [v9_2] h < μ12 [v9_1] h12))))) (
                     mvK (Value.bool true) h fun v4_6 h =>
                     retV [some v4_6] R h)))) h) h) h) h))) h) h) h) h) h) h) h) h) h)
def lv1003 (q : Nat) : List Nat := bif Nat.beq q 24 then [73782472695210836496, 9] else []
theorem ok1003 : lkOK Try.prog lv1003 Try.f3 2 (Try.f3.body.getD .skip) 3 = true := by kernel_rfl
theorem e1003 (a0 a1 : Value) (h : Heap) (R : Value → Heap → Prop) : n1003 a0 a1 h R = wpK Try.prog lv1003 (Try.f3.body.getD .skip) (endK Try.prog [.tmp 4] R) (argT [a0, a1]) h := by kernel_rfl
theorem w1003 {a0 a1 : Value} {h : Heap} {R : Value → Heap → Prop} (hn : n1003 a0 a1 h R) : DetP Try.prog 3 [a0, a1] h R :=
  DetP.of_code (rs := [.tmp 4]) (n := 2) Try.func3 (by kernel_rfl) (by kernel_rfl) lv1003 ok1003 rfl ((e1003 a0 a1 h R) ▸ hn)

/-! ### examiner/examinertop.mutantAwake: function 4 -/
/-! ### examiner/examinertop.judged: function 9 -/
def n1009 (a0 a1 : Value) (h : Heap) (R : Value → Heap → Prop) : Prop :=
  okK (some (aBox Try.prog 24 a0 h)) fun v2 h =>
  mvK (Value.bool false) h fun v4 h =>
  vK (aLoad Try.prog 24 v2 h) h fun v16 h =>
  cK Try.prog 7 [v16] h fun v17 h =>
  mvK a1 h fun v18 h =>
  cK Try.prog 24 [v18] h fun v19 h =>
  cK Try.prog 23 [v17, v19] h fun v20 h =>
  mvK v20 h fun v15 h =>
  vK (aExtract v15 0) h fun v21 h =>
  vK (aExtract v15 1) h fun v22 h =>
  okK (aAlloc Try.prog 24 h) fun v5 h =>
  okK ((aStore Try.prog 24 v5 v21 h).map (undef, ·)) fun _ h =>
  mvK v22 h fun v6 h =>
  vK (aLoad Try.prog 24 v2 h) h fun v24 h =>
  cK Try.prog 7 [v24] h fun v25 h =>
  mvK a1 h fun v26 h =>
  cK Try.prog 24 [v26] h fun v27 h =>
  cK Try.prog 10 [v25, v27] h fun v28 h =>
  mvK v28 h fun v23 h =>
  vK (aExtract v23 0) h fun v29 h =>
  vK (aExtract v23 1) h fun v30 h =>
  mvK v29 h fun v7 h =>
  mvK v30 h fun v8 h =>
  vK (aLoad Try.prog 24 v2 h) h fun v32 h =>
  cK Try.prog 7 [v32] h fun v33 h =>
  mvK a1 h fun v34 h =>
  cK Try.prog 24 [v34] h fun v35 h =>
  cK Try.prog 25 [v33, v35] h fun v36 h =>
  mvK v36 h fun v31 h =>
  vK (aExtract v31 0) h fun v37 h =>
  vK (aExtract v31 1) h fun v38 h =>
  mvK v37 h fun v9 h =>
  mvK v38 h fun v10 h =>
  mvK v6 h fun v39 h =>
  vK (aBin Try.prog BinOp.neq 28 v39 (Value.int IntKind.i64 0)) h fun v40 h =>
  mvK v40 h fun v41 h =>
  gdK v41 false (fun k0 =>
   vK (aLoad Try.prog 24 v5 h) h fun v42 h =>
   k0 v42 h) (fun v42_1 h =>
   gdK v41 false (fun k1 =>
    cK Try.prog 13 [v42_1] h fun v43 h =>
    k1 v43 h) (fun v43_1 h =>
    gdK v41 false (fun k2 =>
     vK (aBin Try.prog BinOp.neq 3 v43_1 (Value.int IntKind.i64 0)) h fun v44 h =>
     k2 v44 h) (fun v44_1 h =>
     vK (pickV v41 (Value.bool true) v44_1) h fun v45 h =>
     cnd v45 (
      mvK (Value.bool false) h fun v4_1 h =>
      retV [some v4_1] R h) (
      vK (aLoad Try.prog 24 v2 h) h fun v47 g =>
      VB h.length v47 ∧ (let h := g
       cKD Try.prog 7 [v47] h fun v48 g =>
       (∃ new, g = h ++ new) ∧ (let h := g
        vK (aLoad Try.prog 24 v5 h) h fun v49 g =>
        VB h.length v49 ∧ (let h := g
         cKD Try.prog 7 [v49] h fun v50 g =>
         (∃ new, g = h ++ new) ∧ (let h := g
          cKD Try.prog 26 [v48, v50] h fun v51 g =>
          (∃ new, g = h ++ new) ∧ (let h := g
           mvK v51 h fun v46 h =>
           vK (aExtract v46 0) h fun v52 h =>
           vK (aExtract v46 1) h fun v53 h =>
           mvK v52 h fun v11 h =>
           mvK v53 h fun v12 h =>
           mvK v8 h fun v54 h =>
           vK (aBin Try.prog BinOp.eql 28 v54 (Value.int IntKind.i64 0)) h fun v55 h =>
           cnd v55 (
            mvK v10 h fun v56 h =>
            vK (aBin Try.prog BinOp.eql 28 v56 (Value.int IntKind.i64 23)) h fun v57 h =>
            mvK v57 h fun v58 h =>
            gdK v58 true (fun k3 =>
             mvK v12 h fun v59 h =>
             k3 v59 h) (fun v59_1 h =>
             gdK v58 true (fun k4 =>
              vK (aBin Try.prog BinOp.eql 28 v59_1 (Value.int IntKind.i64 0)) h fun v60 h =>
              k4 v60 h) (fun v60_1 h =>
              vK (pickV v58 v60_1 (Value.bool false)) h fun v61 h =>
              mvK v61 h fun v62 h =>
              gdK v62 true (fun k5 =>
               mvK v7 h fun v63 h =>
               k5 v63 h) (fun v63_1 h =>
               gdK v62 true (fun k6 =>
                mvK v11 h fun v64 h =>
                k6 v64 h) (fun v64_1 h =>
                gdK v62 true (fun k7 =>
                 cK Try.prog 12 [v63_1, v64_1] h fun v65 h =>
                 k7 v65 h) (fun v65_1 h =>
                 vK (pickV v62 v65_1 (Value.bool false)) h fun v66 h =>
                 mvK v66 h fun v67 h =>
                 gdK v67 true (fun k8 =>
                  vK (aLoad Try.prog 24 v2 h) h fun v68 h =>
                  k8 v68 h) (fun v68_1 h =>
                  gdK v67 true (fun k9 =>
                   vK (aLoad Try.prog 24 v5 h) h fun v69 h =>
                   k9 v69 h) (fun v69_1 h =>
                   gdK v67 true (fun k10 =>
                    mvK v7 h fun v70 h =>
                    k10 v70 h) (fun v70_1 h =>
                    gdK v67 true (fun k11 =>
                     cK Try.prog 27 [v68_1, v69_1, v70_1] h fun v71 h =>
                     k11 v71 h) (fun v71_1 h =>
                     vK (pickV v67 v71_1 (Value.bool false)) h fun v72 h =>
                     mvK v72 h fun v4_2 h =>
                     retV [some v4_2] R h) h) h) h) h) h) h) h) h) h) (
            vK (aLoad Try.prog 24 v2 h) h fun v74 h =>
            cK Try.prog 7 [v74] h fun v75 h =>
            mvK a1 h fun v76 h =>
            cK Try.prog 24 [v76] h fun v77 h =>
            mvK v9 h fun v78 h =>
            cK Try.prog 28 [v75, v77, v78] h fun v79 h =>
            mvK v79 h fun v73 h =>
            vK (aExtract v73 0) h fun v80 h =>
            vK (aExtract v73 1) h fun v81 h =>
            mvK v80 h fun v13 h =>
            mvK v81 h fun v14 h =>
            mvK v8 h fun v82 h =>
            vK (aBin Try.prog BinOp.eql 28 v82 (Value.int IntKind.i64 23)) h fun v83 h =>
            mvK v83 h fun v84 h =>
            gdK v84 true (fun k12 =>
             mvK v10 h fun v85 h =>
             k12 v85 h) (fun v85_1 h =>
             gdK v84 true (fun k13 =>
              vK (aBin Try.prog BinOp.eql 28 v85_1 (Value.int IntKind.i64 0)) h fun v86 h =>
              k13 v86 h) (fun v86_1 h =>
              vK (pickV v84 v86_1 (Value.bool false)) h fun v87 h =>
              mvK v87 h fun v88 h =>
              gdK v88 true (fun k14 =>
               mvK v12 h fun v89 h =>
               k14 v89 h) (fun v89_1 h =>
               gdK v88 true (fun k15 =>
                vK (aBin Try.prog BinOp.eql 28 v89_1 (Value.int IntKind.i64 23)) h fun v90 h =>
                k15 v90 h) (fun v90_1 h =>
                vK (pickV v88 v90_1 (Value.bool false)) h fun v91 h =>
                mvK v91 h fun v92 h =>
                gdK v92 true (fun k16 =>
                 mvK v14 h fun v93 h =>
                 k16 v93 h) (fun v93_1 h =>
                 gdK v92 true (fun k17 =>
                  vK (aBin Try.prog BinOp.eql 28 v93_1 (Value.int IntKind.i64 0)) h fun v94 h =>
                  k17 v94 h) (fun v94_1 h =>
                  vK (pickV v92 v94_1 (Value.bool false)) h fun v95 h =>
                  mvK v95 h fun v96 h =>
                  gdK v96 true (fun k18 =>
                   mvK v13 h fun v97 h =>
                   k18 v97 h) (fun v97_1 h =>
                   gdK v96 true (fun k19 =>
                    mvK v9 h fun v98 h =>
                    k19 v98 h) (fun v98_1 h =>
                    gdK v96 true (fun k20 =>
                     vK (aLen Try.prog 56 v98_1) h fun v99 h =>
                     k20 v99 h) (fun v99_1 h =>
                     gdK v96 true (fun k21 =>
                      vK (aBin Try.prog BinOp.eql 3 v97_1 v99_1) h fun v100 h =>
                      k21 v100 h) (fun v100_1 h =>
                      vK (pickV v96 v100_1 (Value.bool false)) h fun v101 h =>
                      mvK v101 h fun v102 h =>
                      gdK v102 true (fun k22 =>
                       vK (aLoad Try.prog 24 v2 h) h fun v103 h =>
                       k22 v103 h) (fun v103_1 h =>
                       gdK v102 true (fun k23 =>
                        vK (aLoad Try.prog 24 v5 h) h fun v104 h =>
                        k23 v104 h) (fun v104_1 h =>
                        gdK v102 true (fun k24 =>
                         cK Try.prog 29 [v103_1, v104_1, (Value.slice none 0 0)] h fun v105 h =>
                         k24 v105 h) (fun v105_1 h =>
                         gdK v102 true (fun k25 =>
                          vK (aUn UnOp.not v105_1) h fun v106 h =>
                          k25 v106 h) (fun v106_1 h =>
                          vK (pickV v102 v106_1 (Value.bool false)) h fun v107 h =>
                          mvK v107 h fun v4_3 h =>
                          retV [some v4_3] R h) h) h) h) h) h) h) h) h) h) h) h) h) h) h)))))))) h) h) h
def lv1009 (q : Nat) : List Nat := []
theorem ok1009 : lkOK Try.prog lv1009 Try.f9 2 (Try.f9.body.getD .skip) 9 = true := by kernel_rfl
theorem e1009 (a0 a1 : Value) (h : Heap) (R : Value → Heap → Prop) : n1009 a0 a1 h R = wpK Try.prog lv1009 (Try.f9.body.getD .skip) (endK Try.prog [.tmp 4] R) (argT [a0, a1]) h := by kernel_rfl
theorem w1009 {a0 a1 : Value} {h : Heap} {R : Value → Heap → Prop} (hn : n1009 a0 a1 h R) : DetP Try.prog 9 [a0, a1] h R :=
  DetP.of_code (rs := [.tmp 4]) (n := 2) Try.func9 (by kernel_rfl) (by kernel_rfl) lv1009 ok1009 rfl ((e1009 a0 a1 h R) ▸ hn)

/-! ### examiner/examinertop.differs: function 27 -/
def n1027 (a0 a1 a2 : Value) (h : Heap) (R : Value → Heap → Prop) : Prop :=
  okK (some (aBox Try.prog 24 a0 h)) fun v3 h =>
  okK (some (aBox Try.prog 24 a1 h)) fun v4 h =>
  mvK (Value.bool false) h fun v6 h =>
  vK (aLoad Try.prog 24 v3 h) h fun v12 h =>
  vK (aFieldAddr Try.prog 24 v3 3) h fun v13 h =>
  vK (aLoad Try.prog 3 v13 h) h fun v14 h =>
  mvK a2 h fun v15 h =>
  cK Try.prog 53 [v12, v14, v15] h fun v16 h =>
  mvK v16 h fun v11 h =>
  vK (aExtract v11 0) h fun v17 h =>
  vK (aExtract v11 1) h fun v18 h =>
  mvK v17 h fun v7 h =>
  mvK v18 h fun v8 h =>
  vK (aLoad Try.prog 24 v4 h) h fun v20 h =>
  vK (aFieldAddr Try.prog 24 v4 3) h fun v21 h =>
  vK (aLoad Try.prog 3 v21 h) h fun v22 h =>
  mvK a2 h fun v23 h =>
  cK Try.prog 53 [v20, v22, v23] h fun v24 h =>
  mvK v24 h fun v19 h =>
  vK (aExtract v19 0) h fun v25 h =>
  vK (aExtract v19 1) h fun v26 h =>
  mvK v25 h fun v9 h =>
  mvK v26 h fun v10 h =>
  mvK v7 h fun v27 h =>
  mvK v9 h fun v28 h =>
  cK Try.prog 12 [v27, v28] h fun v29 h =>
  vK (aUn UnOp.not v29) h fun v30 h =>
  mvK v30 h fun v6_1 h =>
  retV [some v6_1] R h
def lv1027 (q : Nat) : List Nat := []
theorem ok1027 : lkOK Try.prog lv1027 Try.f27 3 (Try.f27.body.getD .skip) 27 = true := by kernel_rfl
theorem e1027 (a0 a1 a2 : Value) (h : Heap) (R : Value → Heap → Prop) : n1027 a0 a1 a2 h R = wpK Try.prog lv1027 (Try.f27.body.getD .skip) (endK Try.prog [.tmp 6] R) (argT [a0, a1, a2]) h := by kernel_rfl
theorem w1027 {a0 a1 a2 : Value} {h : Heap} {R : Value → Heap → Prop} (hn : n1027 a0 a1 a2 h R) : DetP Try.prog 27 [a0, a1, a2] h R :=
  DetP.of_code (rs := [.tmp 6]) (n := 3) Try.func27 (by kernel_rfl) (by kernel_rfl) lv1027 ok1027 rfl ((e1027 a0 a1 a2 h R) ▸ hn)

/-! ### examiner/examinertop.differsBy: function 29 -/
def n1029 (a0 a1 a2 : Value) (h : Heap) (R : Value → Heap → Prop) : Prop :=
  okK (some (aBox Try.prog 24 a0 h)) fun v3 h =>
  okK (some (aBox Try.prog 24 a1 h)) fun v4 h =>
  mvK (Value.bool false) h fun v6 h =>
  vK (aLoad Try.prog 24 v3 h) h fun v8 h =>
  vK (aLoad Try.prog 24 v4 h) h fun v9 h =>
  mvK a2 h fun v10 h =>
  cK Try.prog 27 [v8, v9, v10] h fun v11 h =>
  cnd v11 (
   mvK (Value.bool true) h fun v6_1 h =>
   retV [some v6_1] R h) (
   mvK (Value.int IntKind.i64 0) h fun v7 h =>
   ∃ (I4 : List Value → Heap → Prop) (μ4 : List Value → Heap → Nat), I4 [v7] h ∧
   ∀ (h4 : Heap) (j4 : Tmps) (v7_1 : Value), I4 [v7_1] h4 → (let h := h4
    mvK v7_1 h fun v12 h =>
    vK (aFieldAddr Try.prog 24 v3 1) h fun v13 h =>
    vK (aLoad Try.prog 3 v13 h) h fun v14 h =>
    vK (aBin Try.prog BinOp.lss 3 v12 v14) h fun v15 h =>
    mvK v15 h fun v16 h =>
    gdK v16 true (fun k0 =>
     mvK a2 h fun v17 h =>
     k0 v17 h) (fun v17_1 h =>
     gdK v16 true (fun k1 =>
      vK (aLen Try.prog 37 v17_1) h fun v18 h =>
      k1 v18 h) (fun v18_1 h =>
      gdK v16 true (fun k2 =>
       vK (aBin Try.prog BinOp.lss 3 v18_1 (Value.int IntKind.i64 5)) h fun v19 h =>
       k2 v19 h) (fun v19_1 h =>
       vK (pickV v16 v19_1 (Value.bool false)) h fun v20 h =>
       cnd v20 (
        vK (aLoad Try.prog 24 v3 h) h fun v23 g =>
        VB h.length v23 ∧ (let h := g
         vK (aLoad Try.prog 24 v4 h) h fun v24 g =>
         VB h.length v24 ∧ (let h := g
          mvK a2 h fun v25 h =>
          cKD Try.prog 55 [v25] h fun v26 g =>
          (∃ new, g = h ++ new) ∧ (let h := g
           mvK v7_1 h fun v27 h =>
           okK (aBuildSlice Try.prog 37 1 [(0, v27)] h) fun v28 h =>
           okK (aAppend Try.prog 37 37 v26 v28 h) fun v29 h =>
           ((aLoad Try.prog 24 v4 h).map (·, h) = some (v24, h) ∧ (aLoad Try.prog 24 v3 h).map (·, h) = some (v23, h) ∧ True) ∧ (
            cK Try.prog 29 [v23, v24, v29] h fun v30 h =>
            cnd v30 (
             mvK (Value.bool true) h fun v6_2 h =>
             retV [some v6_2] R h) (
             mvK v7_1 h fun v21 h =>
             vK (aBin Try.prog BinOp.add 3 v21 (Value.int IntKind.i64 1)) h fun v22 h =>
             mvK v22 h fun v7_2 h =>
             I4 [v7_2] h ∧ μ4 [v7_2] h < μ4 [v7_1] h4)))))) (
        mvK (Value.bool false) h fun v6_3 h =>
        retV [some v6_3] R h)) h) h) h))
def lv1029 (q : Nat) : List Nat := bif Nat.beq q 8 then [2147479744, 7] else []
theorem ok1029 : lkOK Try.prog lv1029 Try.f29 3 (Try.f29.body.getD .skip) 29 = true := by kernel_rfl
theorem e1029 (a0 a1 a2 : Value) (h : Heap) (R : Value → Heap → Prop) : n1029 a0 a1 a2 h R = wpK Try.prog lv1029 (Try.f29.body.getD .skip) (endK Try.prog [.tmp 6] R) (argT [a0, a1, a2]) h := by kernel_rfl
theorem w1029 {a0 a1 a2 : Value} {h : Heap} {R : Value → Heap → Prop} (hn : n1029 a0 a1 a2 h R) : DetP Try.prog 29 [a0, a1, a2] h R :=
  DetP.of_code (rs := [.tmp 6]) (n := 3) Try.func29 (by kernel_rfl) (by kernel_rfl) lv1029 ok1029 rfl ((e1029 a0 a1 a2 h R) ▸ hn)

end Go.Proofs.Ytgmgmkhenhaniaa

set_option linter.unusedVariables false
set_option maxRecDepth 100000
namespace Go.Proofs.Ytgmgmkhenhaniaa
open Go.AM

/-! ### examiner/examinerref41.Err: function 5 -/
def n12 (a0 : Value) (h : Heap) (R : Value → Heap → Prop) : Prop :=
  okK (some (aBox Try.prog 24 a0 h)) fun v1 h =>
  mvK (Value.int IntKind.i64 0) h fun v2 h =>
  vK (aLoad Try.prog 24 v1 h) h fun v6 h =>
  cK Try.prog 13 [v6] h fun v7 h =>
  mvK v7 h fun v3 h =>
  mvK v3 h fun v8 h =>
  vK (aBin Try.prog BinOp.neq 3 v8 (Value.int IntKind.i64 0)) h fun v9 h =>
  cnd v9 (
   mvK v3 h fun v10 h =>
   mvK v10 h fun v2_1 h =>
   retV [some v2_1] R h) (
   vK (aFieldAddr Try.prog 24 v1 0) h fun v11 h =>
   vK (aLoad Try.prog 3 v11 h) h fun v12 h =>
   vK (aBin Try.prog BinOp.gtr 3 v12 (Value.int IntKind.i64 12)) h fun v13 h =>
   cnd v13 (
    mvK (Value.int IntKind.i64 2) h fun v2_2 h =>
    retV [some v2_2] R h) (
    vK (aLoad Try.prog 24 v1 h) h fun v15 h =>
    cK Try.prog 14 [v15] h fun v16 h =>
    mvK v16 h fun v14 h =>
    vK (aExtract v14 0) h fun v17 h =>
    vK (aExtract v14 1) h fun v18 h =>
    mvK v17 h fun v4 h =>
    mvK v18 h fun v5 h =>
    mvK v5 h fun v19 h =>
    mvK v19 h fun v2_3 h =>
    retV [some v2_3] R h))
def lv12 (q : Nat) : List Nat := []
theorem ok12 : lkOK Try.prog lv12 Try.f5 1 (Try.f5.body.getD .skip) 5 = true := by kernel_rfl
theorem e12 (a0 : Value) (h : Heap) (R : Value → Heap → Prop) : n12 a0 h R = wpK Try.prog lv12 (Try.f5.body.getD .skip) (endK Try.prog [.tmp 2] R) (argT [a0]) h := by kernel_rfl
theorem w12 {a0 : Value} {h : Heap} {R : Value → Heap → Prop} (hn : n12 a0 h R) : DetP Try.prog 5 [a0] h R :=
  DetP.of_code (rs := [.tmp 2]) (n := 1) Try.func5 (by kernel_rfl) (by kernel_rfl) lv12 ok12 rfl ((e12 a0 h R) ▸ hn)

/-! ### examiner/examinerref37.Own: function 7 -/
def n14 (a0 : Value) (h : Heap) (R : Value → Heap → Prop) : Prop :=
  okK (some (aBox Try.prog 24 a0 h)) fun v1 h =>
  okK (aAlloc Try.prog 24 h) fun v2 h =>
  okK (aBuildSlice Try.prog 22 0 [] h) fun v3 h =>
  vK (aFieldAddr Try.prog 24 v1 4) h fun v4 h =>
  vK (aLoad Try.prog 22 v4 h) h fun v5 h =>
  okK (aAppend Try.prog 22 22 v3 v5 h) fun v6 h =>
  vK (aFieldAddr Try.prog 24 v1 4) h fun v7 h =>
  okK ((aStore Try.prog 22 v7 v6 h).map (undef, ·)) fun _ h =>
  vK (aLoad Try.prog 24 v1 h) h fun v8 h =>
  okK ((aStore Try.prog 24 v2 v8 h).map (undef, ·)) fun _ h =>
  retV [aLoad Try.prog 24 v2 h] R h
def lv14 (q : Nat) : List Nat := []
theorem ok14 : lkOK Try.prog lv14 Try.f7 1 (Try.f7.body.getD .skip) 7 = true := by kernel_rfl
theorem e14 (a0 : Value) (h : Heap) (R : Value → Heap → Prop) : n14 a0 h R = wpK Try.prog lv14 (Try.f7.body.getD .skip) (endK Try.prog [.cell 2 24] R) (argT [a0]) h := by kernel_rfl
theorem w14 {a0 : Value} {h : Heap} {R : Value → Heap → Prop} (hn : n14 a0 h R) : DetP Try.prog 7 [a0] h R :=
  DetP.of_code (rs := [.cell 2 24]) (n := 1) Try.func7 (by kernel_rfl) (by kernel_rfl) lv14 ok14 rfl ((e14 a0 h R) ▸ hn)

/-! ### examiner/mutant.CheckRelation: function 28 -/
def n16 (a0 a1 a2 : Value) (h : Heap) (R : Value → Heap → Prop) : Prop :=
  okK (some (aBox Try.prog 24 a0 h)) fun v3 h =>
  mvK (Value.int IntKind.i64 0) h fun v6 h =>
  mvK (Value.int IntKind.i64 0) h fun v7 h =>
  vK (aLoad Try.prog 24 v3 h) h fun v17 h =>
  mvK a1 h fun v18 h =>
  okK (aBuildSlice Try.prog 91 1 [(0, v18)] h) fun v19 h =>
  cK Try.prog 30 [v17, v19] h fun v20 h =>
  mvK v20 h fun v8 h =>
  mvK v8 h fun v21 h =>
  vK (aBin Try.prog BinOp.neq 28 v21 (Value.int IntKind.i64 0)) h fun v22 h =>
  cnd v22 (
   mvK v8 h fun v23 h =>
   mvK (Value.int IntKind.i64 0) h fun v6_1 h =>
   mvK v23 h fun v7_1 h =>
   retV [some v6_1, some v7_1] R h) (
   mvK a2 h fun v24 h =>
   vK (aLen Try.prog 56 v24) h fun v25 h =>
   mvK (Value.int IntKind.i64 0) h fun v26 h =>
   ∃ (I5 : List Value → Heap → Prop) (μ5 : List Value → Heap → Nat), I5 [v26] h ∧
   ∀ (h5 : Heap) (j5 : Tmps) (v26_1 : Value), I5 [v26_1] h5 → (let h := h5
    vK (aBin Try.prog BinOp.lss 3 v26_1 v25) h fun v27 h =>
    cnd v27 (
     mvK v26_1 h fun v28 h =>
     vK (aIndexAddr Try.prog 56 v24 v26_1) h fun v29 h =>
     vK (aLoad Try.prog 77 v29 h) h fun v30 h =>
     okK (aAlloc Try.prog 77 h) fun v10 h =>
     mvK v28 h fun v9 h =>
     okK ((aStore Try.prog 77 v10 v30 h).map (undef, ·)) fun _ h =>
     vK (aIndexAddr Try.prog 77 v10 (Value.int IntKind.i64 0)) h fun v31 h =>
     vK (aLoad Try.prog 3 v31 h) h fun v32 h =>
     vK (aFieldAddr Try.prog 24 v3 0) h fun v33 h =>
     vK (aLoad Try.prog 3 v33 h) h fun v34 h =>
     vK (aBin Try.prog BinOp.sub 3 v34 (Value.int IntKind.i64 1)) h fun v35 h =>
     cK Try.prog 54 [v32, (Value.int IntKind.i64 0), v35] h fun v36 h =>
     vK (aUn UnOp.not v36) h fun v37 h =>
     mvK v37 h fun v38 h =>
     gdK v38 false (fun k0 =>
      vK (aIndexAddr Try.prog 77 v10 (Value.int IntKind.i64 1)) h fun v39 h =>
      k0 v39 h) (fun v39_1 h =>
      gdK v38 false (fun k1 =>
       vK (aLoad Try.prog 3 v39_1 h) h fun v40 h =>
       k1 v40 h) (fun v40_1 h =>
       gdK v38 false (fun k2 =>
        vK (aFieldAddr Try.prog 24 v3 0) h fun v41 h =>
        k2 v41 h) (fun v41_1 h =>
        gdK v38 false (fun k3 =>
         vK (aLoad Try.prog 3 v41_1 h) h fun v42 h =>
         k3 v42 h) (fun v42_1 h =>
         gdK v38 false (fun k4 =>
          vK (aBin Try.prog BinOp.sub 3 v42_1 (Value.int IntKind.i64 1)) h fun v43 h =>
          k4 v43 h) (fun v43_1 h =>
          gdK v38 false (fun k5 =>
           cK Try.prog 54 [v40_1, (Value.int IntKind.i64 0), v43_1] h fun v44 h =>
           k5 v44 h) (fun v44_1 h =>
           gdK v38 false (fun k6 =>
            vK (aUn UnOp.not v44_1) h fun v45 h =>
            k6 v45 h) (fun v45_1 h =>
            vK (pickV v38 (Value.bool true) v45_1) h fun v46 h =>
            cnd v46 (
             mvK v9 h fun v47 h =>
             mvK v47 h fun v6_2 h =>
             mvK (Value.int IntKind.i64 3) h fun v7_2 h =>
             retV [some v6_2, some v7_2] R h) (
             mvK v9 h fun v48 h =>
             vK (aBin Try.prog BinOp.gtr 3 v48 (Value.int IntKind.i64 0)) h fun v49 h =>
             mvK v49 h fun v50 h =>
             gdK v50 true (fun k7 =>
              mvK a2 h fun v51 h =>
              k7 v51 h) (fun v51_1 h =>
              gdK v50 true (fun k8 =>
               mvK v9 h fun v52 h =>
               k8 v52 h) (fun v52_1 h =>
               gdK v50 true (fun k9 =>
                vK (aBin Try.prog BinOp.sub 3 v52_1 (Value.int IntKind.i64 1)) h fun v53 h =>
                k9 v53 h) (fun v53_1 h =>
                gdK v50 true (fun k10 =>
                 vK (aIndexAddr Try.prog 56 v51_1 v53_1) h fun v54 h =>
                 k10 v54 h) (fun v54_1 h =>
                 gdK v50 true (fun k11 =>
                  vK (aLoad Try.prog 77 v54_1 h) h fun v55 g =>
                  VB h.length v55 ∧ (let h := g
                   k11 v55 h)) (fun v55_1 h =>
                  gdK v50 true (fun k12 =>
                   vK (aLoad Try.prog 77 v10 h) h fun v56 g =>
                   VB h.length v56 ∧ (let h := g
                    k12 v56 h)) (fun v56_1 h =>
                   gdK v50 true (fun k13 =>
                    cKD Try.prog 48 [v55_1, v56_1] h fun v57 g =>
                    (∃ new, g = h ++ new) ∧ (let h := g
                     k13 v57 h)) (fun v57_1 h =>
                    gdK v50 true (fun k14 =>
                     vK (aBin Try.prog BinOp.geq 3 v57_1 (Value.int IntKind.i64 0)) h fun v58 h =>
                     k14 v58 h) (fun v58_1 h =>
                     vK (pickV v50 v58_1 (Value.bool false)) h fun v59 h =>
                     cnd v59 (
                      mvK v9 h fun v60 h =>
                      mvK v60 h fun v6_3 h =>
                      mvK (Value.int IntKind.i64 14) h fun v7_3 h =>
                      retV [some v6_3, some v7_3] R h) (
                      vK (aBin Try.prog BinOp.add 3 v26_1 (Value.int IntKind.i64 1)) h fun v61 h =>
                      mvK v61 h fun v26_2 h =>
                      I5 [v26_2] h ∧ μ5 [v26_2] h < μ5 [v26_1] h5)) h) h) h) h) h) h) h) h)) h) h) h) h) h) h) h) (
     vK (aLoad Try.prog 24 v3 h) h fun v62 h =>
     mvK a1 h fun v63 h =>
     cK Try.prog 31 [v62, v63] h fun v64 h =>
     okK (aAlloc Try.prog 24 h) fun v11 h =>
     okK ((aStore Try.prog 24 v11 v64 h).map (undef, ·)) fun _ h =>
     mvK a2 h fun v65 h =>
     vK (aFieldAddr Try.prog 24 v3 3) h fun v66 h =>
     vK (aLoad Try.prog 3 v66 h) h fun v67 h =>
     vK (aFieldAddr Try.prog 24 v11 3) h fun v68 h =>
     vK (aLoad Try.prog 3 v68 h) h fun v69 h =>
     vK (aBuild Try.prog 77 [(0, v67), (1, v69)]) h fun v70 h =>
     cK Try.prog 46 [v65, v70] h fun v71 h =>
     vK (aUn UnOp.not v71) h fun v72 h =>
     cnd v72 (
      mvK (Value.int IntKind.i64 0) h fun v6_4 h =>
      mvK (Value.int IntKind.i64 11) h fun v7_4 h =>
      retV [some v6_4, some v7_4] R h) (
      mvK a2 h fun v73 h =>
      vK (aLen Try.prog 56 v73) h fun v74 h =>
      mvK (Value.int IntKind.i64 0) h fun v75 h =>
      ∃ (I16 : List Value → Heap → Prop) (μ16 : List Value → Heap → Nat), I16 [v75] h ∧
      ∀ (h16 : Heap) (j16 : Tmps) (v75_1 : Value), I16 [v75_1] h16 → (let h := h16
       vK (aBin Try.prog BinOp.lss 3 v75_1 v74) h fun v76 h =>
       cnd v76 (
        mvK v75_1 h fun v77 h =>
        vK (aIndexAddr Try.prog 56 v73 v75_1) h fun v78 h =>
        vK (aLoad Try.prog 77 v78 h) h fun v79 h =>
        okK (aAlloc Try.prog 77 h) fun v13 h =>
        mvK v77 h fun v12 h =>
        okK ((aStore Try.prog 77 v13 v79 h).map (undef, ·)) fun _ h =>
        vK (aFieldAddr Try.prog 24 v3 1) h fun v80 h =>
        vK (aLoad Try.prog 3 v80 h) h fun v81 h =>
        mvK (Value.int IntKind.i64 0) h fun v82 h =>
        ∃ (I19 : List Value → Heap → Prop) (μ19 : List Value → Heap → Nat), I19 [v82] h ∧
        ∀ (h19 : Heap) (j19 : Tmps) (v82_1 : Value), I19 [v82_1] h19 → (let h := h19
         vK (aBin Try.prog BinOp.lss 3 v82_1 v81) h fun v83 h =>
         cnd v83 (
          mvK v82_1 h fun v84 h =>
          mvK v84 h fun v14 h =>
          vK (aLoad Try.prog 24 v3 h) h fun v85 g =>
          VB h.length v85 ∧ (let h := g
           vK (aIndexAddr Try.prog 77 v13 (Value.int IntKind.i64 0)) h fun v86 h =>
           vK (aLoad Try.prog 3 v86 h) h fun v87 g =>
           VB h.length v87 ∧ (let h := g
            mvK v14 h fun v88 h =>
            cKD Try.prog 45 [v85, v87, v88] h fun v89 g =>
            (∃ new, g = h ++ new) ∧ (let h := g
             vK (aLoad Try.prog 24 v11 h) h fun v90 g =>
             VB h.length v90 ∧ (let h := g
              vK (aIndexAddr Try.prog 77 v13 (Value.int IntKind.i64 1)) h fun v91 h =>
              vK (aLoad Try.prog 3 v91 h) h fun v92 g =>
              VB h.length v92 ∧ (let h := g
               mvK v14 h fun v93 h =>
               cKD Try.prog 45 [v90, v92, v93] h fun v94 g =>
               (∃ new, g = h ++ new) ∧ (let h := g
                okK (aAlloc Try.prog 46 h) fun v15 h =>
                okK (aAlloc Try.prog 46 h) fun v16 h =>
                okK ((aStore Try.prog 46 v15 v89 h).map (undef, ·)) fun _ h =>
                (True) ∧ (
                 okK ((aStore Try.prog 46 v16 v94 h).map (undef, ·)) fun _ h =>
                 (True) ∧ (
                  vK (aFieldAddr Try.prog 46 v15 2) h fun v95 h =>
                  vK (aLoad Try.prog 3 v95 h) h fun v96 h =>
                  vK (aFieldAddr Try.prog 46 v16 2) h fun v97 h =>
                  vK (aLoad Try.prog 3 v97 h) h fun v98 h =>
                  vK (aBin Try.prog BinOp.neq 3 v96 v98) h fun v99 h =>
                  mvK v99 h fun v100 h =>
                  gdK v100 false (fun k15 =>
                   mvK a2 h fun v101 h =>
                   k15 v101 h) (fun v101_1 h =>
                   gdK v100 false (fun k16 =>
                    vK (aFieldAddr Try.prog 46 v15 3) h fun v102 h =>
                    k16 v102 h) (fun v102_1 h =>
                    gdK v100 false (fun k17 =>
                     vK (aLoad Try.prog 3 v102_1 h) h fun v103 h =>
                     k17 v103 h) (fun v103_1 h =>
                     gdK v100 false (fun k18 =>
                      vK (aFieldAddr Try.prog 46 v16 3) h fun v104 h =>
                      k18 v104 h) (fun v104_1 h =>
                      gdK v100 false (fun k19 =>
                       vK (aLoad Try.prog 3 v104_1 h) h fun v105 h =>
                       k19 v105 h) (fun v105_1 h =>
                       gdK v100 false (fun k20 =>
                        vK (aBuild Try.prog 77 [(0, v103_1), (1, v105_1)]) h fun v106 h =>
                        k20 v106 h) (fun v106_1 h =>
                        gdK v100 false (fun k21 =>
                         cK Try.prog 46 [v101_1, v106_1] h fun v107 h =>
                         k21 v107 h) (fun v107_1 h =>
                         gdK v100 false (fun k22 =>
                          vK (aUn UnOp.not v107_1) h fun v108 h =>
                          k22 v108 h) (fun v108_1 h =>
                          vK (pickV v100 (Value.bool true) v108_1) h fun v109 h =>
                          cnd v109 (
                           mvK v12 h fun v110 h =>
                           mvK v110 h fun v6_5 h =>
                           mvK (Value.int IntKind.i64 30) h fun v7_5 h =>
                           retV [some v6_5, some v7_5] R h) (
                           vK (aBin Try.prog BinOp.add 3 v82_1 (Value.int IntKind.i64 1)) h fun v111 h =>
                           mvK v111 h fun v82_2 h =>
                           I19 [v82_2] h ∧ μ19 [v82_2] h < μ19 [v82_1] h19)) h) h) h) h) h) h) h) h))))))))) (
          vK (aBin Try.prog BinOp.add 3 v75_1 (Value.int IntKind.i64 1)) h fun v112 h =>
          mvK v112 h fun v75_2 h =>
          I16 [v75_2] h ∧ μ16 [v75_2] h < μ16 [v75_1] h16))) (
        mvK a2 h fun v113 h =>
        vK (aLen Try.prog 56 v113) h fun v114 h =>
        mvK v114 h fun v6_6 h =>
        mvK (Value.int IntKind.i64 0) h fun v7_6 h =>
        retV [some v6_6, some v7_6] R h))))))
def lv16 (q : Nat) : List Nat := bif Nat.beq q 10 then [4611686018360280768, 26] else bif Nat.beq q 32 then [10384593717031876325198035496857792, 75] else bif Nat.beq q 38 then [5192296853699124350071979630510272, 82] else []
theorem ok16 : lkOK Try.prog lv16 Try.f28 3 (Try.f28.body.getD .skip) 28 = true := by kernel_rfl
theorem e16 (a0 a1 a2 : Value) (h : Heap) (R : Value → Heap → Prop) : n16 a0 a1 a2 h R = wpK Try.prog lv16 (Try.f28.body.getD .skip) (endK Try.prog [.tmp 6, .tmp 7] R) (argT [a0, a1, a2]) h := by kernel_rfl
theorem w16 {a0 a1 a2 : Value} {h : Heap} {R : Value → Heap → Prop} (hn : n16 a0 a1 a2 h R) : DetP Try.prog 28 [a0, a1, a2] h R :=
  DetP.of_code (rs := [.tmp 6, .tmp 7]) (n := 3) Try.func28 (by kernel_rfl) (by kernel_rfl) lv16 ok16 rfl ((e16 a0 a1 a2 h R) ▸ hn)

/-! ### examiner/examinerref41.Own: function 24 -/
def n17 (a0 : Value) (h : Heap) (R : Value → Heap → Prop) : Prop :=
  mvK (Value.slice none 0 0) h fun v2 h =>
  okK (aBuildSlice Try.prog 25 0 [] h) fun v3 h =>
  mvK a0 h fun v4 h =>
  okK (aAppend Try.prog 25 25 v3 v4 h) fun v5 h =>
  mvK v5 h fun v2_1 h =>
  retV [some v2_1] R h
def lv17 (q : Nat) : List Nat := []
theorem ok17 : lkOK Try.prog lv17 Try.f24 1 (Try.f24.body.getD .skip) 24 = true := by kernel_rfl
theorem e17 (a0 : Value) (h : Heap) (R : Value → Heap → Prop) : n17 a0 h R = wpK Try.prog lv17 (Try.f24.body.getD .skip) (endK Try.prog [.tmp 2] R) (argT [a0]) h := by kernel_rfl
theorem w17 {a0 : Value} {h : Heap} {R : Value → Heap → Prop} (hn : n17 a0 h R) : DetP Try.prog 24 [a0] h R :=
  DetP.of_code (rs := [.tmp 2]) (n := 1) Try.func24 (by kernel_rfl) (by kernel_rfl) lv17 ok17 rfl ((e17 a0 h R) ▸ hn)

/-! ### examiner/examinerref41.MutantErr: function 8 -/
def n21 (a0 a1 : Value) (h : Heap) (R : Value → Heap → Prop) : Prop :=
  okK (some (aBox Try.prog 24 a0 h)) fun v2 h =>
  mvK (Value.int IntKind.i64 0) h fun v4 h =>
  mvK (Value.int IntKind.i64 0) h fun v5 h =>
  mvK a1 h fun v9 h =>
  vK (aLen Try.prog 25 v9) h fun v10 h =>
  vK (aBin Try.prog BinOp.gtr 3 v10 (Value.int IntKind.i64 4)) h fun v11 h =>
  cnd v11 (
   mvK (Value.int IntKind.i64 0) h fun v4_1 h =>
   mvK (Value.int IntKind.i64 2) h fun v5_1 h =>
   retV [some v4_1, some v5_1] R h) (
   mvK (Value.int IntKind.i64 0) h fun v6 h =>
   ∃ (I4 : List Value → Heap → Prop) (μ4 : List Value → Heap → Nat), I4 [v6] h ∧
   ∀ (h4 : Heap) (j4 : Tmps) (v6_1 : Value), I4 [v6_1] h4 → (let h := h4
    mvK v6_1 h fun v12 h =>
    mvK a1 h fun v13 h =>
    vK (aLen Try.prog 25 v13) h fun v14 h =>
    vK (aBin Try.prog BinOp.lss 3 v12 v14) h fun v15 h =>
    cnd v15 (
     vK (aLoad Try.prog 24 v2 h) h fun v18 g =>
     VB h.length v18 ∧ (let h := g
      mvK a1 h fun v19 h =>
      mvK v6_1 h fun v20 h =>
      vK (aIndexAddr Try.prog 25 v19 v20) h fun v21 h =>
      vK (aLoad Try.prog 36 v21 h) h fun v22 g =>
      VB h.length v22 ∧ (let h := g
       cKD Try.prog 19 [v18, v22] h fun v23 g =>
       (∃ new, g = h ++ new) ∧ (let h := g
        mvK v23 h fun v7 h =>
        mvK v7 h fun v24 h =>
        vK (aBin Try.prog BinOp.neq 3 v24 (Value.int IntKind.i64 0)) h fun v25 h =>
        cnd v25 (
         mvK v6_1 h fun v26 h =>
         mvK v7 h fun v27 h =>
         mvK v26 h fun v4_2 h =>
         mvK v27 h fun v5_2 h =>
         retV [some v4_2, some v5_2] R h) (
         mvK v6_1 h fun v28 h =>
         vK (aBin Try.prog BinOp.gtr 3 v28 (Value.int IntKind.i64 0)) h fun v29 h =>
         mvK v29 h fun v30 h =>
         gdK v30 true (fun k0 =>
          mvK a1 h fun v31 h =>
          k0 v31 h) (fun v31_1 h =>
          gdK v30 true (fun k1 =>
           mvK v6_1 h fun v32 h =>
           k1 v32 h) (fun v32_1 h =>
           gdK v30 true (fun k2 =>
            vK (aBin Try.prog BinOp.sub 3 v32_1 (Value.int IntKind.i64 1)) h fun v33 h =>
            k2 v33 h) (fun v33_1 h =>
            gdK v30 true (fun k3 =>
             vK (aIndexAddr Try.prog 25 v31_1 v33_1) h fun v34 h =>
             k3 v34 h) (fun v34_1 h =>
             gdK v30 true (fun k4 =>
              vK (aLoad Try.prog 36 v34_1 h) h fun v35 g =>
              VB h.length v35 ∧ (let h := g
               k4 v35 h)) (fun v35_1 h =>
              gdK v30 true (fun k5 =>
               cKD Try.prog 21 [v35_1] h fun v36 g =>
               (∃ new, g = h ++ new) ∧ (let h := g
                k5 v36 h)) (fun v36_1 h =>
               gdK v30 true (fun k6 =>
                mvK a1 h fun v37 h =>
                k6 v37 h) (fun v37_1 h =>
                gdK v30 true (fun k7 =>
                 mvK v6_1 h fun v38 h =>
                 k7 v38 h) (fun v38_1 h =>
                 gdK v30 true (fun k8 =>
                  vK (aIndexAddr Try.prog 25 v37_1 v38_1) h fun v39 h =>
                  k8 v39 h) (fun v39_1 h =>
                  gdK v30 true (fun k9 =>
                   vK (aLoad Try.prog 36 v39_1 h) h fun v40 g =>
                   VB h.length v40 ∧ (let h := g
                    k9 v40 h)) (fun v40_1 h =>
                   gdK v30 true (fun k10 =>
                    cKD Try.prog 21 [v40_1] h fun v41 g =>
                    (∃ new, g = h ++ new) ∧ (let h := g
                     k10 v41 h)) (fun v41_1 h =>
                    gdK v30 true (fun k11 =>
                     cKD Try.prog 20 [v36_1, v41_1] h fun v42 g =>
                     (∃ new, g = h ++ new) ∧ (let h := g
                      k11 v42 h)) (fun v42_1 h =>
                     gdK v30 true (fun k12 =>
                      vK (aBin Try.prog BinOp.geq 3 v42_1 (Value.int IntKind.i64 0)) h fun v43 h =>
                      k12 v43 h) (fun v43_1 h =>
                      vK (pickV v30 v43_1 (Value.bool false)) h fun v44 h =>
                      mvK v44 h fun v45 h =>
                      gdK v45 false (fun k13 =>
                       mvK a1 h fun v46 h =>
                       k13 v46 h) (fun v46_1 h =>
                       gdK v45 false (fun k14 =>
                        mvK v6_1 h fun v47 h =>
                        k14 v47 h) (fun v47_1 h =>
                        gdK v45 false (fun k15 =>
                         vK (aIndexAddr Try.prog 25 v46_1 v47_1) h fun v48 h =>
                         k15 v48 h) (fun v48_1 h =>
                         gdK v45 false (fun k16 =>
                          vK (aFieldAddr Try.prog 36 v48_1 0) h fun v49 h =>
                          k16 v49 h) (fun v49_1 h =>
                          gdK v45 false (fun k17 =>
                           vK (aLoad Try.prog 3 v49_1 h) h fun v50 g =>
                           VB h.length v50 ∧ (let h := g
                            k17 v50 h)) (fun v50_1 h =>
                           gdK v45 false (fun k18 =>
                            vK (aBin Try.prog BinOp.eql 3 v50_1 (Value.int IntKind.i64 3)) h fun v51 h =>
                            k18 v51 h) (fun v51_1 h =>
                            gdK v45 false (fun k19 =>
                             mvK v51_1 h fun v52 h =>
                             k19 v52 h) (fun v52_1 h =>
                             gdK v52_1 true (fun k20 =>
                              mvK a1 h fun v53 h =>
                              k20 v53 h) (fun v53_1 h =>
                              gdK v52_1 true (fun k21 =>
                               mvK v6_1 h fun v54 h =>
                               k21 v54 h) (fun v54_1 h =>
                               gdK v52_1 true (fun k22 =>
                                vK (aIndexAddr Try.prog 25 v53_1 v54_1) h fun v55 h =>
                                k22 v55 h) (fun v55_1 h =>
                                gdK v52_1 true (fun k23 =>
                                 vK (aFieldAddr Try.prog 36 v55_1 2) h fun v56 h =>
                                 k23 v56 h) (fun v56_1 h =>
                                 gdK v52_1 true (fun k24 =>
                                  vK (aLoad Try.prog 3 v56_1 h) h fun v57 g =>
                                  VB h.length v57 ∧ (let h := g
                                   k24 v57 h)) (fun v57_1 h =>
                                  gdK v52_1 true (fun k25 =>
                                   mvK a1 h fun v58 h =>
                                   k25 v58 h) (fun v58_1 h =>
                                   gdK v52_1 true (fun k26 =>
                                    mvK v6_1 h fun v59 h =>
                                    k26 v59 h) (fun v59_1 h =>
                                    gdK v52_1 true (fun k27 =>
                                     vK (aIndexAddr Try.prog 25 v58_1 v59_1) h fun v60 h =>
                                     k27 v60 h) (fun v60_1 h =>
                                     gdK v52_1 true (fun k28 =>
                                      vK (aFieldAddr Try.prog 36 v60_1 1) h fun v61 h =>
                                      k28 v61 h) (fun v61_1 h =>
                                      gdK v52_1 true (fun k29 =>
                                       vK (aLoad Try.prog 3 v61_1 h) h fun v62 g =>
                                       VB h.length v62 ∧ (let h := g
                                        k29 v62 h)) (fun v62_1 h =>
                                       gdK v52_1 true (fun k30 =>
                                        vK (aBin Try.prog BinOp.leq 3 v57_1 v62_1) h fun v63 h =>
                                        k30 v63 h) (fun v63_1 h =>
                                        gdK v45 false (fun k31 =>
                                         vK (pickV v52_1 v63_1 (Value.bool false)) h fun v64 h =>
                                         k31 v64 h) (fun v64_1 h =>
                                         vK (pickV v45 (Value.bool true) v64_1) h fun v65 h =>
                                         cnd v65 (
                                          mvK v6_1 h fun v66 h =>
                                          mvK v66 h fun v4_3 h =>
                                          mvK (Value.int IntKind.i64 14) h fun v5_3 h =>
                                          retV [some v4_3, some v5_3] R h) (
                                          mvK (Value.int IntKind.i64 0) h fun v8 h =>
                                          ∃ (I12 : List Value → Heap → Prop) (μ12 : List Value → Heap → Nat), I12 [v8] h ∧
                                          ∀ (h12 : Heap) (j12 : Tmps) (v8_1 : Value), I12 [v8_1] h12 → (let h := h12
                                           mvK v8_1 h fun v67 h =>
                                           mvK v6_1 h fun v68 h =>
                                           vK (aBin Try.prog BinOp.lss 3 v67 v68) h fun v69 h =>
                                           cnd v69 (
                                            mvK a1 h fun v72 h =>
                                            mvK v8_1 h fun v73 h =>
                                            vK (aIndexAddr Try.prog 25 v72 v73) h fun v74 h =>
                                            vK (aLoad Try.prog 36 v74 h) h fun v75 g =>
                                            VB h.length v75 ∧ (let h := g
                                             mvK a1 h fun v76 h =>
                                             mvK v6_1 h fun v77 h =>
                                             vK (aIndexAddr Try.prog 25 v76 v77) h fun v78 h =>
                                             vK (aLoad Try.prog 36 v78 h) h fun v79 g =>
                                             VB h.length v79 ∧ (let h := g
                                              cK Try.prog 22 [v75, v79] h fun v80 h =>
                                              cnd v80 (
                                               mvK v6_1 h fun v81 h =>
                                               mvK v81 h fun v4_4 h =>
                                               mvK (Value.int IntKind.i64 13) h fun v5_4 h =>
                                               retV [some v4_4, some v5_4] R h) (
                                               mvK v8_1 h fun v70 h =>
                                               vK (aBin Try.prog BinOp.add 3 v70 (Value.int IntKind.i64 1)) h fun v71 h =>
                                               mvK v71 h fun v8_2 h =>
                                               I12 [v8_2] h ∧ μ12 [v8_2] h < μ12 [v8_1] h12)))) (
                                            mvK v6_1 h fun v16 h =>
                                            vK (aBin Try.prog BinOp.add 3 v16 (Value.int IntKind.i64 1)) h fun v17 h =>
                                            mvK v17 h fun v6_2 h =>
                                            I4 [v6_2] h ∧ μ4 [v6_2] h < μ4 [v6_1] h4)))) h) h) h) h) h) h) h) h) h) h) h) h) h) h) h) h) h) h) h) h) h) h) h) h) h) h) h) h) h) h) h) h))))) (
     mvK (Value.int IntKind.i64 0) h fun v4_5 h =>
     mvK (Value.int IntKind.i64 0) h fun v5_5 h =>
     retV [some v4_5, some v5_5] R h)))
def lv21 (q : Nat) : List Nat := bif Nat.beq q 8 then [4835703278458516698821104, 6] else bif Nat.beq q 24 then [4835555704505927022412080, 8] else []
theorem ok21 : lkOK Try.prog lv21 Try.f8 2 (Try.f8.body.getD .skip) 8 = true := by kernel_rfl
theorem e21 (a0 a1 : Value) (h : Heap) (R : Value → Heap → Prop) : n21 a0 a1 h R = wpK Try.prog lv21 (Try.f8.body.getD .skip) (endK Try.prog [.tmp 4, .tmp 5] R) (argT [a0, a1]) h := by kernel_rfl
theorem w21 {a0 a1 : Value} {h : Heap} {R : Value → Heap → Prop} (hn : n21 a0 a1 h R) : DetP Try.prog 8 [a0, a1] h R :=
  DetP.of_code (rs := [.tmp 4, .tmp 5]) (n := 2) Try.func8 (by kernel_rfl) (by kernel_rfl) lv21 ok21 rfl ((e21 a0 a1 h R) ▸ hn)

/-! ### examiner/mutant.Mutated: function 23 -/
def n22 (a0 a1 : Value) (h : Heap) (R : Value → Heap → Prop) : Prop :=
  okK (some (aBox Try.prog 24 a0 h)) fun v2 h =>
  okK (aAlloc Try.prog 24 h) fun v4 h =>
  mvK (Value.int IntKind.i64 0) h fun v5 h =>
  vK (aLoad Try.prog 24 v2 h) h fun v7 h =>
  mvK a1 h fun v8 h =>
  okK (aBuildSlice Try.prog 91 1 [(0, v8)] h) fun v9 h =>
  cK Try.prog 30 [v7, v9] h fun v10 h =>
  mvK v10 h fun v6 h =>
  mvK v6 h fun v11 h =>
  vK (aBin Try.prog BinOp.neq 28 v11 (Value.int IntKind.i64 0)) h fun v12 h =>
  cnd v12 (
   vK (aBuild Try.prog 24 []) h fun v13 h =>
   mvK v6 h fun v14 h =>
   okK ((aStore Try.prog 24 v4 v13 h).map (undef, ·)) fun _ h =>
   mvK v14 h fun v5_1 h =>
   retV [aLoad Try.prog 24 v4 h, some v5_1] R h) (
   vK (aLoad Try.prog 24 v2 h) h fun v15 h =>
   mvK a1 h fun v16 h =>
   cK Try.prog 31 [v15, v16] h fun v17 h =>
   okK ((aStore Try.prog 24 v4 v17 h).map (undef, ·)) fun _ h =>
   mvK (Value.int IntKind.i64 0) h fun v5_2 h =>
   retV [aLoad Try.prog 24 v4 h, some v5_2] R h)
def lv22 (q : Nat) : List Nat := []
theorem ok22 : lkOK Try.prog lv22 Try.f23 2 (Try.f23.body.getD .skip) 23 = true := by kernel_rfl
theorem e22 (a0 a1 : Value) (h : Heap) (R : Value → Heap → Prop) : n22 a0 a1 h R = wpK Try.prog lv22 (Try.f23.body.getD .skip) (endK Try.prog [.cell 4 24, .tmp 5] R) (argT [a0, a1]) h := by kernel_rfl
theorem w22 {a0 a1 : Value} {h : Heap} {R : Value → Heap → Prop} (hn : n22 a0 a1 h R) : DetP Try.prog 23 [a0, a1] h R :=
  DetP.of_code (rs := [.cell 4 24, .tmp 5]) (n := 2) Try.func23 (by kernel_rfl) (by kernel_rfl) lv22 ok22 rfl ((e22 a0 a1 h R) ▸ hn)

/-! ### examiner/examinerref37.Err: function 13 -/
def n41 (a0 : Value) (h : Heap) (R : Value → Heap → Prop) : Prop :=
  okK (some (aBox Try.prog 24 a0 h)) fun v1 h =>
  mvK (Value.int IntKind.i64 0) h fun v2 h =>
  vK (aLoad Try.prog 24 v1 h) h fun v6 h =>
  cK Try.prog 33 [v6] h fun v7 h =>
  mvK v7 h fun v5 h =>
  vK (aExtract v5 0) h fun v8 h =>
  vK (aExtract v5 1) h fun v9 h =>
  mvK v8 h fun v3 h =>
  mvK v9 h fun v4 h =>
  mvK v4 h fun v10 h =>
  mvK v10 h fun v2_1 h =>
  retV [some v2_1] R h
def lv41 (q : Nat) : List Nat := []
theorem ok41 : lkOK Try.prog lv41 Try.f13 1 (Try.f13.body.getD .skip) 13 = true := by kernel_rfl
theorem e41 (a0 : Value) (h : Heap) (R : Value → Heap → Prop) : n41 a0 h R = wpK Try.prog lv41 (Try.f13.body.getD .skip) (endK Try.prog [.tmp 2] R) (argT [a0]) h := by kernel_rfl
theorem w41 {a0 : Value} {h : Heap} {R : Value → Heap → Prop} (hn : n41 a0 h R) : DetP Try.prog 13 [a0] h R :=
  DetP.of_code (rs := [.tmp 2]) (n := 1) Try.func13 (by kernel_rfl) (by kernel_rfl) lv41 ok41 rfl ((e41 a0 h R) ▸ hn)

/-! ### examiner/examinerref39.OpenErr: function 14 -/
def n42 (a0 : Value) (h : Heap) (R : Value → Heap → Prop) : Prop :=
  okK (some (aBox Try.prog 24 a0 h)) fun v1 h =>
  mvK (Value.int IntKind.i64 0) h fun v2 h =>
  mvK (Value.int IntKind.i64 0) h fun v3 h =>
  mvK (Value.int IntKind.i64 0) h fun v4 h =>
  ∃ (I2 : List Value → Heap → Prop) (μ2 : List Value → Heap → Nat), I2 [v4] h ∧
  ∀ (h2 : Heap) (j2 : Tmps) (v4_1 : Value), I2 [v4_1] h2 → (let h := h2
   mvK v4_1 h fun v6 h =>
   vK (aFieldAddr Try.prog 24 v1 0) h fun v7 h =>
   vK (aLoad Try.prog 3 v7 h) h fun v8 h =>
   vK (aBin Try.prog BinOp.lss 3 v6 v8) h fun v9 h =>
   cnd v9 (
    mvK (Value.int IntKind.i64 0) h fun v5 h =>
    ∃ (I5 : List Value → Heap → Prop) (μ5 : List Value → Heap → Nat), I5 [v5] h ∧
    ∀ (h5 : Heap) (j5 : Tmps) (v5_1 : Value), I5 [v5_1] h5 → (let h := h5
     mvK v5_1 h fun v12 h =>
     vK (aFieldAddr Try.prog 24 v1 1) h fun v13 h =>
     vK (aLoad Try.prog 3 v13 h) h fun v14 h =>
     vK (aBin Try.prog BinOp.lss 3 v12 v14) h fun v15 h =>
     cnd v15 (
      vK (aLoad Try.prog 24 v1 h) h fun v18 h =>
      mvK v4_1 h fun v19 h =>
      mvK v5_1 h fun v20 h =>
      cK Try.prog 34 [v18, v19, v20] h fun v21 h =>
      vK (aBin Try.prog BinOp.eql 3 v21 (Value.int IntKind.i64 (-1))) h fun v22 h =>
      cnd v22 (
       mvK v4_1 h fun v23 h =>
       mvK v23 h fun v2_1 h =>
       mvK (Value.int IntKind.i64 39) h fun v3_1 h =>
       retV [some v2_1, some v3_1] R h) (
       mvK v5_1 h fun v16 h =>
       vK (aBin Try.prog BinOp.add 3 v16 (Value.int IntKind.i64 1)) h fun v17 h =>
       mvK v17 h fun v5_2 h =>
       I5 [v5_2] h ∧ μ5 [v5_2] h < μ5 [v5_1] h5)) (
      mvK v4_1 h fun v10 h =>
      vK (aBin Try.prog BinOp.add 3 v10 (Value.int IntKind.i64 1)) h fun v11 h =>
      mvK v11 h fun v4_2 h =>
      I2 [v4_2] h ∧ μ2 [v4_2] h < μ2 [v4_1] h2))) (
    mvK (Value.int IntKind.i64 0) h fun v2_2 h =>
    mvK (Value.int IntKind.i64 0) h fun v3_2 h =>
    retV [some v2_2, some v3_2] R h))
def lv42 (q : Nat) : List Nat := bif Nat.beq q 4 then [16777212, 4] else bif Nat.beq q 10 then [16773164, 5] else []
theorem ok42 : lkOK Try.prog lv42 Try.f14 1 (Try.f14.body.getD .skip) 14 = true := by kernel_rfl
theorem e42 (a0 : Value) (h : Heap) (R : Value → Heap → Prop) : n42 a0 h R = wpK Try.prog lv42 (Try.f14.body.getD .skip) (endK Try.prog [.tmp 2, .tmp 3] R) (argT [a0]) h := by kernel_rfl
theorem w42 {a0 : Value} {h : Heap} {R : Value → Heap → Prop} (hn : n42 a0 h R) : DetP Try.prog 14 [a0] h R :=
  DetP.of_code (rs := [.tmp 2, .tmp 3]) (n := 1) Try.func14 (by kernel_rfl) (by kernel_rfl) lv42 ok42 rfl ((e42 a0 h R) ▸ hn)

/-! ### examiner/mutant.machineErr: function 15 -/
def n43 (a0 : Value) (h : Heap) (R : Value → Heap → Prop) : Prop :=
  okK (some (aBox Try.prog 24 a0 h)) fun v1 h =>
  mvK (Value.int IntKind.i64 0) h fun v2 h =>
  vK (aLoad Try.prog 24 v1 h) h fun v6 h =>
  cK Try.prog 35 [v6] h fun v7 h =>
  mvK v7 h fun v5 h =>
  vK (aExtract v5 0) h fun v8 h =>
  vK (aExtract v5 1) h fun v9 h =>
  mvK v8 h fun v3 h =>
  mvK v9 h fun v4 h =>
  mvK v4 h fun v10 h =>
  vK (aFieldAddr Try.prog 24 v1 0) h fun v11 h =>
  vK (aLoad Try.prog 3 v11 h) h fun v12 g =>
  VB h.length v12 ∧ (let h := g
   vK (aBin Try.prog BinOp.leq 3 v12 (Value.int IntKind.i64 12)) h fun v13 h =>
   cKD Try.prog 37 [v13, (Value.int IntKind.i64 2)] h fun v14 g =>
   (∃ new, g = h ++ new) ∧ (let h := g
    vK (aFieldAddr Try.prog 24 v1 4) h fun v15 h =>
    vK (aLoad Try.prog 22 v15 h) h fun v16 g =>
    VB h.length v16 ∧ (let h := g
     vK (aLen Try.prog 22 v16) h fun v17 h =>
     vK (aFieldAddr Try.prog 24 v1 0) h fun v18 h =>
     vK (aLoad Try.prog 3 v18 h) h fun v19 g =>
     VB h.length v19 ∧ (let h := g
      vK (aFieldAddr Try.prog 24 v1 1) h fun v20 h =>
      vK (aLoad Try.prog 3 v20 h) h fun v21 g =>
      VB h.length v21 ∧ (let h := g
       vK (aBin Try.prog BinOp.mul 3 v19 v21) h fun v22 h =>
       vK (aBin Try.prog BinOp.eql 3 v17 v22) h fun v23 h =>
       cKD Try.prog 37 [v23, (Value.int IntKind.i64 39)] h fun v24 g =>
       (∃ new, g = h ++ new) ∧ (let h := g
        okK (aBuildSlice Try.prog 94 3 [(0, v10), (1, v14), (2, v24)] h) fun v25 h =>
        cKD Try.prog 36 [v25] h fun v26 g =>
        (∃ new, g = h ++ new) ∧ (let h := g
         mvK v26 h fun v2_1 h =>
         retV [some v2_1] R h)))))))
def lv43 (q : Nat) : List Nat := []
theorem ok43 : lkOK Try.prog lv43 Try.f15 1 (Try.f15.body.getD .skip) 15 = true := by kernel_rfl
theorem e43 (a0 : Value) (h : Heap) (R : Value → Heap → Prop) : n43 a0 h R = wpK Try.prog lv43 (Try.f15.body.getD .skip) (endK Try.prog [.tmp 2] R) (argT [a0]) h := by kernel_rfl
theorem w43 {a0 : Value} {h : Heap} {R : Value → Heap → Prop} (hn : n43 a0 h R) : DetP Try.prog 15 [a0] h R :=
  DetP.of_code (rs := [.tmp 2]) (n := 1) Try.func15 (by kernel_rfl) (by kernel_rfl) lv43 ok43 rfl ((e43 a0 h R) ▸ hn)

/-! ### examiner/mutant.compare: function 18 -/
def n46 (a0 a1 : Value) (h : Heap) (R : Value → Heap → Prop) : Prop :=
  okK (some (aBox Try.prog 36 a0 h)) fun v2 h =>
  okK (some (aBox Try.prog 36 a1 h)) fun v3 h =>
  mvK (Value.int IntKind.i64 0) h fun v4 h =>
  vK (aFieldAddr Try.prog 36 v2 0) h fun v5 h =>
  vK (aLoad Try.prog 3 v5 h) h fun v6 g =>
  VB h.length v6 ∧ (let h := g
   vK (aFieldAddr Try.prog 36 v3 0) h fun v7 h =>
   vK (aLoad Try.prog 3 v7 h) h fun v8 g =>
   VB h.length v8 ∧ (let h := g
    cKD Try.prog 41 [v6, v8] h fun v9 g =>
    (∃ new, g = h ++ new) ∧ (let h := g
     vK (aFieldAddr Try.prog 36 v2 1) h fun v10 h =>
     vK (aLoad Try.prog 3 v10 h) h fun v11 g =>
     VB h.length v11 ∧ (let h := g
      vK (aFieldAddr Try.prog 36 v3 1) h fun v12 h =>
      vK (aLoad Try.prog 3 v12 h) h fun v13 g =>
      VB h.length v13 ∧ (let h := g
       cKD Try.prog 41 [v11, v13] h fun v14 g =>
       (∃ new, g = h ++ new) ∧ (let h := g
        vK (aFieldAddr Try.prog 36 v2 2) h fun v15 h =>
        vK (aLoad Try.prog 3 v15 h) h fun v16 g =>
        VB h.length v16 ∧ (let h := g
         vK (aFieldAddr Try.prog 36 v3 2) h fun v17 h =>
         vK (aLoad Try.prog 3 v17 h) h fun v18 g =>
         VB h.length v18 ∧ (let h := g
          cKD Try.prog 41 [v16, v18] h fun v19 g =>
          (∃ new, g = h ++ new) ∧ (let h := g
           okK (aBuildSlice Try.prog 37 3 [(0, v9), (1, v14), (2, v19)] h) fun v20 h =>
           cKD Try.prog 40 [v20] h fun v21 g =>
           (∃ new, g = h ++ new) ∧ (let h := g
            mvK v21 h fun v4_1 h =>
            retV [some v4_1] R h))))))))))
def lv46 (q : Nat) : List Nat := []
theorem ok46 : lkOK Try.prog lv46 Try.f18 2 (Try.f18.body.getD .skip) 18 = true := by kernel_rfl
theorem e46 (a0 a1 : Value) (h : Heap) (R : Value → Heap → Prop) : n46 a0 a1 h R = wpK Try.prog lv46 (Try.f18.body.getD .skip) (endK Try.prog [.tmp 4] R) (argT [a0, a1]) h := by kernel_rfl
theorem w46 {a0 a1 : Value} {h : Heap} {R : Value → Heap → Prop} (hn : n46 a0 a1 h R) : DetP Try.prog 18 [a0, a1] h R :=
  DetP.of_code (rs := [.tmp 4]) (n := 2) Try.func18 (by kernel_rfl) (by kernel_rfl) lv46 ok46 rfl ((e46 a0 a1 h R) ▸ hn)

/-! ### examiner/mutant.bothErr: function 30 -/
def n47 (a0 a1 : Value) (h : Heap) (R : Value → Heap → Prop) : Prop :=
  okK (some (aBox Try.prog 24 a0 h)) fun v2 h =>
  mvK (Value.int IntKind.i64 0) h fun v4 h =>
  vK (aLoad Try.prog 24 v2 h) h fun v10 h =>
  cK Try.prog 15 [v10] h fun v11 h =>
  mvK v11 h fun v5 h =>
  mvK v5 h fun v12 h =>
  vK (aBin Try.prog BinOp.neq 28 v12 (Value.int IntKind.i64 0)) h fun v13 h =>
  cnd v13 (
   mvK v5 h fun v14 h =>
   mvK v14 h fun v4_1 h =>
   retV [some v4_1] R h) (
   mvK a1 h fun v15 h =>
   vK (aLen Try.prog 91 v15) h fun v16 h =>
   mvK (Value.int IntKind.i64 0) h fun v17 h =>
   ∃ (I5 : List Value → Heap → Prop) (μ5 : List Value → Heap → Nat), I5 [v17] h ∧
   ∀ (h5 : Heap) (j5 : Tmps) (v17_1 : Value), I5 [v17_1] h5 → (let h := h5
    vK (aBin Try.prog BinOp.lss 3 v17_1 v16) h fun v18 h =>
    cnd v18 (
     vK (aIndexAddr Try.prog 91 v15 v17_1) h fun v19 h =>
     vK (aLoad Try.prog 25 v19 h) h fun v20 h =>
     mvK v20 h fun v7 h =>
     vK (aLoad Try.prog 24 v2 h) h fun v22 h =>
     mvK v7 h fun v23 h =>
     cK Try.prog 56 [v22, v23] h fun v24 h =>
     mvK v24 h fun v21 h =>
     vK (aExtract v21 0) h fun v25 h =>
     vK (aExtract v21 1) h fun v26 h =>
     mvK v25 h fun v8 h =>
     mvK v26 h fun v9 h =>
     mvK v9 h fun v27 h =>
     vK (aBin Try.prog BinOp.neq 28 v27 (Value.int IntKind.i64 0)) h fun v28 h =>
     cnd v28 (
      mvK v9 h fun v29 h =>
      mvK v29 h fun v4_2 h =>
      retV [some v4_2] R h) (
      vK (aBin Try.prog BinOp.add 3 v17_1 (Value.int IntKind.i64 1)) h fun v30 h =>
      mvK v30 h fun v17_2 h =>
      I5 [v17_2] h ∧ μ5 [v17_2] h < μ5 [v17_1] h5)) (
     mvK (Value.int IntKind.i64 0) h fun v4_3 h =>
     retV [some v4_3] R h)))
def lv47 (q : Nat) : List Nat := bif Nat.beq q 10 then [2147353488, 17] else []
theorem ok47 : lkOK Try.prog lv47 Try.f30 2 (Try.f30.body.getD .skip) 30 = true := by kernel_rfl
theorem e47 (a0 a1 : Value) (h : Heap) (R : Value → Heap → Prop) : n47 a0 a1 h R = wpK Try.prog lv47 (Try.f30.body.getD .skip) (endK Try.prog [.tmp 4] R) (argT [a0, a1]) h := by kernel_rfl
theorem w47 {a0 a1 : Value} {h : Heap} {R : Value → Heap → Prop} (hn : n47 a0 a1 h R) : DetP Try.prog 30 [a0, a1] h R :=
  DetP.of_code (rs := [.tmp 4]) (n := 2) Try.func30 (by kernel_rfl) (by kernel_rfl) lv47 ok47 rfl ((e47 a0 a1 h R) ▸ hn)

/-! ### examiner/mutant.spans: function 54 -/
def n48 (a0 a1 a2 : Value) (h : Heap) (R : Value → Heap → Prop) : Prop :=
  mvK (Value.bool false) h fun v6 h =>
  mvK a1 h fun v7 h =>
  mvK a0 h fun v8 h =>
  vK (aBin Try.prog BinOp.leq 3 v7 v8) h fun v9 h =>
  mvK v9 h fun v10 h =>
  gdK v10 true (fun k0 =>
   mvK a0 h fun v11 h =>
   k0 v11 h) (fun v11_1 h =>
   gdK v10 true (fun k1 =>
    mvK a2 h fun v12 h =>
    k1 v12 h) (fun v12_1 h =>
    gdK v10 true (fun k2 =>
     vK (aBin Try.prog BinOp.leq 3 v11_1 v12_1) h fun v13 h =>
     k2 v13 h) (fun v13_1 h =>
     vK (pickV v10 v13_1 (Value.bool false)) h fun v14 h =>
     mvK v14 h fun v6_1 h =>
     retV [some v6_1] R h) h) h) h
def lv48 (q : Nat) : List Nat := []
theorem ok48 : lkOK Try.prog lv48 Try.f54 3 (Try.f54.body.getD .skip) 54 = true := by kernel_rfl
theorem e48 (a0 a1 a2 : Value) (h : Heap) (R : Value → Heap → Prop) : n48 a0 a1 a2 h R = wpK Try.prog lv48 (Try.f54.body.getD .skip) (endK Try.prog [.tmp 6] R) (argT [a0, a1, a2]) h := by kernel_rfl
theorem w48 {a0 a1 a2 : Value} {h : Heap} {R : Value → Heap → Prop} (hn : n48 a0 a1 a2 h R) : DetP Try.prog 54 [a0, a1, a2] h R :=
  DetP.of_code (rs := [.tmp 6]) (n := 3) Try.func54 (by kernel_rfl) (by kernel_rfl) lv48 ok48 rfl ((e48 a0 a1 a2 h R) ▸ hn)

/-! ### examiner/mutant.comparePairs: function 48 -/
def n49 (a0 a1 : Value) (h : Heap) (R : Value → Heap → Prop) : Prop :=
  okK (some (aBox Try.prog 77 a0 h)) fun v2 h =>
  okK (some (aBox Try.prog 77 a1 h)) fun v3 h =>
  mvK (Value.int IntKind.i64 0) h fun v4 h =>
  vK (aIndexAddr Try.prog 77 v2 (Value.int IntKind.i64 0)) h fun v5 h =>
  vK (aLoad Try.prog 3 v5 h) h fun v6 g =>
  VB h.length v6 ∧ (let h := g
   vK (aIndexAddr Try.prog 77 v3 (Value.int IntKind.i64 0)) h fun v7 h =>
   vK (aLoad Try.prog 3 v7 h) h fun v8 g =>
   VB h.length v8 ∧ (let h := g
    cKD Try.prog 41 [v6, v8] h fun v9 g =>
    (∃ new, g = h ++ new) ∧ (let h := g
     vK (aIndexAddr Try.prog 77 v2 (Value.int IntKind.i64 1)) h fun v10 h =>
     vK (aLoad Try.prog 3 v10 h) h fun v11 g =>
     VB h.length v11 ∧ (let h := g
      vK (aIndexAddr Try.prog 77 v3 (Value.int IntKind.i64 1)) h fun v12 h =>
      vK (aLoad Try.prog 3 v12 h) h fun v13 g =>
      VB h.length v13 ∧ (let h := g
       cKD Try.prog 41 [v11, v13] h fun v14 g =>
       (∃ new, g = h ++ new) ∧ (let h := g
        okK (aBuildSlice Try.prog 37 2 [(0, v9), (1, v14)] h) fun v15 h =>
        cKD Try.prog 40 [v15] h fun v16 g =>
        (∃ new, g = h ++ new) ∧ (let h := g
         mvK v16 h fun v4_1 h =>
         retV [some v4_1] R h)))))))
def lv49 (q : Nat) : List Nat := []
theorem ok49 : lkOK Try.prog lv49 Try.f48 2 (Try.f48.body.getD .skip) 48 = true := by kernel_rfl
theorem e49 (a0 a1 : Value) (h : Heap) (R : Value → Heap → Prop) : n49 a0 a1 h R = wpK Try.prog lv49 (Try.f48.body.getD .skip) (endK Try.prog [.tmp 4] R) (argT [a0, a1]) h := by kernel_rfl
theorem w49 {a0 a1 : Value} {h : Heap} {R : Value → Heap → Prop} (hn : n49 a0 a1 h R) : DetP Try.prog 48 [a0, a1] h R :=
  DetP.of_code (rs := [.tmp 4]) (n := 2) Try.func48 (by kernel_rfl) (by kernel_rfl) lv49 ok49 rfl ((e49 a0 a1 h R) ▸ hn)

/-! ### examiner/mutant.mutated: function 31 -/
def n50 (a0 a1 : Value) (h : Heap) (R : Value → Heap → Prop) : Prop :=
  okK (some (aBox Try.prog 24 a0 h)) fun v2 h =>
  okK (aAlloc Try.prog 24 h) fun v4 h =>
  vK (aLoad Try.prog 24 v2 h) h fun v8 h =>
  okK (aAlloc Try.prog 24 h) fun v5 h =>
  okK ((aStore Try.prog 24 v5 v8 h).map (undef, ·)) fun _ h =>
  vK (aFieldAddr Try.prog 24 v2 4) h fun v9 h =>
  vK (aLoad Try.prog 22 v9 h) h fun v10 h =>
  cK Try.prog 57 [v10] h fun v11 h =>
  vK (aFieldAddr Try.prog 24 v5 4) h fun v12 h =>
  okK ((aStore Try.prog 22 v12 v11 h).map (undef, ·)) fun _ h =>
  mvK a1 h fun v13 h =>
  vK (aLen Try.prog 25 v13) h fun v14 h =>
  mvK (Value.int IntKind.i64 0) h fun v15 h =>
  ∃ (I4 : List Value → Heap → Prop) (μ4 : List Value → Heap → Nat), I4 [v15] h ∧
  ∀ (h4 : Heap) (j4 : Tmps) (v15_1 : Value), I4 [v15_1] h4 → (let h := h4
   vK (aBin Try.prog BinOp.lss 3 v15_1 v14) h fun v16 h =>
   cnd v16 (
    seqK (fun k0 =>
     vK (aIndexAddr Try.prog 25 v13 v15_1) h fun v17 h =>
     vK (aLoad Try.prog 36 v17 h) h fun v18 h =>
     okK (aAlloc Try.prog 36 h) fun v7 h =>
     okK ((aStore Try.prog 36 v7 v18 h).map (undef, ·)) fun _ h =>
     vK (aFieldAddr Try.prog 36 v7 0) h fun v19 h =>
     vK (aLoad Try.prog 3 v19 h) h fun v20 h =>
     vK (aBin Try.prog BinOp.eql 3 v20 (Value.int IntKind.i64 0)) h fun v22 h =>
     mvK v22 h fun v21 h =>
     cnd v21 (
      vK (aFieldAddr Try.prog 24 v5 4) h fun v23 h =>
      vK (aLoad Try.prog 22 v23 h) h fun v24 h =>
      vK (aFieldAddr Try.prog 36 v7 1) h fun v25 h =>
      vK (aLoad Try.prog 3 v25 h) h fun v26 h =>
      vK (aFieldAddr Try.prog 36 v7 2) h fun v27 h =>
      vK (aLoad Try.prog 3 v27 h) h fun v28 h =>
      vK (aIndexAddr Try.prog 22 v24 v26) h fun v29 h =>
      vK (aFieldAddr Try.prog 46 v29 2) h fun v30 h =>
      okK ((aStore Try.prog 3 v30 v28 h).map (undef, ·)) fun _ h =>
      k0 [] h) (
      vK (aBin Try.prog BinOp.eql 3 v20 (Value.int IntKind.i64 1)) h fun v32 h =>
      mvK v32 h fun v31 h =>
      cnd v31 (
       vK (aFieldAddr Try.prog 24 v5 4) h fun v33 h =>
       vK (aLoad Try.prog 22 v33 h) h fun v34 h =>
       vK (aFieldAddr Try.prog 36 v7 1) h fun v35 h =>
       vK (aLoad Try.prog 3 v35 h) h fun v36 h =>
       vK (aFieldAddr Try.prog 36 v7 2) h fun v37 h =>
       vK (aLoad Try.prog 3 v37 h) h fun v38 h =>
       vK (aIndexAddr Try.prog 22 v34 v36) h fun v39 h =>
       vK (aFieldAddr Try.prog 46 v39 3) h fun v40 h =>
       okK ((aStore Try.prog 3 v40 v38 h).map (undef, ·)) fun _ h =>
       k0 [] h) (
       vK (aBin Try.prog BinOp.eql 3 v20 (Value.int IntKind.i64 2)) h fun v42 h =>
       mvK v42 h fun v41 h =>
       cnd v41 (
        vK (aFieldAddr Try.prog 36 v7 2) h fun v43 h =>
        vK (aLoad Try.prog 3 v43 h) h fun v44 h =>
        vK (aFieldAddr Try.prog 24 v5 3) h fun v45 h =>
        okK ((aStore Try.prog 3 v45 v44 h).map (undef, ·)) fun _ h =>
        k0 [] h) (
        vK (aBin Try.prog BinOp.eql 3 v20 (Value.int IntKind.i64 3)) h fun v47 h =>
        mvK v47 h fun v46 h =>
        cnd v46 (
         vK (aFieldAddr Try.prog 24 v5 4) h fun v48 h =>
         vK (aLoad Try.prog 22 v48 h) h fun v49 g =>
         VB h.length v49 ∧ (let h := g
          vK (aFieldAddr Try.prog 36 v7 1) h fun v50 h =>
          vK (aLoad Try.prog 3 v50 h) h fun v51 g =>
          VB h.length v51 ∧ (let h := g
           vK (aFieldAddr Try.prog 24 v5 4) h fun v52 h =>
           vK (aLoad Try.prog 22 v52 h) h fun v53 g =>
           VB h.length v53 ∧ (let h := g
            vK (aFieldAddr Try.prog 36 v7 2) h fun v54 h =>
            vK (aLoad Try.prog 3 v54 h) h fun v55 g =>
            VB h.length v55 ∧ (let h := g
             vK (aFieldAddr Try.prog 24 v2 4) h fun v56 h =>
             vK (aLoad Try.prog 22 v56 h) h fun v57 g =>
             VB h.length v57 ∧ (let h := g
              vK (aFieldAddr Try.prog 36 v7 2) h fun v58 h =>
              vK (aLoad Try.prog 3 v58 h) h fun v59 g =>
              VB h.length v59 ∧ (let h := g
               vK (aIndexAddr Try.prog 22 v57 v59) h fun v60 h =>
               vK (aFieldAddr Try.prog 46 v60 3) h fun v61 h =>
               vK (aLoad Try.prog 3 v61 h) h fun v62 g =>
               VB h.length v62 ∧ (let h := g
                vK (aFieldAddr Try.prog 24 v2 4) h fun v63 h =>
                vK (aLoad Try.prog 22 v63 h) h fun v64 g =>
                VB h.length v64 ∧ (let h := g
                 vK (aFieldAddr Try.prog 36 v7 1) h fun v65 h =>
                 vK (aLoad Try.prog 3 v65 h) h fun v66 g =>
                 VB h.length v66 ∧ (let h := g
                  vK (aIndexAddr Try.prog 22 v64 v66) h fun v67 h =>
                  vK (aFieldAddr Try.prog 46 v67 3) h fun v68 h =>
                  vK (aLoad Try.prog 3 v68 h) h fun v69 g =>
                  VB h.length v69 ∧ (let h := g
                   vK (aIndexAddr Try.prog 22 v49 v51) h fun v70 h =>
                   vK (aFieldAddr Try.prog 46 v70 3) h fun v71 h =>
                   okK ((aStore Try.prog 3 v71 v62 h).map (undef, ·)) fun _ h =>
                   ((aLoad Try.prog 3 v54 h).map (·, h) = some (v55, h) ∧ (aLoad Try.prog 22 v52 h).map (·, h) = some (v53, h) ∧ True) ∧ (
                    vK (aIndexAddr Try.prog 22 v53 v55) h fun v72 h =>
                    vK (aFieldAddr Try.prog 46 v72 3) h fun v73 h =>
                    okK ((aStore Try.prog 3 v73 v69 h).map (undef, ·)) fun _ h =>
                    (True) ∧ (
                     k0 [] h))))))))))))) (
         k0 [] h))))) fun x0 h => ∀ jx0 : Tmps,
     vK (aBin Try.prog BinOp.add 3 v15_1 (Value.int IntKind.i64 1)) h fun v74 h =>
     mvK v74 h fun v15_2 h =>
     I4 [v15_2] h ∧ μ4 [v15_2] h < μ4 [v15_1] h4) (
    vK (aLoad Try.prog 24 v5 h) h fun v75 h =>
    okK ((aStore Try.prog 24 v4 v75 h).map (undef, ·)) fun _ h =>
    retV [aLoad Try.prog 24 v4 h] R h))
def lv50 (q : Nat) : List Nat := bif Nat.beq q 8 then [37778931862957161676928, 15] else bif Nat.beq q 31 then [18889465931478580723840] else []
theorem ok50 : lkOK Try.prog lv50 Try.f31 2 (Try.f31.body.getD .skip) 31 = true := by kernel_rfl
theorem e50 (a0 a1 : Value) (h : Heap) (R : Value → Heap → Prop) : n50 a0 a1 h R = wpK Try.prog lv50 (Try.f31.body.getD .skip) (endK Try.prog [.cell 4 24] R) (argT [a0, a1]) h := by kernel_rfl
theorem w50 {a0 a1 : Value} {h : Heap} {R : Value → Heap → Prop} (hn : n50 a0 a1 h R) : DetP Try.prog 31 [a0, a1] h R :=
  DetP.of_code (rs := [.cell 4 24]) (n := 2) Try.func31 (by kernel_rfl) (by kernel_rfl) lv50 ok50 rfl ((e50 a0 a1 h R) ▸ hn)

/-! ### slices.Contains[[][2]int,[2]int]: function 46 -/
def n51 (a0 a1 : Value) (h : Heap) (R : Value → Heap → Prop) : Prop :=
  okK (some (aBox Try.prog 77 a1 h)) fun v3 h =>
  mvK (Value.bool false) h fun v4 h =>
  mvK a0 h fun v5 h =>
  vK (aLoad Try.prog 77 v3 h) h fun v6 h =>
  cK Try.prog 70 [v5, v6] h fun v7 h =>
  vK (aBin Try.prog BinOp.geq 3 v7 (Value.int IntKind.i64 0)) h fun v8 h =>
  mvK v8 h fun v4_1 h =>
  retV [some v4_1] R h
def lv51 (q : Nat) : List Nat := []
theorem ok51 : lkOK Try.prog lv51 Try.f46 2 (Try.f46.body.getD .skip) 46 = true := by kernel_rfl
theorem e51 (a0 a1 : Value) (h : Heap) (R : Value → Heap → Prop) : n51 a0 a1 h R = wpK Try.prog lv51 (Try.f46.body.getD .skip) (endK Try.prog [.tmp 4] R) (argT [a0, a1]) h := by kernel_rfl
theorem w51 {a0 a1 : Value} {h : Heap} {R : Value → Heap → Prop} (hn : n51 a0 a1 h R) : DetP Try.prog 46 [a0, a1] h R :=
  DetP.of_code (rs := [.tmp 4]) (n := 2) Try.func46 (by kernel_rfl) (by kernel_rfl) lv51 ok51 rfl ((e51 a0 a1 h R) ▸ hn)

/-! ### examiner/mutant.step: function 45 -/
def n52 (a0 a1 a2 : Value) (h : Heap) (R : Value → Heap → Prop) : Prop :=
  okK (some (aBox Try.prog 24 a0 h)) fun v3 h =>
  okK (aAlloc Try.prog 46 h) fun v6 h =>
  vK (aFieldAddr Try.prog 24 v3 4) h fun v7 h =>
  vK (aLoad Try.prog 22 v7 h) h fun v8 h =>
  mvK a1 h fun v9 h =>
  vK (aFieldAddr Try.prog 24 v3 1) h fun v10 h =>
  vK (aLoad Try.prog 3 v10 h) h fun v11 h =>
  vK (aBin Try.prog BinOp.mul 3 v9 v11) h fun v12 h =>
  mvK a2 h fun v13 h =>
  vK (aBin Try.prog BinOp.add 3 v12 v13) h fun v14 h =>
  vK (aIndexAddr Try.prog 22 v8 v14) h fun v15 h =>
  vK (aLoad Try.prog 46 v15 h) h fun v16 h =>
  okK ((aStore Try.prog 46 v6 v16 h).map (undef, ·)) fun _ h =>
  retV [aLoad Try.prog 46 v6 h] R h
def lv52 (q : Nat) : List Nat := []
theorem ok52 : lkOK Try.prog lv52 Try.f45 3 (Try.f45.body.getD .skip) 45 = true := by kernel_rfl
theorem e52 (a0 a1 a2 : Value) (h : Heap) (R : Value → Heap → Prop) : n52 a0 a1 a2 h R = wpK Try.prog lv52 (Try.f45.body.getD .skip) (endK Try.prog [.cell 6 46] R) (argT [a0, a1, a2]) h := by kernel_rfl
theorem w52 {a0 a1 a2 : Value} {h : Heap} {R : Value → Heap → Prop} (hn : n52 a0 a1 a2 h R) : DetP Try.prog 45 [a0, a1, a2] h R :=
  DetP.of_code (rs := [.cell 6 46]) (n := 3) Try.func45 (by kernel_rfl) (by kernel_rfl) lv52 ok52 rfl ((e52 a0 a1 a2 h R) ▸ hn)

/-! ### examiner/examinerbase.Within: function 42 -/
def n53 (a0 a1 a2 : Value) (h : Heap) (R : Value → Heap → Prop) : Prop :=
  mvK (Value.bool false) h fun v6 h =>
  mvK a1 h fun v7 h =>
  mvK a0 h fun v8 h =>
  vK (aBin Try.prog BinOp.leq 3 v7 v8) h fun v9 h =>
  mvK v9 h fun v10 h =>
  gdK v10 true (fun k0 =>
   mvK a0 h fun v11 h =>
   k0 v11 h) (fun v11_1 h =>
   gdK v10 true (fun k1 =>
    mvK a2 h fun v12 h =>
    k1 v12 h) (fun v12_1 h =>
    gdK v10 true (fun k2 =>
     vK (aBin Try.prog BinOp.leq 3 v11_1 v12_1) h fun v13 h =>
     k2 v13 h) (fun v13_1 h =>
     vK (pickV v10 v13_1 (Value.bool false)) h fun v14 h =>
     mvK v14 h fun v6_1 h =>
     retV [some v6_1] R h) h) h) h
def lv53 (q : Nat) : List Nat := []
theorem ok53 : lkOK Try.prog lv53 Try.f42 3 (Try.f42.body.getD .skip) 42 = true := by kernel_rfl
theorem e53 (a0 a1 a2 : Value) (h : Heap) (R : Value → Heap → Prop) : n53 a0 a1 a2 h R = wpK Try.prog lv53 (Try.f42.body.getD .skip) (endK Try.prog [.tmp 6] R) (argT [a0, a1, a2]) h := by kernel_rfl
theorem w53 {a0 a1 a2 : Value} {h : Heap} {R : Value → Heap → Prop} (hn : n53 a0 a1 a2 h R) : DetP Try.prog 42 [a0, a1, a2] h R :=
  DetP.of_code (rs := [.tmp 6]) (n := 3) Try.func42 (by kernel_rfl) (by kernel_rfl) lv53 ok53 rfl ((e53 a0 a1 a2 h R) ▸ hn)

/-! ### examiner/examinerbase.CompareInts: function 20 -/
def n54 (a0 a1 : Value) (h : Heap) (R : Value → Heap → Prop) : Prop :=
  mvK (Value.int IntKind.i64 0) h fun v4 h =>
  mvK (Value.int IntKind.i64 0) h fun v5 h =>
  ∃ (I2 : List Value → Heap → Prop) (μ2 : List Value → Heap → Nat), I2 [v5] h ∧
  ∀ (h2 : Heap) (j2 : Tmps) (v5_1 : Value), I2 [v5_1] h2 → (let h := h2
   mvK v5_1 h fun v6 h =>
   mvK a0 h fun v7 h =>
   vK (aLen Try.prog 37 v7) h fun v8 h =>
   vK (aBin Try.prog BinOp.lss 3 v6 v8) h fun v9 h =>
   mvK v9 h fun v10 h =>
   gdK v10 true (fun k0 =>
    mvK v5_1 h fun v11 h =>
    k0 v11 h) (fun v11_1 h =>
    gdK v10 true (fun k1 =>
     mvK a1 h fun v12 h =>
     k1 v12 h) (fun v12_1 h =>
     gdK v10 true (fun k2 =>
      vK (aLen Try.prog 37 v12_1) h fun v13 h =>
      k2 v13 h) (fun v13_1 h =>
      gdK v10 true (fun k3 =>
       vK (aBin Try.prog BinOp.lss 3 v11_1 v13_1) h fun v14 h =>
       k3 v14 h) (fun v14_1 h =>
       vK (pickV v10 v14_1 (Value.bool false)) h fun v15 h =>
       cnd v15 (
        mvK a0 h fun v18 h =>
        mvK v5_1 h fun v19 h =>
        vK (aIndexAddr Try.prog 37 v18 v19) h fun v20 h =>
        vK (aLoad Try.prog 3 v20 h) h fun v21 g =>
        VB h.length v21 ∧ (let h := g
         mvK a1 h fun v22 h =>
         mvK v5_1 h fun v23 h =>
         vK (aIndexAddr Try.prog 37 v22 v23) h fun v24 h =>
         vK (aLoad Try.prog 3 v24 h) h fun v25 g =>
         VB h.length v25 ∧ (let h := g
          vK (aBin Try.prog BinOp.neq 3 v21 v25) h fun v26 h =>
          cnd v26 (
           mvK a0 h fun v27 h =>
           mvK v5_1 h fun v28 h =>
           vK (aIndexAddr Try.prog 37 v27 v28) h fun v29 h =>
           vK (aLoad Try.prog 3 v29 h) h fun v30 g =>
           VB h.length v30 ∧ (let h := g
            mvK a1 h fun v31 h =>
            mvK v5_1 h fun v32 h =>
            vK (aIndexAddr Try.prog 37 v31 v32) h fun v33 h =>
            vK (aLoad Try.prog 3 v33 h) h fun v34 g =>
            VB h.length v34 ∧ (let h := g
             vK (aBin Try.prog BinOp.gtr 3 v30 v34) h fun v35 h =>
             cKD Try.prog 32 [v35] h fun v36 g =>
             (∃ new, g = h ++ new) ∧ (let h := g
              vK (aBin Try.prog BinOp.mul 3 (Value.int IntKind.i64 2) v36) h fun v37 h =>
              vK (aBin Try.prog BinOp.sub 3 v37 (Value.int IntKind.i64 1)) h fun v38 h =>
              mvK v38 h fun v4_1 h =>
              retV [some v4_1] R h)))) (
           mvK v5_1 h fun v16 h =>
           vK (aBin Try.prog BinOp.add 3 v16 (Value.int IntKind.i64 1)) h fun v17 h =>
           mvK v17 h fun v5_2 h =>
           I2 [v5_2] h ∧ μ2 [v5_2] h < μ2 [v5_1] h2)))) (
        mvK a0 h fun v39 h =>
        vK (aLen Try.prog 37 v39) h fun v40 h =>
        mvK a1 h fun v41 h =>
        vK (aLen Try.prog 37 v41) h fun v42 h =>
        vK (aBin Try.prog BinOp.gtr 3 v40 v42) h fun v43 h =>
        cK Try.prog 32 [v43] h fun v44 h =>
        mvK a0 h fun v45 h =>
        vK (aLen Try.prog 37 v45) h fun v46 h =>
        mvK a1 h fun v47 h =>
        vK (aLen Try.prog 37 v47) h fun v48 h =>
        vK (aBin Try.prog BinOp.lss 3 v46 v48) h fun v49 h =>
        cK Try.prog 32 [v49] h fun v50 h =>
        vK (aBin Try.prog BinOp.sub 3 v44 v50) h fun v51 h =>
        mvK v51 h fun v4_2 h =>
        retV [some v4_2] R h)) h) h) h) h)
def lv54 (q : Nat) : List Nat := bif Nat.beq q 4 then [549755813872, 5] else []
theorem ok54 : lkOK Try.prog lv54 Try.f20 2 (Try.f20.body.getD .skip) 20 = true := by kernel_rfl
theorem e54 (a0 a1 : Value) (h : Heap) (R : Value → Heap → Prop) : n54 a0 a1 h R = wpK Try.prog lv54 (Try.f20.body.getD .skip) (endK Try.prog [.tmp 4] R) (argT [a0, a1]) h := by kernel_rfl
theorem w54 {a0 a1 : Value} {h : Heap} {R : Value → Heap → Prop} (hn : n54 a0 a1 h R) : DetP Try.prog 20 [a0, a1] h R :=
  DetP.of_code (rs := [.tmp 4]) (n := 2) Try.func20 (by kernel_rfl) (by kernel_rfl) lv54 ok54 rfl ((e54 a0 a1 h R) ▸ hn)

/-! ### examiner/mutant.mutantErr: function 56 -/
def n57 (a0 a1 : Value) (h : Heap) (R : Value → Heap → Prop) : Prop :=
  okK (some (aBox Try.prog 24 a0 h)) fun v2 h =>
  mvK (Value.int IntKind.i64 0) h fun v4 h =>
  mvK (Value.int IntKind.i64 0) h fun v5 h =>
  mvK a1 h fun v11 h =>
  vK (aLen Try.prog 25 v11) h fun v12 h =>
  vK (aBin Try.prog BinOp.gtr 3 v12 (Value.int IntKind.i64 4)) h fun v13 h =>
  cnd v13 (
   mvK (Value.int IntKind.i64 0) h fun v4_1 h =>
   mvK (Value.int IntKind.i64 2) h fun v5_1 h =>
   retV [some v4_1, some v5_1] R h) (
   mvK a1 h fun v14 h =>
   vK (aLen Try.prog 25 v14) h fun v15 h =>
   mvK (Value.int IntKind.i64 0) h fun v16 h =>
   ∃ (I4 : List Value → Heap → Prop) (μ4 : List Value → Heap → Nat), I4 [v16] h ∧
   ∀ (h4 : Heap) (j4 : Tmps) (v16_1 : Value), I4 [v16_1] h4 → (let h := h4
    vK (aBin Try.prog BinOp.lss 3 v16_1 v15) h fun v17 h =>
    cnd v17 (
     mvK v16_1 h fun v18 h =>
     vK (aIndexAddr Try.prog 25 v14 v16_1) h fun v19 h =>
     vK (aLoad Try.prog 36 v19 h) h fun v20 h =>
     okK (aAlloc Try.prog 36 h) fun v7 h =>
     mvK v18 h fun v6 h =>
     okK ((aStore Try.prog 36 v7 v20 h).map (undef, ·)) fun _ h =>
     mvK v6 h fun v21 h =>
     vK (aBin Try.prog BinOp.eql 3 v21 (Value.int IntKind.i64 0)) h fun v22 h =>
     mvK v22 h fun v23 h =>
     gdK v23 false (fun k0 =>
      mvK a1 h fun v24 h =>
      k0 v24 h) (fun v24_1 h =>
      gdK v23 false (fun k1 =>
       mvK v6 h fun v25 h =>
       k1 v25 h) (fun v25_1 h =>
       gdK v23 false (fun k2 =>
        vK (aBin Try.prog BinOp.sub 3 v25_1 (Value.int IntKind.i64 1)) h fun v26 h =>
        k2 v26 h) (fun v26_1 h =>
        gdK v23 false (fun k3 =>
         vK (aIndexAddr Try.prog 25 v24_1 v26_1) h fun v27 h =>
         k3 v27 h) (fun v27_1 h =>
         gdK v23 false (fun k4 =>
          vK (aLoad Try.prog 36 v27_1 h) h fun v28 g =>
          VB h.length v28 ∧ (let h := g
           k4 v28 h)) (fun v28_1 h =>
          gdK v23 false (fun k5 =>
           vK (aLoad Try.prog 36 v7 h) h fun v29 g =>
           VB h.length v29 ∧ (let h := g
            k5 v29 h)) (fun v29_1 h =>
           gdK v23 false (fun k6 =>
            cKD Try.prog 18 [v28_1, v29_1] h fun v30 g =>
            (∃ new, g = h ++ new) ∧ (let h := g
             k6 v30 h)) (fun v30_1 h =>
            gdK v23 false (fun k7 =>
             vK (aBin Try.prog BinOp.lss 3 v30_1 (Value.int IntKind.i64 0)) h fun v31 h =>
             k7 v31 h) (fun v31_1 h =>
             vK (pickV v23 (Value.bool true) v31_1) h fun v32 h =>
             mvK v32 h fun v33 h =>
             gdK v33 true (fun k8 =>
              vK (aFieldAddr Try.prog 36 v7 0) h fun v34 h =>
              k8 v34 h) (fun v34_1 h =>
              gdK v33 true (fun k9 =>
               vK (aLoad Try.prog 3 v34_1 h) h fun v35 g =>
               VB h.length v35 ∧ (let h := g
                k9 v35 h)) (fun v35_1 h =>
               gdK v33 true (fun k10 =>
                vK (aBin Try.prog BinOp.neq 3 v35_1 (Value.int IntKind.i64 3)) h fun v36 h =>
                k10 v36 h) (fun v36_1 h =>
                gdK v33 true (fun k11 =>
                 mvK v36_1 h fun v37 h =>
                 k11 v37 h) (fun v37_1 h =>
                 gdK v37_1 false (fun k12 =>
                  vK (aFieldAddr Try.prog 36 v7 1) h fun v38 h =>
                  k12 v38 h) (fun v38_1 h =>
                  gdK v37_1 false (fun k13 =>
                   vK (aLoad Try.prog 3 v38_1 h) h fun v39 g =>
                   VB h.length v39 ∧ (let h := g
                    k13 v39 h)) (fun v39_1 h =>
                   gdK v37_1 false (fun k14 =>
                    vK (aFieldAddr Try.prog 36 v7 2) h fun v40 h =>
                    k14 v40 h) (fun v40_1 h =>
                    gdK v37_1 false (fun k15 =>
                     vK (aLoad Try.prog 3 v40_1 h) h fun v41 g =>
                     VB h.length v41 ∧ (let h := g
                      k15 v41 h)) (fun v41_1 h =>
                     gdK v37_1 false (fun k16 =>
                      vK (aBin Try.prog BinOp.lss 3 v39_1 v41_1) h fun v42 h =>
                      k16 v42 h) (fun v42_1 h =>
                      gdK v33 true (fun k17 =>
                       vK (pickV v37_1 (Value.bool true) v42_1) h fun v43 h =>
                       k17 v43 h) (fun v43_1 h =>
                       vK (pickV v33 v43_1 (Value.bool false)) h fun v44 h =>
                       mvK v44 h fun v8 h =>
                       mvK (Value.func (Fn.func 73) #[] #[v7]) h fun v45 h =>
                       mvK v45 h fun v9 h =>
                       vK (aFieldAddr Try.prog 36 v7 0) h fun v46 h =>
                       vK (aLoad Try.prog 3 v46 h) h fun v47 h =>
                       cK Try.prog 54 [v47, (Value.int IntKind.i64 0), (Value.int IntKind.i64 3)] h fun v48 h =>
                       vK (aUn UnOp.not v48) h fun v49 h =>
                       cnd v49 (
                        mvK v6 h fun v50 h =>
                        mvK v50 h fun v4_2 h =>
                        mvK (Value.int IntKind.i64 4) h fun v5_2 h =>
                        retV [some v4_2, some v5_2] R h) (
                        vK (aLoad Try.prog 24 v2 h) h fun v51 g =>
                        VB h.length v51 ∧ (let h := g
                         vK (aLoad Try.prog 36 v7 h) h fun v52 g =>
                         VB h.length v52 ∧ (let h := g
                          cKD Try.prog 75 [v51, v52] h fun v53 g =>
                          (∃ new, g = h ++ new) ∧ (let h := g
                           cKD Try.prog 37 [v53, (Value.int IntKind.i64 3)] h fun v54 g =>
                           (∃ new, g = h ++ new) ∧ (let h := g
                            mvK v8 h fun v55 h =>
                            cKD Try.prog 37 [v55, (Value.int IntKind.i64 14)] h fun v56 g =>
                            (∃ new, g = h ++ new) ∧ (let h := g
                             mvK a1 h fun v57 h =>
                             mvK v6 h fun v58 h =>
                             vK (aSlice Try.prog 25 v57 none (some v58) none h) h fun v59 g =>
                             VB h.length v59 ∧ (let h := g
                              mvK v9 h fun v60 h =>
                              cKD Try.prog 76 [v59, v60] h fun v61 g =>
                              (∃ new, g = h ++ new) ∧ (let h := g
                               vK (aUn UnOp.not v61) h fun v62 h =>
                               cKD Try.prog 37 [v62, (Value.int IntKind.i64 13)] h fun v63 g =>
                               (∃ new, g = h ++ new) ∧ (let h := g
                                okK (aBuildSlice Try.prog 94 3 [(0, v54), (1, v56), (2, v63)] h) fun v64 h =>
                                cKD Try.prog 36 [v64] h fun v65 g =>
                                (∃ new, g = h ++ new) ∧ (let h := g
                                 mvK v65 h fun v10 h =>
                                 mvK v10 h fun v66 h =>
                                 vK (aBin Try.prog BinOp.neq 28 v66 (Value.int IntKind.i64 0)) h fun v67 h =>
                                 cnd v67 (
                                  mvK v6 h fun v68 h =>
                                  mvK v10 h fun v69 h =>
                                  mvK v68 h fun v4_3 h =>
                                  mvK v69 h fun v5_3 h =>
                                  retV [some v4_3, some v5_3] R h) (
                                  vK (aBin Try.prog BinOp.add 3 v16_1 (Value.int IntKind.i64 1)) h fun v70 h =>
                                  mvK v70 h fun v16_2 h =>
                                  I4 [v16_2] h ∧ μ4 [v16_2] h < μ4 [v16_1] h4)))))))))))) h) h) h) h) h) h) h) h) h) h) h) h) h) h) h) h) h) h) (
     mvK (Value.int IntKind.i64 0) h fun v4_4 h =>
     mvK (Value.int IntKind.i64 0) h fun v5_4 h =>
     retV [some v4_4, some v5_4] R h)))
def lv57 (q : Nat) : List Nat := bif Nat.beq q 8 then [2361183241434822543344, 16] else []
theorem ok57 : lkOK Try.prog lv57 Try.f56 2 (Try.f56.body.getD .skip) 56 = true := by kernel_rfl
theorem e57 (a0 a1 : Value) (h : Heap) (R : Value → Heap → Prop) : n57 a0 a1 h R = wpK Try.prog lv57 (Try.f56.body.getD .skip) (endK Try.prog [.tmp 4, .tmp 5] R) (argT [a0, a1]) h := by kernel_rfl
theorem w57 {a0 a1 : Value} {h : Heap} {R : Value → Heap → Prop} (hn : n57 a0 a1 h R) : DetP Try.prog 56 [a0, a1] h R :=
  DetP.of_code (rs := [.tmp 4, .tmp 5]) (n := 2) Try.func56 (by kernel_rfl) (by kernel_rfl) lv57 ok57 rfl ((e57 a0 a1 h R) ▸ hn)

/-! ### examiner/examinerref41.mutationErr: function 19 -/
def n58 (a0 a1 : Value) (h : Heap) (R : Value → Heap → Prop) : Prop :=
  okK (some (aBox Try.prog 24 a0 h)) fun v2 h =>
  okK (some (aBox Try.prog 36 a1 h)) fun v3 h =>
  mvK (Value.int IntKind.i64 0) h fun v4 h =>
  vK (aFieldAddr Try.prog 36 v3 0) h fun v7 h =>
  vK (aLoad Try.prog 3 v7 h) h fun v8 h =>
  cK Try.prog 42 [v8, (Value.int IntKind.i64 0), (Value.int IntKind.i64 3)] h fun v9 h =>
  vK (aUn UnOp.not v9) h fun v10 h =>
  cnd v10 (
   mvK (Value.int IntKind.i64 4) h fun v4_1 h =>
   retV [some v4_1] R h) (
   vK (aFieldAddr Try.prog 24 v2 4) h fun v11 h =>
   vK (aLoad Try.prog 22 v11 h) h fun v12 g =>
   VB h.length v12 ∧ (let h := g
    vK (aLen Try.prog 22 v12) h fun v13 h =>
    vK (aBin Try.prog BinOp.sub 3 v13 (Value.int IntKind.i64 1)) h fun v14 h =>
    vK (aFieldAddr Try.prog 24 v2 0) h fun v15 h =>
    vK (aLoad Try.prog 3 v15 h) h fun v16 g =>
    VB h.length v16 ∧ (let h := g
     vK (aBin Try.prog BinOp.sub 3 v16 (Value.int IntKind.i64 1)) h fun v17 h =>
     mvK v14 h fun v5 h =>
     mvK v17 h fun v6 h =>
     seqK (fun k0 =>
      vK (aFieldAddr Try.prog 36 v3 0) h fun v18 h =>
      vK (aLoad Try.prog 3 v18 h) h fun v19 h =>
      vK (aBin Try.prog BinOp.eql 3 v19 (Value.int IntKind.i64 0)) h fun v20 h =>
      cnd v20 (
       vK (aFieldAddr Try.prog 24 v2 2) h fun v21 h =>
       vK (aLoad Try.prog 3 v21 h) h fun v22 h =>
       vK (aBin Try.prog BinOp.sub 3 v22 (Value.int IntKind.i64 1)) h fun v23 h =>
       mvK v23 h fun v6_1 h =>
       k0 [v6_1] h) (
       k0 [v6] h)) fun x0 h => ∀ jx0 : Tmps,
      let v6_2 : Value := nth x0 0
      seqK (fun k1 =>
       vK (aFieldAddr Try.prog 36 v3 0) h fun v24 h =>
       vK (aLoad Try.prog 3 v24 h) h fun v25 h =>
       vK (aBin Try.prog BinOp.eql 3 v25 (Value.int IntKind.i64 2)) h fun v26 h =>
       cnd v26 (
        mvK (Value.int IntKind.i64 0) h fun v5_1 h =>
        k1 [v5_1] h) (
        k1 [v5] h)) fun x1 h => ∀ jx1 : Tmps,
       let v5_2 : Value := nth x1 0
       seqK (fun k2 =>
        vK (aFieldAddr Try.prog 36 v3 0) h fun v27 h =>
        vK (aLoad Try.prog 3 v27 h) h fun v28 h =>
        vK (aBin Try.prog BinOp.eql 3 v28 (Value.int IntKind.i64 3)) h fun v29 h =>
        cnd v29 (
         vK (aFieldAddr Try.prog 24 v2 4) h fun v30 h =>
         vK (aLoad Try.prog 22 v30 h) h fun v31 h =>
         vK (aLen Try.prog 22 v31) h fun v32 h =>
         vK (aBin Try.prog BinOp.sub 3 v32 (Value.int IntKind.i64 1)) h fun v33 h =>
         mvK v33 h fun v6_3 h =>
         k2 [v6_3] h) (
         k2 [v6_2] h)) fun x2 h => ∀ jx2 : Tmps,
        let v6_4 : Value := nth x2 0
        vK (aFieldAddr Try.prog 36 v3 1) h fun v34 h =>
        vK (aLoad Try.prog 3 v34 h) h fun v35 h =>
        mvK v5_2 h fun v36 h =>
        cK Try.prog 42 [v35, (Value.int IntKind.i64 0), v36] h fun v37 h =>
        vK (aUn UnOp.not v37) h fun v38 h =>
        mvK v38 h fun v39 h =>
        gdK v39 false (fun k3 =>
         vK (aFieldAddr Try.prog 36 v3 2) h fun v40 h =>
         k3 v40 h) (fun v40_1 h =>
         gdK v39 false (fun k4 =>
          vK (aLoad Try.prog 3 v40_1 h) h fun v41 h =>
          k4 v41 h) (fun v41_1 h =>
          gdK v39 false (fun k5 =>
           mvK v6_4 h fun v42 h =>
           k5 v42 h) (fun v42_1 h =>
           gdK v39 false (fun k6 =>
            cK Try.prog 42 [v41_1, (Value.int IntKind.i64 0), v42_1] h fun v43 h =>
            k6 v43 h) (fun v43_1 h =>
            gdK v39 false (fun k7 =>
             vK (aUn UnOp.not v43_1) h fun v44 h =>
             k7 v44 h) (fun v44_1 h =>
             vK (pickV v39 (Value.bool true) v44_1) h fun v45 h =>
             cnd v45 (
              mvK (Value.int IntKind.i64 3) h fun v4_2 h =>
              retV [some v4_2] R h) (
              mvK (Value.int IntKind.i64 0) h fun v4_3 h =>
              retV [some v4_3] R h)) h) h) h) h) h)))
def lv58 (q : Nat) : List Nat := bif Nat.beq q 13 then [16515136, 6] else bif Nat.beq q 17 then [117440544, 5] else bif Nat.beq q 21 then [17045651520, 6] else []
theorem ok58 : lkOK Try.prog lv58 Try.f19 2 (Try.f19.body.getD .skip) 19 = true := by kernel_rfl
theorem e58 (a0 a1 : Value) (h : Heap) (R : Value → Heap → Prop) : n58 a0 a1 h R = wpK Try.prog lv58 (Try.f19.body.getD .skip) (endK Try.prog [.tmp 4] R) (argT [a0, a1]) h := by kernel_rfl
theorem w58 {a0 a1 : Value} {h : Heap} {R : Value → Heap → Prop} (hn : n58 a0 a1 h R) : DetP Try.prog 19 [a0, a1] h R :=
  DetP.of_code (rs := [.tmp 4]) (n := 2) Try.func19 (by kernel_rfl) (by kernel_rfl) lv58 ok58 rfl ((e58 a0 a1 h R) ▸ hn)

/-! ### examiner/examinerref41.list: function 21 -/
def n59 (a0 : Value) (h : Heap) (R : Value → Heap → Prop) : Prop :=
  okK (some (aBox Try.prog 36 a0 h)) fun v1 h =>
  mvK (Value.slice none 0 0) h fun v2 h =>
  vK (aFieldAddr Try.prog 36 v1 0) h fun v3 h =>
  vK (aLoad Try.prog 3 v3 h) h fun v4 h =>
  vK (aFieldAddr Try.prog 36 v1 1) h fun v5 h =>
  vK (aLoad Try.prog 3 v5 h) h fun v6 h =>
  vK (aFieldAddr Try.prog 36 v1 2) h fun v7 h =>
  vK (aLoad Try.prog 3 v7 h) h fun v8 h =>
  okK (aBuildSlice Try.prog 37 3 [(0, v4), (1, v6), (2, v8)] h) fun v9 h =>
  mvK v9 h fun v2_1 h =>
  retV [some v2_1] R h
def lv59 (q : Nat) : List Nat := []
theorem ok59 : lkOK Try.prog lv59 Try.f21 1 (Try.f21.body.getD .skip) 21 = true := by kernel_rfl
theorem e59 (a0 : Value) (h : Heap) (R : Value → Heap → Prop) : n59 a0 h R = wpK Try.prog lv59 (Try.f21.body.getD .skip) (endK Try.prog [.tmp 2] R) (argT [a0]) h := by kernel_rfl
theorem w59 {a0 : Value} {h : Heap} {R : Value → Heap → Prop} (hn : n59 a0 h R) : DetP Try.prog 21 [a0] h R :=
  DetP.of_code (rs := [.tmp 2]) (n := 1) Try.func21 (by kernel_rfl) (by kernel_rfl) lv59 ok59 rfl ((e59 a0 h R) ▸ hn)

/-! ### examiner/examinerref41.clash: function 22 -/
def n60 (a0 a1 : Value) (h : Heap) (R : Value → Heap → Prop) : Prop :=
  okK (some (aBox Try.prog 36 a0 h)) fun v2 h =>
  okK (some (aBox Try.prog 36 a1 h)) fun v3 h =>
  mvK (Value.bool false) h fun v4 h =>
  vK (aFieldAddr Try.prog 36 v2 0) h fun v8 h =>
  vK (aLoad Try.prog 3 v8 h) h fun v9 h =>
  vK (aBin Try.prog BinOp.eql 3 v9 (Value.int IntKind.i64 0)) h fun v10 h =>
  mvK v10 h fun v11 h =>
  gdK v11 false (fun k0 =>
   vK (aFieldAddr Try.prog 36 v3 0) h fun v12 h =>
   k0 v12 h) (fun v12_1 h =>
   gdK v11 false (fun k1 =>
    vK (aLoad Try.prog 3 v12_1 h) h fun v13 h =>
    k1 v13 h) (fun v13_1 h =>
    gdK v11 false (fun k2 =>
     vK (aBin Try.prog BinOp.eql 3 v13_1 (Value.int IntKind.i64 0)) h fun v14 h =>
     k2 v14 h) (fun v14_1 h =>
     vK (pickV v11 (Value.bool true) v14_1) h fun v15 h =>
     cnd v15 (
      vK (aFieldAddr Try.prog 36 v2 0) h fun v16 h =>
      vK (aLoad Try.prog 3 v16 h) h fun v17 h =>
      vK (aFieldAddr Try.prog 36 v3 0) h fun v18 h =>
      vK (aLoad Try.prog 3 v18 h) h fun v19 h =>
      vK (aBin Try.prog BinOp.eql 3 v17 v19) h fun v20 h =>
      mvK v20 h fun v21 h =>
      gdK v21 true (fun k3 =>
       vK (aFieldAddr Try.prog 36 v2 1) h fun v22 h =>
       k3 v22 h) (fun v22_1 h =>
       gdK v21 true (fun k4 =>
        vK (aLoad Try.prog 3 v22_1 h) h fun v23 h =>
        k4 v23 h) (fun v23_1 h =>
        gdK v21 true (fun k5 =>
         vK (aFieldAddr Try.prog 36 v3 1) h fun v24 h =>
         k5 v24 h) (fun v24_1 h =>
         gdK v21 true (fun k6 =>
          vK (aLoad Try.prog 3 v24_1 h) h fun v25 h =>
          k6 v25 h) (fun v25_1 h =>
          gdK v21 true (fun k7 =>
           vK (aBin Try.prog BinOp.eql 3 v23_1 v25_1) h fun v26 h =>
           k7 v26 h) (fun v26_1 h =>
           vK (pickV v21 v26_1 (Value.bool false)) h fun v27 h =>
           mvK v27 h fun v4_1 h =>
           retV [some v4_1] R h) h) h) h) h) h) (
      vK (aFieldAddr Try.prog 36 v2 0) h fun v28 h =>
      vK (aLoad Try.prog 3 v28 h) h fun v29 h =>
      vK (aBin Try.prog BinOp.eql 3 v29 (Value.int IntKind.i64 2)) h fun v30 h =>
      mvK v30 h fun v31 h =>
      gdK v31 false (fun k8 =>
       vK (aFieldAddr Try.prog 36 v3 0) h fun v32 h =>
       k8 v32 h) (fun v32_1 h =>
       gdK v31 false (fun k9 =>
        vK (aLoad Try.prog 3 v32_1 h) h fun v33 h =>
        k9 v33 h) (fun v33_1 h =>
        gdK v31 false (fun k10 =>
         vK (aBin Try.prog BinOp.eql 3 v33_1 (Value.int IntKind.i64 2)) h fun v34 h =>
         k10 v34 h) (fun v34_1 h =>
         vK (pickV v31 (Value.bool true) v34_1) h fun v35 h =>
         cnd v35 (
          vK (aFieldAddr Try.prog 36 v2 0) h fun v36 h =>
          vK (aLoad Try.prog 3 v36 h) h fun v37 h =>
          vK (aFieldAddr Try.prog 36 v3 0) h fun v38 h =>
          vK (aLoad Try.prog 3 v38 h) h fun v39 h =>
          vK (aBin Try.prog BinOp.eql 3 v37 v39) h fun v40 h =>
          mvK v40 h fun v4_2 h =>
          retV [some v4_2] R h) (
          vK (aLoad Try.prog 36 v2 h) h fun v41 g =>
          VB h.length v41 ∧ (let h := g
           cKD Try.prog 43 [v41] h fun v42 g =>
           (∃ new, g = h ++ new) ∧ (let h := g
            vK (aLoad Try.prog 36 v3 h) h fun v43 g =>
            VB h.length v43 ∧ (let h := g
             cKD Try.prog 43 [v43] h fun v44 g =>
             (∃ new, g = h ++ new) ∧ (let h := g
              mvK v42 h fun v5 h =>
              mvK v44 h fun v6 h =>
              mvK (Value.int IntKind.i64 0) h fun v7 h =>
              ∃ (I7 : List Value → Heap → Prop) (μ7 : List Value → Heap → Nat), I7 [v7] h ∧
              ∀ (h7 : Heap) (j7 : Tmps) (v7_1 : Value), I7 [v7_1] h7 → (let h := h7
               mvK v7_1 h fun v45 h =>
               mvK v5 h fun v46 h =>
               vK (aLen Try.prog 37 v46) h fun v47 h =>
               vK (aBin Try.prog BinOp.lss 3 v45 v47) h fun v48 h =>
               cnd v48 (
                mvK v6 h fun v51 h =>
                mvK v5 h fun v52 h =>
                mvK v7_1 h fun v53 h =>
                vK (aIndexAddr Try.prog 37 v52 v53) h fun v54 h =>
                vK (aLoad Try.prog 3 v54 h) h fun v55 h =>
                cK Try.prog 44 [v51, v55] h fun v56 h =>
                cnd v56 (
                 mvK (Value.bool true) h fun v4_3 h =>
                 retV [some v4_3] R h) (
                 mvK v7_1 h fun v49 h =>
                 vK (aBin Try.prog BinOp.add 3 v49 (Value.int IntKind.i64 1)) h fun v50 h =>
                 mvK v50 h fun v7_2 h =>
                 I7 [v7_2] h ∧ μ7 [v7_2] h < μ7 [v7_1] h7)) (
                mvK (Value.bool false) h fun v4_4 h =>
                retV [some v4_4] R h)))))))) h) h) h)) h) h) h
def lv60 (q : Nat) : List Nat := bif Nat.beq q 14 then [144080003703767184, 7] else []
theorem ok60 : lkOK Try.prog lv60 Try.f22 2 (Try.f22.body.getD .skip) 22 = true := by kernel_rfl
theorem e60 (a0 a1 : Value) (h : Heap) (R : Value → Heap → Prop) : n60 a0 a1 h R = wpK Try.prog lv60 (Try.f22.body.getD .skip) (endK Try.prog [.tmp 4] R) (argT [a0, a1]) h := by kernel_rfl
theorem w60 {a0 a1 : Value} {h : Heap} {R : Value → Heap → Prop} (hn : n60 a0 a1 h R) : DetP Try.prog 22 [a0, a1] h R :=
  DetP.of_code (rs := [.tmp 4]) (n := 2) Try.func22 (by kernel_rfl) (by kernel_rfl) lv60 ok60 rfl ((e60 a0 a1 h R) ▸ hn)

end Go.Proofs.Ytgmgmkhenhaniaa

set_option linter.unusedVariables false
set_option maxRecDepth 100000
namespace Go.Proofs.Ytgmgmkhenhaniaa
open Go.AM

/-! ### examiner/examinerbase.Count: function 32 -/
def n72 (a0 : Value) (h : Heap) (R : Value → Heap → Prop) : Prop :=
  mvK (Value.int IntKind.i64 0) h fun v2 h =>
  mvK a0 h fun v3 h =>
  cnd v3 (
   mvK (Value.int IntKind.i64 1) h fun v2_1 h =>
   retV [some v2_1] R h) (
   mvK (Value.int IntKind.i64 0) h fun v2_2 h =>
   retV [some v2_2] R h)
def lv72 (q : Nat) : List Nat := []
theorem ok72 : lkOK Try.prog lv72 Try.f32 1 (Try.f32.body.getD .skip) 32 = true := by kernel_rfl
theorem e72 (a0 : Value) (h : Heap) (R : Value → Heap → Prop) : n72 a0 h R = wpK Try.prog lv72 (Try.f32.body.getD .skip) (endK Try.prog [.tmp 2] R) (argT [a0]) h := by kernel_rfl
theorem w72 {a0 : Value} {h : Heap} {R : Value → Heap → Prop} (hn : n72 a0 h R) : DetP Try.prog 32 [a0] h R :=
  DetP.of_code (rs := [.tmp 2]) (n := 1) Try.func32 (by kernel_rfl) (by kernel_rfl) lv72 ok72 rfl ((e72 a0 h R) ▸ hn)

/-! ### examiner/examinerref37.MachineErr: function 33 -/
def n73 (a0 : Value) (h : Heap) (R : Value → Heap → Prop) : Prop :=
  okK (some (aBox Try.prog 24 a0 h)) fun v1 h =>
  mvK (Value.int IntKind.i64 0) h fun v2 h =>
  mvK (Value.int IntKind.i64 0) h fun v3 h =>
  vK (aFieldAddr Try.prog 24 v1 0) h fun v6 h =>
  vK (aLoad Try.prog 3 v6 h) h fun v7 h =>
  cK Try.prog 42 [v7, (Value.int IntKind.i64 1), (Value.int IntKind.i64 40)] h fun v8 h =>
  vK (aUn UnOp.not v8) h fun v9 h =>
  mvK v9 h fun v10 h =>
  gdK v10 false (fun k0 =>
   vK (aFieldAddr Try.prog 24 v1 1) h fun v11 h =>
   k0 v11 h) (fun v11_1 h =>
   gdK v10 false (fun k1 =>
    vK (aLoad Try.prog 3 v11_1 h) h fun v12 h =>
    k1 v12 h) (fun v12_1 h =>
    gdK v10 false (fun k2 =>
     cK Try.prog 42 [v12_1, (Value.int IntKind.i64 1), (Value.int IntKind.i64 8)] h fun v13 h =>
     k2 v13 h) (fun v13_1 h =>
     gdK v10 false (fun k3 =>
      vK (aUn UnOp.not v13_1) h fun v14 h =>
      k3 v14 h) (fun v14_1 h =>
      vK (pickV v10 (Value.bool true) v14_1) h fun v15 h =>
      mvK v15 h fun v16 h =>
      gdK v16 false (fun k4 =>
       vK (aFieldAddr Try.prog 24 v1 2) h fun v17 h =>
       k4 v17 h) (fun v17_1 h =>
       gdK v16 false (fun k5 =>
        vK (aLoad Try.prog 3 v17_1 h) h fun v18 h =>
        k5 v18 h) (fun v18_1 h =>
        gdK v16 false (fun k6 =>
         cK Try.prog 42 [v18_1, (Value.int IntKind.i64 1), (Value.int IntKind.i64 8)] h fun v19 h =>
         k6 v19 h) (fun v19_1 h =>
         gdK v16 false (fun k7 =>
          vK (aUn UnOp.not v19_1) h fun v20 h =>
          k7 v20 h) (fun v20_1 h =>
          vK (pickV v16 (Value.bool true) v20_1) h fun v21 h =>
          mvK v21 h fun v22 h =>
          gdK v22 false (fun k8 =>
           vK (aFieldAddr Try.prog 24 v1 3) h fun v23 h =>
           k8 v23 h) (fun v23_1 h =>
           gdK v22 false (fun k9 =>
            vK (aLoad Try.prog 3 v23_1 h) h fun v24 h =>
            k9 v24 h) (fun v24_1 h =>
            gdK v22 false (fun k10 =>
             vK (aFieldAddr Try.prog 24 v1 0) h fun v25 h =>
             k10 v25 h) (fun v25_1 h =>
             gdK v22 false (fun k11 =>
              vK (aLoad Try.prog 3 v25_1 h) h fun v26 h =>
              k11 v26 h) (fun v26_1 h =>
              gdK v22 false (fun k12 =>
               vK (aBin Try.prog BinOp.sub 3 v26_1 (Value.int IntKind.i64 1)) h fun v27 h =>
               k12 v27 h) (fun v27_1 h =>
               gdK v22 false (fun k13 =>
                cK Try.prog 42 [v24_1, (Value.int IntKind.i64 0), v27_1] h fun v28 h =>
                k13 v28 h) (fun v28_1 h =>
                gdK v22 false (fun k14 =>
                 vK (aUn UnOp.not v28_1) h fun v29 h =>
                 k14 v29 h) (fun v29_1 h =>
                 vK (pickV v22 (Value.bool true) v29_1) h fun v30 h =>
                 cnd v30 (
                  mvK (Value.int IntKind.i64 0) h fun v2_1 h =>
                  mvK (Value.int IntKind.i64 3) h fun v3_1 h =>
                  retV [some v2_1, some v3_1] R h) (
                  vK (aFieldAddr Try.prog 24 v1 4) h fun v31 h =>
                  vK (aLoad Try.prog 22 v31 h) h fun v32 h =>
                  vK (aLen Try.prog 22 v32) h fun v33 h =>
                  vK (aFieldAddr Try.prog 24 v1 0) h fun v34 h =>
                  vK (aLoad Try.prog 3 v34 h) h fun v35 h =>
                  vK (aFieldAddr Try.prog 24 v1 1) h fun v36 h =>
                  vK (aLoad Try.prog 3 v36 h) h fun v37 h =>
                  vK (aBin Try.prog BinOp.mul 3 v35 v37) h fun v38 h =>
                  vK (aBin Try.prog BinOp.gtr 3 v33 v38) h fun v39 h =>
                  cnd v39 (
                   mvK (Value.int IntKind.i64 0) h fun v2_2 h =>
                   mvK (Value.int IntKind.i64 2) h fun v3_2 h =>
                   retV [some v2_2, some v3_2] R h) (
                   mvK (Value.int IntKind.i64 0) h fun v4 h =>
                   ∃ (I6 : List Value → Heap → Prop) (μ6 : List Value → Heap → Nat), I6 [v4] h ∧
                   ∀ (h6 : Heap) (j6 : Tmps) (v4_1 : Value), I6 [v4_1] h6 → (let h := h6
                    mvK v4_1 h fun v40 h =>
                    vK (aFieldAddr Try.prog 24 v1 4) h fun v41 h =>
                    vK (aLoad Try.prog 22 v41 h) h fun v42 h =>
                    vK (aLen Try.prog 22 v42) h fun v43 h =>
                    vK (aBin Try.prog BinOp.lss 3 v40 v43) h fun v44 h =>
                    cnd v44 (
                     vK (aFieldAddr Try.prog 24 v1 4) h fun v47 h =>
                     vK (aLoad Try.prog 22 v47 h) h fun v48 h =>
                     mvK v4_1 h fun v49 h =>
                     vK (aIndexAddr Try.prog 22 v48 v49) h fun v50 h =>
                     vK (aLoad Try.prog 46 v50 h) h fun v51 h =>
                     okK (aAlloc Try.prog 46 h) fun v5 h =>
                     okK ((aStore Try.prog 46 v5 v51 h).map (undef, ·)) fun _ h =>
                     vK (aFieldAddr Try.prog 46 v5 0) h fun v52 h =>
                     vK (aLoad Try.prog 3 v52 h) h fun v53 h =>
                     vK (aFieldAddr Try.prog 24 v1 0) h fun v54 h =>
                     vK (aLoad Try.prog 3 v54 h) h fun v55 h =>
                     vK (aBin Try.prog BinOp.sub 3 v55 (Value.int IntKind.i64 1)) h fun v56 h =>
                     cK Try.prog 42 [v53, (Value.int IntKind.i64 0), v56] h fun v57 h =>
                     vK (aUn UnOp.not v57) h fun v58 h =>
                     mvK v58 h fun v59 h =>
                     gdK v59 false (fun k15 =>
                      vK (aFieldAddr Try.prog 46 v5 3) h fun v60 h =>
                      k15 v60 h) (fun v60_1 h =>
                      gdK v59 false (fun k16 =>
                       vK (aLoad Try.prog 3 v60_1 h) h fun v61 h =>
                       k16 v61 h) (fun v61_1 h =>
                       gdK v59 false (fun k17 =>
                        vK (aFieldAddr Try.prog 24 v1 0) h fun v62 h =>
                        k17 v62 h) (fun v62_1 h =>
                        gdK v59 false (fun k18 =>
                         vK (aLoad Try.prog 3 v62_1 h) h fun v63 h =>
                         k18 v63 h) (fun v63_1 h =>
                         gdK v59 false (fun k19 =>
                          vK (aBin Try.prog BinOp.sub 3 v63_1 (Value.int IntKind.i64 1)) h fun v64 h =>
                          k19 v64 h) (fun v64_1 h =>
                          gdK v59 false (fun k20 =>
                           cK Try.prog 42 [v61_1, (Value.int IntKind.i64 0), v64_1] h fun v65 h =>
                           k20 v65 h) (fun v65_1 h =>
                           gdK v59 false (fun k21 =>
                            vK (aUn UnOp.not v65_1) h fun v66 h =>
                            k21 v66 h) (fun v66_1 h =>
                            vK (pickV v59 (Value.bool true) v66_1) h fun v67 h =>
                            mvK v67 h fun v68 h =>
                            gdK v68 false (fun k22 =>
                             vK (aFieldAddr Try.prog 46 v5 1) h fun v69 h =>
                             k22 v69 h) (fun v69_1 h =>
                             gdK v68 false (fun k23 =>
                              vK (aLoad Try.prog 3 v69_1 h) h fun v70 h =>
                              k23 v70 h) (fun v70_1 h =>
                              gdK v68 false (fun k24 =>
                               vK (aFieldAddr Try.prog 24 v1 1) h fun v71 h =>
                               k24 v71 h) (fun v71_1 h =>
                               gdK v68 false (fun k25 =>
                                vK (aLoad Try.prog 3 v71_1 h) h fun v72 h =>
                                k25 v72 h) (fun v72_1 h =>
                                gdK v68 false (fun k26 =>
                                 vK (aBin Try.prog BinOp.sub 3 v72_1 (Value.int IntKind.i64 1)) h fun v73 h =>
                                 k26 v73 h) (fun v73_1 h =>
                                 gdK v68 false (fun k27 =>
                                  cK Try.prog 42 [v70_1, (Value.int IntKind.i64 0), v73_1] h fun v74 h =>
                                  k27 v74 h) (fun v74_1 h =>
                                  gdK v68 false (fun k28 =>
                                   vK (aUn UnOp.not v74_1) h fun v75 h =>
                                   k28 v75 h) (fun v75_1 h =>
                                   vK (pickV v68 (Value.bool true) v75_1) h fun v76 h =>
                                   mvK v76 h fun v77 h =>
                                   gdK v77 false (fun k29 =>
                                    vK (aFieldAddr Try.prog 46 v5 2) h fun v78 h =>
                                    k29 v78 h) (fun v78_1 h =>
                                    gdK v77 false (fun k30 =>
                                     vK (aLoad Try.prog 3 v78_1 h) h fun v79 h =>
                                     k30 v79 h) (fun v79_1 h =>
                                     gdK v77 false (fun k31 =>
                                      vK (aFieldAddr Try.prog 24 v1 2) h fun v80 h =>
                                      k31 v80 h) (fun v80_1 h =>
                                      gdK v77 false (fun k32 =>
                                       vK (aLoad Try.prog 3 v80_1 h) h fun v81 h =>
                                       k32 v81 h) (fun v81_1 h =>
                                       gdK v77 false (fun k33 =>
                                        vK (aBin Try.prog BinOp.sub 3 v81_1 (Value.int IntKind.i64 1)) h fun v82 h =>
                                        k33 v82 h) (fun v82_1 h =>
                                        gdK v77 false (fun k34 =>
                                         cK Try.prog 42 [v79_1, (Value.int IntKind.i64 0), v82_1] h fun v83 h =>
                                         k34 v83 h) (fun v83_1 h =>
                                         gdK v77 false (fun k35 =>
                                          vK (aUn UnOp.not v83_1) h fun v84 h =>
                                          k35 v84 h) (fun v84_1 h =>
                                          vK (pickV v77 (Value.bool true) v84_1) h fun v85 h =>
                                          cnd v85 (
                                           mvK v4_1 h fun v86 h =>
                                           mvK v86 h fun v2_3 h =>
                                           mvK (Value.int IntKind.i64 3) h fun v3_3 h =>
                                           retV [some v2_3, some v3_3] R h) (
                                           mvK v4_1 h fun v87 h =>
                                           vK (aBin Try.prog BinOp.gtr 3 v87 (Value.int IntKind.i64 0)) h fun v88 h =>
                                           mvK v88 h fun v89 h =>
                                           gdK v89 true (fun k36 =>
                                            vK (aFieldAddr Try.prog 24 v1 4) h fun v90 h =>
                                            k36 v90 h) (fun v90_1 h =>
                                            gdK v89 true (fun k37 =>
                                             vK (aLoad Try.prog 22 v90_1 h) h fun v91 g =>
                                             VB h.length v91 ∧ (let h := g
                                              k37 v91 h)) (fun v91_1 h =>
                                             gdK v89 true (fun k38 =>
                                              mvK v4_1 h fun v92 h =>
                                              k38 v92 h) (fun v92_1 h =>
                                              gdK v89 true (fun k39 =>
                                               vK (aBin Try.prog BinOp.sub 3 v92_1 (Value.int IntKind.i64 1)) h fun v93 h =>
                                               k39 v93 h) (fun v93_1 h =>
                                               gdK v89 true (fun k40 =>
                                                vK (aIndexAddr Try.prog 22 v91_1 v93_1) h fun v94 h =>
                                                k40 v94 h) (fun v94_1 h =>
                                                gdK v89 true (fun k41 =>
                                                 vK (aFieldAddr Try.prog 46 v94_1 0) h fun v95 h =>
                                                 k41 v95 h) (fun v95_1 h =>
                                                 gdK v89 true (fun k42 =>
                                                  vK (aLoad Try.prog 3 v95_1 h) h fun v96 g =>
                                                  VB h.length v96 ∧ (let h := g
                                                   k42 v96 h)) (fun v96_1 h =>
                                                  gdK v89 true (fun k43 =>
                                                   vK (aFieldAddr Try.prog 24 v1 4) h fun v97 h =>
                                                   k43 v97 h) (fun v97_1 h =>
                                                   gdK v89 true (fun k44 =>
                                                    vK (aLoad Try.prog 22 v97_1 h) h fun v98 g =>
                                                    VB h.length v98 ∧ (let h := g
                                                     k44 v98 h)) (fun v98_1 h =>
                                                    gdK v89 true (fun k45 =>
                                                     mvK v4_1 h fun v99 h =>
                                                     k45 v99 h) (fun v99_1 h =>
                                                     gdK v89 true (fun k46 =>
                                                      vK (aBin Try.prog BinOp.sub 3 v99_1 (Value.int IntKind.i64 1)) h fun v100 h =>
                                                      k46 v100 h) (fun v100_1 h =>
                                                      gdK v89 true (fun k47 =>
                                                       vK (aIndexAddr Try.prog 22 v98_1 v100_1) h fun v101 h =>
                                                       k47 v101 h) (fun v101_1 h =>
                                                       gdK v89 true (fun k48 =>
                                                        vK (aFieldAddr Try.prog 46 v101_1 1) h fun v102 h =>
                                                        k48 v102 h) (fun v102_1 h =>
                                                        gdK v89 true (fun k49 =>
                                                         vK (aLoad Try.prog 3 v102_1 h) h fun v103 g =>
                                                         VB h.length v103 ∧ (let h := g
                                                          k49 v103 h)) (fun v103_1 h =>
                                                         gdK v89 true (fun k50 =>
                                                          okK (aBuildSlice Try.prog 37 2 [(0, v96_1), (1, v103_1)] h) fun v104 h =>
                                                          k50 v104 h) (fun v104_1 h =>
                                                          gdK v89 true (fun k51 =>
                                                           vK (aFieldAddr Try.prog 46 v5 0) h fun v105 h =>
                                                           k51 v105 h) (fun v105_1 h =>
                                                           gdK v89 true (fun k52 =>
                                                            vK (aLoad Try.prog 3 v105_1 h) h fun v106 g =>
                                                            VB h.length v106 ∧ (let h := g
                                                             k52 v106 h)) (fun v106_1 h =>
                                                            gdK v89 true (fun k53 =>
                                                             vK (aFieldAddr Try.prog 46 v5 1) h fun v107 h =>
                                                             k53 v107 h) (fun v107_1 h =>
                                                             gdK v89 true (fun k54 =>
                                                              vK (aLoad Try.prog 3 v107_1 h) h fun v108 g =>
                                                              VB h.length v108 ∧ (let h := g
                                                               k54 v108 h)) (fun v108_1 h =>
                                                              gdK v89 true (fun k55 =>
                                                               okK (aBuildSlice Try.prog 37 2 [(0, v106_1), (1, v108_1)] h) fun v109 h =>
                                                               k55 v109 h) (fun v109_1 h =>
                                                               gdK v89 true (fun k56 =>
                                                                cKD Try.prog 20 [v104_1, v109_1] h fun v110 g =>
                                                                (∃ new, g = h ++ new) ∧ (let h := g
                                                                 k56 v110 h)) (fun v110_1 h =>
                                                                gdK v89 true (fun k57 =>
                                                                 vK (aBin Try.prog BinOp.geq 3 v110_1 (Value.int IntKind.i64 0)) h fun v111 h =>
                                                                 k57 v111 h) (fun v111_1 h =>
                                                                 vK (pickV v89 v111_1 (Value.bool false)) h fun v112 h =>
                                                                 cnd v112 (
                                                                  mvK v4_1 h fun v113 h =>
                                                                  mvK v113 h fun v2_4 h =>
                                                                  mvK (Value.int IntKind.i64 14) h fun v3_4 h =>
                                                                  retV [some v2_4, some v3_4] R h) (
                                                                  mvK v4_1 h fun v45 h =>
                                                                  vK (aBin Try.prog BinOp.add 3 v45 (Value.int IntKind.i64 1)) h fun v46 h =>
                                                                  mvK v46 h fun v4_2 h =>
                                                                  I6 [v4_2] h ∧ μ6 [v4_2] h < μ6 [v4_1] h6)) h) h) h) h) h) h) h) h) h) h) h) h) h) h) h) h) h) h) h) h) h) h)) h) h) h) h) h) h) h) h) h) h) h) h) h) h) h) h) h) h) h) h) h) (
                     mvK (Value.int IntKind.i64 0) h fun v2_5 h =>
                     mvK (Value.int IntKind.i64 0) h fun v3_5 h =>
                     retV [some v2_5, some v3_5] R h))))) h) h) h) h) h) h) h) h) h) h) h) h) h) h) h
def lv73 (q : Nat) : List Nat := bif Nat.beq q 12 then [20769187434139310514120885805252668, 4] else []
theorem ok73 : lkOK Try.prog lv73 Try.f33 1 (Try.f33.body.getD .skip) 33 = true := by kernel_rfl
theorem e73 (a0 : Value) (h : Heap) (R : Value → Heap → Prop) : n73 a0 h R = wpK Try.prog lv73 (Try.f33.body.getD .skip) (endK Try.prog [.tmp 2, .tmp 3] R) (argT [a0]) h := by kernel_rfl
theorem w73 {a0 : Value} {h : Heap} {R : Value → Heap → Prop} (hn : n73 a0 h R) : DetP Try.prog 33 [a0] h R :=
  DetP.of_code (rs := [.tmp 2, .tmp 3]) (n := 1) Try.func33 (by kernel_rfl) (by kernel_rfl) lv73 ok73 rfl ((e73 a0 h R) ▸ hn)

/-! ### examiner/examinerref37.StepAt: function 34 -/
def n74 (a0 a1 a2 : Value) (h : Heap) (R : Value → Heap → Prop) : Prop :=
  okK (some (aBox Try.prog 24 a0 h)) fun v3 h =>
  mvK (Value.int IntKind.i64 0) h fun v6 h =>
  mvK (Value.int IntKind.i64 0) h fun v7 h =>
  ∃ (I2 : List Value → Heap → Prop) (μ2 : List Value → Heap → Nat), I2 [v7] h ∧
  ∀ (h2 : Heap) (j2 : Tmps) (v7_1 : Value), I2 [v7_1] h2 → (let h := h2
   mvK v7_1 h fun v8 h =>
   vK (aFieldAddr Try.prog 24 v3 4) h fun v9 h =>
   vK (aLoad Try.prog 22 v9 h) h fun v10 h =>
   vK (aLen Try.prog 22 v10) h fun v11 h =>
   vK (aBin Try.prog BinOp.lss 3 v8 v11) h fun v12 h =>
   cnd v12 (
    vK (aFieldAddr Try.prog 24 v3 4) h fun v15 h =>
    vK (aLoad Try.prog 22 v15 h) h fun v16 h =>
    mvK v7_1 h fun v17 h =>
    vK (aIndexAddr Try.prog 22 v16 v17) h fun v18 h =>
    vK (aFieldAddr Try.prog 46 v18 0) h fun v19 h =>
    vK (aLoad Try.prog 3 v19 h) h fun v20 h =>
    mvK a1 h fun v21 h =>
    vK (aBin Try.prog BinOp.eql 3 v20 v21) h fun v22 h =>
    mvK v22 h fun v23 h =>
    gdK v23 true (fun k0 =>
     vK (aFieldAddr Try.prog 24 v3 4) h fun v24 h =>
     k0 v24 h) (fun v24_1 h =>
     gdK v23 true (fun k1 =>
      vK (aLoad Try.prog 22 v24_1 h) h fun v25 h =>
      k1 v25 h) (fun v25_1 h =>
      gdK v23 true (fun k2 =>
       mvK v7_1 h fun v26 h =>
       k2 v26 h) (fun v26_1 h =>
       gdK v23 true (fun k3 =>
        vK (aIndexAddr Try.prog 22 v25_1 v26_1) h fun v27 h =>
        k3 v27 h) (fun v27_1 h =>
        gdK v23 true (fun k4 =>
         vK (aFieldAddr Try.prog 46 v27_1 1) h fun v28 h =>
         k4 v28 h) (fun v28_1 h =>
         gdK v23 true (fun k5 =>
          vK (aLoad Try.prog 3 v28_1 h) h fun v29 h =>
          k5 v29 h) (fun v29_1 h =>
          gdK v23 true (fun k6 =>
           mvK a2 h fun v30 h =>
           k6 v30 h) (fun v30_1 h =>
           gdK v23 true (fun k7 =>
            vK (aBin Try.prog BinOp.eql 3 v29_1 v30_1) h fun v31 h =>
            k7 v31 h) (fun v31_1 h =>
            vK (pickV v23 v31_1 (Value.bool false)) h fun v32 h =>
            cnd v32 (
             mvK v7_1 h fun v33 h =>
             mvK v33 h fun v6_1 h =>
             retV [some v6_1] R h) (
             mvK v7_1 h fun v13 h =>
             vK (aBin Try.prog BinOp.add 3 v13 (Value.int IntKind.i64 1)) h fun v14 h =>
             mvK v14 h fun v7_2 h =>
             I2 [v7_2] h ∧ μ2 [v7_2] h < μ2 [v7_1] h2)) h) h) h) h) h) h) h) h) (
    mvK (Value.int IntKind.i64 (-1)) h fun v6_2 h =>
    retV [some v6_2] R h))
def lv74 (q : Nat) : List Nat := bif Nat.beq q 4 then [17179869120, 7] else []
theorem ok74 : lkOK Try.prog lv74 Try.f34 3 (Try.f34.body.getD .skip) 34 = true := by kernel_rfl
theorem e74 (a0 a1 a2 : Value) (h : Heap) (R : Value → Heap → Prop) : n74 a0 a1 a2 h R = wpK Try.prog lv74 (Try.f34.body.getD .skip) (endK Try.prog [.tmp 6] R) (argT [a0, a1, a2]) h := by kernel_rfl
theorem w74 {a0 a1 a2 : Value} {h : Heap} {R : Value → Heap → Prop} (hn : n74 a0 a1 a2 h R) : DetP Try.prog 34 [a0, a1, a2] h R :=
  DetP.of_code (rs := [.tmp 6]) (n := 3) Try.func34 (by kernel_rfl) (by kernel_rfl) lv74 ok74 rfl ((e74 a0 a1 a2 h R) ▸ hn)

/-! ### examiner/model.CheckMachine: function 35 -/
def n75 (a0 : Value) (h : Heap) (R : Value → Heap → Prop) : Prop :=
  okK (some (aBox Try.prog 24 a0 h)) fun v1 h =>
  mvK (Value.int IntKind.i64 0) h fun v2 h =>
  mvK (Value.int IntKind.i64 0) h fun v3 h =>
  vK (aFieldAddr Try.prog 24 v1 0) h fun v6 h =>
  vK (aLoad Try.prog 3 v6 h) h fun v7 h =>
  cK Try.prog 58 [v7, (Value.int IntKind.i64 1), (Value.int IntKind.i64 40)] h fun v8 h =>
  vK (aUn UnOp.not v8) h fun v9 h =>
  mvK v9 h fun v10 h =>
  gdK v10 false (fun k0 =>
   vK (aFieldAddr Try.prog 24 v1 1) h fun v11 h =>
   k0 v11 h) (fun v11_1 h =>
   gdK v10 false (fun k1 =>
    vK (aLoad Try.prog 3 v11_1 h) h fun v12 h =>
    k1 v12 h) (fun v12_1 h =>
    gdK v10 false (fun k2 =>
     cK Try.prog 58 [v12_1, (Value.int IntKind.i64 1), (Value.int IntKind.i64 8)] h fun v13 h =>
     k2 v13 h) (fun v13_1 h =>
     gdK v10 false (fun k3 =>
      vK (aUn UnOp.not v13_1) h fun v14 h =>
      k3 v14 h) (fun v14_1 h =>
      vK (pickV v10 (Value.bool true) v14_1) h fun v15 h =>
      mvK v15 h fun v16 h =>
      gdK v16 false (fun k4 =>
       vK (aFieldAddr Try.prog 24 v1 2) h fun v17 h =>
       k4 v17 h) (fun v17_1 h =>
       gdK v16 false (fun k5 =>
        vK (aLoad Try.prog 3 v17_1 h) h fun v18 h =>
        k5 v18 h) (fun v18_1 h =>
        gdK v16 false (fun k6 =>
         cK Try.prog 58 [v18_1, (Value.int IntKind.i64 1), (Value.int IntKind.i64 8)] h fun v19 h =>
         k6 v19 h) (fun v19_1 h =>
         gdK v16 false (fun k7 =>
          vK (aUn UnOp.not v19_1) h fun v20 h =>
          k7 v20 h) (fun v20_1 h =>
          vK (pickV v16 (Value.bool true) v20_1) h fun v21 h =>
          mvK v21 h fun v22 h =>
          gdK v22 false (fun k8 =>
           vK (aFieldAddr Try.prog 24 v1 3) h fun v23 h =>
           k8 v23 h) (fun v23_1 h =>
           gdK v22 false (fun k9 =>
            vK (aLoad Try.prog 3 v23_1 h) h fun v24 h =>
            k9 v24 h) (fun v24_1 h =>
            gdK v22 false (fun k10 =>
             vK (aFieldAddr Try.prog 24 v1 0) h fun v25 h =>
             k10 v25 h) (fun v25_1 h =>
             gdK v22 false (fun k11 =>
              vK (aLoad Try.prog 3 v25_1 h) h fun v26 h =>
              k11 v26 h) (fun v26_1 h =>
              gdK v22 false (fun k12 =>
               vK (aBin Try.prog BinOp.sub 3 v26_1 (Value.int IntKind.i64 1)) h fun v27 h =>
               k12 v27 h) (fun v27_1 h =>
               gdK v22 false (fun k13 =>
                cK Try.prog 58 [v24_1, (Value.int IntKind.i64 0), v27_1] h fun v28 h =>
                k13 v28 h) (fun v28_1 h =>
                gdK v22 false (fun k14 =>
                 vK (aUn UnOp.not v28_1) h fun v29 h =>
                 k14 v29 h) (fun v29_1 h =>
                 vK (pickV v22 (Value.bool true) v29_1) h fun v30 h =>
                 cnd v30 (
                  mvK (Value.int IntKind.i64 0) h fun v2_1 h =>
                  mvK (Value.int IntKind.i64 3) h fun v3_1 h =>
                  retV [some v2_1, some v3_1] R h) (
                  vK (aFieldAddr Try.prog 24 v1 4) h fun v31 h =>
                  vK (aLoad Try.prog 22 v31 h) h fun v32 h =>
                  vK (aLen Try.prog 22 v32) h fun v33 h =>
                  vK (aFieldAddr Try.prog 24 v1 0) h fun v34 h =>
                  vK (aLoad Try.prog 3 v34 h) h fun v35 h =>
                  vK (aFieldAddr Try.prog 24 v1 1) h fun v36 h =>
                  vK (aLoad Try.prog 3 v36 h) h fun v37 h =>
                  vK (aBin Try.prog BinOp.mul 3 v35 v37) h fun v38 h =>
                  vK (aBin Try.prog BinOp.gtr 3 v33 v38) h fun v39 h =>
                  cnd v39 (
                   mvK (Value.int IntKind.i64 0) h fun v2_2 h =>
                   mvK (Value.int IntKind.i64 2) h fun v3_2 h =>
                   retV [some v2_2, some v3_2] R h) (
                   vK (aFieldAddr Try.prog 24 v1 4) h fun v40 h =>
                   vK (aLoad Try.prog 22 v40 h) h fun v41 h =>
                   vK (aLen Try.prog 22 v41) h fun v42 h =>
                   mvK (Value.int IntKind.i64 0) h fun v43 h =>
                   ∃ (I6 : List Value → Heap → Prop) (μ6 : List Value → Heap → Nat), I6 [v43] h ∧
                   ∀ (h6 : Heap) (j6 : Tmps) (v43_1 : Value), I6 [v43_1] h6 → (let h := h6
                    vK (aBin Try.prog BinOp.lss 3 v43_1 v42) h fun v44 h =>
                    cnd v44 (
                     mvK v43_1 h fun v45 h =>
                     vK (aIndexAddr Try.prog 22 v41 v43_1) h fun v46 h =>
                     vK (aLoad Try.prog 46 v46 h) h fun v47 h =>
                     okK (aAlloc Try.prog 46 h) fun v5 h =>
                     mvK v45 h fun v4 h =>
                     okK ((aStore Try.prog 46 v5 v47 h).map (undef, ·)) fun _ h =>
                     vK (aFieldAddr Try.prog 46 v5 0) h fun v48 h =>
                     vK (aLoad Try.prog 3 v48 h) h fun v49 h =>
                     vK (aFieldAddr Try.prog 24 v1 0) h fun v50 h =>
                     vK (aLoad Try.prog 3 v50 h) h fun v51 h =>
                     vK (aBin Try.prog BinOp.sub 3 v51 (Value.int IntKind.i64 1)) h fun v52 h =>
                     cK Try.prog 58 [v49, (Value.int IntKind.i64 0), v52] h fun v53 h =>
                     vK (aUn UnOp.not v53) h fun v54 h =>
                     mvK v54 h fun v55 h =>
                     gdK v55 false (fun k15 =>
                      vK (aFieldAddr Try.prog 46 v5 3) h fun v56 h =>
                      k15 v56 h) (fun v56_1 h =>
                      gdK v55 false (fun k16 =>
                       vK (aLoad Try.prog 3 v56_1 h) h fun v57 h =>
                       k16 v57 h) (fun v57_1 h =>
                       gdK v55 false (fun k17 =>
                        vK (aFieldAddr Try.prog 24 v1 0) h fun v58 h =>
                        k17 v58 h) (fun v58_1 h =>
                        gdK v55 false (fun k18 =>
                         vK (aLoad Try.prog 3 v58_1 h) h fun v59 h =>
                         k18 v59 h) (fun v59_1 h =>
                         gdK v55 false (fun k19 =>
                          vK (aBin Try.prog BinOp.sub 3 v59_1 (Value.int IntKind.i64 1)) h fun v60 h =>
                          k19 v60 h) (fun v60_1 h =>
                          gdK v55 false (fun k20 =>
                           cK Try.prog 58 [v57_1, (Value.int IntKind.i64 0), v60_1] h fun v61 h =>
                           k20 v61 h) (fun v61_1 h =>
                           gdK v55 false (fun k21 =>
                            vK (aUn UnOp.not v61_1) h fun v62 h =>
                            k21 v62 h) (fun v62_1 h =>
                            vK (pickV v55 (Value.bool true) v62_1) h fun v63 h =>
                            mvK v63 h fun v64 h =>
                            gdK v64 false (fun k22 =>
                             vK (aFieldAddr Try.prog 46 v5 1) h fun v65 h =>
                             k22 v65 h) (fun v65_1 h =>
                             gdK v64 false (fun k23 =>
                              vK (aLoad Try.prog 3 v65_1 h) h fun v66 h =>
                              k23 v66 h) (fun v66_1 h =>
                              gdK v64 false (fun k24 =>
                               vK (aFieldAddr Try.prog 24 v1 1) h fun v67 h =>
                               k24 v67 h) (fun v67_1 h =>
                               gdK v64 false (fun k25 =>
                                vK (aLoad Try.prog 3 v67_1 h) h fun v68 h =>
                                k25 v68 h) (fun v68_1 h =>
                                gdK v64 false (fun k26 =>
                                 vK (aBin Try.prog BinOp.sub 3 v68_1 (Value.int IntKind.i64 1)) h fun v69 h =>
                                 k26 v69 h) (fun v69_1 h =>
                                 gdK v64 false (fun k27 =>
                                  cK Try.prog 58 [v66_1, (Value.int IntKind.i64 0), v69_1] h fun v70 h =>
                                  k27 v70 h) (fun v70_1 h =>
                                  gdK v64 false (fun k28 =>
                                   vK (aUn UnOp.not v70_1) h fun v71 h =>
                                   k28 v71 h) (fun v71_1 h =>
                                   vK (pickV v64 (Value.bool true) v71_1) h fun v72 h =>
                                   mvK v72 h fun v73 h =>
                                   gdK v73 false (fun k29 =>
                                    vK (aFieldAddr Try.prog 46 v5 2) h fun v74 h =>
                                    k29 v74 h) (fun v74_1 h =>
                                    gdK v73 false (fun k30 =>
                                     vK (aLoad Try.prog 3 v74_1 h) h fun v75 h =>
                                     k30 v75 h) (fun v75_1 h =>
                                     gdK v73 false (fun k31 =>
                                      vK (aFieldAddr Try.prog 24 v1 2) h fun v76 h =>
                                      k31 v76 h) (fun v76_1 h =>
                                      gdK v73 false (fun k32 =>
                                       vK (aLoad Try.prog 3 v76_1 h) h fun v77 h =>
                                       k32 v77 h) (fun v77_1 h =>
                                       gdK v73 false (fun k33 =>
                                        vK (aBin Try.prog BinOp.sub 3 v77_1 (Value.int IntKind.i64 1)) h fun v78 h =>
                                        k33 v78 h) (fun v78_1 h =>
                                        gdK v73 false (fun k34 =>
                                         cK Try.prog 58 [v75_1, (Value.int IntKind.i64 0), v78_1] h fun v79 h =>
                                         k34 v79 h) (fun v79_1 h =>
                                         gdK v73 false (fun k35 =>
                                          vK (aUn UnOp.not v79_1) h fun v80 h =>
                                          k35 v80 h) (fun v80_1 h =>
                                          vK (pickV v73 (Value.bool true) v80_1) h fun v81 h =>
                                          cnd v81 (
                                           mvK v4 h fun v82 h =>
                                           mvK v82 h fun v2_3 h =>
                                           mvK (Value.int IntKind.i64 3) h fun v3_3 h =>
                                           retV [some v2_3, some v3_3] R h) (
                                           mvK v4 h fun v83 h =>
                                           vK (aBin Try.prog BinOp.gtr 3 v83 (Value.int IntKind.i64 0)) h fun v84 h =>
                                           mvK v84 h fun v85 h =>
                                           gdK v85 true (fun k36 =>
                                            vK (aFieldAddr Try.prog 24 v1 4) h fun v86 h =>
                                            k36 v86 h) (fun v86_1 h =>
                                            gdK v85 true (fun k37 =>
                                             vK (aLoad Try.prog 22 v86_1 h) h fun v87 g =>
                                             VB h.length v87 ∧ (let h := g
                                              k37 v87 h)) (fun v87_1 h =>
                                             gdK v85 true (fun k38 =>
                                              mvK v4 h fun v88 h =>
                                              k38 v88 h) (fun v88_1 h =>
                                              gdK v85 true (fun k39 =>
                                               vK (aBin Try.prog BinOp.sub 3 v88_1 (Value.int IntKind.i64 1)) h fun v89 h =>
                                               k39 v89 h) (fun v89_1 h =>
                                               gdK v85 true (fun k40 =>
                                                vK (aIndexAddr Try.prog 22 v87_1 v89_1) h fun v90 h =>
                                                k40 v90 h) (fun v90_1 h =>
                                                gdK v85 true (fun k41 =>
                                                 vK (aFieldAddr Try.prog 46 v90_1 0) h fun v91 h =>
                                                 k41 v91 h) (fun v91_1 h =>
                                                 gdK v85 true (fun k42 =>
                                                  vK (aLoad Try.prog 3 v91_1 h) h fun v92 g =>
                                                  VB h.length v92 ∧ (let h := g
                                                   k42 v92 h)) (fun v92_1 h =>
                                                  gdK v85 true (fun k43 =>
                                                   vK (aFieldAddr Try.prog 46 v5 0) h fun v93 h =>
                                                   k43 v93 h) (fun v93_1 h =>
                                                   gdK v85 true (fun k44 =>
                                                    vK (aLoad Try.prog 3 v93_1 h) h fun v94 g =>
                                                    VB h.length v94 ∧ (let h := g
                                                     k44 v94 h)) (fun v94_1 h =>
                                                    gdK v85 true (fun k45 =>
                                                     cKD Try.prog 41 [v92_1, v94_1] h fun v95 g =>
                                                     (∃ new, g = h ++ new) ∧ (let h := g
                                                      k45 v95 h)) (fun v95_1 h =>
                                                     gdK v85 true (fun k46 =>
                                                      vK (aFieldAddr Try.prog 24 v1 4) h fun v96 h =>
                                                      k46 v96 h) (fun v96_1 h =>
                                                      gdK v85 true (fun k47 =>
                                                       vK (aLoad Try.prog 22 v96_1 h) h fun v97 g =>
                                                       VB h.length v97 ∧ (let h := g
                                                        k47 v97 h)) (fun v97_1 h =>
                                                       gdK v85 true (fun k48 =>
                                                        mvK v4 h fun v98 h =>
                                                        k48 v98 h) (fun v98_1 h =>
                                                        gdK v85 true (fun k49 =>
                                                         vK (aBin Try.prog BinOp.sub 3 v98_1 (Value.int IntKind.i64 1)) h fun v99 h =>
                                                         k49 v99 h) (fun v99_1 h =>
                                                         gdK v85 true (fun k50 =>
                                                          vK (aIndexAddr Try.prog 22 v97_1 v99_1) h fun v100 h =>
                                                          k50 v100 h) (fun v100_1 h =>
                                                          gdK v85 true (fun k51 =>
                                                           vK (aFieldAddr Try.prog 46 v100_1 1) h fun v101 h =>
                                                           k51 v101 h) (fun v101_1 h =>
                                                           gdK v85 true (fun k52 =>
                                                            vK (aLoad Try.prog 3 v101_1 h) h fun v102 g =>
                                                            VB h.length v102 ∧ (let h := g
                                                             k52 v102 h)) (fun v102_1 h =>
                                                            gdK v85 true (fun k53 =>
                                                             vK (aFieldAddr Try.prog 46 v5 1) h fun v103 h =>
                                                             k53 v103 h) (fun v103_1 h =>
                                                             gdK v85 true (fun k54 =>
                                                              vK (aLoad Try.prog 3 v103_1 h) h fun v104 g =>
                                                              VB h.length v104 ∧ (let h := g
                                                               k54 v104 h)) (fun v104_1 h =>
                                                              gdK v85 true (fun k55 =>
                                                               cKD Try.prog 41 [v102_1, v104_1] h fun v105 g =>
                                                               (∃ new, g = h ++ new) ∧ (let h := g
                                                                k55 v105 h)) (fun v105_1 h =>
                                                               gdK v85 true (fun k56 =>
                                                                okK (aBuildSlice Try.prog 37 2 [(0, v95_1), (1, v105_1)] h) fun v106 h =>
                                                                k56 v106 h) (fun v106_1 h =>
                                                                gdK v85 true (fun k57 =>
                                                                 cKD Try.prog 40 [v106_1] h fun v107 g =>
                                                                 (∃ new, g = h ++ new) ∧ (let h := g
                                                                  k57 v107 h)) (fun v107_1 h =>
                                                                 gdK v85 true (fun k58 =>
                                                                  vK (aBin Try.prog BinOp.geq 3 v107_1 (Value.int IntKind.i64 0)) h fun v108 h =>
                                                                  k58 v108 h) (fun v108_1 h =>
                                                                  vK (pickV v85 v108_1 (Value.bool false)) h fun v109 h =>
                                                                  cnd v109 (
                                                                   mvK v4 h fun v110 h =>
                                                                   mvK v110 h fun v2_4 h =>
                                                                   mvK (Value.int IntKind.i64 14) h fun v3_4 h =>
                                                                   retV [some v2_4, some v3_4] R h) (
                                                                   vK (aBin Try.prog BinOp.add 3 v43_1 (Value.int IntKind.i64 1)) h fun v111 h =>
                                                                   mvK v111 h fun v43_2 h =>
                                                                   I6 [v43_2] h ∧ μ6 [v43_2] h < μ6 [v43_1] h6)) h) h) h) h) h) h) h) h) h) h) h) h) h) h) h) h) h) h) h) h) h) h) h)) h) h) h) h) h) h) h) h) h) h) h) h) h) h) h) h) h) h) h) h) h) (
                     mvK (Value.int IntKind.i64 0) h fun v2_5 h =>
                     mvK (Value.int IntKind.i64 0) h fun v3_5 h =>
                     retV [some v2_5, some v3_5] R h))))) h) h) h) h) h) h) h) h) h) h) h) h) h) h) h
def lv75 (q : Nat) : List Nat := bif Nat.beq q 12 then [5192296858534827628521700236197948, 43] else []
theorem ok75 : lkOK Try.prog lv75 Try.f35 1 (Try.f35.body.getD .skip) 35 = true := by kernel_rfl
theorem e75 (a0 : Value) (h : Heap) (R : Value → Heap → Prop) : n75 a0 h R = wpK Try.prog lv75 (Try.f35.body.getD .skip) (endK Try.prog [.tmp 2, .tmp 3] R) (argT [a0]) h := by kernel_rfl
theorem w75 {a0 : Value} {h : Heap} {R : Value → Heap → Prop} (hn : n75 a0 h R) : DetP Try.prog 35 [a0] h R :=
  DetP.of_code (rs := [.tmp 2, .tmp 3]) (n := 1) Try.func35 (by kernel_rfl) (by kernel_rfl) lv75 ok75 rfl ((e75 a0 h R) ▸ hn)

/-! ### cmp.Or[examiner/api.Errno]: function 36 -/
def n76 (a0 : Value) (h : Heap) (R : Value → Heap → Prop) : Prop :=
  mvK (Value.int IntKind.i64 0) h fun v2 h =>
  mvK (Value.int IntKind.i64 0) h fun v3 h =>
  mvK a0 h fun v6 h =>
  vK (aLen Try.prog 94 v6) h fun v7 h =>
  mvK (Value.int IntKind.i64 0) h fun v8 h =>
  ∃ (I3 : List Value → Heap → Prop) (μ3 : List Value → Heap → Nat), I3 [v8] h ∧
  ∀ (h3 : Heap) (j3 : Tmps) (v8_1 : Value), I3 [v8_1] h3 → (let h := h3
   vK (aBin Try.prog BinOp.lss 3 v8_1 v7) h fun v9 h =>
   cnd v9 (
    vK (aIndexAddr Try.prog 94 v6 v8_1) h fun v10 h =>
    vK (aLoad Try.prog 28 v10 h) h fun v11 h =>
    mvK v11 h fun v5 h =>
    mvK v5 h fun v12 h =>
    mvK v3 h fun v13 h =>
    vK (aBin Try.prog BinOp.neq 28 v12 v13) h fun v14 h =>
    cnd v14 (
     mvK v5 h fun v15 h =>
     mvK v15 h fun v2_1 h =>
     retV [some v2_1] R h) (
     vK (aBin Try.prog BinOp.add 3 v8_1 (Value.int IntKind.i64 1)) h fun v16 h =>
     mvK v16 h fun v8_2 h =>
     I3 [v8_2] h ∧ μ3 [v8_2] h < μ3 [v8_1] h3)) (
    mvK v3 h fun v17 h =>
    mvK v17 h fun v2_2 h =>
    retV [some v2_2] R h))
def lv76 (q : Nat) : List Nat := bif Nat.beq q 6 then [130852, 8] else []
theorem ok76 : lkOK Try.prog lv76 Try.f36 1 (Try.f36.body.getD .skip) 36 = true := by kernel_rfl
theorem e76 (a0 : Value) (h : Heap) (R : Value → Heap → Prop) : n76 a0 h R = wpK Try.prog lv76 (Try.f36.body.getD .skip) (endK Try.prog [.tmp 2] R) (argT [a0]) h := by kernel_rfl
theorem w76 {a0 : Value} {h : Heap} {R : Value → Heap → Prop} (hn : n76 a0 h R) : DetP Try.prog 36 [a0] h R :=
  DetP.of_code (rs := [.tmp 2]) (n := 1) Try.func36 (by kernel_rfl) (by kernel_rfl) lv76 ok76 rfl ((e76 a0 h R) ▸ hn)

/-! ### examiner/mutant.unless: function 37 -/
def n77 (a0 a1 : Value) (h : Heap) (R : Value → Heap → Prop) : Prop :=
  mvK (Value.int IntKind.i64 0) h fun v4 h =>
  mvK a0 h fun v5 h =>
  cnd v5 (
   mvK (Value.int IntKind.i64 0) h fun v4_1 h =>
   retV [some v4_1] R h) (
   mvK a1 h fun v6 h =>
   mvK v6 h fun v4_2 h =>
   retV [some v4_2] R h)
def lv77 (q : Nat) : List Nat := []
theorem ok77 : lkOK Try.prog lv77 Try.f37 2 (Try.f37.body.getD .skip) 37 = true := by kernel_rfl
theorem e77 (a0 a1 : Value) (h : Heap) (R : Value → Heap → Prop) : n77 a0 a1 h R = wpK Try.prog lv77 (Try.f37.body.getD .skip) (endK Try.prog [.tmp 4] R) (argT [a0, a1]) h := by kernel_rfl
theorem w77 {a0 a1 : Value} {h : Heap} {R : Value → Heap → Prop} (hn : n77 a0 a1 h R) : DetP Try.prog 37 [a0, a1] h R :=
  DetP.of_code (rs := [.tmp 4]) (n := 2) Try.func37 (by kernel_rfl) (by kernel_rfl) lv77 ok77 rfl ((e77 a0 a1 h R) ▸ hn)

/-! ### cmp.Or[int]: function 40 -/
def n80 (a0 : Value) (h : Heap) (R : Value → Heap → Prop) : Prop :=
  mvK (Value.int IntKind.i64 0) h fun v2 h =>
  mvK (Value.int IntKind.i64 0) h fun v3 h =>
  mvK a0 h fun v6 h =>
  vK (aLen Try.prog 37 v6) h fun v7 h =>
  mvK (Value.int IntKind.i64 0) h fun v8 h =>
  ∃ (I3 : List Value → Heap → Prop) (μ3 : List Value → Heap → Nat), I3 [v8] h ∧
  ∀ (h3 : Heap) (j3 : Tmps) (v8_1 : Value), I3 [v8_1] h3 → (let h := h3
   vK (aBin Try.prog BinOp.lss 3 v8_1 v7) h fun v9 h =>
   cnd v9 (
    vK (aIndexAddr Try.prog 37 v6 v8_1) h fun v10 h =>
    vK (aLoad Try.prog 3 v10 h) h fun v11 h =>
    mvK v11 h fun v5 h =>
    mvK v5 h fun v12 h =>
    mvK v3 h fun v13 h =>
    vK (aBin Try.prog BinOp.neq 3 v12 v13) h fun v14 h =>
    cnd v14 (
     mvK v5 h fun v15 h =>
     mvK v15 h fun v2_1 h =>
     retV [some v2_1] R h) (
     vK (aBin Try.prog BinOp.add 3 v8_1 (Value.int IntKind.i64 1)) h fun v16 h =>
     mvK v16 h fun v8_2 h =>
     I3 [v8_2] h ∧ μ3 [v8_2] h < μ3 [v8_1] h3)) (
    mvK v3 h fun v17 h =>
    mvK v17 h fun v2_2 h =>
    retV [some v2_2] R h))
def lv80 (q : Nat) : List Nat := bif Nat.beq q 6 then [130852, 8] else []
theorem ok80 : lkOK Try.prog lv80 Try.f40 1 (Try.f40.body.getD .skip) 40 = true := by kernel_rfl
theorem e80 (a0 : Value) (h : Heap) (R : Value → Heap → Prop) : n80 a0 h R = wpK Try.prog lv80 (Try.f40.body.getD .skip) (endK Try.prog [.tmp 2] R) (argT [a0]) h := by kernel_rfl
theorem w80 {a0 : Value} {h : Heap} {R : Value → Heap → Prop} (hn : n80 a0 h R) : DetP Try.prog 40 [a0] h R :=
  DetP.of_code (rs := [.tmp 2]) (n := 1) Try.func40 (by kernel_rfl) (by kernel_rfl) lv80 ok80 rfl ((e80 a0 h R) ▸ hn)

/-! ### cmp.Compare[int]: function 41 -/
def n81 (a0 a1 : Value) (h : Heap) (R : Value → Heap → Prop) : Prop :=
  mvK (Value.int IntKind.i64 0) h fun v4 h =>
  mvK a0 h fun v7 h =>
  cK Try.prog 69 [v7] h fun v8 h =>
  mvK v8 h fun v5 h =>
  mvK a1 h fun v9 h =>
  cK Try.prog 69 [v9] h fun v10 h =>
  mvK v10 h fun v6 h =>
  mvK v5 h fun v11 h =>
  cnd v11 (
   mvK v6 h fun v12 h =>
   cnd v12 (
    mvK (Value.int IntKind.i64 0) h fun v4_1 h =>
    retV [some v4_1] R h) (
    mvK (Value.int IntKind.i64 (-1)) h fun v4_2 h =>
    retV [some v4_2] R h)) (
   mvK v6 h fun v13 h =>
   cnd v13 (
    mvK (Value.int IntKind.i64 1) h fun v4_3 h =>
    retV [some v4_3] R h) (
    mvK a0 h fun v14 h =>
    mvK a1 h fun v15 h =>
    vK (aBin Try.prog BinOp.lss 3 v14 v15) h fun v16 h =>
    cnd v16 (
     mvK (Value.int IntKind.i64 (-1)) h fun v4_4 h =>
     retV [some v4_4] R h) (
     mvK a0 h fun v17 h =>
     mvK a1 h fun v18 h =>
     vK (aBin Try.prog BinOp.gtr 3 v17 v18) h fun v19 h =>
     cnd v19 (
      mvK (Value.int IntKind.i64 1) h fun v4_5 h =>
      retV [some v4_5] R h) (
      mvK (Value.int IntKind.i64 0) h fun v4_6 h =>
      retV [some v4_6] R h))))
def lv81 (q : Nat) : List Nat := []
theorem ok81 : lkOK Try.prog lv81 Try.f41 2 (Try.f41.body.getD .skip) 41 = true := by kernel_rfl
theorem e81 (a0 a1 : Value) (h : Heap) (R : Value → Heap → Prop) : n81 a0 a1 h R = wpK Try.prog lv81 (Try.f41.body.getD .skip) (endK Try.prog [.tmp 4] R) (argT [a0, a1]) h := by kernel_rfl
theorem w81 {a0 a1 : Value} {h : Heap} {R : Value → Heap → Prop} (hn : n81 a0 a1 h R) : DetP Try.prog 41 [a0, a1] h R :=
  DetP.of_code (rs := [.tmp 4]) (n := 2) Try.func41 (by kernel_rfl) (by kernel_rfl) lv81 ok81 rfl ((e81 a0 a1 h R) ▸ hn)

/-! ### slices.Clone[[]examiner/api.MachineStep,examiner/api.MachineStep]: function 57 -/
def n82 (a0 : Value) (h : Heap) (R : Value → Heap → Prop) : Prop :=
  mvK (Value.slice none 0 0) h fun v2 h =>
  mvK a0 h fun v3 h =>
  vK (aBin Try.prog BinOp.eql 22 v3 (Value.slice none 0 0)) h fun v4 h =>
  cnd v4 (
   mvK (Value.slice none 0 0) h fun v2_1 h =>
   retV [some v2_1] R h) (
   okK (aBuildSlice Try.prog 22 0 [] h) fun v5 h =>
   mvK a0 h fun v6 h =>
   okK (aAppend Try.prog 22 22 v5 v6 h) fun v7 h =>
   mvK v7 h fun v2_2 h =>
   retV [some v2_2] R h)
def lv82 (q : Nat) : List Nat := []
theorem ok82 : lkOK Try.prog lv82 Try.f57 1 (Try.f57.body.getD .skip) 57 = true := by kernel_rfl
theorem e82 (a0 : Value) (h : Heap) (R : Value → Heap → Prop) : n82 a0 h R = wpK Try.prog lv82 (Try.f57.body.getD .skip) (endK Try.prog [.tmp 2] R) (argT [a0]) h := by kernel_rfl
theorem w82 {a0 : Value} {h : Heap} {R : Value → Heap → Prop} (hn : n82 a0 h R) : DetP Try.prog 57 [a0] h R :=
  DetP.of_code (rs := [.tmp 2]) (n := 1) Try.func57 (by kernel_rfl) (by kernel_rfl) lv82 ok82 rfl ((e82 a0 h R) ▸ hn)

/-! ### slices.Index[[][2]int,[2]int]: function 70 -/
def n83 (a0 a1 : Value) (h : Heap) (R : Value → Heap → Prop) : Prop :=
  okK (some (aBox Try.prog 77 a1 h)) fun v3 h =>
  mvK (Value.int IntKind.i64 0) h fun v4 h =>
  mvK a0 h fun v6 h =>
  vK (aLen Try.prog 56 v6) h fun v7 h =>
  mvK (Value.int IntKind.i64 0) h fun v8 h =>
  ∃ (I2 : List Value → Heap → Prop) (μ2 : List Value → Heap → Nat), I2 [v8] h ∧
  ∀ (h2 : Heap) (j2 : Tmps) (v8_1 : Value), I2 [v8_1] h2 → (let h := h2
   vK (aBin Try.prog BinOp.lss 3 v8_1 v7) h fun v9 h =>
   cnd v9 (
    mvK v8_1 h fun v10 h =>
    mvK v10 h fun v5 h =>
    vK (aLoad Try.prog 77 v3 h) h fun v11 g =>
    VB h.length v11 ∧ (let h := g
     mvK a0 h fun v12 h =>
     mvK v5 h fun v13 h =>
     vK (aIndexAddr Try.prog 56 v12 v13) h fun v14 h =>
     vK (aLoad Try.prog 77 v14 h) h fun v15 g =>
     VB h.length v15 ∧ (let h := g
      vK (aBin Try.prog BinOp.eql 77 v11 v15) h fun v16 h =>
      cnd v16 (
       mvK v5 h fun v17 h =>
       mvK v17 h fun v4_1 h =>
       retV [some v4_1] R h) (
       vK (aBin Try.prog BinOp.add 3 v8_1 (Value.int IntKind.i64 1)) h fun v18 h =>
       mvK v18 h fun v8_2 h =>
       I2 [v8_2] h ∧ μ2 [v8_2] h < μ2 [v8_1] h2)))) (
    mvK (Value.int IntKind.i64 (-1)) h fun v4_2 h =>
    retV [some v4_2] R h))
def lv83 (q : Nat) : List Nat := bif Nat.beq q 4 then [524080, 8] else []
theorem ok83 : lkOK Try.prog lv83 Try.f70 2 (Try.f70.body.getD .skip) 70 = true := by kernel_rfl
theorem e83 (a0 a1 : Value) (h : Heap) (R : Value → Heap → Prop) : n83 a0 a1 h R = wpK Try.prog lv83 (Try.f70.body.getD .skip) (endK Try.prog [.tmp 4] R) (argT [a0, a1]) h := by kernel_rfl
theorem w83 {a0 a1 : Value} {h : Heap} {R : Value → Heap → Prop} (hn : n83 a0 a1 h R) : DetP Try.prog 70 [a0, a1] h R :=
  DetP.of_code (rs := [.tmp 4]) (n := 2) Try.func70 (by kernel_rfl) (by kernel_rfl) lv83 ok83 rfl ((e83 a0 a1 h R) ▸ hn)

/-! ### examiner/mutant.mutantErr$1: function 73 -/
def n84 (a0 a1 : Value) (h : Heap) (R : Value → Heap → Prop) : Prop :=
  okK (some (aBox Try.prog 36 a0 h)) fun v2 h =>
  mvK (Value.bool false) h fun v3 h =>
  vK (aLoad Try.prog 36 v2 h) h fun v4 h =>
  vK (aLoad Try.prog 36 a1 h) h fun v5 h =>
  cK Try.prog 74 [v4, v5] h fun v6 h =>
  mvK v6 h fun v3_1 h =>
  retV [some v3_1] R h
def lv84 (q : Nat) : List Nat := []
theorem ok84 : lkOK Try.prog lv84 Try.f73 2 (Try.f73.body.getD .skip) 73 = true := by kernel_rfl
theorem e84 (a0 a1 : Value) (h : Heap) (R : Value → Heap → Prop) : n84 a0 a1 h R = wpK Try.prog lv84 (Try.f73.body.getD .skip) (endK Try.prog [.tmp 3] R) (argT [a0, a1]) h := by kernel_rfl
theorem w84 {a0 a1 : Value} {h : Heap} {R : Value → Heap → Prop} (hn : n84 a0 a1 h R) : DetP Try.prog 73 [a0, a1] h R :=
  DetP.of_code (rs := [.tmp 3]) (n := 2) Try.func73 (by kernel_rfl) (by kernel_rfl) lv84 ok84 rfl ((e84 a0 a1 h R) ▸ hn)

/-! ### examiner/mutant.meet: function 74 -/
def n85 (a0 a1 : Value) (h : Heap) (R : Value → Heap → Prop) : Prop :=
  okK (some (aBox Try.prog 36 a0 h)) fun v2 h =>
  okK (some (aBox Try.prog 36 a1 h)) fun v3 h =>
  mvK (Value.bool false) h fun v4 h =>
  vK (aLoad Try.prog 36 v2 h) h fun v13 h =>
  cK Try.prog 90 [v13] h fun v14 h =>
  mvK v14 h fun v12 h =>
  vK (aExtract v12 0) h fun v15 h =>
  vK (aExtract v12 1) h fun v16 h =>
  vK (aExtract v12 2) h fun v17 h =>
  mvK v15 h fun v5 h =>
  mvK v16 h fun v6 h =>
  mvK v17 h fun v7 h =>
  vK (aLoad Try.prog 36 v3 h) h fun v19 h =>
  cK Try.prog 90 [v19] h fun v20 h =>
  mvK v20 h fun v18 h =>
  vK (aExtract v18 0) h fun v21 h =>
  vK (aExtract v18 1) h fun v22 h =>
  vK (aExtract v18 2) h fun v23 h =>
  mvK v21 h fun v8 h =>
  mvK v22 h fun v9 h =>
  mvK v23 h fun v10 h =>
  mvK (Value.func (Fn.func 91) #[] #[]) h fun v11 h =>
  mvK v11 h fun v24 h =>
  mvK v5 h fun v25 h =>
  mvK v8 h fun v26 h =>
  callK Try.prog (fnOf v24 [v25, v26]) h fun v27 h =>
  mvK v27 h fun v28 h =>
  gdK v28 false (fun k0 =>
   mvK v11 h fun v29 h =>
   k0 v29 h) (fun v29_1 h =>
   gdK v28 false (fun k1 =>
    mvK v6 h fun v30 h =>
    k1 v30 h) (fun v30_1 h =>
    gdK v28 false (fun k2 =>
     mvK v9 h fun v31 h =>
     k2 v31 h) (fun v31_1 h =>
     gdK v28 false (fun k3 =>
      callK Try.prog (fnOf v29_1 [v30_1, v31_1]) h fun v32 h =>
      k3 v32 h) (fun v32_1 h =>
      vK (pickV v28 (Value.bool true) v32_1) h fun v33 h =>
      mvK v33 h fun v34 h =>
      gdK v34 false (fun k4 =>
       mvK v7 h fun v35 h =>
       k4 v35 h) (fun v35_1 h =>
       gdK v34 false (fun k5 =>
        mvK v35_1 h fun v36 h =>
        k5 v36 h) (fun v36_1 h =>
        gdK v36_1 true (fun k6 =>
         mvK v10 h fun v37 h =>
         k6 v37 h) (fun v37_1 h =>
         gdK v34 false (fun k7 =>
          vK (pickV v36_1 v37_1 (Value.bool false)) h fun v38 h =>
          k7 v38 h) (fun v38_1 h =>
          vK (pickV v34 (Value.bool true) v38_1) h fun v39 h =>
          mvK v39 h fun v4_1 h =>
          retV [some v4_1] R h) h) h) h) h) h) h) h) h
def lv85 (q : Nat) : List Nat := []
theorem ok85 : lkOK Try.prog lv85 Try.f74 2 (Try.f74.body.getD .skip) 74 = true := by kernel_rfl
theorem e85 (a0 a1 : Value) (h : Heap) (R : Value → Heap → Prop) : n85 a0 a1 h R = wpK Try.prog lv85 (Try.f74.body.getD .skip) (endK Try.prog [.tmp 4] R) (argT [a0, a1]) h := by kernel_rfl
theorem w85 {a0 a1 : Value} {h : Heap} {R : Value → Heap → Prop} (hn : n85 a0 a1 h R) : DetP Try.prog 74 [a0, a1] h R :=
  DetP.of_code (rs := [.tmp 4]) (n := 2) Try.func74 (by kernel_rfl) (by kernel_rfl) lv85 ok85 rfl ((e85 a0 a1 h R) ▸ hn)

/-! ### examiner/mutant.isRight: function 75 -/
def n86 (a0 a1 : Value) (h : Heap) (R : Value → Heap → Prop) : Prop :=
  okK (some (aBox Try.prog 24 a0 h)) fun v2 h =>
  okK (some (aBox Try.prog 36 a1 h)) fun v3 h =>
  mvK (Value.bool false) h fun v4 h =>
  vK (aFieldAddr Try.prog 24 v2 4) h fun v6 h =>
  vK (aLoad Try.prog 22 v6 h) h fun v7 h =>
  vK (aLen Try.prog 22 v7) h fun v8 h =>
  mvK v8 h fun v5 h =>
  vK (aFieldAddr Try.prog 36 v3 0) h fun v9 h =>
  vK (aLoad Try.prog 3 v9 h) h fun v10 h =>
  vK (aBin Try.prog BinOp.eql 3 v10 (Value.int IntKind.i64 0)) h fun v12 h =>
  mvK v12 h fun v11 h =>
  cnd v11 (
   vK (aFieldAddr Try.prog 36 v3 1) h fun v13 h =>
   vK (aLoad Try.prog 3 v13 h) h fun v14 h =>
   mvK v5 h fun v15 h =>
   vK (aBin Try.prog BinOp.sub 3 v15 (Value.int IntKind.i64 1)) h fun v16 h =>
   cK Try.prog 54 [v14, (Value.int IntKind.i64 0), v16] h fun v17 h =>
   mvK v17 h fun v18 h =>
   gdK v18 true (fun k0 =>
    vK (aFieldAddr Try.prog 36 v3 2) h fun v19 h =>
    k0 v19 h) (fun v19_1 h =>
    gdK v18 true (fun k1 =>
     vK (aLoad Try.prog 3 v19_1 h) h fun v20 h =>
     k1 v20 h) (fun v20_1 h =>
     gdK v18 true (fun k2 =>
      vK (aFieldAddr Try.prog 24 v2 2) h fun v21 h =>
      k2 v21 h) (fun v21_1 h =>
      gdK v18 true (fun k3 =>
       vK (aLoad Try.prog 3 v21_1 h) h fun v22 h =>
       k3 v22 h) (fun v22_1 h =>
       gdK v18 true (fun k4 =>
        vK (aBin Try.prog BinOp.sub 3 v22_1 (Value.int IntKind.i64 1)) h fun v23 h =>
        k4 v23 h) (fun v23_1 h =>
        gdK v18 true (fun k5 =>
         cK Try.prog 54 [v20_1, (Value.int IntKind.i64 0), v23_1] h fun v24 h =>
         k5 v24 h) (fun v24_1 h =>
         vK (pickV v18 v24_1 (Value.bool false)) h fun v25 h =>
         mvK v25 h fun v4_1 h =>
         retV [some v4_1] R h) h) h) h) h) h) h) (
   vK (aBin Try.prog BinOp.eql 3 v10 (Value.int IntKind.i64 1)) h fun v27 h =>
   mvK v27 h fun v26 h =>
   cnd v26 (
    vK (aFieldAddr Try.prog 36 v3 1) h fun v28 h =>
    vK (aLoad Try.prog 3 v28 h) h fun v29 h =>
    mvK v5 h fun v30 h =>
    vK (aBin Try.prog BinOp.sub 3 v30 (Value.int IntKind.i64 1)) h fun v31 h =>
    cK Try.prog 54 [v29, (Value.int IntKind.i64 0), v31] h fun v32 h =>
    mvK v32 h fun v33 h =>
    gdK v33 true (fun k6 =>
     vK (aFieldAddr Try.prog 36 v3 2) h fun v34 h =>
     k6 v34 h) (fun v34_1 h =>
     gdK v33 true (fun k7 =>
      vK (aLoad Try.prog 3 v34_1 h) h fun v35 h =>
      k7 v35 h) (fun v35_1 h =>
      gdK v33 true (fun k8 =>
       vK (aFieldAddr Try.prog 24 v2 0) h fun v36 h =>
       k8 v36 h) (fun v36_1 h =>
       gdK v33 true (fun k9 =>
        vK (aLoad Try.prog 3 v36_1 h) h fun v37 h =>
        k9 v37 h) (fun v37_1 h =>
        gdK v33 true (fun k10 =>
         vK (aBin Try.prog BinOp.sub 3 v37_1 (Value.int IntKind.i64 1)) h fun v38 h =>
         k10 v38 h) (fun v38_1 h =>
         gdK v33 true (fun k11 =>
          cK Try.prog 54 [v35_1, (Value.int IntKind.i64 0), v38_1] h fun v39 h =>
          k11 v39 h) (fun v39_1 h =>
          vK (pickV v33 v39_1 (Value.bool false)) h fun v40 h =>
          mvK v40 h fun v4_2 h =>
          retV [some v4_2] R h) h) h) h) h) h) h) (
    vK (aBin Try.prog BinOp.eql 3 v10 (Value.int IntKind.i64 2)) h fun v42 h =>
    mvK v42 h fun v41 h =>
    cnd v41 (
     vK (aFieldAddr Try.prog 36 v3 1) h fun v43 h =>
     vK (aLoad Try.prog 3 v43 h) h fun v44 h =>
     vK (aBin Try.prog BinOp.eql 3 v44 (Value.int IntKind.i64 0)) h fun v45 h =>
     mvK v45 h fun v46 h =>
     gdK v46 true (fun k12 =>
      vK (aFieldAddr Try.prog 36 v3 2) h fun v47 h =>
      k12 v47 h) (fun v47_1 h =>
      gdK v46 true (fun k13 =>
       vK (aLoad Try.prog 3 v47_1 h) h fun v48 h =>
       k13 v48 h) (fun v48_1 h =>
       gdK v46 true (fun k14 =>
        vK (aFieldAddr Try.prog 24 v2 0) h fun v49 h =>
        k14 v49 h) (fun v49_1 h =>
        gdK v46 true (fun k15 =>
         vK (aLoad Try.prog 3 v49_1 h) h fun v50 h =>
         k15 v50 h) (fun v50_1 h =>
         gdK v46 true (fun k16 =>
          vK (aBin Try.prog BinOp.sub 3 v50_1 (Value.int IntKind.i64 1)) h fun v51 h =>
          k16 v51 h) (fun v51_1 h =>
          gdK v46 true (fun k17 =>
           cK Try.prog 54 [v48_1, (Value.int IntKind.i64 0), v51_1] h fun v52 h =>
           k17 v52 h) (fun v52_1 h =>
           vK (pickV v46 v52_1 (Value.bool false)) h fun v53 h =>
           mvK v53 h fun v4_3 h =>
           retV [some v4_3] R h) h) h) h) h) h) h) (
     vK (aFieldAddr Try.prog 36 v3 1) h fun v54 h =>
     vK (aLoad Try.prog 3 v54 h) h fun v55 h =>
     mvK v5 h fun v56 h =>
     vK (aBin Try.prog BinOp.sub 3 v56 (Value.int IntKind.i64 1)) h fun v57 h =>
     cK Try.prog 54 [v55, (Value.int IntKind.i64 0), v57] h fun v58 h =>
     mvK v58 h fun v59 h =>
     gdK v59 true (fun k18 =>
      vK (aFieldAddr Try.prog 36 v3 2) h fun v60 h =>
      k18 v60 h) (fun v60_1 h =>
      gdK v59 true (fun k19 =>
       vK (aLoad Try.prog 3 v60_1 h) h fun v61 h =>
       k19 v61 h) (fun v61_1 h =>
       gdK v59 true (fun k20 =>
        mvK v5 h fun v62 h =>
        k20 v62 h) (fun v62_1 h =>
        gdK v59 true (fun k21 =>
         vK (aBin Try.prog BinOp.sub 3 v62_1 (Value.int IntKind.i64 1)) h fun v63 h =>
         k21 v63 h) (fun v63_1 h =>
         gdK v59 true (fun k22 =>
          cK Try.prog 54 [v61_1, (Value.int IntKind.i64 0), v63_1] h fun v64 h =>
          k22 v64 h) (fun v64_1 h =>
          vK (pickV v59 v64_1 (Value.bool false)) h fun v65 h =>
          mvK v65 h fun v4_4 h =>
          retV [some v4_4] R h) h) h) h) h) h)))
def lv86 (q : Nat) : List Nat := []
theorem ok86 : lkOK Try.prog lv86 Try.f75 2 (Try.f75.body.getD .skip) 75 = true := by kernel_rfl
theorem e86 (a0 a1 : Value) (h : Heap) (R : Value → Heap → Prop) : n86 a0 a1 h R = wpK Try.prog lv86 (Try.f75.body.getD .skip) (endK Try.prog [.tmp 4] R) (argT [a0, a1]) h := by kernel_rfl
theorem w86 {a0 a1 : Value} {h : Heap} {R : Value → Heap → Prop} (hn : n86 a0 a1 h R) : DetP Try.prog 75 [a0, a1] h R :=
  DetP.of_code (rs := [.tmp 4]) (n := 2) Try.func75 (by kernel_rfl) (by kernel_rfl) lv86 ok86 rfl ((e86 a0 a1 h R) ▸ hn)

/-! ### slices.ContainsFunc[[]examiner/api.Mutation,examiner/api.Mutation]: function 76 -/
def n87 (a0 a1 : Value) (h : Heap) (R : Value → Heap → Prop) : Prop :=
  mvK (Value.bool false) h fun v4 h =>
  mvK a0 h fun v5 h =>
  mvK a1 h fun v6 h =>
  cK Try.prog 95 [v5, v6] h fun v7 h =>
  vK (aBin Try.prog BinOp.geq 3 v7 (Value.int IntKind.i64 0)) h fun v8 h =>
  mvK v8 h fun v4_1 h =>
  retV [some v4_1] R h
def lv87 (q : Nat) : List Nat := []
theorem ok87 : lkOK Try.prog lv87 Try.f76 2 (Try.f76.body.getD .skip) 76 = true := by kernel_rfl
theorem e87 (a0 a1 : Value) (h : Heap) (R : Value → Heap → Prop) : n87 a0 a1 h R = wpK Try.prog lv87 (Try.f76.body.getD .skip) (endK Try.prog [.tmp 4] R) (argT [a0, a1]) h := by kernel_rfl
theorem w87 {a0 a1 : Value} {h : Heap} {R : Value → Heap → Prop} (hn : n87 a0 a1 h R) : DetP Try.prog 76 [a0, a1] h R :=
  DetP.of_code (rs := [.tmp 4]) (n := 2) Try.func76 (by kernel_rfl) (by kernel_rfl) lv87 ok87 rfl ((e87 a0 a1 h R) ▸ hn)

/-! ### examiner/examinerref41.targets: function 43 -/
def n88 (a0 : Value) (h : Heap) (R : Value → Heap → Prop) : Prop :=
  okK (some (aBox Try.prog 36 a0 h)) fun v1 h =>
  mvK (Value.slice none 0 0) h fun v2 h =>
  vK (aFieldAddr Try.prog 36 v1 0) h fun v3 h =>
  vK (aLoad Try.prog 3 v3 h) h fun v4 h =>
  vK (aBin Try.prog BinOp.eql 3 v4 (Value.int IntKind.i64 3)) h fun v5 h =>
  cnd v5 (
   vK (aFieldAddr Try.prog 36 v1 1) h fun v6 h =>
   vK (aLoad Try.prog 3 v6 h) h fun v7 h =>
   vK (aFieldAddr Try.prog 36 v1 2) h fun v8 h =>
   vK (aLoad Try.prog 3 v8 h) h fun v9 h =>
   okK (aBuildSlice Try.prog 37 2 [(0, v7), (1, v9)] h) fun v10 h =>
   mvK v10 h fun v2_1 h =>
   retV [some v2_1] R h) (
   vK (aFieldAddr Try.prog 36 v1 1) h fun v11 h =>
   vK (aLoad Try.prog 3 v11 h) h fun v12 h =>
   okK (aBuildSlice Try.prog 37 1 [(0, v12)] h) fun v13 h =>
   mvK v13 h fun v2_2 h =>
   retV [some v2_2] R h)
def lv88 (q : Nat) : List Nat := []
theorem ok88 : lkOK Try.prog lv88 Try.f43 1 (Try.f43.body.getD .skip) 43 = true := by kernel_rfl
theorem e88 (a0 : Value) (h : Heap) (R : Value → Heap → Prop) : n88 a0 h R = wpK Try.prog lv88 (Try.f43.body.getD .skip) (endK Try.prog [.tmp 2] R) (argT [a0]) h := by kernel_rfl
theorem w88 {a0 : Value} {h : Heap} {R : Value → Heap → Prop} (hn : n88 a0 h R) : DetP Try.prog 43 [a0] h R :=
  DetP.of_code (rs := [.tmp 2]) (n := 1) Try.func43 (by kernel_rfl) (by kernel_rfl) lv88 ok88 rfl ((e88 a0 h R) ▸ hn)

/-! ### examiner/examinerbase.Has: function 44 -/
def n89 (a0 a1 : Value) (h : Heap) (R : Value → Heap → Prop) : Prop :=
  mvK (Value.bool false) h fun v4 h =>
  mvK (Value.int IntKind.i64 0) h fun v5 h =>
  ∃ (I2 : List Value → Heap → Prop) (μ2 : List Value → Heap → Nat), I2 [v5] h ∧
  ∀ (h2 : Heap) (j2 : Tmps) (v5_1 : Value), I2 [v5_1] h2 → (let h := h2
   mvK v5_1 h fun v6 h =>
   mvK a0 h fun v7 h =>
   vK (aLen Try.prog 37 v7) h fun v8 h =>
   vK (aBin Try.prog BinOp.lss 3 v6 v8) h fun v9 h =>
   cnd v9 (
    mvK a0 h fun v12 h =>
    mvK v5_1 h fun v13 h =>
    vK (aIndexAddr Try.prog 37 v12 v13) h fun v14 h =>
    vK (aLoad Try.prog 3 v14 h) h fun v15 h =>
    mvK a1 h fun v16 h =>
    vK (aBin Try.prog BinOp.eql 3 v15 v16) h fun v17 h =>
    cnd v17 (
     mvK (Value.bool true) h fun v4_1 h =>
     retV [some v4_1] R h) (
     mvK v5_1 h fun v10 h =>
     vK (aBin Try.prog BinOp.add 3 v10 (Value.int IntKind.i64 1)) h fun v11 h =>
     mvK v11 h fun v5_2 h =>
     I2 [v5_2] h ∧ μ2 [v5_2] h < μ2 [v5_1] h2)) (
    mvK (Value.bool false) h fun v4_2 h =>
    retV [some v4_2] R h))
def lv89 (q : Nat) : List Nat := bif Nat.beq q 4 then [262128, 5] else []
theorem ok89 : lkOK Try.prog lv89 Try.f44 2 (Try.f44.body.getD .skip) 44 = true := by kernel_rfl
theorem e89 (a0 a1 : Value) (h : Heap) (R : Value → Heap → Prop) : n89 a0 a1 h R = wpK Try.prog lv89 (Try.f44.body.getD .skip) (endK Try.prog [.tmp 4] R) (argT [a0, a1]) h := by kernel_rfl
theorem w89 {a0 a1 : Value} {h : Heap} {R : Value → Heap → Prop} (hn : n89 a0 a1 h R) : DetP Try.prog 44 [a0, a1] h R :=
  DetP.of_code (rs := [.tmp 4]) (n := 2) Try.func44 (by kernel_rfl) (by kernel_rfl) lv89 ok89 rfl ((e89 a0 a1 h R) ▸ hn)

/-! ### examiner/model.machineErr: function 49 -/
def n90 (a0 : Value) (h : Heap) (R : Value → Heap → Prop) : Prop :=
  okK (some (aBox Try.prog 24 a0 h)) fun v1 h =>
  mvK (Value.int IntKind.i64 0) h fun v2 h =>
  vK (aLoad Try.prog 24 v1 h) h fun v6 h =>
  cK Try.prog 35 [v6] h fun v7 h =>
  mvK v7 h fun v5 h =>
  vK (aExtract v5 0) h fun v8 h =>
  vK (aExtract v5 1) h fun v9 h =>
  mvK v8 h fun v3 h =>
  mvK v9 h fun v4 h =>
  mvK v4 h fun v10 h =>
  mvK v10 h fun v2_1 h =>
  retV [some v2_1] R h
def lv90 (q : Nat) : List Nat := []
theorem ok90 : lkOK Try.prog lv90 Try.f49 1 (Try.f49.body.getD .skip) 49 = true := by kernel_rfl
theorem e90 (a0 : Value) (h : Heap) (R : Value → Heap → Prop) : n90 a0 h R = wpK Try.prog lv90 (Try.f49.body.getD .skip) (endK Try.prog [.tmp 2] R) (argT [a0]) h := by kernel_rfl
theorem w90 {a0 : Value} {h : Heap} {R : Value → Heap → Prop} (hn : n90 a0 h R) : DetP Try.prog 49 [a0] h R :=
  DetP.of_code (rs := [.tmp 2]) (n := 1) Try.func49 (by kernel_rfl) (by kernel_rfl) lv90 ok90 rfl ((e90 a0 h R) ▸ hn)

/-! ### examiner/model.unless: function 50 -/
def n91 (a0 a1 : Value) (h : Heap) (R : Value → Heap → Prop) : Prop :=
  mvK (Value.int IntKind.i64 0) h fun v4 h =>
  mvK a0 h fun v5 h =>
  cnd v5 (
   mvK (Value.int IntKind.i64 0) h fun v4_1 h =>
   retV [some v4_1] R h) (
   mvK a1 h fun v6 h =>
   mvK v6 h fun v4_2 h =>
   retV [some v4_2] R h)
def lv91 (q : Nat) : List Nat := []
theorem ok91 : lkOK Try.prog lv91 Try.f50 2 (Try.f50.body.getD .skip) 50 = true := by kernel_rfl
theorem e91 (a0 a1 : Value) (h : Heap) (R : Value → Heap → Prop) : n91 a0 a1 h R = wpK Try.prog lv91 (Try.f50.body.getD .skip) (endK Try.prog [.tmp 4] R) (argT [a0, a1]) h := by kernel_rfl
theorem w91 {a0 a1 : Value} {h : Heap} {R : Value → Heap → Prop} (hn : n91 a0 a1 h R) : DetP Try.prog 50 [a0, a1] h R :=
  DetP.of_code (rs := [.tmp 4]) (n := 2) Try.func50 (by kernel_rfl) (by kernel_rfl) lv91 ok91 rfl ((e91 a0 a1 h R) ▸ hn)

/-! ### examiner/model.tableOf: function 51 -/
def n92 (a0 : Value) (h : Heap) (R : Value → Heap → Prop) : Prop :=
  okK (some (aBox Try.prog 24 a0 h)) fun v1 h =>
  mvK (Value.slice none 0 0) h fun v2 h =>
  vK (aFieldAddr Try.prog 24 v1 0) h fun v7 h =>
  vK (aLoad Try.prog 3 v7 h) h fun v8 h =>
  okK (aMakeSlice Try.prog 83 v8 v8 h) fun v9 h =>
  mvK v9 h fun v3 h =>
  mvK v3 h fun v10 h =>
  vK (aLen Try.prog 83 v10) h fun v11 h =>
  mvK (Value.int IntKind.i64 0) h fun v12 h =>
  ∃ (I3 : List Value → Heap → Prop) (μ3 : List Value → Heap → Nat), I3 [v12] h ∧
  ∀ (h3 : Heap) (j3 : Tmps) (v12_1 : Value), I3 [v12_1] h3 → (let h := h3
   vK (aBin Try.prog BinOp.lss 3 v12_1 v11) h fun v13 h =>
   cnd v13 (
    mvK v12_1 h fun v14 h =>
    mvK v14 h fun v4 h =>
    mvK v3 h fun v15 h =>
    mvK v4 h fun v16 h =>
    vK (aFieldAddr Try.prog 24 v1 1) h fun v17 h =>
    vK (aLoad Try.prog 3 v17 h) h fun v18 h =>
    okK (aMakeSlice Try.prog 88 v18 v18 h) fun v19 h =>
    vK (aIndexAddr Try.prog 83 v15 v16) h fun v20 h =>
    okK ((aStore Try.prog 88 v20 v19 h).map (undef, ·)) fun _ h =>
    vK (aBin Try.prog BinOp.add 3 v12_1 (Value.int IntKind.i64 1)) h fun v21 h =>
    mvK v21 h fun v12_2 h =>
    I3 [v12_2] h ∧ μ3 [v12_2] h < μ3 [v12_1] h3) (
    vK (aFieldAddr Try.prog 24 v1 4) h fun v22 h =>
    vK (aLoad Try.prog 22 v22 h) h fun v23 h =>
    vK (aLen Try.prog 22 v23) h fun v24 h =>
    mvK (Value.int IntKind.i64 0) h fun v25 h =>
    ∃ (I8 : List Value → Heap → Prop) (μ8 : List Value → Heap → Nat), I8 [v25] h ∧
    ∀ (h8 : Heap) (j8 : Tmps) (v25_1 : Value), I8 [v25_1] h8 → (let h := h8
     vK (aBin Try.prog BinOp.lss 3 v25_1 v24) h fun v26 h =>
     cnd v26 (
      vK (aIndexAddr Try.prog 22 v23 v25_1) h fun v27 h =>
      vK (aLoad Try.prog 46 v27 h) h fun v28 h =>
      okK (aAlloc Try.prog 46 h) fun v6 h =>
      okK ((aStore Try.prog 46 v6 v28 h).map (undef, ·)) fun _ h =>
      mvK v3 h fun v29 h =>
      vK (aFieldAddr Try.prog 46 v6 0) h fun v30 h =>
      vK (aLoad Try.prog 3 v30 h) h fun v31 g =>
      VB h.length v31 ∧ (let h := g
       vK (aIndexAddr Try.prog 83 v29 v31) h fun v32 h =>
       vK (aLoad Try.prog 88 v32 h) h fun v33 g =>
       VB h.length v33 ∧ (let h := g
        vK (aFieldAddr Try.prog 46 v6 1) h fun v34 h =>
        vK (aLoad Try.prog 3 v34 h) h fun v35 g =>
        VB h.length v35 ∧ (let h := g
         vK (aIndexAddr Try.prog 88 v33 v35) h fun v36 h =>
         okK ((aStore Try.prog 87 v36 v6 h).map (undef, ·)) fun _ h =>
         (True) ∧ (
          vK (aBin Try.prog BinOp.add 3 v25_1 (Value.int IntKind.i64 1)) h fun v37 h =>
          mvK v37 h fun v25_2 h =>
          I8 [v25_2] h ∧ μ8 [v25_2] h < μ8 [v25_1] h8))))) (
      mvK v3 h fun v38 h =>
      mvK v38 h fun v2_1 h =>
      retV [some v2_1] R h))))
def lv92 (q : Nat) : List Nat := bif Nat.beq q 6 then [4190224, 12] else bif Nat.beq q 16 then [274844352576, 25] else []
theorem ok92 : lkOK Try.prog lv92 Try.f51 1 (Try.f51.body.getD .skip) 51 = true := by kernel_rfl
theorem e92 (a0 : Value) (h : Heap) (R : Value → Heap → Prop) : n92 a0 h R = wpK Try.prog lv92 (Try.f51.body.getD .skip) (endK Try.prog [.tmp 2] R) (argT [a0]) h := by kernel_rfl
theorem w92 {a0 : Value} {h : Heap} {R : Value → Heap → Prop} (hn : n92 a0 h R) : DetP Try.prog 51 [a0] h R :=
  DetP.of_code (rs := [.tmp 2]) (n := 1) Try.func51 (by kernel_rfl) (by kernel_rfl) lv92 ok92 rfl ((e92 a0 h R) ▸ hn)

/-! ### examiner/model.spans: function 58 -/
def n96 (a0 a1 a2 : Value) (h : Heap) (R : Value → Heap → Prop) : Prop :=
  mvK (Value.bool false) h fun v6 h =>
  mvK a1 h fun v7 h =>
  mvK a0 h fun v8 h =>
  vK (aBin Try.prog BinOp.leq 3 v7 v8) h fun v9 h =>
  mvK v9 h fun v10 h =>
  gdK v10 true (fun k0 =>
   mvK a0 h fun v11 h =>
   k0 v11 h) (fun v11_1 h =>
   gdK v10 true (fun k1 =>
    mvK a2 h fun v12 h =>
    k1 v12 h) (fun v12_1 h =>
    gdK v10 true (fun k2 =>
     vK (aBin Try.prog BinOp.leq 3 v11_1 v12_1) h fun v13 h =>
     k2 v13 h) (fun v13_1 h =>
     vK (pickV v10 v13_1 (Value.bool false)) h fun v14 h =>
     mvK v14 h fun v6_1 h =>
     retV [some v6_1] R h) h) h) h
def lv96 (q : Nat) : List Nat := []
theorem ok96 : lkOK Try.prog lv96 Try.f58 3 (Try.f58.body.getD .skip) 58 = true := by kernel_rfl
theorem e96 (a0 a1 a2 : Value) (h : Heap) (R : Value → Heap → Prop) : n96 a0 a1 a2 h R = wpK Try.prog lv96 (Try.f58.body.getD .skip) (endK Try.prog [.tmp 6] R) (argT [a0, a1, a2]) h := by kernel_rfl
theorem w96 {a0 a1 a2 : Value} {h : Heap} {R : Value → Heap → Prop} (hn : n96 a0 a1 a2 h R) : DetP Try.prog 58 [a0, a1, a2] h R :=
  DetP.of_code (rs := [.tmp 6]) (n := 3) Try.func58 (by kernel_rfl) (by kernel_rfl) lv96 ok96 rfl ((e96 a0 a1 a2 h R) ▸ hn)

/-! ### cmp.isNaN[int]: function 69 -/
def n107 (a0 : Value) (h : Heap) (R : Value → Heap → Prop) : Prop :=
  mvK (Value.bool false) h fun v2 h =>
  mvK a0 h fun v3 h =>
  mvK a0 h fun v4 h =>
  vK (aBin Try.prog BinOp.neq 3 v3 v4) h fun v5 h =>
  mvK v5 h fun v2_1 h =>
  retV [some v2_1] R h
def lv107 (q : Nat) : List Nat := []
theorem ok107 : lkOK Try.prog lv107 Try.f69 1 (Try.f69.body.getD .skip) 69 = true := by kernel_rfl
theorem e107 (a0 : Value) (h : Heap) (R : Value → Heap → Prop) : n107 a0 h R = wpK Try.prog lv107 (Try.f69.body.getD .skip) (endK Try.prog [.tmp 2] R) (argT [a0]) h := by kernel_rfl
theorem w107 {a0 : Value} {h : Heap} {R : Value → Heap → Prop} (hn : n107 a0 h R) : DetP Try.prog 69 [a0] h R :=
  DetP.of_code (rs := [.tmp 2]) (n := 1) Try.func69 (by kernel_rfl) (by kernel_rfl) lv107 ok107 rfl ((e107 a0 h R) ▸ hn)

/-! ### examiner/mutant.changed: function 90 -/
def n108 (a0 : Value) (h : Heap) (R : Value → Heap → Prop) : Prop :=
  okK (some (aBox Try.prog 36 a0 h)) fun v1 h =>
  mvK (Value.slice none 0 0) h fun v2 h =>
  mvK (Value.slice none 0 0) h fun v3 h =>
  mvK (Value.bool false) h fun v4 h =>
  vK (aFieldAddr Try.prog 36 v1 0) h fun v5 h =>
  vK (aLoad Try.prog 3 v5 h) h fun v6 h =>
  vK (aBin Try.prog BinOp.eql 3 v6 (Value.int IntKind.i64 0)) h fun v8 h =>
  mvK v8 h fun v7 h =>
  cnd v7 (
   vK (aFieldAddr Try.prog 36 v1 1) h fun v9 h =>
   vK (aLoad Try.prog 3 v9 h) h fun v10 g =>
   VB h.length v10 ∧ (let h := g
    okK (aBuildSlice Try.prog 37 1 [(0, v10)] h) fun v11 h =>
    mvK (Value.slice none 0 0) h fun v2_1 h =>
    mvK v11 h fun v3_1 h =>
    mvK (Value.bool false) h fun v4_1 h =>
    retV [some v2_1, some v3_1, some v4_1] R h)) (
   vK (aBin Try.prog BinOp.eql 3 v6 (Value.int IntKind.i64 1)) h fun v13 h =>
   mvK v13 h fun v12 h =>
   cnd v12 (
    vK (aFieldAddr Try.prog 36 v1 1) h fun v14 h =>
    vK (aLoad Try.prog 3 v14 h) h fun v15 h =>
    okK (aBuildSlice Try.prog 37 1 [(0, v15)] h) fun v16 h =>
    mvK v16 h fun v2_2 h =>
    mvK (Value.slice none 0 0) h fun v3_2 h =>
    mvK (Value.bool false) h fun v4_2 h =>
    retV [some v2_2, some v3_2, some v4_2] R h) (
    vK (aBin Try.prog BinOp.eql 3 v6 (Value.int IntKind.i64 2)) h fun v18 h =>
    mvK v18 h fun v17 h =>
    cnd v17 (
     mvK (Value.slice none 0 0) h fun v2_3 h =>
     mvK (Value.slice none 0 0) h fun v3_3 h =>
     mvK (Value.bool true) h fun v4_3 h =>
     retV [some v2_3, some v3_3, some v4_3] R h) (
     vK (aFieldAddr Try.prog 36 v1 1) h fun v19 h =>
     vK (aLoad Try.prog 3 v19 h) h fun v20 h =>
     vK (aFieldAddr Try.prog 36 v1 2) h fun v21 h =>
     vK (aLoad Try.prog 3 v21 h) h fun v22 h =>
     okK (aBuildSlice Try.prog 37 2 [(0, v20), (1, v22)] h) fun v23 h =>
     mvK v23 h fun v2_4 h =>
     mvK (Value.slice none 0 0) h fun v3_4 h =>
     mvK (Value.bool false) h fun v4_4 h =>
     retV [some v2_4, some v3_4, some v4_4] R h)))
def lv108 (q : Nat) : List Nat := []
theorem ok108 : lkOK Try.prog lv108 Try.f90 1 (Try.f90.body.getD .skip) 90 = true := by kernel_rfl
theorem e108 (a0 : Value) (h : Heap) (R : Value → Heap → Prop) : n108 a0 h R = wpK Try.prog lv108 (Try.f90.body.getD .skip) (endK Try.prog [.tmp 2, .tmp 3, .tmp 4] R) (argT [a0]) h := by kernel_rfl
theorem w108 {a0 : Value} {h : Heap} {R : Value → Heap → Prop} (hn : n108 a0 h R) : DetP Try.prog 90 [a0] h R :=
  DetP.of_code (rs := [.tmp 2, .tmp 3, .tmp 4]) (n := 1) Try.func90 (by kernel_rfl) (by kernel_rfl) lv108 ok108 rfl ((e108 a0 h R) ▸ hn)

/-! ### examiner/mutant.meet$1: function 91 -/
def n109 (a0 a1 : Value) (h : Heap) (R : Value → Heap → Prop) : Prop :=
  okK (some (aBox Try.prog 37 a1 h)) fun v3 h =>
  mvK (Value.bool false) h fun v4 h =>
  mvK a0 h fun v5 h =>
  mvK (Value.func (Fn.func 93) #[] #[v3]) h fun v6 h =>
  cK Try.prog 92 [v5, v6] h fun v7 h =>
  mvK v7 h fun v4_1 h =>
  retV [some v4_1] R h
def lv109 (q : Nat) : List Nat := []
theorem ok109 : lkOK Try.prog lv109 Try.f91 2 (Try.f91.body.getD .skip) 91 = true := by kernel_rfl
theorem e109 (a0 a1 : Value) (h : Heap) (R : Value → Heap → Prop) : n109 a0 a1 h R = wpK Try.prog lv109 (Try.f91.body.getD .skip) (endK Try.prog [.tmp 4] R) (argT [a0, a1]) h := by kernel_rfl
theorem w109 {a0 a1 : Value} {h : Heap} {R : Value → Heap → Prop} (hn : n109 a0 a1 h R) : DetP Try.prog 91 [a0, a1] h R :=
  DetP.of_code (rs := [.tmp 4]) (n := 2) Try.func91 (by kernel_rfl) (by kernel_rfl) lv109 ok109 rfl ((e109 a0 a1 h R) ▸ hn)

/-! ### slices.ContainsFunc[[]int,int]: function 92 -/
def n110 (a0 a1 : Value) (h : Heap) (R : Value → Heap → Prop) : Prop :=
  mvK (Value.bool false) h fun v4 h =>
  mvK a0 h fun v5 h =>
  mvK a1 h fun v6 h =>
  cK Try.prog 100 [v5, v6] h fun v7 h =>
  vK (aBin Try.prog BinOp.geq 3 v7 (Value.int IntKind.i64 0)) h fun v8 h =>
  mvK v8 h fun v4_1 h =>
  retV [some v4_1] R h
def lv110 (q : Nat) : List Nat := []
theorem ok110 : lkOK Try.prog lv110 Try.f92 2 (Try.f92.body.getD .skip) 92 = true := by kernel_rfl
theorem e110 (a0 a1 : Value) (h : Heap) (R : Value → Heap → Prop) : n110 a0 a1 h R = wpK Try.prog lv110 (Try.f92.body.getD .skip) (endK Try.prog [.tmp 4] R) (argT [a0, a1]) h := by kernel_rfl
theorem w110 {a0 a1 : Value} {h : Heap} {R : Value → Heap → Prop} (hn : n110 a0 a1 h R) : DetP Try.prog 92 [a0, a1] h R :=
  DetP.of_code (rs := [.tmp 4]) (n := 2) Try.func92 (by kernel_rfl) (by kernel_rfl) lv110 ok110 rfl ((e110 a0 a1 h R) ▸ hn)

/-! ### examiner/mutant.meet$1$1: function 93 -/
def n111 (a0 a1 : Value) (h : Heap) (R : Value → Heap → Prop) : Prop :=
  mvK (Value.bool false) h fun v3 h =>
  vK (aLoad Try.prog 37 a1 h) h fun v4 h =>
  mvK a0 h fun v5 h =>
  cK Try.prog 94 [v4, v5] h fun v6 h =>
  mvK v6 h fun v3_1 h =>
  retV [some v3_1] R h
def lv111 (q : Nat) : List Nat := []
theorem ok111 : lkOK Try.prog lv111 Try.f93 2 (Try.f93.body.getD .skip) 93 = true := by kernel_rfl
theorem e111 (a0 a1 : Value) (h : Heap) (R : Value → Heap → Prop) : n111 a0 a1 h R = wpK Try.prog lv111 (Try.f93.body.getD .skip) (endK Try.prog [.tmp 3] R) (argT [a0, a1]) h := by kernel_rfl
theorem w111 {a0 a1 : Value} {h : Heap} {R : Value → Heap → Prop} (hn : n111 a0 a1 h R) : DetP Try.prog 93 [a0, a1] h R :=
  DetP.of_code (rs := [.tmp 3]) (n := 2) Try.func93 (by kernel_rfl) (by kernel_rfl) lv111 ok111 rfl ((e111 a0 a1 h R) ▸ hn)

/-! ### slices.Contains[[]int,int]: function 94 -/
def n112 (a0 a1 : Value) (h : Heap) (R : Value → Heap → Prop) : Prop :=
  mvK (Value.bool false) h fun v4 h =>
  mvK a0 h fun v5 h =>
  mvK a1 h fun v6 h =>
  cK Try.prog 101 [v5, v6] h fun v7 h =>
  vK (aBin Try.prog BinOp.geq 3 v7 (Value.int IntKind.i64 0)) h fun v8 h =>
  mvK v8 h fun v4_1 h =>
  retV [some v4_1] R h
def lv112 (q : Nat) : List Nat := []
theorem ok112 : lkOK Try.prog lv112 Try.f94 2 (Try.f94.body.getD .skip) 94 = true := by kernel_rfl
theorem e112 (a0 a1 : Value) (h : Heap) (R : Value → Heap → Prop) : n112 a0 a1 h R = wpK Try.prog lv112 (Try.f94.body.getD .skip) (endK Try.prog [.tmp 4] R) (argT [a0, a1]) h := by kernel_rfl
theorem w112 {a0 a1 : Value} {h : Heap} {R : Value → Heap → Prop} (hn : n112 a0 a1 h R) : DetP Try.prog 94 [a0, a1] h R :=
  DetP.of_code (rs := [.tmp 4]) (n := 2) Try.func94 (by kernel_rfl) (by kernel_rfl) lv112 ok112 rfl ((e112 a0 a1 h R) ▸ hn)

/-! ### slices.IndexFunc[[]examiner/api.Mutation,examiner/api.Mutation]: function 95 -/
def n113 (a0 a1 : Value) (h : Heap) (R : Value → Heap → Prop) : Prop :=
  mvK (Value.int IntKind.i64 0) h fun v4 h =>
  mvK a0 h fun v6 h =>
  vK (aLen Try.prog 25 v6) h fun v7 h =>
  mvK (Value.int IntKind.i64 0) h fun v8 h =>
  ∃ (I2 : List Value → Heap → Prop) (μ2 : List Value → Heap → Nat), I2 [v8] h ∧
  ∀ (h2 : Heap) (j2 : Tmps) (v8_1 : Value), I2 [v8_1] h2 → (let h := h2
   vK (aBin Try.prog BinOp.lss 3 v8_1 v7) h fun v9 h =>
   cnd v9 (
    mvK v8_1 h fun v10 h =>
    mvK v10 h fun v5 h =>
    mvK a1 h fun v11 h =>
    mvK a0 h fun v12 h =>
    mvK v5 h fun v13 h =>
    vK (aIndexAddr Try.prog 25 v12 v13) h fun v14 h =>
    vK (aLoad Try.prog 36 v14 h) h fun v15 h =>
    callK Try.prog (fnOf v11 [v15]) h fun v16 h =>
    cnd v16 (
     mvK v5 h fun v17 h =>
     mvK v17 h fun v4_1 h =>
     retV [some v4_1] R h) (
     vK (aBin Try.prog BinOp.add 3 v8_1 (Value.int IntKind.i64 1)) h fun v18 h =>
     mvK v18 h fun v8_2 h =>
     I2 [v8_2] h ∧ μ2 [v8_2] h < μ2 [v8_1] h2)) (
    mvK (Value.int IntKind.i64 (-1)) h fun v4_2 h =>
    retV [some v4_2] R h))
def lv113 (q : Nat) : List Nat := bif Nat.beq q 4 then [524080, 8] else []
theorem ok113 : lkOK Try.prog lv113 Try.f95 2 (Try.f95.body.getD .skip) 95 = true := by kernel_rfl
theorem e113 (a0 a1 : Value) (h : Heap) (R : Value → Heap → Prop) : n113 a0 a1 h R = wpK Try.prog lv113 (Try.f95.body.getD .skip) (endK Try.prog [.tmp 4] R) (argT [a0, a1]) h := by kernel_rfl
theorem w113 {a0 a1 : Value} {h : Heap} {R : Value → Heap → Prop} (hn : n113 a0 a1 h R) : DetP Try.prog 95 [a0, a1] h R :=
  DetP.of_code (rs := [.tmp 4]) (n := 2) Try.func95 (by kernel_rfl) (by kernel_rfl) lv113 ok113 rfl ((e113 a0 a1 h R) ▸ hn)

/-! ### slices.IndexFunc[[]int,int]: function 100 -/
def n128 (a0 a1 : Value) (h : Heap) (R : Value → Heap → Prop) : Prop :=
  mvK (Value.int IntKind.i64 0) h fun v4 h =>
  mvK a0 h fun v6 h =>
  vK (aLen Try.prog 37 v6) h fun v7 h =>
  mvK (Value.int IntKind.i64 0) h fun v8 h =>
  ∃ (I2 : List Value → Heap → Prop) (μ2 : List Value → Heap → Nat), I2 [v8] h ∧
  ∀ (h2 : Heap) (j2 : Tmps) (v8_1 : Value), I2 [v8_1] h2 → (let h := h2
   vK (aBin Try.prog BinOp.lss 3 v8_1 v7) h fun v9 h =>
   cnd v9 (
    mvK v8_1 h fun v10 h =>
    mvK v10 h fun v5 h =>
    mvK a1 h fun v11 h =>
    mvK a0 h fun v12 h =>
    mvK v5 h fun v13 h =>
    vK (aIndexAddr Try.prog 37 v12 v13) h fun v14 h =>
    vK (aLoad Try.prog 3 v14 h) h fun v15 h =>
    callK Try.prog (fnOf v11 [v15]) h fun v16 h =>
    cnd v16 (
     mvK v5 h fun v17 h =>
     mvK v17 h fun v4_1 h =>
     retV [some v4_1] R h) (
     vK (aBin Try.prog BinOp.add 3 v8_1 (Value.int IntKind.i64 1)) h fun v18 h =>
     mvK v18 h fun v8_2 h =>
     I2 [v8_2] h ∧ μ2 [v8_2] h < μ2 [v8_1] h2)) (
    mvK (Value.int IntKind.i64 (-1)) h fun v4_2 h =>
    retV [some v4_2] R h))
def lv128 (q : Nat) : List Nat := bif Nat.beq q 4 then [524080, 8] else []
theorem ok128 : lkOK Try.prog lv128 Try.f100 2 (Try.f100.body.getD .skip) 100 = true := by kernel_rfl
theorem e128 (a0 a1 : Value) (h : Heap) (R : Value → Heap → Prop) : n128 a0 a1 h R = wpK Try.prog lv128 (Try.f100.body.getD .skip) (endK Try.prog [.tmp 4] R) (argT [a0, a1]) h := by kernel_rfl
theorem w128 {a0 a1 : Value} {h : Heap} {R : Value → Heap → Prop} (hn : n128 a0 a1 h R) : DetP Try.prog 100 [a0, a1] h R :=
  DetP.of_code (rs := [.tmp 4]) (n := 2) Try.func100 (by kernel_rfl) (by kernel_rfl) lv128 ok128 rfl ((e128 a0 a1 h R) ▸ hn)

/-! ### slices.Index[[]int,int]: function 101 -/
def n129 (a0 a1 : Value) (h : Heap) (R : Value → Heap → Prop) : Prop :=
  mvK (Value.int IntKind.i64 0) h fun v4 h =>
  mvK a0 h fun v6 h =>
  vK (aLen Try.prog 37 v6) h fun v7 h =>
  mvK (Value.int IntKind.i64 0) h fun v8 h =>
  ∃ (I2 : List Value → Heap → Prop) (μ2 : List Value → Heap → Nat), I2 [v8] h ∧
  ∀ (h2 : Heap) (j2 : Tmps) (v8_1 : Value), I2 [v8_1] h2 → (let h := h2
   vK (aBin Try.prog BinOp.lss 3 v8_1 v7) h fun v9 h =>
   cnd v9 (
    mvK v8_1 h fun v10 h =>
    mvK v10 h fun v5 h =>
    mvK a1 h fun v11 h =>
    mvK a0 h fun v12 h =>
    mvK v5 h fun v13 h =>
    vK (aIndexAddr Try.prog 37 v12 v13) h fun v14 h =>
    vK (aLoad Try.prog 3 v14 h) h fun v15 h =>
    vK (aBin Try.prog BinOp.eql 3 v11 v15) h fun v16 h =>
    cnd v16 (
     mvK v5 h fun v17 h =>
     mvK v17 h fun v4_1 h =>
     retV [some v4_1] R h) (
     vK (aBin Try.prog BinOp.add 3 v8_1 (Value.int IntKind.i64 1)) h fun v18 h =>
     mvK v18 h fun v8_2 h =>
     I2 [v8_2] h ∧ μ2 [v8_2] h < μ2 [v8_1] h2)) (
    mvK (Value.int IntKind.i64 (-1)) h fun v4_2 h =>
    retV [some v4_2] R h))
def lv129 (q : Nat) : List Nat := bif Nat.beq q 4 then [524080, 8] else []
theorem ok129 : lkOK Try.prog lv129 Try.f101 2 (Try.f101.body.getD .skip) 101 = true := by kernel_rfl
theorem e129 (a0 a1 : Value) (h : Heap) (R : Value → Heap → Prop) : n129 a0 a1 h R = wpK Try.prog lv129 (Try.f101.body.getD .skip) (endK Try.prog [.tmp 4] R) (argT [a0, a1]) h := by kernel_rfl
theorem w129 {a0 a1 : Value} {h : Heap} {R : Value → Heap → Prop} (hn : n129 a0 a1 h R) : DetP Try.prog 101 [a0, a1] h R :=
  DetP.of_code (rs := [.tmp 4]) (n := 2) Try.func101 (by kernel_rfl) (by kernel_rfl) lv129 ok129 rfl ((e129 a0 a1 h R) ▸ hn)

end Go.Proofs.Ytgmgmkhenhaniaa

/-
  The types of the seat: facts that steps look for.
-/
set_option linter.unusedVariables false
namespace Go.Proofs.Ytgmgmkhenhaniaa
open Go.AM
-- 2: int64 (1)
instance : PlT Try.prog 2 := ⟨by kernel_rfl⟩
instance : IntT Try.prog 2 .i64 := ⟨by kernel_rfl⟩
instance : OneT Try.prog 2 := ⟨by kernel_rfl⟩
instance : ZrT Try.prog 2 [(.int .i64 0)] := ⟨by kernel_rfl, by kernel_rfl⟩
-- 3: int (1)
instance : PlT Try.prog 3 := ⟨by kernel_rfl⟩
instance : IntT Try.prog 3 .i64 := ⟨by kernel_rfl⟩
instance : OneT Try.prog 3 := ⟨by kernel_rfl⟩
instance : ZrT Try.prog 3 [(.int .i64 0)] := ⟨by kernel_rfl, by kernel_rfl⟩
-- 4: bool (1)
instance : PlT Try.prog 4 := ⟨by kernel_rfl⟩
instance : OneT Try.prog 4 := ⟨by kernel_rfl⟩
instance : ZrT Try.prog 4 [(.bool false)] := ⟨by kernel_rfl, by kernel_rfl⟩
-- 5: uint8 (1)
instance : PlT Try.prog 5 := ⟨by kernel_rfl⟩
instance : IntT Try.prog 5 .u8 := ⟨by kernel_rfl⟩
instance : OneT Try.prog 5 := ⟨by kernel_rfl⟩
instance : ZrT Try.prog 5 [(.int .u8 0)] := ⟨by kernel_rfl, by kernel_rfl⟩
-- 6: abi.BoundsErrorCode (1)
instance : PlT Try.prog 6 := ⟨by kernel_rfl⟩
instance : IntT Try.prog 6 .u8 := ⟨by kernel_rfl⟩
instance : OneT Try.prog 6 := ⟨by kernel_rfl⟩
instance : ZrT Try.prog 6 [(.int .u8 0)] := ⟨by kernel_rfl, by kernel_rfl⟩
-- 7: struct { x int64; y int; signed bool; code abi.BoundsErrorCode } (4)
instance : RwT Try.prog 7 4 := ⟨by kernel_rfl⟩
instance : ZrT Try.prog 7 [(.int .i64 0), (.int .i64 0), (.bool false), (.int .u8 0)] := ⟨by kernel_rfl, by kernel_rfl⟩
instance : FdT Try.prog 7 0 0 2 := ⟨by kernel_rfl⟩ -- x
instance : FdT Try.prog 7 1 1 3 := ⟨by kernel_rfl⟩ -- y
instance : FdT Try.prog 7 2 2 4 := ⟨by kernel_rfl⟩ -- signed
instance : FdT Try.prog 7 3 3 6 := ⟨by kernel_rfl⟩ -- code
-- 8: runtime.boundsError (4)
instance : RwT Try.prog 8 4 := ⟨by kernel_rfl⟩
instance : ZrT Try.prog 8 [(.int .i64 0), (.int .i64 0), (.bool false), (.int .u8 0)] := ⟨by kernel_rfl, by kernel_rfl⟩
instance : FdT Try.prog 8 0 0 2 := ⟨by kernel_rfl⟩ -- x
instance : FdT Try.prog 8 1 1 3 := ⟨by kernel_rfl⟩ -- y
instance : FdT Try.prog 8 2 2 4 := ⟨by kernel_rfl⟩ -- signed
instance : FdT Try.prog 8 3 3 6 := ⟨by kernel_rfl⟩ -- code
-- 9: string (1)
instance : PlT Try.prog 9 := ⟨by kernel_rfl⟩
instance : StrT Try.prog 9 := ⟨by kernel_rfl⟩
instance : OneT Try.prog 9 := ⟨by kernel_rfl⟩
instance : ZrT Try.prog 9 [(.string ⟨#[]⟩)] := ⟨by kernel_rfl, by kernel_rfl⟩
-- 10: runtime.errorString (1)
instance : PlT Try.prog 10 := ⟨by kernel_rfl⟩
instance : StrT Try.prog 10 := ⟨by kernel_rfl⟩
instance : OneT Try.prog 10 := ⟨by kernel_rfl⟩
instance : ZrT Try.prog 10 [(.string ⟨#[]⟩)] := ⟨by kernel_rfl, by kernel_rfl⟩
-- 11: runtime.plainError (1)
instance : PlT Try.prog 11 := ⟨by kernel_rfl⟩
instance : StrT Try.prog 11 := ⟨by kernel_rfl⟩
instance : OneT Try.prog 11 := ⟨by kernel_rfl⟩
instance : ZrT Try.prog 11 [(.string ⟨#[]⟩)] := ⟨by kernel_rfl, by kernel_rfl⟩
-- 12: uintptr (1)
instance : PlT Try.prog 12 := ⟨by kernel_rfl⟩
instance : IntT Try.prog 12 .u64 := ⟨by kernel_rfl⟩
instance : OneT Try.prog 12 := ⟨by kernel_rfl⟩
instance : ZrT Try.prog 12 [(.int .u64 0)] := ⟨by kernel_rfl, by kernel_rfl⟩
-- 13: struct { msg string; addr uintptr } (2)
instance : RwT Try.prog 13 2 := ⟨by kernel_rfl⟩
instance : ZrT Try.prog 13 [(.string ⟨#[]⟩), (.int .u64 0)] := ⟨by kernel_rfl, by kernel_rfl⟩
instance : FdT Try.prog 13 0 0 9 := ⟨by kernel_rfl⟩ -- msg
instance : FdT Try.prog 13 1 1 12 := ⟨by kernel_rfl⟩ -- addr
-- 14: runtime.errorAddressString (2)
instance : RwT Try.prog 14 2 := ⟨by kernel_rfl⟩
instance : ZrT Try.prog 14 [(.string ⟨#[]⟩), (.int .u64 0)] := ⟨by kernel_rfl, by kernel_rfl⟩
instance : FdT Try.prog 14 0 0 9 := ⟨by kernel_rfl⟩ -- msg
instance : FdT Try.prog 14 1 1 12 := ⟨by kernel_rfl⟩ -- addr
-- 15: *runtime.TypeAssertionError (1)
instance : PlT Try.prog 15 := ⟨by kernel_rfl⟩
instance : OneT Try.prog 15 := ⟨by kernel_rfl⟩
instance : ZrT Try.prog 15 [(.pointer none)] := ⟨by kernel_rfl, by kernel_rfl⟩
-- 16: *runtime.PanicNilError (1)
instance : PlT Try.prog 16 := ⟨by kernel_rfl⟩
instance : OneT Try.prog 16 := ⟨by kernel_rfl⟩
instance : ZrT Try.prog 16 [(.pointer none)] := ⟨by kernel_rfl, by kernel_rfl⟩
-- 17: *abi.Type (1)
instance : PlT Try.prog 17 := ⟨by kernel_rfl⟩
instance : OneT Try.prog 17 := ⟨by kernel_rfl⟩
instance : ZrT Try.prog 17 [(.pointer none)] := ⟨by kernel_rfl, by kernel_rfl⟩
-- 18: struct { typ *abi.Type } (1)
instance : RwT Try.prog 18 1 := ⟨by kernel_rfl⟩
instance : OneT Try.prog 18 := ⟨by kernel_rfl⟩
instance : ZrT Try.prog 18 [(.pointer none)] := ⟨by kernel_rfl, by kernel_rfl⟩
instance : FdT Try.prog 18 0 0 17 := ⟨by kernel_rfl⟩ -- typ
-- 19: maps.unhashableTypeError (1)
instance : RwT Try.prog 19 1 := ⟨by kernel_rfl⟩
instance : OneT Try.prog 19 := ⟨by kernel_rfl⟩
instance : ZrT Try.prog 19 [(.pointer none)] := ⟨by kernel_rfl, by kernel_rfl⟩
instance : FdT Try.prog 19 0 0 17 := ⟨by kernel_rfl⟩ -- typ
-- 21: int32 (1)
instance : PlT Try.prog 21 := ⟨by kernel_rfl⟩
instance : IntT Try.prog 21 .i32 := ⟨by kernel_rfl⟩
instance : OneT Try.prog 21 := ⟨by kernel_rfl⟩
instance : ZrT Try.prog 21 [(.int .i32 0)] := ⟨by kernel_rfl, by kernel_rfl⟩
-- 22: []api.MachineStep (1)
instance : SlT Try.prog 22 46 4 32 := ⟨by kernel_rfl⟩
instance : PlT Try.prog 22 := ⟨by kernel_rfl⟩
instance : OneT Try.prog 22 := ⟨by kernel_rfl⟩
instance : ZrT Try.prog 22 [(.slice none 0 0)] := ⟨by kernel_rfl, by kernel_rfl⟩
-- 23: struct { States int; Inputs int; Outputs int; Start int; Steps []api.MachineStep (5)
instance : RwT Try.prog 23 5 := ⟨by kernel_rfl⟩
instance : ZrT Try.prog 23 [(.int .i64 0), (.int .i64 0), (.int .i64 0), (.int .i64 0), (.slice none 0 0)] := ⟨by kernel_rfl, by kernel_rfl⟩
instance : FdT Try.prog 23 0 0 3 := ⟨by kernel_rfl⟩ -- States
instance : FdT Try.prog 23 1 1 3 := ⟨by kernel_rfl⟩ -- Inputs
instance : FdT Try.prog 23 2 2 3 := ⟨by kernel_rfl⟩ -- Outputs
instance : FdT Try.prog 23 3 3 3 := ⟨by kernel_rfl⟩ -- Start
instance : FdT Try.prog 23 4 4 22 := ⟨by kernel_rfl⟩ -- Steps
-- 24: api.Machine (5)
instance : RwT Try.prog 24 5 := ⟨by kernel_rfl⟩
instance : ZrT Try.prog 24 [(.int .i64 0), (.int .i64 0), (.int .i64 0), (.int .i64 0), (.slice none 0 0)] := ⟨by kernel_rfl, by kernel_rfl⟩
instance : FdT Try.prog 24 0 0 3 := ⟨by kernel_rfl⟩ -- States
instance : FdT Try.prog 24 1 1 3 := ⟨by kernel_rfl⟩ -- Inputs
instance : FdT Try.prog 24 2 2 3 := ⟨by kernel_rfl⟩ -- Outputs
instance : FdT Try.prog 24 3 3 3 := ⟨by kernel_rfl⟩ -- Start
instance : FdT Try.prog 24 4 4 22 := ⟨by kernel_rfl⟩ -- Steps
-- 25: []api.Mutation (1)
instance : SlT Try.prog 25 36 3 24 := ⟨by kernel_rfl⟩
instance : PlT Try.prog 25 := ⟨by kernel_rfl⟩
instance : OneT Try.prog 25 := ⟨by kernel_rfl⟩
instance : ZrT Try.prog 25 [(.slice none 0 0)] := ⟨by kernel_rfl, by kernel_rfl⟩
-- 28: api.Errno (1)
instance : PlT Try.prog 28 := ⟨by kernel_rfl⟩
instance : IntT Try.prog 28 .i64 := ⟨by kernel_rfl⟩
instance : OneT Try.prog 28 := ⟨by kernel_rfl⟩
instance : ZrT Try.prog 28 [(.int .i64 0)] := ⟨by kernel_rfl, by kernel_rfl⟩
-- 35: struct { Kind int; Step int; To int } (3)
instance : RwT Try.prog 35 3 := ⟨by kernel_rfl⟩
instance : ZrT Try.prog 35 [(.int .i64 0), (.int .i64 0), (.int .i64 0)] := ⟨by kernel_rfl, by kernel_rfl⟩
instance : FdT Try.prog 35 0 0 3 := ⟨by kernel_rfl⟩ -- Kind
instance : FdT Try.prog 35 1 1 3 := ⟨by kernel_rfl⟩ -- Step
instance : FdT Try.prog 35 2 2 3 := ⟨by kernel_rfl⟩ -- To
-- 36: api.Mutation (3)
instance : RwT Try.prog 36 3 := ⟨by kernel_rfl⟩
instance : ZrT Try.prog 36 [(.int .i64 0), (.int .i64 0), (.int .i64 0)] := ⟨by kernel_rfl, by kernel_rfl⟩
instance : FdT Try.prog 36 0 0 3 := ⟨by kernel_rfl⟩ -- Kind
instance : FdT Try.prog 36 1 1 3 := ⟨by kernel_rfl⟩ -- Step
instance : FdT Try.prog 36 2 2 3 := ⟨by kernel_rfl⟩ -- To
-- 37: []int (1)
instance : SlT Try.prog 37 3 1 8 := ⟨by kernel_rfl⟩
instance : PlT Try.prog 37 := ⟨by kernel_rfl⟩
instance : OneT Try.prog 37 := ⟨by kernel_rfl⟩
instance : ZrT Try.prog 37 [(.slice none 0 0)] := ⟨by kernel_rfl, by kernel_rfl⟩
-- 45: struct { From int; Input int; Output int; To int } (4)
instance : RwT Try.prog 45 4 := ⟨by kernel_rfl⟩
instance : ZrT Try.prog 45 [(.int .i64 0), (.int .i64 0), (.int .i64 0), (.int .i64 0)] := ⟨by kernel_rfl, by kernel_rfl⟩
instance : FdT Try.prog 45 0 0 3 := ⟨by kernel_rfl⟩ -- From
instance : FdT Try.prog 45 1 1 3 := ⟨by kernel_rfl⟩ -- Input
instance : FdT Try.prog 45 2 2 3 := ⟨by kernel_rfl⟩ -- Output
instance : FdT Try.prog 45 3 3 3 := ⟨by kernel_rfl⟩ -- To
-- 46: api.MachineStep (4)
instance : RwT Try.prog 46 4 := ⟨by kernel_rfl⟩
instance : ZrT Try.prog 46 [(.int .i64 0), (.int .i64 0), (.int .i64 0), (.int .i64 0)] := ⟨by kernel_rfl, by kernel_rfl⟩
instance : FdT Try.prog 46 0 0 3 := ⟨by kernel_rfl⟩ -- From
instance : FdT Try.prog 46 1 1 3 := ⟨by kernel_rfl⟩ -- Input
instance : FdT Try.prog 46 2 2 3 := ⟨by kernel_rfl⟩ -- Output
instance : FdT Try.prog 46 3 3 3 := ⟨by kernel_rfl⟩ -- To
-- 56: [][2]int (1)
instance : SlT Try.prog 56 77 2 16 := ⟨by kernel_rfl⟩
instance : PlT Try.prog 56 := ⟨by kernel_rfl⟩
instance : OneT Try.prog 56 := ⟨by kernel_rfl⟩
instance : ZrT Try.prog 56 [(.slice none 0 0)] := ⟨by kernel_rfl, by kernel_rfl⟩
-- 72: uint (1)
instance : PlT Try.prog 72 := ⟨by kernel_rfl⟩
instance : IntT Try.prog 72 .u64 := ⟨by kernel_rfl⟩
instance : OneT Try.prog 72 := ⟨by kernel_rfl⟩
instance : ZrT Try.prog 72 [(.int .u64 0)] := ⟨by kernel_rfl, by kernel_rfl⟩
-- 77: [2]int (2)
instance : RwT Try.prog 77 2 := ⟨by kernel_rfl⟩
instance : ZrT Try.prog 77 [(.int .i64 0), (.int .i64 0)] := ⟨by kernel_rfl, by kernel_rfl⟩
-- 82: [][]*api.MachineStep (1)
instance : SlT Try.prog 82 88 1 24 := ⟨by kernel_rfl⟩
instance : PlT Try.prog 82 := ⟨by kernel_rfl⟩
instance : OneT Try.prog 82 := ⟨by kernel_rfl⟩
instance : ZrT Try.prog 82 [(.slice none 0 0)] := ⟨by kernel_rfl, by kernel_rfl⟩
-- 83: model.table (1)
instance : SlT Try.prog 83 88 1 24 := ⟨by kernel_rfl⟩
instance : PlT Try.prog 83 := ⟨by kernel_rfl⟩
instance : OneT Try.prog 83 := ⟨by kernel_rfl⟩
instance : ZrT Try.prog 83 [(.slice none 0 0)] := ⟨by kernel_rfl, by kernel_rfl⟩
-- 85: [][]int (1)
instance : SlT Try.prog 85 37 1 24 := ⟨by kernel_rfl⟩
instance : PlT Try.prog 85 := ⟨by kernel_rfl⟩
instance : OneT Try.prog 85 := ⟨by kernel_rfl⟩
instance : ZrT Try.prog 85 [(.slice none 0 0)] := ⟨by kernel_rfl, by kernel_rfl⟩
-- 87: *api.MachineStep (1)
instance : PlT Try.prog 87 := ⟨by kernel_rfl⟩
instance : OneT Try.prog 87 := ⟨by kernel_rfl⟩
instance : ZrT Try.prog 87 [(.pointer none)] := ⟨by kernel_rfl, by kernel_rfl⟩
-- 88: []*api.MachineStep (1)
instance : SlT Try.prog 88 87 1 8 := ⟨by kernel_rfl⟩
instance : PlT Try.prog 88 := ⟨by kernel_rfl⟩
instance : OneT Try.prog 88 := ⟨by kernel_rfl⟩
instance : ZrT Try.prog 88 [(.slice none 0 0)] := ⟨by kernel_rfl, by kernel_rfl⟩
-- 91: [][]api.Mutation (1)
instance : SlT Try.prog 91 25 1 24 := ⟨by kernel_rfl⟩
instance : PlT Try.prog 91 := ⟨by kernel_rfl⟩
instance : OneT Try.prog 91 := ⟨by kernel_rfl⟩
instance : ZrT Try.prog 91 [(.slice none 0 0)] := ⟨by kernel_rfl, by kernel_rfl⟩
-- 94: []api.Errno (1)
instance : SlT Try.prog 94 28 1 8 := ⟨by kernel_rfl⟩
instance : PlT Try.prog 94 := ⟨by kernel_rfl⟩
instance : OneT Try.prog 94 := ⟨by kernel_rfl⟩
instance : ZrT Try.prog 94 [(.slice none 0 0)] := ⟨by kernel_rfl, by kernel_rfl⟩
-- 96: slices.sortedHint (1)
instance : PlT Try.prog 96 := ⟨by kernel_rfl⟩
instance : IntT Try.prog 96 .i64 := ⟨by kernel_rfl⟩
instance : OneT Try.prog 96 := ⟨by kernel_rfl⟩
instance : ZrT Try.prog 96 [(.int .i64 0)] := ⟨by kernel_rfl, by kernel_rfl⟩
-- 104: uint32 (1)
instance : PlT Try.prog 104 := ⟨by kernel_rfl⟩
instance : IntT Try.prog 104 .u32 := ⟨by kernel_rfl⟩
instance : OneT Try.prog 104 := ⟨by kernel_rfl⟩
instance : ZrT Try.prog 104 [(.int .u32 0)] := ⟨by kernel_rfl, by kernel_rfl⟩
-- 106: uint64 (1)
instance : PlT Try.prog 106 := ⟨by kernel_rfl⟩
instance : IntT Try.prog 106 .u64 := ⟨by kernel_rfl⟩
instance : OneT Try.prog 106 := ⟨by kernel_rfl⟩
instance : ZrT Try.prog 106 [(.int .u64 0)] := ⟨by kernel_rfl, by kernel_rfl⟩
-- 114: slices.xorshift (1)
instance : PlT Try.prog 114 := ⟨by kernel_rfl⟩
instance : IntT Try.prog 114 .u64 := ⟨by kernel_rfl⟩
instance : OneT Try.prog 114 := ⟨by kernel_rfl⟩
instance : ZrT Try.prog 114 [(.int .u64 0)] := ⟨by kernel_rfl, by kernel_rfl⟩
-- 118: *int (1)
instance : PlT Try.prog 118 := ⟨by kernel_rfl⟩
instance : OneT Try.prog 118 := ⟨by kernel_rfl⟩
instance : ZrT Try.prog 118 [(.pointer none)] := ⟨by kernel_rfl, by kernel_rfl⟩
-- 129: *slices.xorshift (1)
instance : PlT Try.prog 129 := ⟨by kernel_rfl⟩
instance : OneT Try.prog 129 := ⟨by kernel_rfl⟩
instance : ZrT Try.prog 129 [(.pointer none)] := ⟨by kernel_rfl, by kernel_rfl⟩
-- 137: struct { _interface *abi.Type; concrete *abi.Type; asserted *abi.Type; missingMe (4)
instance : RwT Try.prog 137 4 := ⟨by kernel_rfl⟩
instance : ZrT Try.prog 137 [(.pointer none), (.pointer none), (.pointer none), (.string ⟨#[]⟩)] := ⟨by kernel_rfl, by kernel_rfl⟩
instance : FdT Try.prog 137 0 0 17 := ⟨by kernel_rfl⟩ -- _interface
instance : FdT Try.prog 137 1 1 17 := ⟨by kernel_rfl⟩ -- concrete
instance : FdT Try.prog 137 2 2 17 := ⟨by kernel_rfl⟩ -- asserted
instance : FdT Try.prog 137 3 3 9 := ⟨by kernel_rfl⟩ -- missingMethod
-- 138: runtime.TypeAssertionError (4)
instance : RwT Try.prog 138 4 := ⟨by kernel_rfl⟩
instance : ZrT Try.prog 138 [(.pointer none), (.pointer none), (.pointer none), (.string ⟨#[]⟩)] := ⟨by kernel_rfl, by kernel_rfl⟩
instance : FdT Try.prog 138 0 0 17 := ⟨by kernel_rfl⟩ -- _interface
instance : FdT Try.prog 138 1 1 17 := ⟨by kernel_rfl⟩ -- concrete
instance : FdT Try.prog 138 2 2 17 := ⟨by kernel_rfl⟩ -- asserted
instance : FdT Try.prog 138 3 3 9 := ⟨by kernel_rfl⟩ -- missingMethod
-- 139: [0]*runtime.PanicNilError (0)
-- 140: struct { _ [0]*runtime.PanicNilError } (0)
-- 141: runtime.PanicNilError (0)
-- 143: abi.TFlag (1)
instance : PlT Try.prog 143 := ⟨by kernel_rfl⟩
instance : IntT Try.prog 143 .u8 := ⟨by kernel_rfl⟩
instance : OneT Try.prog 143 := ⟨by kernel_rfl⟩
instance : ZrT Try.prog 143 [(.int .u8 0)] := ⟨by kernel_rfl, by kernel_rfl⟩
-- 144: abi.Kind (1)
instance : PlT Try.prog 144 := ⟨by kernel_rfl⟩
instance : IntT Try.prog 144 .u8 := ⟨by kernel_rfl⟩
instance : OneT Try.prog 144 := ⟨by kernel_rfl⟩
instance : ZrT Try.prog 144 [(.int .u8 0)] := ⟨by kernel_rfl, by kernel_rfl⟩
-- 146: *uint8 (1)
instance : PlT Try.prog 146 := ⟨by kernel_rfl⟩
instance : OneT Try.prog 146 := ⟨by kernel_rfl⟩
instance : ZrT Try.prog 146 [(.pointer none)] := ⟨by kernel_rfl, by kernel_rfl⟩
-- 147: abi.NameOff (1)
instance : PlT Try.prog 147 := ⟨by kernel_rfl⟩
instance : IntT Try.prog 147 .i32 := ⟨by kernel_rfl⟩
instance : OneT Try.prog 147 := ⟨by kernel_rfl⟩
instance : ZrT Try.prog 147 [(.int .i32 0)] := ⟨by kernel_rfl, by kernel_rfl⟩
-- 148: abi.TypeOff (1)
instance : PlT Try.prog 148 := ⟨by kernel_rfl⟩
instance : IntT Try.prog 148 .i32 := ⟨by kernel_rfl⟩
instance : OneT Try.prog 148 := ⟨by kernel_rfl⟩
instance : ZrT Try.prog 148 [(.int .i32 0)] := ⟨by kernel_rfl, by kernel_rfl⟩
-- 149: struct { Size_ uintptr; PtrBytes uintptr; Hash uint32; TFlag abi.TFlag; Align_ u (11)
instance : RwT Try.prog 149 11 := ⟨by kernel_rfl⟩
instance : ZrT Try.prog 149 [(.int .u64 0), (.int .u64 0), (.int .u32 0), (.int .u8 0), (.int .u8 0), (.int .u8 0), (.int .u8 0), .nilFunc, (.pointer none), (.int .i32 0), (.int .i32 0)] := ⟨by kernel_rfl, by kernel_rfl⟩
instance : FdT Try.prog 149 0 0 12 := ⟨by kernel_rfl⟩ -- Size_
instance : FdT Try.prog 149 1 1 12 := ⟨by kernel_rfl⟩ -- PtrBytes
instance : FdT Try.prog 149 2 2 104 := ⟨by kernel_rfl⟩ -- Hash
instance : FdT Try.prog 149 3 3 143 := ⟨by kernel_rfl⟩ -- TFlag
instance : FdT Try.prog 149 4 4 5 := ⟨by kernel_rfl⟩ -- Align_
instance : FdT Try.prog 149 5 5 5 := ⟨by kernel_rfl⟩ -- FieldAlign_
instance : FdT Try.prog 149 6 6 144 := ⟨by kernel_rfl⟩ -- Kind_
instance : FdT Try.prog 149 7 7 145 := ⟨by kernel_rfl⟩ -- Equal
instance : FdT Try.prog 149 8 8 146 := ⟨by kernel_rfl⟩ -- GCData
instance : FdT Try.prog 149 9 9 147 := ⟨by kernel_rfl⟩ -- Str
instance : FdT Try.prog 149 10 10 148 := ⟨by kernel_rfl⟩ -- PtrToThis
-- 150: abi.Type (11)
instance : RwT Try.prog 150 11 := ⟨by kernel_rfl⟩
instance : ZrT Try.prog 150 [(.int .u64 0), (.int .u64 0), (.int .u32 0), (.int .u8 0), (.int .u8 0), (.int .u8 0), (.int .u8 0), .nilFunc, (.pointer none), (.int .i32 0), (.int .i32 0)] := ⟨by kernel_rfl, by kernel_rfl⟩
instance : FdT Try.prog 150 0 0 12 := ⟨by kernel_rfl⟩ -- Size_
instance : FdT Try.prog 150 1 1 12 := ⟨by kernel_rfl⟩ -- PtrBytes
instance : FdT Try.prog 150 2 2 104 := ⟨by kernel_rfl⟩ -- Hash
instance : FdT Try.prog 150 3 3 143 := ⟨by kernel_rfl⟩ -- TFlag
instance : FdT Try.prog 150 4 4 5 := ⟨by kernel_rfl⟩ -- Align_
instance : FdT Try.prog 150 5 5 5 := ⟨by kernel_rfl⟩ -- FieldAlign_
instance : FdT Try.prog 150 6 6 144 := ⟨by kernel_rfl⟩ -- Kind_
instance : FdT Try.prog 150 7 7 145 := ⟨by kernel_rfl⟩ -- Equal
instance : FdT Try.prog 150 8 8 146 := ⟨by kernel_rfl⟩ -- GCData
instance : FdT Try.prog 150 9 9 147 := ⟨by kernel_rfl⟩ -- Str
instance : FdT Try.prog 150 10 10 148 := ⟨by kernel_rfl⟩ -- PtrToThis
-- 151: unsafe.Pointer (1)
instance : PlT Try.prog 151 := ⟨by kernel_rfl⟩
instance : OneT Try.prog 151 := ⟨by kernel_rfl⟩
instance : ZrT Try.prog 151 [(.pointer none)] := ⟨by kernel_rfl, by kernel_rfl⟩
end Go.Proofs.Ytgmgmkhenhaniaa

set_option linter.unusedSimpArgs false
set_option linter.unusedVariables false
set_option linter.unnecessarySimpa false
set_option maxRecDepth 100000
set_option maxHeartbeats 4000000
namespace Go.Proofs.Ytgmgmkhenhaniaa
open Go.AM
variable {h g : Heap}
/-! ### data -/
structure Stp where
  frm : Int
  inp : Int
  out : Int
  to : Int
  deriving DecidableEq
instance : Flat Stp := ⟨4, fun t => [.int .i64 t.frm, .int .i64 t.inp, .int .i64 t.out, .int .i64 t.to], fun _ => rfl, fun _ => rfl⟩
instance : Df Stp := ⟨⟨0, 0, 0, 0⟩⟩
structure Mut where
  kind : Int
  step : Int
  to : Int
  deriving DecidableEq
instance : Flat Mut := ⟨3, fun t => [.int .i64 t.kind, .int .i64 t.step, .int .i64 t.to], fun _ => rfl, fun _ => rfl⟩
instance : Df Mut := ⟨⟨0, 0, 0⟩⟩
structure Pr where
  a : Int
  b : Int
  deriving DecidableEq
instance : Flat Pr := ⟨2, fun t => [.int .i64 t.a, .int .i64 t.b], fun _ => rfl, fun _ => rfl⟩
instance : Df Pr := ⟨⟨0, 0⟩⟩
instance : ArT Try.prog 77 2 := ⟨3, by kernel_rfl, by kernel_rfl⟩
structure Mach where
  states : Int
  inputs : Int
  outputs : Int
  start : Int
  steps : List Stp
  deriving DecidableEq
def MacV (h : Heap) (v : Value) (x : Mach) : Prop := ∃ tv, v = .agg #[.int .i64 x.states, .int .i64 x.inputs, .int .i64 x.outputs, .int .i64 x.start, tv] ∧ L h tv x.steps
theorem MacV.mono {h h' : Heap} {v : Value} {x : Mach} (s : MacV h v x) (hs : Stab h h') : MacV h' v x := by
  obtain ⟨tv, e, l⟩ := s
  exact ⟨tv, e, l.mono hs⟩
/-! ### made values -/
theorem bd24_z  : aBuild Try.prog 24 [] = some (.agg #[(.int .i64 0), (.int .i64 0), (.int .i64 0), (.int .i64 0), (.slice none 0 0)]) := by kernel_rfl
theorem bd77_01 (a b : Int) : aBuild Try.prog 77 [(0, .int .i64 a), (1, .int .i64 b)] = some (fv (⟨a, b⟩ : Pr)) := by kernel_rfl
theorem bs36_0  (h : Heap) : aBuildSlice Try.prog 56 0 [] h = some (.slice (some ⟨h.length, 0, none⟩) 0 1, newArr h [] 2) := by kernel_rfl
theorem bs22_0  (h : Heap) : aBuildSlice Try.prog 22 0 [] h = some (.slice (some ⟨h.length, 0, none⟩) 0 1, newArr h [] 4) := by kernel_rfl
theorem bs51_1 (o1 : Option Addr) (no1 co1 : Nat) (h : Heap) : aBuildSlice Try.prog 91 1 [(0, (.slice o1 no1 co1))] h = some (.slice (some ⟨h.length, 0, none⟩) 1 2, newArr h [(.slice o1 no1 co1)] 1) := by kernel_rfl
theorem bs27_0  (h : Heap) : aBuildSlice Try.prog 25 0 [] h = some (.slice (some ⟨h.length, 0, none⟩) 0 1, newArr h [] 3) := by kernel_rfl
theorem bs53_2 (a1 : Int) (a2 : Int) (h : Heap) : aBuildSlice Try.prog 37 2 [(0, (.int .i64 a1)), (1, (.int .i64 a2))] h = some (.slice (some ⟨h.length, 0, none⟩) 2 3, newArr h [(.int .i64 a1), (.int .i64 a2)] 1) := by kernel_rfl
theorem bs141_3 (a1 : Int) (a2 : Int) (a3 : Int) (h : Heap) : aBuildSlice Try.prog 94 3 [(0, (.int .i64 a1)), (1, (.int .i64 a2)), (2, (.int .i64 a3))] h = some (.slice (some ⟨h.length, 0, none⟩) 3 4, newArr h [(.int .i64 a1), (.int .i64 a2), (.int .i64 a3)] 1) := by kernel_rfl
theorem bs53_3 (a1 : Int) (a2 : Int) (a3 : Int) (h : Heap) : aBuildSlice Try.prog 37 3 [(0, (.int .i64 a1)), (1, (.int .i64 a2)), (2, (.int .i64 a3))] h = some (.slice (some ⟨h.length, 0, none⟩) 3 4, newArr h [(.int .i64 a1), (.int .i64 a2), (.int .i64 a3)] 1) := by kernel_rfl
theorem bs53_1 (a1 : Int) (h : Heap) : aBuildSlice Try.prog 37 1 [(0, (.int .i64 a1))] h = some (.slice (some ⟨h.length, 0, none⟩) 1 2, newArr h [(.int .i64 a1)] 1) := by kernel_rfl
theorem eq77 (a b : Pr) : eqSt Try.prog 77 (Flat.cells a).toArray (Flat.cells b).toArray = cond (a.a == b.a) (cond (a.b == b.b) (some true) (some false)) (some false) := by kernel_rfl
theorem eq77' (a b : Pr) : eqSt Try.prog 77 (Flat.cells a).toArray (Flat.cells b).toArray = some (decide (a = b)) := by
  rw [eq77]
  obtain ⟨a1, a2⟩ := a; obtain ⟨b1, b2⟩ := b
  simp only [Pr.mk.injEq]
  by_cases h1 : a1 = b1 <;> by_cases h2 : a2 = b2 <;> simp [h1, h2, beq_eq_false_iff_ne.mpr]
theorem prq_i {K : Value → Heap → Prop} {a b : Pr} (h1 : a = b → K (.bool true) g) (h2 : ¬ a = b → K (.bool false) g) : vK (aBin Try.prog .eql 77 (fv a) (fv b)) g K := by
  refine vk_i (v := .bool (decide (a = b))) (by show (eqSt Try.prog 77 (Flat.cells a).toArray (Flat.cells b).toArray).map Value.bool = _; rw [eq77']; rfl) ?_
  by_cases e : a = b
  · subst e; simpa using h1 rfl
  · rw [decide_eq_false e]; exact h2 e
theorem vb_mac {h1 : Heap} {y : Value} {l : List Stp} {a b c d : Int} {Q : Prop} [S : Stb h1 h] (s : L h1 y l) (hq : Q) : VB h.length (.agg #[.int .i64 a, .int .i64 b, .int .i64 c, .int .i64 d, y]) ∧ Q := by
  refine ⟨fun q hc => ?_, hq⟩
  have hv := (s.mono S.st).vb
  obtain ⟨b', q', rfl, _⟩ := s.shape
  simp at hc
  rcases hc with rfl | rfl | rfl | rfl | rfl
  · trivial
  · trivial
  · trivial
  · trivial
  · exact hv
/-! ### small functions -/
theorem c48 (n lo hi : Int) : Runs Try.prog 54 [.int .i64 n, .int .i64 lo, .int .i64 hi] h (.bool (decide (lo ≤ n ∧ n ≤ hi))) h := by
  refine DetP.runs (w48 ?_)
  unfold n48
  ((with_reducible (refine mv_i ?_; refine mv_i ?_; refine mv_i ?_; refine leq_i (fun hc => ?_) (fun hc => ?_); refine mv_i ?_; refine gd_tt ?_; refine mv_i ?_; refine gd_tt ?_; refine mv_i ?_; refine gd_tt ?_; refine leq_i (fun hc => ?_) (fun hc => ?_); refine pick_t ?_; refine mv_i ?_; refine ret1 ?_)); (rotate_left); (with_reducible (refine pick_t ?_; refine mv_i ?_; refine ret1 ?_)); (rotate_left); (with_reducible (refine mv_i ?_; refine gd_ft ?_; refine gd_ft ?_; refine gd_ft ?_; refine pick_f ?_; refine mv_i ?_; refine ret1 ?_)); (rotate_left))
  all_goals exact ⟨by first | (simp_all; done) | (simp_all; omega), rfl⟩
theorem c53 (n lo hi : Int) : Runs Try.prog 42 [.int .i64 n, .int .i64 lo, .int .i64 hi] h (.bool (decide (lo ≤ n ∧ n ≤ hi))) h := by
  refine DetP.runs (w53 ?_)
  unfold n53
  ((with_reducible (refine mv_i ?_; refine mv_i ?_; refine mv_i ?_; refine leq_i (fun hc => ?_) (fun hc => ?_); refine mv_i ?_; refine gd_tt ?_; refine mv_i ?_; refine gd_tt ?_; refine mv_i ?_; refine gd_tt ?_; refine leq_i (fun hc => ?_) (fun hc => ?_); refine pick_t ?_; refine mv_i ?_; refine ret1 ?_)); (rotate_left); (with_reducible (refine pick_t ?_; refine mv_i ?_; refine ret1 ?_)); (rotate_left); (with_reducible (refine mv_i ?_; refine gd_ft ?_; refine gd_ft ?_; refine gd_ft ?_; refine pick_f ?_; refine mv_i ?_; refine ret1 ?_)); (rotate_left))
  all_goals exact ⟨by first | (simp_all; done) | (simp_all; omega), rfl⟩
theorem c96 (n lo hi : Int) : Runs Try.prog 58 [.int .i64 n, .int .i64 lo, .int .i64 hi] h (.bool (decide (lo ≤ n ∧ n ≤ hi))) h := by
  refine DetP.runs (w96 ?_)
  unfold n96
  ((with_reducible (refine mv_i ?_; refine mv_i ?_; refine mv_i ?_; refine leq_i (fun hc => ?_) (fun hc => ?_); refine mv_i ?_; refine gd_tt ?_; refine mv_i ?_; refine gd_tt ?_; refine mv_i ?_; refine gd_tt ?_; refine leq_i (fun hc => ?_) (fun hc => ?_); refine pick_t ?_; refine mv_i ?_; refine ret1 ?_)); (rotate_left); (with_reducible (refine pick_t ?_; refine mv_i ?_; refine ret1 ?_)); (rotate_left); (with_reducible (refine mv_i ?_; refine gd_ft ?_; refine gd_ft ?_; refine gd_ft ?_; refine pick_f ?_; refine mv_i ?_; refine ret1 ?_)); (rotate_left))
  all_goals exact ⟨by first | (simp_all; done) | (simp_all; omega), rfl⟩
theorem c72 (b : Bool) : Runs Try.prog 32 [.bool b] h (.int .i64 (if b then 1 else 0)) h := by
  refine DetP.runs (w72 ?_)
  unfold n72
  ((with_reducible (refine mv_i ?_; refine mv_i ?_; refine cnd_b (fun hb => ?_) (fun hb => ?_); refine mv_i ?_; refine ret1 ?_)); (rotate_left); (with_reducible (refine mv_i ?_; refine ret1 ?_)); (rotate_left))
  all_goals exact ⟨by first | (simp_all; done) | (simp_all; omega), rfl⟩
theorem c72t : Runs Try.prog 32 [.bool true] h (.int .i64 1) h := c72 true
theorem c72f : Runs Try.prog 32 [.bool false] h (.int .i64 0) h := c72 false
theorem mul_j {K : Value → Heap → Prop} {t : TypeId} {a b : Int} (h1 : -9223372036854775808 ≤ a * b) (h2 : a * b < 9223372036854775808) (hk : K (.int .i64 (a * b)) h) : vK (aBin Try.prog .mul t (.int .i64 a) (.int .i64 b)) h K := by
  refine mul_w ?_
  rw [wrap_i h1 h2]; exact hk
def unl (b : Bool) (e : Int) : Int := if b then 0 else e
theorem c77 (b : Bool) (e : Int) : Runs Try.prog 37 [.bool b, .int .i64 e] h (.int .i64 (unl b e)) h := by
  refine DetP.runs (w77 ?_)
  unfold n77
  ((with_reducible (refine mv_i ?_; refine mv_i ?_; refine cnd_b (fun hb => ?_) (fun hb => ?_); refine mv_i ?_; refine ret1 ?_)); (rotate_left); (with_reducible (refine mv_i ?_; refine mv_i ?_; refine ret1 ?_)); (rotate_left))
  all_goals exact ⟨by simp_all [unl], rfl⟩
theorem c91 (b : Bool) (e : Int) : Runs Try.prog 50 [.bool b, .int .i64 e] h (.int .i64 (unl b e)) h := by
  refine DetP.runs (w91 ?_)
  unfold n91
  ((with_reducible (refine mv_i ?_; refine mv_i ?_; refine cnd_b (fun hb => ?_) (fun hb => ?_); refine mv_i ?_; refine ret1 ?_)); (rotate_left); (with_reducible (refine mv_i ?_; refine mv_i ?_; refine ret1 ?_)); (rotate_left))
  all_goals exact ⟨by simp_all [unl], rfl⟩
theorem c107 (a : Int) : Runs Try.prog 69 [.int .i64 a] h (.bool false) h := by
  refine DetP.runs (w107 ?_)
  unfold n107
  ((with_reducible (refine mv_i ?_; refine mv_i ?_; refine mv_i ?_; refine neq_i (fun hc => ?_) (fun hc => ?_); refine mv_i ?_; refine ret1 ?_)); (rotate_left); (with_reducible (refine mv_i ?_; refine ret1 ?_)); (rotate_left))
  all_goals first | exact ⟨rfl, rfl⟩ | (exfalso; simp_all; done)
def cmpI (a b : Int) : Int := if a < b then -1 else if b < a then 1 else 0
theorem c81 (a b : Int) : Runs Try.prog 41 [.int .i64 a, .int .i64 b] h (.int .i64 (cmpI a b)) h := by
  refine DetP.runs (w81 ?_)
  unfold n81
  ((with_reducible (refine mv_i ?_; refine mv_i ?_)); (refine call_r (c107 _) ?_); (with_reducible (refine mv_i ?_; refine mv_i ?_)); (refine call_r (c107 _) ?_); (with_reducible (refine mv_i ?_; refine mv_i ?_; refine cnd_f ?_; refine mv_i ?_; refine cnd_f ?_; refine mv_i ?_; refine mv_i ?_; refine lss_i (fun hc => ?_) (fun hc => ?_); refine cnd_t ?_; refine mv_i ?_; refine ret1 ?_)); (rotate_left); (with_reducible (refine cnd_f ?_; refine mv_i ?_; refine mv_i ?_; refine gtr_i (fun hc => ?_) (fun hc => ?_); refine cnd_t ?_; refine mv_i ?_; refine ret1 ?_)); (rotate_left); (with_reducible (refine cnd_f ?_; refine mv_i ?_; refine ret1 ?_)); (rotate_left))
  all_goals exact ⟨by unfold cmpI; simp_all <;> omega, rfl⟩
theorem c76 {x : Value} {xs : List Int} (s : IntS h x xs) : Runs Try.prog 36 [x] h (.int .i64 (orOf xs)) h := by
  have lt := s.lt
  refine DetP.runs (w76 ?_)
  unfold n76
  ((with_reducible (refine mv_i ?_; refine mv_i ?_; refine mv_i ?_; refine leni_t (by assumption) ?_; refine mv_i ?_)))
  refine loop1 xs.length (fun k h2 => h = h2 ∧ ∀ j, j < k → xs.getD j 0 = 0) ⟨rfl, fun j hj => by omega⟩ ?_
  rintro k _ _ hk ⟨rfl, hJ⟩
  ((with_reducible (refine lss_i (fun hc => ?_) (fun hc => ?_); refine cnd_t ?_)); (refine idxi_t (by assumption) (by omega) ?_); (refine ldi_t (by assumption) (by omega) ?_); (with_reducible (refine mv_i ?_; refine mv_i ?_; refine mv_i ?_; refine neq_i (fun hc => ?_) (fun hc => ?_); refine cnd_f ?_; refine inc_i (by omega) ?_; refine mv_i ?_)); (rotate_left); (with_reducible (refine cnd_t ?_; refine mv_i ?_; refine mv_i ?_; refine ret1 ?_)); (rotate_left); (with_reducible (refine cnd_f ?_; refine mv_i ?_; refine mv_i ?_; refine ret1 ?_)); (rotate_left))
  · refine next1 (by omega) ⟨rfl, fun j hj => ?_⟩
    by_cases q : j = k
    · subst q; assumption
    · exact hJ j (by omega)
  · exact ⟨by rw [orOf_at (by omega) hJ (by assumption)], rfl⟩
  · exact ⟨by rw [orOf_no fun j hj => hJ j (by omega)], rfl⟩
theorem c80 {x : Value} {xs : List Int} (s : IntS h x xs) : Runs Try.prog 40 [x] h (.int .i64 (orOf xs)) h := by
  have lt := s.lt
  refine DetP.runs (w80 ?_)
  unfold n80
  ((with_reducible (refine mv_i ?_; refine mv_i ?_; refine mv_i ?_; refine leni_t (by assumption) ?_; refine mv_i ?_)))
  refine loop1 xs.length (fun k h2 => h = h2 ∧ ∀ j, j < k → xs.getD j 0 = 0) ⟨rfl, fun j hj => by omega⟩ ?_
  rintro k _ _ hk ⟨rfl, hJ⟩
  ((with_reducible (refine lss_i (fun hc => ?_) (fun hc => ?_); refine cnd_t ?_)); (refine idxi_t (by assumption) (by omega) ?_); (refine ldi_t (by assumption) (by omega) ?_); (with_reducible (refine mv_i ?_; refine mv_i ?_; refine mv_i ?_; refine neq_i (fun hc => ?_) (fun hc => ?_); refine cnd_f ?_; refine inc_i (by omega) ?_; refine mv_i ?_)); (rotate_left); (with_reducible (refine cnd_t ?_; refine mv_i ?_; refine mv_i ?_; refine ret1 ?_)); (rotate_left); (with_reducible (refine cnd_f ?_; refine mv_i ?_; refine mv_i ?_; refine ret1 ?_)); (rotate_left))
  · refine next1 (by omega) ⟨rfl, fun j hj => ?_⟩
    by_cases q : j = k
    · subst q; assumption
    · exact hJ j (by omega)
  · exact ⟨by rw [orOf_at (by omega) hJ (by assumption)], rfl⟩
  · exact ⟨by rw [orOf_no fun j hj => hJ j (by omega)], rfl⟩
def cmpM (a b : Mut) : Int := orOf [cmpI a.kind b.kind, cmpI a.step b.step, cmpI a.to b.to]
theorem c46 (a b : Mut) : Runs Try.prog 18 [fv a, fv b] h (.int .i64 (cmpM a b)) h := by
  have m := Mem.start h
  refine DetP.forget rfl ?_
  refine w46 ?_
  unfold n46
  ((with_reducible (refine box_a (by assumption) fun i h z p m => ?_; refine box_a (by assumption) fun i h z p m => ?_; refine mv_i ?_; refine fao ?_)); (refine ldoA ?_); (refine vbA ?_); (with_reducible (refine fao ?_)); (refine ldoA ?_); (refine vbA ?_); (refine calld_r (c81 _ _) ?_); (with_reducible (refine new_n ?_; refine fao ?_)); (refine ldoA ?_); (refine vbA ?_); (with_reducible (refine fao ?_)); (refine ldoA ?_); (refine vbA ?_); (refine calld_r (c81 _ _) ?_); (with_reducible (refine new_n ?_; refine fao ?_)); (refine ldoA ?_); (refine vbA ?_); (with_reducible (refine fao ?_)); (refine ldoA ?_); (refine vbA ?_); (refine calld_r (c81 _ _) ?_); (with_reducible (refine new_n ?_)); (refine bs_g (bs141_3 _ _ _ _) (by assumption) fun i h p m => ?_); (refine calld_r (c80 (own_ints (xs := [_, _, _]) (by assumption) (q := by infer_instance) rfl rfl (by decide))) ?_); (with_reducible (refine new_n ?_; refine mv_i ?_; refine ret1 ?_)))
  exact ⟨rfl, Mem.pre (by assumption)⟩
def cmpP (a b : Pr) : Int := orOf [cmpI a.a b.a, cmpI a.b b.b]
theorem c49 (a b : Pr) : Runs Try.prog 48 [fv a, fv b] h (.int .i64 (cmpP a b)) h := by
  have m := Mem.start h
  refine DetP.forget rfl ?_
  refine w49 ?_
  unfold n49
  ((with_reducible (refine box_a (by assumption) fun i h z p m => ?_; refine box_a (by assumption) fun i h z p m => ?_; refine mv_i ?_)); (refine ia_o (by omega) (by omega) ?_); (refine ldoA ?_); (refine vbA ?_); (refine ia_o (by omega) (by omega) ?_); (refine ldoA ?_); (refine vbA ?_); (refine calld_r (c81 _ _) ?_); (with_reducible (refine new_n ?_)); (refine ia_o (by omega) (by omega) ?_); (refine ldoA ?_); (refine vbA ?_); (refine ia_o (by omega) (by omega) ?_); (refine ldoA ?_); (refine vbA ?_); (refine calld_r (c81 _ _) ?_); (with_reducible (refine new_n ?_)); (refine bs_g (bs53_2 _ _ _) (by assumption) fun i h p m => ?_); (refine calld_r (c80 (own_ints (xs := [_, _]) (by assumption) (q := by infer_instance) rfl rfl (by decide))) ?_); (with_reducible (refine new_n ?_; refine mv_i ?_; refine ret1 ?_)))
  exact ⟨rfl, Mem.pre (by assumption)⟩
end Go.Proofs.Ytgmgmkhenhaniaa

set_option linter.unusedSimpArgs false
set_option linter.unusedVariables false
set_option linter.unnecessarySimpa false
set_option maxRecDepth 100000
set_option maxHeartbeats 4000000
namespace Go.Proofs.Ytgmgmkhenhaniaa
open Go.AM
variable {h g : Heap}
/-! ### the first error, the first index -/
def firstErr (f : Nat → Int) : Nat → Nat × Int
  | 0 => (0, 0)
  | n + 1 => if (firstErr f n).2 ≠ 0 then firstErr f n else if f n ≠ 0 then (n, f n) else (0, 0)
theorem firstErr_no {f : Nat → Int} {n : Nat} (hf : ∀ j, j < n → f j = 0) : firstErr f n = (0, 0) := by
  induction n with
  | zero => rfl
  | succ n ih =>
    unfold firstErr
    rw [ih fun j hj => hf j (by omega), hf n (by omega)]
    simp
theorem firstErr_at {f : Nat → Int} {n k : Nat} (hf : ∀ j, j < k → f j = 0) (hk : k < n) (he : f k ≠ 0) : firstErr f n = (k, f k) := by
  induction n with
  | zero => omega
  | succ n ih =>
    unfold firstErr
    by_cases q : k = n
    · subst q; rw [firstErr_no hf]; simp [he]
    · rw [ih (by omega)]; simp [he]
theorem firstErr_zero {f : Nat → Int} {n : Nat} (h0 : (firstErr f n).2 = 0) : ∀ j, j < n → f j = 0 := by
  induction n with
  | zero => intro j hj; omega
  | succ n ih =>
    unfold firstErr at h0
    split at h0
    · contradiction
    · rename_i h1
      split at h0
      · contradiction
      · rename_i h2
        intro j hj
        by_cases q : j = n
        · subst q; simpa using h2
        · exact ih (by simpa using h1) j (by omega)
theorem up_no {f : Nat → Int} {k : Nat} (hE : f k = 0) (hJ : ∀ j, j < k → f j = 0) : ∀ j, j < k + 1 → f j = 0 := by
  intro j hj
  by_cases q : j = k
  · subst q; exact hE
  · exact hJ j (by omega)
def idxOf {α : Type} (p : α → Bool) : List α → Int
  | [] => -1
  | t :: l => if p t = true then 0 else if idxOf p l < 0 then -1 else idxOf p l + 1
theorem idxOf_no {α : Type} [Df α] {p : α → Bool} {l : List α} (hf : ∀ j, j < l.length → p (gt l j) = false) : idxOf p l = -1 := by
  induction l with
  | nil => rfl
  | cons t l ih =>
    unfold idxOf
    have h0 := hf 0 (by simp)
    rw [show gt (t :: l) 0 = t from rfl] at h0
    rw [if_neg (by simp [h0]), ih fun j hj => hf (j + 1) (by simpa using hj)]
    rfl
theorem idxOf_at {α : Type} [Df α] {p : α → Bool} {l : List α} {k : Nat} (hf : ∀ j, j < k → p (gt l j) = false) (hk : k < l.length) (he : p (gt l k) = true) : idxOf p l = k := by
  induction l generalizing k with
  | nil => simp at hk
  | cons t l ih =>
    unfold idxOf
    cases k with
    | zero => rw [if_pos (by simpa [gt] using he)]; rfl
    | succ k =>
      have h0 := hf 0 (by omega)
      rw [show gt (t :: l) 0 = t from rfl] at h0
      rw [if_neg (by simp [h0]), ih (k := k) (fun j hj => hf (j + 1) (by omega)) (by simpa using hk) he]
      rw [if_neg (by omega)]
      push_cast; rfl
theorem idxOf_spec {α : Type} [Df α] (p : α → Bool) : ∀ (l : List α), (idxOf p l = -1 ∧ ∀ t ∈ l, p t = false) ∨ ∃ k, k < l.length ∧ idxOf p l = (k : Int) ∧ p (gt l k) = true ∧ ∀ j, j < k → p (gt l j) = false
  | [] => .inl ⟨rfl, fun t ht => by cases ht⟩
  | t :: l => by
    unfold idxOf
    by_cases e : p t = true
    · rw [if_pos e]
      exact .inr ⟨0, by simp, rfl, e, fun j hj => by omega⟩
    · rw [if_neg e]
      rcases idxOf_spec p l with ⟨e1, e2⟩ | ⟨k, h1, h2, h3, h4⟩
      · rw [e1, if_pos (by decide)]
        exact .inl ⟨rfl, fun u hu => by rcases List.mem_cons.mp hu with rfl | hu; simpa using e; exact e2 u hu⟩
      · rw [h2, if_neg (by omega)]
        refine .inr ⟨k + 1, by simpa using h1, by push_cast; rfl, h3, fun j hj => ?_⟩
        cases j with
        | zero => simpa [gt] using e
        | succ j => exact h4 j (by omega)
/-- Whether there is one. -/
theorem idxOf_any {α : Type} [Df α] (p : α → Bool) (l : List α) : 0 ≤ idxOf p l ↔ l.any p = true := by
  rcases idxOf_spec p l with ⟨e, h⟩ | ⟨k, h1, h2, h3, _⟩
  · rw [e, List.any_eq_true]
    constructor
    · intro q; omega
    · rintro ⟨t, ht, q⟩; rw [h t ht] at q; cases q
  · rw [h2, List.any_eq_true]
    exact ⟨fun _ => ⟨_, gd_mem _ h1, h3⟩, fun _ => by omega⟩
/-! ### a machine's error -/
def lexLt (a b : Stp) : Prop := a.frm < b.frm ∨ a.frm = b.frm ∧ a.inp < b.inp
instance (a b : Stp) : Decidable (lexLt a b) := by unfold lexLt; infer_instance
def inR (x : Mach) (s : Stp) : Prop := (0 ≤ s.frm ∧ s.frm ≤ x.states - 1) ∧ (0 ≤ s.to ∧ s.to ≤ x.states - 1) ∧ (0 ≤ s.inp ∧ s.inp ≤ x.inputs - 1) ∧ (0 ≤ s.out ∧ s.out ≤ x.outputs - 1)
instance (x : Mach) (s : Stp) : Decidable (inR x s) := by unfold inR; infer_instance
def stE (x : Mach) (k : Nat) : Int := if ¬ inR x (gt x.steps k) then 3 else if 0 < k ∧ ¬ lexLt (gt x.steps (k - 1)) (gt x.steps k) then 14 else 0
def headOK (x : Mach) : Prop := (1 ≤ x.states ∧ x.states ≤ 40) ∧ (1 ≤ x.inputs ∧ x.inputs ≤ 8) ∧ (1 ≤ x.outputs ∧ x.outputs ≤ 8) ∧ (0 ≤ x.start ∧ x.start ≤ x.states - 1)
instance (x : Mach) : Decidable (headOK x) := by unfold headOK; infer_instance
def chkM (x : Mach) : Nat × Int := if ¬ headOK x then (0, 3) else if x.states * x.inputs < x.steps.length then (0, 2) else firstErr (stE x) x.steps.length
/-- Lists of numbers in order. -/
def cmpL : List Int → List Int → Int
  | [], [] => 0
  | [], _ :: _ => -1
  | _ :: _, [] => 1
  | a :: l, b :: m => if a = b then cmpL l m else if b < a then 1 else -1
theorem cmpL_drop : ∀ (xs ys : List Int) (k : Nat), (∀ j, j < k → j < xs.length ∧ j < ys.length ∧ xs.getD j 0 = ys.getD j 0) → cmpL xs ys = cmpL (xs.drop k) (ys.drop k)
  | _, _, 0, _ => rfl
  | [], _, k + 1, hh => by have := (hh 0 (by omega)).1; simp at this
  | _ :: _, [], k + 1, hh => by have := (hh 0 (by omega)).2.1; simp at this
  | a :: l, b :: m, k + 1, hh => by
    have h0 := (hh 0 (by omega)).2.2
    simp at h0
    rw [cmpL, if_pos h0, List.drop_succ_cons, List.drop_succ_cons]
    exact cmpL_drop l m k fun j hj => by
      have := hh (j + 1) (by omega)
      simp only [List.length_cons, List.getD_cons_succ] at this
      exact ⟨by omega, by omega, this.2.2⟩
theorem cmpL_at {xs ys : List Int} {k : Nat} (h1 : k < xs.length) (h2 : k < ys.length) : cmpL (xs.drop k) (ys.drop k) = if xs.getD k 0 = ys.getD k 0 then cmpL (xs.drop (k + 1)) (ys.drop (k + 1)) else if ys.getD k 0 < xs.getD k 0 then 1 else -1 := by
  rw [List.drop_eq_getElem_cons h1, List.drop_eq_getElem_cons h2]
  simp [cmpL, List.getD, h1, h2]
theorem cmpL_end {xs ys : List Int} {k : Nat} (h : ¬ (k < xs.length ∧ k < ys.length)) : cmpL (xs.drop k) (ys.drop k) = if k < xs.length then 1 else if k < ys.length then -1 else 0 := by
  by_cases h1 : k < xs.length
  · rw [if_pos h1, List.drop_eq_nil_of_le (show ys.length ≤ k by omega), List.drop_eq_getElem_cons h1]; rfl
  · rw [if_neg h1, List.drop_eq_nil_of_le (show xs.length ≤ k by omega)]
    by_cases h2 : k < ys.length
    · rw [if_pos h2, List.drop_eq_getElem_cons h2]; rfl
    · rw [if_neg h2, List.drop_eq_nil_of_le (show ys.length ≤ k by omega)]; rfl
theorem c54 {x y : Value} {xs ys : List Int} (s : IntS h x xs) (t : IntS h y ys) : Runs Try.prog 20 [x, y] h (.int .i64 (cmpL xs ys)) h := by
  have lt := s.lt
  have lt2 := t.lt
  refine DetP.runs (w54 ?_)
  unfold n54
  ((with_reducible (refine mv_i ?_; refine mv_i ?_)))
  refine loop1 xs.length (fun k h2 => h = h2 ∧ ∀ j, j < k → j < xs.length ∧ j < ys.length ∧ xs.getD j 0 = ys.getD j 0) ⟨rfl, fun j hj => by omega⟩ ?_
  rintro k _ _ hk ⟨rfl, hJ⟩
  have hd := cmpL_drop xs ys k hJ
  ((with_reducible (refine mv_i ?_; refine mv_i ?_; refine leni_t (by assumption) ?_; refine lss_i (fun hc => ?_) (fun hc => ?_); refine mv_i ?_; refine gd_tt ?_; refine mv_i ?_; refine gd_tt ?_; refine mv_i ?_; refine gd_tt ?_; refine leni_t (by assumption) ?_; refine gd_tt ?_; refine lss_i (fun hc => ?_) (fun hc => ?_); refine pick_t ?_; refine cnd_t ?_; refine mv_i ?_; refine mv_i ?_)); (refine idxi_t (by assumption) (by omega) ?_); (refine ldi_t (by assumption) (by omega) ?_); (refine vbA ?_); (with_reducible (refine mv_i ?_; refine mv_i ?_)); (refine idxi_t (by assumption) (by omega) ?_); (refine ldi_t (by assumption) (by omega) ?_); (refine vbA ?_); (with_reducible (refine neq_i (fun hc => ?_) (fun hc => ?_); refine cnd_f ?_; refine mv_i ?_; refine inc_i (by omega) ?_; refine mv_i ?_)); (rotate_left); (with_reducible (refine cnd_t ?_; refine mv_i ?_; refine mv_i ?_)); (refine idxi_t (by assumption) (by omega) ?_); (refine ldi_t (by assumption) (by omega) ?_); (refine vbA ?_); (with_reducible (refine mv_i ?_; refine mv_i ?_)); (refine idxi_t (by assumption) (by omega) ?_); (refine ldi_t (by assumption) (by omega) ?_); (refine vbA ?_); (with_reducible (refine gtr_i (fun hc => ?_) (fun hc => ?_))); (refine calld_r c72t ?_); (with_reducible (refine new_n ?_)); (refine mul_j (by omega) (by omega) ?_); (with_reducible (refine sub_j (by omega) (by omega) ?_; refine mv_i ?_; refine ret1 ?_)); (rotate_left); (refine calld_r c72f ?_); (with_reducible (refine new_n ?_)); (refine mul_j (by omega) (by omega) ?_); (with_reducible (refine sub_j (by omega) (by omega) ?_; refine mv_i ?_; refine ret1 ?_)); (rotate_left); (with_reducible (refine pick_t ?_; refine cnd_f ?_; refine mv_i ?_; refine leni_t (by assumption) ?_; refine mv_i ?_; refine leni_t (by assumption) ?_; refine gtr_i (fun hc => ?_) (fun hc => ?_))); (refine call_r c72t ?_); (with_reducible (refine mv_i ?_; refine leni_t (by assumption) ?_; refine mv_i ?_; refine leni_t (by assumption) ?_; refine lss_i (fun hc => ?_) (fun hc => ?_))); (refine call_r c72t ?_); (with_reducible (refine sub_j (by omega) (by omega) ?_; refine mv_i ?_; refine ret1 ?_)); (rotate_left); (refine call_r c72f ?_); (with_reducible (refine sub_j (by omega) (by omega) ?_; refine mv_i ?_; refine ret1 ?_)); (rotate_left); (refine call_r c72f ?_); (with_reducible (refine mv_i ?_; refine leni_t (by assumption) ?_; refine mv_i ?_; refine leni_t (by assumption) ?_; refine lss_i (fun hc => ?_) (fun hc => ?_))); (refine call_r c72t ?_); (with_reducible (refine sub_j (by omega) (by omega) ?_; refine mv_i ?_; refine ret1 ?_)); (rotate_left); (refine call_r c72f ?_); (with_reducible (refine sub_j (by omega) (by omega) ?_; refine mv_i ?_; refine ret1 ?_)); (rotate_left); (with_reducible (refine mv_i ?_; refine gd_ft ?_; refine gd_ft ?_; refine gd_ft ?_; refine gd_ft ?_; refine pick_f ?_; refine cnd_f ?_; refine mv_i ?_; refine leni_t (by assumption) ?_; refine mv_i ?_; refine leni_t (by assumption) ?_; refine gtr_i (fun hc => ?_) (fun hc => ?_))); (refine call_r c72t ?_); (with_reducible (refine mv_i ?_; refine leni_t (by assumption) ?_; refine mv_i ?_; refine leni_t (by assumption) ?_; refine lss_i (fun hc => ?_) (fun hc => ?_))); (refine call_r c72t ?_); (with_reducible (refine sub_j (by omega) (by omega) ?_; refine mv_i ?_; refine ret1 ?_)); (rotate_left); (refine call_r c72f ?_); (with_reducible (refine sub_j (by omega) (by omega) ?_; refine mv_i ?_; refine ret1 ?_)); (rotate_left); (refine call_r c72f ?_); (with_reducible (refine mv_i ?_; refine leni_t (by assumption) ?_; refine mv_i ?_; refine leni_t (by assumption) ?_; refine lss_i (fun hc => ?_) (fun hc => ?_))); (refine call_r c72t ?_); (with_reducible (refine sub_j (by omega) (by omega) ?_; refine mv_i ?_; refine ret1 ?_)); (rotate_left); (refine call_r c72f ?_); (with_reducible (refine sub_j (by omega) (by omega) ?_; refine mv_i ?_; refine ret1 ?_)); (rotate_left))
  · refine next1 (by omega) ⟨rfl, fun j hj => ?_⟩
    by_cases q : j = k
    · subst q; exact ⟨by omega, by omega, hc⟩
    · exact hJ j (by omega)
  all_goals
    refine ⟨?_, rfl⟩
    rw [hd]
    have hk2 : k ≤ ys.length := by
      rcases Nat.eq_zero_or_pos k with q | q
      · omega
      · have := (hJ (k - 1) (by omega)).2.1; omega
    congr 1
    first
      | (rw [cmpL_at (by omega) (by omega), if_neg (by assumption), if_pos (by assumption)]; done)
      | (rw [cmpL_at (by omega) (by omega), if_neg (by assumption), if_pos (by assumption)]; rfl)
      | (rw [cmpL_at (by omega) (by omega), if_neg (by assumption), if_neg (by assumption)]; rfl)
      | (rw [cmpL_end (by omega)]
         split
         · omega
         · split <;> omega)
end Go.Proofs.Ytgmgmkhenhaniaa
