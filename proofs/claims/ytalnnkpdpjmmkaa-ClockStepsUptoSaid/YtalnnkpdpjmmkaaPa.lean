import Derived.Test.YtalnnkpdpjmmkaaAmW
import Derived.Test.YtalnnkpdpjmmkaaProg
import Derived.KernelRfl
import Derived.Test.YtalnnkpdpjmmkaaAmZd
import Derived.Laws.Externs
import Derived.Test.YtalnnkpdpjmmkaaAnC
import Derived.Test.YtalnnkpdpjmmkaaAnE
import Derived.Test.YtalnnkpdpjmmkaaAnD
import Derived.Shelf.Strings.Search2
import Derived.Shelf.Strings.FuncGrows
import Derived.Laws.RangeAny
import Derived.Laws.RangeString
import Derived.Lib.IndexMore
set_option linter.unusedVariables false
set_option maxRecDepth 100000
namespace Go.Proofs.Ytalnnkpdpjmmkaa
open Go.AM

/-! ### examiner/examinerlaw27.few: function 11 -/
def n11 (a0 : Value) (h : Heap) (R : Value → Heap → Prop) : Prop :=
  okK (some (aBox Try.prog 24 a0 h)) fun v1 h =>
  mvK (Value.bool false) h fun v2 h =>
  vK (aFieldAddr Try.prog 24 v1 1) h fun v4 h =>
  vK (aLoad Try.prog 22 v4 h) h fun v5 h =>
  vK (aLen Try.prog 22 v5) h fun v6 h =>
  vK (aBin Try.prog BinOp.gtr 3 v6 (Value.int IntKind.i64 27)) h fun v7 h =>
  cnd v7 (
   mvK (Value.bool false) h fun v2_1 h =>
   retV [some v2_1] R h) (
   mvK (Value.int IntKind.i64 0) h fun v3 h =>
   ∃ (I4 : List Value → Heap → Prop) (μ4 : List Value → Heap → Nat), I4 [v3] h ∧
   ∀ (h4 : Heap) (j4 : Tmps) (v3_1 : Value), I4 [v3_1] h4 → (let h := h4
    mvK v3_1 h fun v8 h =>
    vK (aFieldAddr Try.prog 24 v1 1) h fun v9 h =>
    vK (aLoad Try.prog 22 v9 h) h fun v10 h =>
    vK (aLen Try.prog 22 v10) h fun v11 h =>
    vK (aBin Try.prog BinOp.lss 3 v8 v11) h fun v12 h =>
    cnd v12 (
     vK (aFieldAddr Try.prog 24 v1 1) h fun v15 h =>
     vK (aLoad Try.prog 22 v15 h) h fun v16 h =>
     mvK v3_1 h fun v17 h =>
     vK (aIndexAddr Try.prog 22 v16 v17) h fun v18 h =>
     vK (aFieldAddr Try.prog 44 v18 1) h fun v19 h =>
     vK (aLoad Try.prog 9 v19 h) h fun v20 h =>
     vK (aLen Try.prog 9 v20) h fun v21 h =>
     vK (aBin Try.prog BinOp.gtr 3 v21 (Value.int IntKind.i64 60)) h fun v22 h =>
     cnd v22 (
      mvK (Value.bool false) h fun v2_2 h =>
      retV [some v2_2] R h) (
      mvK v3_1 h fun v13 h =>
      vK (aBin Try.prog BinOp.add 3 v13 (Value.int IntKind.i64 1)) h fun v14 h =>
      mvK v14 h fun v3_2 h =>
      I4 [v3_2] h ∧ μ4 [v3_2] h < μ4 [v3_1] h4)) (
     mvK (Value.bool true) h fun v2_3 h =>
     retV [some v2_3] R h)))
def lv11 (q : Nat) : List Nat := bif Nat.beq q 8 then [8388364, 3] else []
theorem ok11 : lkOK Try.prog lv11 Try.f11 1 (Try.f11.body.getD .skip) 11 = true := by kernel_rfl
theorem e11 (a0 : Value) (h : Heap) (R : Value → Heap → Prop) : n11 a0 h R = wpK Try.prog lv11 (Try.f11.body.getD .skip) (endK Try.prog [.tmp 2] R) (argT [a0]) h := by kernel_rfl
theorem w11 {a0 : Value} {h : Heap} {R : Value → Heap → Prop} (hn : n11 a0 h R) : DetP Try.prog 11 [a0] h R :=
  DetP.of_code (rs := [.tmp 2]) (n := 1) Try.func11 (by kernel_rfl) (by kernel_rfl) lv11 ok11 rfl ((e11 a0 h R) ▸ hn)

/-! ### examiner/clock.CheckClock: function 12 -/
def n12 (a0 : Value) (h : Heap) (R : Value → Heap → Prop) : Prop :=
  okK (some (aBox Try.prog 24 a0 h)) fun v1 h =>
  mvK (Value.int IntKind.i64 0) h fun v2 h =>
  mvK (Value.int IntKind.i64 0) h fun v3 h =>
  vK (aFieldAddr Try.prog 24 v1 0) h fun v8 h =>
  vK (aLoad Try.prog 3 v8 h) h fun v9 h =>
  cK Try.prog 41 [v9, (Value.int IntKind.i64 0), (Value.int IntKind.i64 1099511627776)] h fun v10 h =>
  vK (aUn UnOp.not v10) h fun v11 h =>
  mvK v11 h fun v7 h =>
  cnd v7 (
   mvK (Value.int IntKind.i64 0) h fun v2_1 h =>
   mvK (Value.int IntKind.i64 3) h fun v3_1 h =>
   retV [some v2_1, some v3_1] R h) (
   vK (aFieldAddr Try.prog 24 v1 1) h fun v13 h =>
   vK (aLoad Try.prog 22 v13 h) h fun v14 h =>
   vK (aLen Try.prog 22 v14) h fun v15 h =>
   vK (aBin Try.prog BinOp.gtr 3 v15 (Value.int IntKind.i64 24)) h fun v16 h =>
   mvK v16 h fun v12 h =>
   cnd v12 (
    mvK (Value.int IntKind.i64 0) h fun v2_2 h =>
    mvK (Value.int IntKind.i64 2) h fun v3_2 h =>
    retV [some v2_2, some v3_2] R h) (
    vK (aFieldAddr Try.prog 24 v1 1) h fun v17 h =>
    vK (aLoad Try.prog 22 v17 h) h fun v18 h =>
    vK (aLen Try.prog 22 v18) h fun v19 h =>
    mvK (Value.int IntKind.i64 0) h fun v20 h =>
    ∃ (I6 : List Value → Heap → Prop) (μ6 : List Value → Heap → Nat), I6 [v20] h ∧
    ∀ (h6 : Heap) (j6 : Tmps) (v20_1 : Value), I6 [v20_1] h6 → (let h := h6
     vK (aBin Try.prog BinOp.lss 3 v20_1 v19) h fun v21 h =>
     cnd v21 (
      mvK v20_1 h fun v22 h =>
      vK (aIndexAddr Try.prog 22 v18 v20_1) h fun v23 h =>
      vK (aLoad Try.prog 44 v23 h) h fun v24 h =>
      okK (aAlloc Try.prog 44 h) fun v5 h =>
      mvK v22 h fun v4 h =>
      okK ((aStore Try.prog 44 v5 v24 h).map (undef, ·)) fun _ h =>
      vK (aFieldAddr Try.prog 44 v5 0) h fun v25 h =>
      vK (aLoad Try.prog 3 v25 h) h fun v26 g =>
      VB h.length v26 ∧ (let h := g
       cKD Try.prog 43 [v26] h fun v27 g =>
       (∃ new, g = h ++ new) ∧ (let h := g
        vK (aFieldAddr Try.prog 44 v5 1) h fun v28 h =>
        vK (aLoad Try.prog 9 v28 h) h fun v29 g =>
        VB h.length v29 ∧ (let h := g
         cKD Try.prog 44 [v29] h fun v30 g =>
         (∃ new, g = h ++ new) ∧ (let h := g
          okK (aBuildSlice Try.prog 88 2 [(0, v27), (1, v30)] h) fun v31 h =>
          cKD Try.prog 42 [v31] h fun v32 g =>
          (∃ new, g = h ++ new) ∧ (let h := g
           mvK v32 h fun v6 h =>
           seqK (fun k0 =>
            mvK v6 h fun v33 h =>
            vK (aBin Try.prog BinOp.eql 27 v33 (Value.int IntKind.i64 0)) h fun v34 h =>
            mvK v34 h fun v35 h =>
            gdK v35 true (fun k1 =>
             mvK v4 h fun v36 h =>
             k1 v36 h) (fun v36_1 h =>
             gdK v35 true (fun k2 =>
              vK (aBin Try.prog BinOp.gtr 3 v36_1 (Value.int IntKind.i64 0)) h fun v37 h =>
              k2 v37 h) (fun v37_1 h =>
              vK (pickV v35 v37_1 (Value.bool false)) h fun v38 h =>
              mvK v38 h fun v39 h =>
              gdK v39 true (fun k3 =>
               vK (aFieldAddr Try.prog 24 v1 1) h fun v40 h =>
               k3 v40 h) (fun v40_1 h =>
               gdK v39 true (fun k4 =>
                vK (aLoad Try.prog 22 v40_1 h) h fun v41 g =>
                VB h.length v41 ∧ (let h := g
                 k4 v41 h)) (fun v41_1 h =>
                gdK v39 true (fun k5 =>
                 mvK v4 h fun v42 h =>
                 k5 v42 h) (fun v42_1 h =>
                 gdK v39 true (fun k6 =>
                  vK (aBin Try.prog BinOp.sub 3 v42_1 (Value.int IntKind.i64 1)) h fun v43 h =>
                  k6 v43 h) (fun v43_1 h =>
                  gdK v39 true (fun k7 =>
                   vK (aIndexAddr Try.prog 22 v41_1 v43_1) h fun v44 h =>
                   k7 v44 h) (fun v44_1 h =>
                   gdK v39 true (fun k8 =>
                    vK (aLoad Try.prog 44 v44_1 h) h fun v45 g =>
                    VB h.length v45 ∧ (let h := g
                     k8 v45 h)) (fun v45_1 h =>
                    gdK v39 true (fun k9 =>
                     vK (aLoad Try.prog 44 v5 h) h fun v46 g =>
                     VB h.length v46 ∧ (let h := g
                      k9 v46 h)) (fun v46_1 h =>
                     gdK v39 true (fun k10 =>
                      cKD Try.prog 45 [v45_1, v46_1] h fun v47 g =>
                      (∃ new, g = h ++ new) ∧ (let h := g
                       k10 v47 h)) (fun v47_1 h =>
                      gdK v39 true (fun k11 =>
                       vK (aBin Try.prog BinOp.geq 3 v47_1 (Value.int IntKind.i64 0)) h fun v48 h =>
                       k11 v48 h) (fun v48_1 h =>
                       vK (pickV v39 v48_1 (Value.bool false)) h fun v49 h =>
                       cnd v49 (
                        mvK (Value.int IntKind.i64 14) h fun v6_1 h =>
                        k0 [v6_1] h) (
                        k0 [v6] h)) h) h) h) h) h) h) h) h) h) h) h) fun x0 h => ∀ jx0 : Tmps,
            let v6_2 : Value := nth x0 0
            seqK (fun k12 =>
             mvK v6_2 h fun v50 h =>
             vK (aBin Try.prog BinOp.eql 27 v50 (Value.int IntKind.i64 0)) h fun v51 h =>
             cnd v51 (
              vK (aFieldAddr Try.prog 24 v1 0) h fun v52 h =>
              vK (aLoad Try.prog 3 v52 h) h fun v53 h =>
              vK (aLoad Try.prog 44 v5 h) h fun v54 h =>
              cK Try.prog 46 [v53, v54] h fun v55 h =>
              mvK v55 h fun v6_3 h =>
              k12 [v6_3] h) (
              k12 [v6_2] h)) fun x12 h => ∀ jx12 : Tmps,
             let v6_4 : Value := nth x12 0
             mvK v6_4 h fun v56 h =>
             vK (aBin Try.prog BinOp.neq 27 v56 (Value.int IntKind.i64 0)) h fun v57 h =>
             cnd v57 (
              mvK v4 h fun v58 h =>
              mvK v6_4 h fun v59 h =>
              mvK v58 h fun v2_3 h =>
              mvK v59 h fun v3_3 h =>
              retV [some v2_3, some v3_3] R h) (
              vK (aBin Try.prog BinOp.add 3 v20_1 (Value.int IntKind.i64 1)) h fun v60 h =>
              mvK v60 h fun v20_2 h =>
              I6 [v20_2] h ∧ μ6 [v20_2] h < μ6 [v20_1] h6))))))) (
      mvK (Value.int IntKind.i64 0) h fun v2_4 h =>
      mvK (Value.int IntKind.i64 0) h fun v3_4 h =>
      retV [some v2_4, some v3_4] R h))))
def lv12 (q : Nat) : List Nat := bif Nat.beq q 12 then [2305843009212645500, 20] else bif Nat.beq q 23 then [1125891316908096, 6] else bif Nat.beq q 27 then [70931694131085376, 6] else []
theorem ok12 : lkOK Try.prog lv12 Try.f12 1 (Try.f12.body.getD .skip) 12 = true := by kernel_rfl
theorem e12 (a0 : Value) (h : Heap) (R : Value → Heap → Prop) : n12 a0 h R = wpK Try.prog lv12 (Try.f12.body.getD .skip) (endK Try.prog [.tmp 2, .tmp 3] R) (argT [a0]) h := by kernel_rfl
theorem w12 {a0 : Value} {h : Heap} {R : Value → Heap → Prop} (hn : n12 a0 h R) : DetP Try.prog 12 [a0] h R :=
  DetP.of_code (rs := [.tmp 2, .tmp 3]) (n := 1) Try.func12 (by kernel_rfl) (by kernel_rfl) lv12 ok12 rfl ((e12 a0 h R) ▸ hn)

/-! ### examiner/examinerref27.Own: function 13 -/
def n13 (a0 : Value) (h : Heap) (R : Value → Heap → Prop) : Prop :=
  okK (some (aBox Try.prog 24 a0 h)) fun v1 h =>
  okK (aAlloc Try.prog 24 h) fun v2 h =>
  vK (aFieldAddr Try.prog 24 v1 0) h fun v3 h =>
  vK (aLoad Try.prog 3 v3 h) h fun v4 g =>
  VB h.length v4 ∧ (let h := g
   okK (aBuildSlice Try.prog 22 0 [] h) fun v5 h =>
   vK (aFieldAddr Try.prog 24 v1 1) h fun v6 h =>
   vK (aLoad Try.prog 22 v6 h) h fun v7 g =>
   VB h.length v7 ∧ (let h := g
    okK (aAppend Try.prog 22 22 v5 v7 h) fun v8 h =>
    ((aLoad Try.prog 3 v3 h).map (·, h) = some (v4, h) ∧ True) ∧ (
     vK (aBuild Try.prog 24 [(0, v4), (1, v8)]) h fun v9 h =>
     okK ((aStore Try.prog 24 v2 v9 h).map (undef, ·)) fun _ h =>
     (True) ∧ (
      retV [aLoad Try.prog 24 v2 h] R h))))
def lv13 (q : Nat) : List Nat := []
theorem ok13 : lkOK Try.prog lv13 Try.f13 1 (Try.f13.body.getD .skip) 13 = true := by kernel_rfl
theorem e13 (a0 : Value) (h : Heap) (R : Value → Heap → Prop) : n13 a0 h R = wpK Try.prog lv13 (Try.f13.body.getD .skip) (endK Try.prog [.cell 2 24] R) (argT [a0]) h := by kernel_rfl
theorem w13 {a0 : Value} {h : Heap} {R : Value → Heap → Prop} (hn : n13 a0 h R) : DetP Try.prog 13 [a0] h R :=
  DetP.of_code (rs := [.cell 2 24]) (n := 1) Try.func13 (by kernel_rfl) (by kernel_rfl) lv13 ok13 rfl ((e13 a0 h R) ▸ hn)

/-! ### examiner/examinerref27.Check: function 14 -/
def n14 (a0 : Value) (h : Heap) (R : Value → Heap → Prop) : Prop :=
  okK (some (aBox Try.prog 24 a0 h)) fun v1 h =>
  mvK (Value.int IntKind.i64 0) h fun v2 h =>
  mvK (Value.int IntKind.i64 0) h fun v3 h =>
  vK (aFieldAddr Try.prog 24 v1 0) h fun v6 h =>
  vK (aLoad Try.prog 3 v6 h) h fun v7 h =>
  cK Try.prog 26 [v7, (Value.int IntKind.i64 0), (Value.int IntKind.i64 1099511627776)] h fun v8 h =>
  vK (aUn UnOp.not v8) h fun v9 h =>
  cnd v9 (
   mvK (Value.int IntKind.i64 0) h fun v2_1 h =>
   mvK (Value.int IntKind.i64 3) h fun v3_1 h =>
   retV [some v2_1, some v3_1] R h) (
   vK (aFieldAddr Try.prog 24 v1 1) h fun v10 h =>
   vK (aLoad Try.prog 22 v10 h) h fun v11 h =>
   vK (aLen Try.prog 22 v11) h fun v12 h =>
   vK (aBin Try.prog BinOp.gtr 3 v12 (Value.int IntKind.i64 24)) h fun v13 h =>
   cnd v13 (
    mvK (Value.int IntKind.i64 0) h fun v2_2 h =>
    mvK (Value.int IntKind.i64 2) h fun v3_2 h =>
    retV [some v2_2, some v3_2] R h) (
    mvK (Value.int IntKind.i64 0) h fun v4 h =>
    ∃ (I6 : List Value → Heap → Prop) (μ6 : List Value → Heap → Nat), I6 [v4] h ∧
    ∀ (h6 : Heap) (j6 : Tmps) (v4_1 : Value), I6 [v4_1] h6 → (let h := h6
     mvK v4_1 h fun v14 h =>
     vK (aFieldAddr Try.prog 24 v1 1) h fun v15 h =>
     vK (aLoad Try.prog 22 v15 h) h fun v16 h =>
     vK (aLen Try.prog 22 v16) h fun v17 h =>
     vK (aBin Try.prog BinOp.lss 3 v14 v17) h fun v18 h =>
     cnd v18 (
      vK (aLoad Try.prog 24 v1 h) h fun v21 h =>
      mvK v4_1 h fun v22 h =>
      cK Try.prog 47 [v21, v22] h fun v23 h =>
      mvK v23 h fun v5 h =>
      mvK v5 h fun v24 h =>
      vK (aBin Try.prog BinOp.neq 3 v24 (Value.int IntKind.i64 0)) h fun v25 h =>
      cnd v25 (
       mvK v4_1 h fun v26 h =>
       mvK v5 h fun v27 h =>
       mvK v26 h fun v2_3 h =>
       mvK v27 h fun v3_3 h =>
       retV [some v2_3, some v3_3] R h) (
       mvK v4_1 h fun v19 h =>
       vK (aBin Try.prog BinOp.add 3 v19 (Value.int IntKind.i64 1)) h fun v20 h =>
       mvK v20 h fun v4_2 h =>
       I6 [v4_2] h ∧ μ6 [v4_2] h < μ6 [v4_1] h6)) (
      mvK (Value.int IntKind.i64 0) h fun v2_4 h =>
      mvK (Value.int IntKind.i64 0) h fun v3_4 h =>
      retV [some v2_4, some v3_4] R h))))
def lv14 (q : Nat) : List Nat := bif Nat.beq q 12 then [268419132, 4] else []
theorem ok14 : lkOK Try.prog lv14 Try.f14 1 (Try.f14.body.getD .skip) 14 = true := by kernel_rfl
theorem e14 (a0 : Value) (h : Heap) (R : Value → Heap → Prop) : n14 a0 h R = wpK Try.prog lv14 (Try.f14.body.getD .skip) (endK Try.prog [.tmp 2, .tmp 3] R) (argT [a0]) h := by kernel_rfl
theorem w14 {a0 : Value} {h : Heap} {R : Value → Heap → Prop} (hn : n14 a0 h R) : DetP Try.prog 14 [a0] h R :=
  DetP.of_code (rs := [.tmp 2, .tmp 3]) (n := 1) Try.func14 (by kernel_rfl) (by kernel_rfl) lv14 ok14 rfl ((e14 a0 h R) ▸ hn)

/-! ### examiner/examinerref27.Err: function 17 -/
def n17 (a0 : Value) (h : Heap) (R : Value → Heap → Prop) : Prop :=
  okK (some (aBox Try.prog 24 a0 h)) fun v1 h =>
  mvK (Value.int IntKind.i64 0) h fun v2 h =>
  vK (aLoad Try.prog 24 v1 h) h fun v6 h =>
  cK Try.prog 14 [v6] h fun v7 h =>
  mvK v7 h fun v5 h =>
  vK (aExtract v5 0) h fun v8 h =>
  vK (aExtract v5 1) h fun v9 h =>
  mvK v8 h fun v3 h =>
  mvK v9 h fun v4 h =>
  mvK v4 h fun v10 h =>
  mvK v10 h fun v2_1 h =>
  retV [some v2_1] R h
def lv17 (q : Nat) : List Nat := []
theorem ok17 : lkOK Try.prog lv17 Try.f17 1 (Try.f17.body.getD .skip) 17 = true := by kernel_rfl
theorem e17 (a0 : Value) (h : Heap) (R : Value → Heap → Prop) : n17 a0 h R = wpK Try.prog lv17 (Try.f17.body.getD .skip) (endK Try.prog [.tmp 2] R) (argT [a0]) h := by kernel_rfl
theorem w17 {a0 : Value} {h : Heap} {R : Value → Heap → Prop} (hn : n17 a0 h R) : DetP Try.prog 17 [a0] h R :=
  DetP.of_code (rs := [.tmp 2]) (n := 1) Try.func17 (by kernel_rfl) (by kernel_rfl) lv17 ok17 rfl ((e17 a0 h R) ▸ hn)

/-! ### examiner/examinerlaw27.same: function 18 -/
def n18 (a0 a1 a2 : Value) (h : Heap) (R : Value → Heap → Prop) : Prop :=
  okK (some (aBox Try.prog 24 a0 h)) fun v3 h =>
  okK (some (aBox Try.prog 39 a2 h)) fun v5 h =>
  mvK (Value.bool false) h fun v6 h =>
  mvK a1 h fun v7 h =>
  vK (aFieldAddr Try.prog 39 v5 3) h fun v8 h =>
  vK (aLoad Try.prog 3 v8 h) h fun v9 h =>
  vK (aBin Try.prog BinOp.eql 3 v7 v9) h fun v10 h =>
  mvK v10 h fun v11 h =>
  gdK v11 true (fun k0 =>
   vK (aLoad Try.prog 24 v3 h) h fun v12 h =>
   k0 v12 h) (fun v12_1 h =>
   gdK v11 true (fun k1 =>
    vK (aFieldAddr Try.prog 39 v5 0) h fun v13 h =>
    k1 v13 h) (fun v13_1 h =>
    gdK v11 true (fun k2 =>
     vK (aLoad Try.prog 24 v13_1 h) h fun v14 h =>
     k2 v14 h) (fun v14_1 h =>
     gdK v11 true (fun k3 =>
      cK Try.prog 35 [v12_1, v14_1] h fun v15 h =>
      k3 v15 h) (fun v15_1 h =>
      vK (pickV v11 v15_1 (Value.bool false)) h fun v16 h =>
      mvK v16 h fun v6_1 h =>
      retV [some v6_1] R h) h) h) h) h
def lv18 (q : Nat) : List Nat := []
theorem ok18 : lkOK Try.prog lv18 Try.f18 3 (Try.f18.body.getD .skip) 18 = true := by kernel_rfl
theorem e18 (a0 a1 a2 : Value) (h : Heap) (R : Value → Heap → Prop) : n18 a0 a1 a2 h R = wpK Try.prog lv18 (Try.f18.body.getD .skip) (endK Try.prog [.tmp 6] R) (argT [a0, a1, a2]) h := by kernel_rfl
theorem w18 {a0 a1 a2 : Value} {h : Heap} {R : Value → Heap → Prop} (hn : n18 a0 a1 a2 h R) : DetP Try.prog 18 [a0, a1, a2] h R :=
  DetP.of_code (rs := [.tmp 6]) (n := 3) Try.func18 (by kernel_rfl) (by kernel_rfl) lv18 ok18 rfl ((e18 a0 a1 a2 h R) ▸ hn)

/-! ### examiner/examinerref27.Next: function 19 -/
def n19 (a0 : Value) (h : Heap) (R : Value → Heap → Prop) : Prop :=
  okK (some (aBox Try.prog 24 a0 h)) fun v1 h =>
  mvK (Value.int IntKind.i64 0) h fun v2 h =>
  mvK (Value.int IntKind.i64 (-1)) h fun v3 h =>
  mvK (Value.int IntKind.i64 0) h fun v4 h =>
  ∃ (I3 : List Value → Heap → Prop) (μ3 : List Value → Heap → Nat), I3 [v3, v4] h ∧
  ∀ (h3 : Heap) (j3 : Tmps) (v3_1 : Value) (v4_1 : Value), I3 [v3_1, v4_1] h3 → (let h := h3
   mvK v4_1 h fun v5 h =>
   vK (aFieldAddr Try.prog 24 v1 1) h fun v6 h =>
   vK (aLoad Try.prog 22 v6 h) h fun v7 h =>
   vK (aLen Try.prog 22 v7) h fun v8 h =>
   vK (aBin Try.prog BinOp.lss 3 v5 v8) h fun v9 h =>
   cnd v9 (
    seqK (fun k0 =>
     vK (aFieldAddr Try.prog 24 v1 1) h fun v12 h =>
     vK (aLoad Try.prog 22 v12 h) h fun v13 h =>
     mvK v4_1 h fun v14 h =>
     vK (aIndexAddr Try.prog 22 v13 v14) h fun v15 h =>
     vK (aFieldAddr Try.prog 44 v15 4) h fun v16 h =>
     vK (aLoad Try.prog 4 v16 h) h fun v17 h =>
     mvK v17 h fun v18 h =>
     gdK v18 true (fun k1 =>
      mvK v3_1 h fun v19 h =>
      k1 v19 h) (fun v19_1 h =>
      gdK v18 true (fun k2 =>
       vK (aBin Try.prog BinOp.eql 3 v19_1 (Value.int IntKind.i64 (-1))) h fun v20 h =>
       k2 v20 h) (fun v20_1 h =>
       gdK v18 true (fun k3 =>
        mvK v20_1 h fun v21 h =>
        k3 v21 h) (fun v21_1 h =>
        gdK v21_1 false (fun k4 =>
         vK (aFieldAddr Try.prog 24 v1 1) h fun v22 h =>
         k4 v22 h) (fun v22_1 h =>
         gdK v21_1 false (fun k5 =>
          vK (aLoad Try.prog 22 v22_1 h) h fun v23 h =>
          k5 v23 h) (fun v23_1 h =>
          gdK v21_1 false (fun k6 =>
           mvK v4_1 h fun v24 h =>
           k6 v24 h) (fun v24_1 h =>
           gdK v21_1 false (fun k7 =>
            vK (aIndexAddr Try.prog 22 v23_1 v24_1) h fun v25 h =>
            k7 v25 h) (fun v25_1 h =>
            gdK v21_1 false (fun k8 =>
             vK (aFieldAddr Try.prog 44 v25_1 3) h fun v26 h =>
             k8 v26 h) (fun v26_1 h =>
             gdK v21_1 false (fun k9 =>
              vK (aLoad Try.prog 3 v26_1 h) h fun v27 h =>
              k9 v27 h) (fun v27_1 h =>
              gdK v21_1 false (fun k10 =>
               mvK v3_1 h fun v28 h =>
               k10 v28 h) (fun v28_1 h =>
               gdK v21_1 false (fun k11 =>
                vK (aBin Try.prog BinOp.lss 3 v27_1 v28_1) h fun v29 h =>
                k11 v29 h) (fun v29_1 h =>
                gdK v18 true (fun k12 =>
                 vK (pickV v21_1 (Value.bool true) v29_1) h fun v30 h =>
                 k12 v30 h) (fun v30_1 h =>
                 vK (pickV v18 v30_1 (Value.bool false)) h fun v31 h =>
                 cnd v31 (
                  vK (aFieldAddr Try.prog 24 v1 1) h fun v32 h =>
                  vK (aLoad Try.prog 22 v32 h) h fun v33 h =>
                  mvK v4_1 h fun v34 h =>
                  vK (aIndexAddr Try.prog 22 v33 v34) h fun v35 h =>
                  vK (aFieldAddr Try.prog 44 v35 3) h fun v36 h =>
                  vK (aLoad Try.prog 3 v36 h) h fun v37 h =>
                  mvK v37 h fun v3_2 h =>
                  k0 [v3_2] h) (
                  k0 [v3_1] h)) h) h) h) h) h) h) h) h) h) h) h) h) fun x0 h => ∀ jx0 : Tmps,
     let v3_3 : Value := nth x0 0
     mvK v4_1 h fun v10 h =>
     vK (aBin Try.prog BinOp.add 3 v10 (Value.int IntKind.i64 1)) h fun v11 h =>
     mvK v11 h fun v4_2 h =>
     I3 [v3_3, v4_2] h ∧ μ3 [v3_3, v4_2] h < μ3 [v3_1, v4_1] h3) (
    mvK v3_1 h fun v38 h =>
    mvK v38 h fun v2_1 h =>
    retV [some v2_1] R h))
def lv19 (q : Nat) : List Nat := bif Nat.beq q 6 then [274877906936, 3, 4] else bif Nat.beq q 9 then [274877902856, 3] else []
theorem ok19 : lkOK Try.prog lv19 Try.f19 1 (Try.f19.body.getD .skip) 19 = true := by kernel_rfl
theorem e19 (a0 : Value) (h : Heap) (R : Value → Heap → Prop) : n19 a0 h R = wpK Try.prog lv19 (Try.f19.body.getD .skip) (endK Try.prog [.tmp 2] R) (argT [a0]) h := by kernel_rfl
theorem w19 {a0 : Value} {h : Heap} {R : Value → Heap → Prop} (hn : n19 a0 h R) : DetP Try.prog 19 [a0] h R :=
  DetP.of_code (rs := [.tmp 2]) (n := 1) Try.func19 (by kernel_rfl) (by kernel_rfl) lv19 ok19 rfl ((e19 a0 h R) ▸ hn)

/-! ### examiner/examinerref27.Advance: function 20 -/
def n20 (a0 a1 : Value) (h : Heap) (R : Value → Heap → Prop) : Prop :=
  okK (some (aBox Try.prog 24 a0 h)) fun v2 h =>
  okK (aAlloc Try.prog 39 h) fun v4 h =>
  mvK a1 h fun v8 h =>
  vK (aFieldAddr Try.prog 24 v2 0) h fun v9 h =>
  vK (aLoad Try.prog 3 v9 h) h fun v10 h =>
  cK Try.prog 26 [v8, v10, (Value.int IntKind.i64 1099511627776)] h fun v11 h =>
  vK (aUn UnOp.not v11) h fun v12 h =>
  cnd v12 (
   cK Try.prog 51 [(Value.int IntKind.i64 3)] h fun v13 h =>
   okK ((aStore Try.prog 39 v4 v13 h).map (undef, ·)) fun _ h =>
   retV [aLoad Try.prog 39 v4 h] R h) (
   vK (aLoad Try.prog 24 v2 h) h fun v14 h =>
   cK Try.prog 19 [v14] h fun v15 h =>
   mvK v15 h fun v5 h =>
   mvK v5 h fun v16 h =>
   vK (aBin Try.prog BinOp.neq 3 v16 (Value.int IntKind.i64 (-1))) h fun v17 h =>
   mvK v17 h fun v18 h =>
   gdK v18 true (fun k0 =>
    mvK v5 h fun v19 h =>
    k0 v19 h) (fun v19_1 h =>
    gdK v18 true (fun k1 =>
     mvK a1 h fun v20 h =>
     k1 v20 h) (fun v20_1 h =>
     gdK v18 true (fun k2 =>
      vK (aBin Try.prog BinOp.lss 3 v19_1 v20_1) h fun v21 h =>
      k2 v21 h) (fun v21_1 h =>
      vK (pickV v18 v21_1 (Value.bool false)) h fun v22 h =>
      cnd v22 (
       cK Try.prog 51 [(Value.int IntKind.i64 14)] h fun v23 h =>
       okK ((aStore Try.prog 39 v4 v23 h).map (undef, ·)) fun _ h =>
       retV [aLoad Try.prog 39 v4 h] R h) (
       vK (aLoad Try.prog 24 v2 h) h fun v24 h =>
       cK Try.prog 13 [v24] h fun v25 h =>
       vK (aBuild Try.prog 39 [(0, v25)]) h fun v26 h =>
       okK (aAlloc Try.prog 39 h) fun v6 h =>
       okK ((aStore Try.prog 39 v6 v26 h).map (undef, ·)) fun _ h =>
       mvK a1 h fun v27 h =>
       vK (aFieldAddr Try.prog 39 v6 0) h fun v28 h =>
       vK (aFieldAddr Try.prog 24 v28 0) h fun v29 h =>
       okK ((aStore Try.prog 3 v29 v27 h).map (undef, ·)) fun _ h =>
       mvK (Value.int IntKind.i64 0) h fun v7 h =>
       ∃ (I9 : List Value → Heap → Prop) (μ9 : List Value → Heap → Nat), I9 [v7] h ∧
       ∀ (h9 : Heap) (j9 : Tmps) (v7_1 : Value), I9 [v7_1] h9 → (let h := h9
        mvK v7_1 h fun v30 h =>
        vK (aFieldAddr Try.prog 24 v2 1) h fun v31 h =>
        vK (aLoad Try.prog 22 v31 h) h fun v32 h =>
        vK (aLen Try.prog 22 v32) h fun v33 h =>
        vK (aBin Try.prog BinOp.lss 3 v30 v33) h fun v34 h =>
        cnd v34 (
         seqK (fun k3 =>
          vK (aFieldAddr Try.prog 24 v2 1) h fun v37 h =>
          vK (aLoad Try.prog 22 v37 h) h fun v38 h =>
          mvK v7_1 h fun v39 h =>
          vK (aIndexAddr Try.prog 22 v38 v39) h fun v40 h =>
          vK (aFieldAddr Try.prog 44 v40 4) h fun v41 h =>
          vK (aLoad Try.prog 4 v41 h) h fun v42 h =>
          mvK v42 h fun v43 h =>
          gdK v43 true (fun k4 =>
           vK (aFieldAddr Try.prog 24 v2 1) h fun v44 h =>
           k4 v44 h) (fun v44_1 h =>
           gdK v43 true (fun k5 =>
            vK (aLoad Try.prog 22 v44_1 h) h fun v45 h =>
            k5 v45 h) (fun v45_1 h =>
            gdK v43 true (fun k6 =>
             mvK v7_1 h fun v46 h =>
             k6 v46 h) (fun v46_1 h =>
             gdK v43 true (fun k7 =>
              vK (aIndexAddr Try.prog 22 v45_1 v46_1) h fun v47 h =>
              k7 v47 h) (fun v47_1 h =>
              gdK v43 true (fun k8 =>
               vK (aFieldAddr Try.prog 44 v47_1 3) h fun v48 h =>
               k8 v48 h) (fun v48_1 h =>
               gdK v43 true (fun k9 =>
                vK (aLoad Try.prog 3 v48_1 h) h fun v49 h =>
                k9 v49 h) (fun v49_1 h =>
                gdK v43 true (fun k10 =>
                 mvK a1 h fun v50 h =>
                 k10 v50 h) (fun v50_1 h =>
                 gdK v43 true (fun k11 =>
                  vK (aBin Try.prog BinOp.eql 3 v49_1 v50_1) h fun v51 h =>
                  k11 v51 h) (fun v51_1 h =>
                  vK (pickV v43 v51_1 (Value.bool false)) h fun v52 h =>
                  cnd v52 (
                   vK (aFieldAddr Try.prog 39 v6 0) h fun v53 h =>
                   vK (aFieldAddr Try.prog 24 v53 1) h fun v54 h =>
                   vK (aLoad Try.prog 22 v54 h) h fun v55 g =>
                   VB h.length v55 ∧ (let h := g
                    mvK v7_1 h fun v56 h =>
                    vK (aFieldAddr Try.prog 39 v6 0) h fun v57 h =>
                    vK (aFieldAddr Try.prog 24 v57 1) h fun v58 h =>
                    vK (aLoad Try.prog 22 v58 h) h fun v59 g =>
                    VB h.length v59 ∧ (let h := g
                     mvK v7_1 h fun v60 h =>
                     vK (aIndexAddr Try.prog 22 v55 v56) h fun v61 h =>
                     vK (aFieldAddr Try.prog 44 v61 4) h fun v62 h =>
                     okK ((aStore Try.prog 4 v62 (Value.bool false) h).map (undef, ·)) fun _ h =>
                     ((aLoad Try.prog 22 v58 h).map (·, h) = some (v59, h) ∧ True) ∧ (
                      vK (aIndexAddr Try.prog 22 v59 v60) h fun v63 h =>
                      vK (aFieldAddr Try.prog 44 v63 5) h fun v64 h =>
                      okK ((aStore Try.prog 4 v64 (Value.bool true) h).map (undef, ·)) fun _ h =>
                      (True) ∧ (
                       vK (aFieldAddr Try.prog 39 v6 1) h fun v65 h =>
                       vK (aLoad Try.prog 33 v65 h) h fun v66 h =>
                       mvK v7_1 h fun v67 h =>
                       okK (aBuildSlice Try.prog 33 1 [(0, v67)] h) fun v68 h =>
                       okK (aAppend Try.prog 33 33 v66 v68 h) fun v69 h =>
                       vK (aFieldAddr Try.prog 39 v6 1) h fun v70 h =>
                       okK ((aStore Try.prog 33 v70 v69 h).map (undef, ·)) fun _ h =>
                       k3 [] h))))) (
                   k3 [] h)) h) h) h) h) h) h) h) h) fun x3 h => ∀ jx3 : Tmps,
          mvK v7_1 h fun v35 h =>
          vK (aBin Try.prog BinOp.add 3 v35 (Value.int IntKind.i64 1)) h fun v36 h =>
          mvK v36 h fun v7_2 h =>
          I9 [v7_2] h ∧ μ9 [v7_2] h < μ9 [v7_1] h9) (
         vK (aLoad Try.prog 39 v6 h) h fun v71 h =>
         okK ((aStore Try.prog 39 v4 v71 h).map (undef, ·)) fun _ h =>
         retV [aLoad Try.prog 39 v4 h] R h)))) h) h) h)
def lv20 (q : Nat) : List Nat := bif Nat.beq q 18 then [2361183241433748865152, 7] else bif Nat.beq q 21 then [2361183241297383653376] else []
theorem ok20 : lkOK Try.prog lv20 Try.f20 2 (Try.f20.body.getD .skip) 20 = true := by kernel_rfl
theorem e20 (a0 a1 : Value) (h : Heap) (R : Value → Heap → Prop) : n20 a0 a1 h R = wpK Try.prog lv20 (Try.f20.body.getD .skip) (endK Try.prog [.cell 4 39] R) (argT [a0, a1]) h := by kernel_rfl
theorem w20 {a0 a1 : Value} {h : Heap} {R : Value → Heap → Prop} (hn : n20 a0 a1 h R) : DetP Try.prog 20 [a0, a1] h R :=
  DetP.of_code (rs := [.cell 4 39]) (n := 2) Try.func20 (by kernel_rfl) (by kernel_rfl) lv20 ok20 rfl ((e20 a0 a1 h R) ▸ hn)

/-! ### examiner/examinerbase.SameInts: function 21 -/
def n21 (a0 a1 : Value) (h : Heap) (R : Value → Heap → Prop) : Prop :=
  mvK (Value.bool false) h fun v4 h =>
  mvK a0 h fun v6 h =>
  vK (aLen Try.prog 33 v6) h fun v7 h =>
  mvK a1 h fun v8 h =>
  vK (aLen Try.prog 33 v8) h fun v9 h =>
  vK (aBin Try.prog BinOp.neq 3 v7 v9) h fun v10 h =>
  cnd v10 (
   mvK (Value.bool false) h fun v4_1 h =>
   retV [some v4_1] R h) (
   mvK (Value.int IntKind.i64 0) h fun v5 h =>
   ∃ (I4 : List Value → Heap → Prop) (μ4 : List Value → Heap → Nat), I4 [v5] h ∧
   ∀ (h4 : Heap) (j4 : Tmps) (v5_1 : Value), I4 [v5_1] h4 → (let h := h4
    mvK v5_1 h fun v11 h =>
    mvK a0 h fun v12 h =>
    vK (aLen Try.prog 33 v12) h fun v13 h =>
    vK (aBin Try.prog BinOp.lss 3 v11 v13) h fun v14 h =>
    cnd v14 (
     mvK a0 h fun v17 h =>
     mvK v5_1 h fun v18 h =>
     vK (aIndexAddr Try.prog 33 v17 v18) h fun v19 h =>
     vK (aLoad Try.prog 3 v19 h) h fun v20 g =>
     VB h.length v20 ∧ (let h := g
      mvK a1 h fun v21 h =>
      mvK v5_1 h fun v22 h =>
      vK (aIndexAddr Try.prog 33 v21 v22) h fun v23 h =>
      vK (aLoad Try.prog 3 v23 h) h fun v24 g =>
      VB h.length v24 ∧ (let h := g
       vK (aBin Try.prog BinOp.neq 3 v20 v24) h fun v25 h =>
       cnd v25 (
        mvK (Value.bool false) h fun v4_2 h =>
        retV [some v4_2] R h) (
        mvK v5_1 h fun v15 h =>
        vK (aBin Try.prog BinOp.add 3 v15 (Value.int IntKind.i64 1)) h fun v16 h =>
        mvK v16 h fun v5_2 h =>
        I4 [v5_2] h ∧ μ4 [v5_2] h < μ4 [v5_1] h4)))) (
     mvK (Value.bool true) h fun v4_3 h =>
     retV [some v4_3] R h)))
def lv21 (q : Nat) : List Nat := bif Nat.beq q 8 then [67106864, 5] else []
theorem ok21 : lkOK Try.prog lv21 Try.f21 2 (Try.f21.body.getD .skip) 21 = true := by kernel_rfl
theorem e21 (a0 a1 : Value) (h : Heap) (R : Value → Heap → Prop) : n21 a0 a1 h R = wpK Try.prog lv21 (Try.f21.body.getD .skip) (endK Try.prog [.tmp 4] R) (argT [a0, a1]) h := by kernel_rfl
theorem w21 {a0 a1 : Value} {h : Heap} {R : Value → Heap → Prop} (hn : n21 a0 a1 h R) : DetP Try.prog 21 [a0, a1] h R :=
  DetP.of_code (rs := [.tmp 4]) (n := 2) Try.func21 (by kernel_rfl) (by kernel_rfl) lv21 ok21 rfl ((e21 a0 a1 h R) ▸ hn)

/-! ### examiner/examinerbase.Has: function 22 -/
/-! ### examiner/examinerbase.Within: function 26 -/
def n26 (a0 a1 a2 : Value) (h : Heap) (R : Value → Heap → Prop) : Prop :=
  mvK (Value.bool false) h fun v6 h =>
  mvK a1 h fun v7 h =>
  mvK a0 h fun v8 h =>
  vK (aBin Try.prog BinOp.leq 3 v7 v8) h fun v9 h =>
  mvK v9 h fun v10 h =>
  gdK v10 true (fun k0 =>
   mvK a0 h fun v11 h =>
   k0 v11 h) (fun v11_1 h =>
   gdK v10 true (fun k1 =>
    mvK a2 h fun v12 h =>
    k1 v12 h) (fun v12_1 h =>
    gdK v10 true (fun k2 =>
     vK (aBin Try.prog BinOp.leq 3 v11_1 v12_1) h fun v13 h =>
     k2 v13 h) (fun v13_1 h =>
     vK (pickV v10 v13_1 (Value.bool false)) h fun v14 h =>
     mvK v14 h fun v6_1 h =>
     retV [some v6_1] R h) h) h) h
def lv26 (q : Nat) : List Nat := []
theorem ok26 : lkOK Try.prog lv26 Try.f26 3 (Try.f26.body.getD .skip) 26 = true := by kernel_rfl
theorem e26 (a0 a1 a2 : Value) (h : Heap) (R : Value → Heap → Prop) : n26 a0 a1 a2 h R = wpK Try.prog lv26 (Try.f26.body.getD .skip) (endK Try.prog [.tmp 6] R) (argT [a0, a1, a2]) h := by kernel_rfl
theorem w26 {a0 a1 a2 : Value} {h : Heap} {R : Value → Heap → Prop} (hn : n26 a0 a1 a2 h R) : DetP Try.prog 26 [a0, a1, a2] h R :=
  DetP.of_code (rs := [.tmp 6]) (n := 3) Try.func26 (by kernel_rfl) (by kernel_rfl) lv26 ok26 rfl ((e26 a0 a1 a2 h R) ▸ hn)

/-! ### examiner/examinerbase.SameTexts: function 27 -/
/-! ### examiner/examinerref27.Expired: function 28 -/
/-! ### examiner/clock.within: function 41 -/
def n41 (a0 a1 a2 : Value) (h : Heap) (R : Value → Heap → Prop) : Prop :=
  mvK (Value.bool false) h fun v6 h =>
  mvK a1 h fun v7 h =>
  mvK a0 h fun v8 h =>
  vK (aBin Try.prog BinOp.leq 3 v7 v8) h fun v9 h =>
  mvK v9 h fun v10 h =>
  gdK v10 true (fun k0 =>
   mvK a0 h fun v11 h =>
   k0 v11 h) (fun v11_1 h =>
   gdK v10 true (fun k1 =>
    mvK a2 h fun v12 h =>
    k1 v12 h) (fun v12_1 h =>
    gdK v10 true (fun k2 =>
     vK (aBin Try.prog BinOp.leq 3 v11_1 v12_1) h fun v13 h =>
     k2 v13 h) (fun v13_1 h =>
     vK (pickV v10 v13_1 (Value.bool false)) h fun v14 h =>
     mvK v14 h fun v6_1 h =>
     retV [some v6_1] R h) h) h) h
def lv41 (q : Nat) : List Nat := []
theorem ok41 : lkOK Try.prog lv41 Try.f41 3 (Try.f41.body.getD .skip) 41 = true := by kernel_rfl
theorem e41 (a0 a1 a2 : Value) (h : Heap) (R : Value → Heap → Prop) : n41 a0 a1 a2 h R = wpK Try.prog lv41 (Try.f41.body.getD .skip) (endK Try.prog [.tmp 6] R) (argT [a0, a1, a2]) h := by kernel_rfl
theorem w41 {a0 a1 a2 : Value} {h : Heap} {R : Value → Heap → Prop} (hn : n41 a0 a1 a2 h R) : DetP Try.prog 41 [a0, a1, a2] h R :=
  DetP.of_code (rs := [.tmp 6]) (n := 3) Try.func41 (by kernel_rfl) (by kernel_rfl) lv41 ok41 rfl ((e41 a0 a1 a2 h R) ▸ hn)

/-! ### cmp.Or[examiner/api.Errno]: function 42 -/
def n42 (a0 : Value) (h : Heap) (R : Value → Heap → Prop) : Prop :=
  mvK (Value.int IntKind.i64 0) h fun v2 h =>
  mvK (Value.int IntKind.i64 0) h fun v3 h =>
  mvK a0 h fun v6 h =>
  vK (aLen Try.prog 88 v6) h fun v7 h =>
  mvK (Value.int IntKind.i64 0) h fun v8 h =>
  ∃ (I3 : List Value → Heap → Prop) (μ3 : List Value → Heap → Nat), I3 [v8] h ∧
  ∀ (h3 : Heap) (j3 : Tmps) (v8_1 : Value), I3 [v8_1] h3 → (let h := h3
   vK (aBin Try.prog BinOp.lss 3 v8_1 v7) h fun v9 h =>
   cnd v9 (
    vK (aIndexAddr Try.prog 88 v6 v8_1) h fun v10 h =>
    vK (aLoad Try.prog 27 v10 h) h fun v11 h =>
    mvK v11 h fun v5 h =>
    mvK v5 h fun v12 h =>
    mvK v3 h fun v13 h =>
    vK (aBin Try.prog BinOp.neq 27 v12 v13) h fun v14 h =>
    cnd v14 (
     mvK v5 h fun v15 h =>
     mvK v15 h fun v2_1 h =>
     retV [some v2_1] R h) (
     vK (aBin Try.prog BinOp.add 3 v8_1 (Value.int IntKind.i64 1)) h fun v16 h =>
     mvK v16 h fun v8_2 h =>
     I3 [v8_2] h ∧ μ3 [v8_2] h < μ3 [v8_1] h3)) (
    mvK v3 h fun v17 h =>
    mvK v17 h fun v2_2 h =>
    retV [some v2_2] R h))
def lv42 (q : Nat) : List Nat := bif Nat.beq q 6 then [130852, 8] else []
theorem ok42 : lkOK Try.prog lv42 Try.f42 1 (Try.f42.body.getD .skip) 42 = true := by kernel_rfl
theorem e42 (a0 : Value) (h : Heap) (R : Value → Heap → Prop) : n42 a0 h R = wpK Try.prog lv42 (Try.f42.body.getD .skip) (endK Try.prog [.tmp 2] R) (argT [a0]) h := by kernel_rfl
theorem w42 {a0 : Value} {h : Heap} {R : Value → Heap → Prop} (hn : n42 a0 h R) : DetP Try.prog 42 [a0] h R :=
  DetP.of_code (rs := [.tmp 2]) (n := 1) Try.func42 (by kernel_rfl) (by kernel_rfl) lv42 ok42 rfl ((e42 a0 h R) ▸ hn)

/-! ### examiner/clock.ownerErr: function 43 -/
def n43 (a0 : Value) (h : Heap) (R : Value → Heap → Prop) : Prop :=
  mvK (Value.int IntKind.i64 0) h fun v2 h =>
  mvK a0 h fun v3 h =>
  cK Try.prog 41 [v3, (Value.int IntKind.i64 0), (Value.int IntKind.i64 11)] h fun v4 h =>
  vK (aUn UnOp.not v4) h fun v5 h =>
  cnd v5 (
   mvK (Value.int IntKind.i64 3) h fun v2_1 h =>
   retV [some v2_1] R h) (
   mvK (Value.int IntKind.i64 0) h fun v2_2 h =>
   retV [some v2_2] R h)
def lv43 (q : Nat) : List Nat := []
theorem ok43 : lkOK Try.prog lv43 Try.f43 1 (Try.f43.body.getD .skip) 43 = true := by kernel_rfl
theorem e43 (a0 : Value) (h : Heap) (R : Value → Heap → Prop) : n43 a0 h R = wpK Try.prog lv43 (Try.f43.body.getD .skip) (endK Try.prog [.tmp 2] R) (argT [a0]) h := by kernel_rfl
theorem w43 {a0 : Value} {h : Heap} {R : Value → Heap → Prop} (hn : n43 a0 h R) : DetP Try.prog 43 [a0] h R :=
  DetP.of_code (rs := [.tmp 2]) (n := 1) Try.func43 (by kernel_rfl) (by kernel_rfl) lv43 ok43 rfl ((e43 a0 h R) ▸ hn)

/-! ### examiner/clock.nameErr: function 44 -/
def n44 (a0 : Value) (h : Heap) (R : Value → Heap → Prop) : Prop :=
  mvK (Value.int IntKind.i64 0) h fun v2 h =>
  seqK (fun k0 =>
   mvK a0 h fun v4 h =>
   vK (aBin Try.prog BinOp.eql 9 v4 (Value.string { data := #[] })) h fun v5 h =>
   mvK v5 h fun v3 h =>
   cnd v3 (
    k0 [v3] h) (
    mvK a0 h fun v6 h =>
    vK (aLen Try.prog 9 v6) h fun v7 h =>
    vK (aBin Try.prog BinOp.gtr 3 v7 (Value.int IntKind.i64 32)) h fun v8 h =>
    mvK v8 h fun v3_1 h =>
    cnd v3_1 (
     k0 [v3_1] h) (
     mvK a0 h fun v9 h =>
     vK (aIndex Try.prog 9 v9 (Value.int IntKind.i64 0)) h fun v10 h =>
     vK (aConvert Try.prog 5 21 v10) h fun v11 h =>
     cK Try.prog 65 [v11] h fun v12 h =>
     vK (aUn UnOp.not v12) h fun v13 h =>
     mvK v13 h fun v3_2 h =>
     cnd v3_2 (
      k0 [v3_2] h) (
      mvK a0 h fun v14 h =>
      cK Try.prog 66 [v14, (Value.string { data := #[45] })] h fun v15 h =>
      mvK v15 h fun v3_3 h =>
      cnd v3_3 (
       k0 [v3_3] h) (
       mvK a0 h fun v16 h =>
       cK Try.prog 67 [v16, (Value.string { data := #[45, 45] })] h fun v17 h =>
       mvK v17 h fun v3_4 h =>
       k0 [v3_4] h))))) fun x0 h => ∀ jx0 : Tmps,
   let v3_5 : Value := nth x0 0
   cnd v3_5 (
    mvK (Value.int IntKind.i64 7) h fun v2_1 h =>
    retV [some v2_1] R h) (
    mvK a0 h fun v19 h =>
    cK Try.prog 68 [v19, (Value.func (Fn.func 69) #[] #[])] h fun v20 h =>
    mvK v20 h fun v18 h =>
    cnd v18 (
     mvK (Value.int IntKind.i64 7) h fun v2_2 h =>
     retV [some v2_2] R h) (
     mvK (Value.int IntKind.i64 0) h fun v2_3 h =>
     retV [some v2_3] R h))
def lv44 (q : Nat) : List Nat := bif Nat.beq q 13 then [262136, 3] else []
theorem ok44 : lkOK Try.prog lv44 Try.f44 1 (Try.f44.body.getD .skip) 44 = true := by kernel_rfl
theorem e44 (a0 : Value) (h : Heap) (R : Value → Heap → Prop) : n44 a0 h R = wpK Try.prog lv44 (Try.f44.body.getD .skip) (endK Try.prog [.tmp 2] R) (argT [a0]) h := by kernel_rfl
theorem w44 {a0 : Value} {h : Heap} {R : Value → Heap → Prop} (hn : n44 a0 h R) : DetP Try.prog 44 [a0] h R :=
  DetP.of_code (rs := [.tmp 2]) (n := 1) Try.func44 (by kernel_rfl) (by kernel_rfl) lv44 ok44 rfl ((e44 a0 h R) ▸ hn)

/-! ### examiner/clock.byName: function 45 -/
def n45 (a0 a1 : Value) (h : Heap) (R : Value → Heap → Prop) : Prop :=
  okK (some (aBox Try.prog 44 a0 h)) fun v2 h =>
  okK (some (aBox Try.prog 44 a1 h)) fun v3 h =>
  mvK (Value.int IntKind.i64 0) h fun v4 h =>
  vK (aFieldAddr Try.prog 44 v2 0) h fun v5 h =>
  vK (aLoad Try.prog 3 v5 h) h fun v6 g =>
  VB h.length v6 ∧ (let h := g
   vK (aFieldAddr Try.prog 44 v3 0) h fun v7 h =>
   vK (aLoad Try.prog 3 v7 h) h fun v8 g =>
   VB h.length v8 ∧ (let h := g
    cKD Try.prog 71 [v6, v8] h fun v9 g =>
    (∃ new, g = h ++ new) ∧ (let h := g
     vK (aFieldAddr Try.prog 44 v2 1) h fun v10 h =>
     vK (aLoad Try.prog 9 v10 h) h fun v11 g =>
     VB h.length v11 ∧ (let h := g
      vK (aFieldAddr Try.prog 44 v3 1) h fun v12 h =>
      vK (aLoad Try.prog 9 v12 h) h fun v13 g =>
      VB h.length v13 ∧ (let h := g
       cKD Try.prog 72 [v11, v13] h fun v14 g =>
       (∃ new, g = h ++ new) ∧ (let h := g
        okK (aBuildSlice Try.prog 33 2 [(0, v9), (1, v14)] h) fun v15 h =>
        cKD Try.prog 70 [v15] h fun v16 g =>
        (∃ new, g = h ++ new) ∧ (let h := g
         mvK v16 h fun v4_1 h =>
         retV [some v4_1] R h)))))))
def lv45 (q : Nat) : List Nat := []
theorem ok45 : lkOK Try.prog lv45 Try.f45 2 (Try.f45.body.getD .skip) 45 = true := by kernel_rfl
theorem e45 (a0 a1 : Value) (h : Heap) (R : Value → Heap → Prop) : n45 a0 a1 h R = wpK Try.prog lv45 (Try.f45.body.getD .skip) (endK Try.prog [.tmp 4] R) (argT [a0, a1]) h := by kernel_rfl
theorem w45 {a0 a1 : Value} {h : Heap} {R : Value → Heap → Prop} (hn : n45 a0 a1 h R) : DetP Try.prog 45 [a0, a1] h R :=
  DetP.of_code (rs := [.tmp 4]) (n := 2) Try.func45 (by kernel_rfl) (by kernel_rfl) lv45 ok45 rfl ((e45 a0 a1 h R) ▸ hn)

/-! ### examiner/clock.timerErr: function 46 -/
def n46 (a0 a1 : Value) (h : Heap) (R : Value → Heap → Prop) : Prop :=
  okK (some (aBox Try.prog 44 a1 h)) fun v3 h =>
  mvK (Value.int IntKind.i64 0) h fun v4 h =>
  vK (aFieldAddr Try.prog 44 v3 4) h fun v6 h =>
  vK (aLoad Try.prog 4 v6 h) h fun v7 h =>
  vK (aUn UnOp.not v7) h fun v8 h =>
  mvK v8 h fun v9 h =>
  gdK v9 true (fun k0 =>
   vK (aFieldAddr Try.prog 44 v3 5) h fun v10 h =>
   k0 v10 h) (fun v10_1 h =>
   gdK v9 true (fun k1 =>
    vK (aLoad Try.prog 4 v10_1 h) h fun v11 h =>
    k1 v11 h) (fun v11_1 h =>
    gdK v9 true (fun k2 =>
     vK (aUn UnOp.not v11_1) h fun v12 h =>
     k2 v12 h) (fun v12_1 h =>
     vK (pickV v9 v12_1 (Value.bool false)) h fun v13 h =>
     mvK v13 h fun v5 h =>
     vK (aFieldAddr Try.prog 44 v3 4) h fun v15 h =>
     vK (aLoad Try.prog 4 v15 h) h fun v16 h =>
     mvK v16 h fun v17 h =>
     gdK v17 true (fun k3 =>
      vK (aFieldAddr Try.prog 44 v3 5) h fun v18 h =>
      k3 v18 h) (fun v18_1 h =>
      gdK v17 true (fun k4 =>
       vK (aLoad Try.prog 4 v18_1 h) h fun v19 h =>
       k4 v19 h) (fun v19_1 h =>
       vK (pickV v17 v19_1 (Value.bool false)) h fun v20 h =>
       mvK v20 h fun v14 h =>
       cnd v14 (
        mvK (Value.int IntKind.i64 28) h fun v4_1 h =>
        retV [some v4_1] R h) (
        mvK v5 h fun v22 h =>
        mvK v22 h fun v23 h =>
        gdK v23 true (fun k5 =>
         vK (aFieldAddr Try.prog 44 v3 2) h fun v24 h =>
         k5 v24 h) (fun v24_1 h =>
         gdK v23 true (fun k6 =>
          vK (aLoad Try.prog 3 v24_1 h) h fun v25 h =>
          k6 v25 h) (fun v25_1 h =>
          gdK v23 true (fun k7 =>
           vK (aBin Try.prog BinOp.neq 3 v25_1 (Value.int IntKind.i64 0)) h fun v26 h =>
           k7 v26 h) (fun v26_1 h =>
           gdK v23 true (fun k8 =>
            mvK v26_1 h fun v27 h =>
            k8 v27 h) (fun v27_1 h =>
            gdK v27_1 false (fun k9 =>
             vK (aFieldAddr Try.prog 44 v3 3) h fun v28 h =>
             k9 v28 h) (fun v28_1 h =>
             gdK v27_1 false (fun k10 =>
              vK (aLoad Try.prog 3 v28_1 h) h fun v29 h =>
              k10 v29 h) (fun v29_1 h =>
              gdK v27_1 false (fun k11 =>
               vK (aBin Try.prog BinOp.neq 3 v29_1 (Value.int IntKind.i64 0)) h fun v30 h =>
               k11 v30 h) (fun v30_1 h =>
               gdK v23 true (fun k12 =>
                vK (pickV v27_1 (Value.bool true) v30_1) h fun v31 h =>
                k12 v31 h) (fun v31_1 h =>
                vK (pickV v23 v31_1 (Value.bool false)) h fun v32 h =>
                mvK v32 h fun v21 h =>
                cnd v21 (
                 mvK (Value.int IntKind.i64 5) h fun v4_2 h =>
                 retV [some v4_2] R h) (
                 mvK v5 h fun v34 h =>
                 mvK v34 h fun v33 h =>
                 cnd v33 (
                  mvK (Value.int IntKind.i64 0) h fun v4_3 h =>
                  retV [some v4_3] R h) (
                  seqK (fun k13 =>
                   vK (aFieldAddr Try.prog 44 v3 2) h fun v36 h =>
                   vK (aLoad Try.prog 3 v36 h) h fun v37 h =>
                   mvK a0 h fun v38 h =>
                   cK Try.prog 41 [v37, (Value.int IntKind.i64 0), v38] h fun v39 h =>
                   vK (aUn UnOp.not v39) h fun v40 h =>
                   mvK v40 h fun v35 h =>
                   cnd v35 (
                    k13 [v35] h) (
                    vK (aFieldAddr Try.prog 44 v3 3) h fun v41 h =>
                    vK (aLoad Try.prog 3 v41 h) h fun v42 h =>
                    vK (aFieldAddr Try.prog 44 v3 2) h fun v43 h =>
                    vK (aLoad Try.prog 3 v43 h) h fun v44 h =>
                    cK Try.prog 41 [v42, v44, (Value.int IntKind.i64 1099511627776)] h fun v45 h =>
                    vK (aUn UnOp.not v45) h fun v46 h =>
                    mvK v46 h fun v35_1 h =>
                    cnd v35_1 (
                     k13 [v35_1] h) (
                     vK (aFieldAddr Try.prog 44 v3 4) h fun v47 h =>
                     vK (aLoad Try.prog 4 v47 h) h fun v48 h =>
                     mvK v48 h fun v49 h =>
                     gdK v49 true (fun k14 =>
                      vK (aFieldAddr Try.prog 44 v3 3) h fun v50 h =>
                      k14 v50 h) (fun v50_1 h =>
                      gdK v49 true (fun k15 =>
                       vK (aLoad Try.prog 3 v50_1 h) h fun v51 h =>
                       k15 v51 h) (fun v51_1 h =>
                       gdK v49 true (fun k16 =>
                        mvK a0 h fun v52 h =>
                        k16 v52 h) (fun v52_1 h =>
                        gdK v49 true (fun k17 =>
                         vK (aBin Try.prog BinOp.lss 3 v51_1 v52_1) h fun v53 h =>
                         k17 v53 h) (fun v53_1 h =>
                         vK (pickV v49 v53_1 (Value.bool false)) h fun v54 h =>
                         mvK v54 h fun v35_2 h =>
                         cnd v35_2 (
                          k13 [v35_2] h) (
                          vK (aFieldAddr Try.prog 44 v3 5) h fun v55 h =>
                          vK (aLoad Try.prog 4 v55 h) h fun v56 h =>
                          mvK v56 h fun v57 h =>
                          gdK v57 true (fun k18 =>
                           vK (aFieldAddr Try.prog 44 v3 3) h fun v58 h =>
                           k18 v58 h) (fun v58_1 h =>
                           gdK v57 true (fun k19 =>
                            vK (aLoad Try.prog 3 v58_1 h) h fun v59 h =>
                            k19 v59 h) (fun v59_1 h =>
                            gdK v57 true (fun k20 =>
                             mvK a0 h fun v60 h =>
                             k20 v60 h) (fun v60_1 h =>
                             gdK v57 true (fun k21 =>
                              vK (aBin Try.prog BinOp.gtr 3 v59_1 v60_1) h fun v61 h =>
                              k21 v61 h) (fun v61_1 h =>
                              vK (pickV v57 v61_1 (Value.bool false)) h fun v62 h =>
                              mvK v62 h fun v35_3 h =>
                              k13 [v35_3] h) h) h) h) h)) h) h) h) h))) fun x13 h => ∀ jx13 : Tmps,
                   let v35_4 : Value := nth x13 0
                   cnd v35_4 (
                    mvK (Value.int IntKind.i64 3) h fun v4_4 h =>
                    retV [some v4_4] R h) (
                    mvK (Value.int IntKind.i64 0) h fun v4_5 h =>
                    retV [some v4_5] R h)))) h) h) h) h) h) h) h) h)) h) h) h) h) h
def lv46 (q : Nat) : List Nat := bif Nat.beq q 25 then [9223372002495037440, 35] else []
theorem ok46 : lkOK Try.prog lv46 Try.f46 2 (Try.f46.body.getD .skip) 46 = true := by kernel_rfl
theorem e46 (a0 a1 : Value) (h : Heap) (R : Value → Heap → Prop) : n46 a0 a1 h R = wpK Try.prog lv46 (Try.f46.body.getD .skip) (endK Try.prog [.tmp 4] R) (argT [a0, a1]) h := by kernel_rfl
theorem w46 {a0 a1 : Value} {h : Heap} {R : Value → Heap → Prop} (hn : n46 a0 a1 h R) : DetP Try.prog 46 [a0, a1] h R :=
  DetP.of_code (rs := [.tmp 4]) (n := 2) Try.func46 (by kernel_rfl) (by kernel_rfl) lv46 ok46 rfl ((e46 a0 a1 h R) ▸ hn)

/-! ### examiner/examinerref27.timerErr: function 47 -/
def n47 (a0 a1 : Value) (h : Heap) (R : Value → Heap → Prop) : Prop :=
  okK (some (aBox Try.prog 24 a0 h)) fun v2 h =>
  mvK (Value.int IntKind.i64 0) h fun v4 h =>
  vK (aFieldAddr Try.prog 24 v2 1) h fun v9 h =>
  vK (aLoad Try.prog 22 v9 h) h fun v10 h =>
  mvK a1 h fun v11 h =>
  vK (aIndexAddr Try.prog 22 v10 v11) h fun v12 h =>
  vK (aLoad Try.prog 44 v12 h) h fun v13 h =>
  okK (aAlloc Try.prog 44 h) fun v5 h =>
  okK ((aStore Try.prog 44 v5 v13 h).map (undef, ·)) fun _ h =>
  vK (aFieldAddr Try.prog 44 v5 0) h fun v14 h =>
  vK (aLoad Try.prog 3 v14 h) h fun v15 h =>
  cK Try.prog 62 [v15] h fun v16 h =>
  mvK v16 h fun v6 h =>
  mvK v6 h fun v17 h =>
  vK (aBin Try.prog BinOp.neq 3 v17 (Value.int IntKind.i64 0)) h fun v18 h =>
  cnd v18 (
   mvK v6 h fun v19 h =>
   mvK v19 h fun v4_1 h =>
   retV [some v4_1] R h) (
   vK (aFieldAddr Try.prog 44 v5 1) h fun v20 h =>
   vK (aLoad Try.prog 9 v20 h) h fun v21 h =>
   cK Try.prog 63 [v21] h fun v22 h =>
   mvK v22 h fun v7 h =>
   mvK v7 h fun v23 h =>
   vK (aBin Try.prog BinOp.neq 3 v23 (Value.int IntKind.i64 0)) h fun v24 h =>
   cnd v24 (
    mvK v7 h fun v25 h =>
    mvK v25 h fun v4_2 h =>
    retV [some v4_2] R h) (
    mvK a1 h fun v26 h =>
    vK (aBin Try.prog BinOp.gtr 3 v26 (Value.int IntKind.i64 0)) h fun v27 h =>
    mvK v27 h fun v28 h =>
    gdK v28 true (fun k0 =>
     vK (aFieldAddr Try.prog 24 v2 1) h fun v29 h =>
     k0 v29 h) (fun v29_1 h =>
     gdK v28 true (fun k1 =>
      vK (aLoad Try.prog 22 v29_1 h) h fun v30 g =>
      VB h.length v30 ∧ (let h := g
       k1 v30 h)) (fun v30_1 h =>
      gdK v28 true (fun k2 =>
       mvK a1 h fun v31 h =>
       k2 v31 h) (fun v31_1 h =>
       gdK v28 true (fun k3 =>
        vK (aBin Try.prog BinOp.sub 3 v31_1 (Value.int IntKind.i64 1)) h fun v32 h =>
        k3 v32 h) (fun v32_1 h =>
        gdK v28 true (fun k4 =>
         vK (aIndexAddr Try.prog 22 v30_1 v32_1) h fun v33 h =>
         k4 v33 h) (fun v33_1 h =>
         gdK v28 true (fun k5 =>
          vK (aLoad Try.prog 44 v33_1 h) h fun v34 g =>
          VB h.length v34 ∧ (let h := g
           k5 v34 h)) (fun v34_1 h =>
          gdK v28 true (fun k6 =>
           vK (aLoad Try.prog 44 v5 h) h fun v35 g =>
           VB h.length v35 ∧ (let h := g
            k6 v35 h)) (fun v35_1 h =>
           gdK v28 true (fun k7 =>
            cKD Try.prog 64 [v34_1, v35_1] h fun v36 g =>
            (∃ new, g = h ++ new) ∧ (let h := g
             k7 v36 h)) (fun v36_1 h =>
            gdK v28 true (fun k8 =>
             vK (aUn UnOp.not v36_1) h fun v37 h =>
             k8 v37 h) (fun v37_1 h =>
             vK (pickV v28 v37_1 (Value.bool false)) h fun v38 h =>
             cnd v38 (
              mvK (Value.int IntKind.i64 14) h fun v4_3 h =>
              retV [some v4_3] R h) (
              vK (aFieldAddr Try.prog 44 v5 4) h fun v39 h =>
              vK (aLoad Try.prog 4 v39 h) h fun v40 h =>
              mvK v40 h fun v41 h =>
              gdK v41 true (fun k9 =>
               vK (aFieldAddr Try.prog 44 v5 5) h fun v42 h =>
               k9 v42 h) (fun v42_1 h =>
               gdK v41 true (fun k10 =>
                vK (aLoad Try.prog 4 v42_1 h) h fun v43 h =>
                k10 v43 h) (fun v43_1 h =>
                vK (pickV v41 v43_1 (Value.bool false)) h fun v44 h =>
                cnd v44 (
                 mvK (Value.int IntKind.i64 28) h fun v4_4 h =>
                 retV [some v4_4] R h) (
                 vK (aFieldAddr Try.prog 44 v5 4) h fun v45 h =>
                 vK (aLoad Try.prog 4 v45 h) h fun v46 h =>
                 vK (aUn UnOp.not v46) h fun v47 h =>
                 mvK v47 h fun v48 h =>
                 gdK v48 true (fun k11 =>
                  vK (aFieldAddr Try.prog 44 v5 5) h fun v49 h =>
                  k11 v49 h) (fun v49_1 h =>
                  gdK v48 true (fun k12 =>
                   vK (aLoad Try.prog 4 v49_1 h) h fun v50 h =>
                   k12 v50 h) (fun v50_1 h =>
                   gdK v48 true (fun k13 =>
                    vK (aUn UnOp.not v50_1) h fun v51 h =>
                    k13 v51 h) (fun v51_1 h =>
                    vK (pickV v48 v51_1 (Value.bool false)) h fun v52 h =>
                    cnd v52 (
                     vK (aFieldAddr Try.prog 44 v5 2) h fun v53 h =>
                     vK (aLoad Try.prog 3 v53 h) h fun v54 h =>
                     vK (aBin Try.prog BinOp.neq 3 v54 (Value.int IntKind.i64 0)) h fun v55 h =>
                     mvK v55 h fun v56 h =>
                     gdK v56 false (fun k14 =>
                      vK (aFieldAddr Try.prog 44 v5 3) h fun v57 h =>
                      k14 v57 h) (fun v57_1 h =>
                      gdK v56 false (fun k15 =>
                       vK (aLoad Try.prog 3 v57_1 h) h fun v58 h =>
                       k15 v58 h) (fun v58_1 h =>
                       gdK v56 false (fun k16 =>
                        vK (aBin Try.prog BinOp.neq 3 v58_1 (Value.int IntKind.i64 0)) h fun v59 h =>
                        k16 v59 h) (fun v59_1 h =>
                        vK (pickV v56 (Value.bool true) v59_1) h fun v60 h =>
                        cK Try.prog 73 [v60] h fun v61 h =>
                        vK (aBin Try.prog BinOp.mul 3 (Value.int IntKind.i64 5) v61) h fun v62 h =>
                        mvK v62 h fun v4_5 h =>
                        retV [some v4_5] R h) h) h) h) (
                     vK (aFieldAddr Try.prog 44 v5 2) h fun v63 h =>
                     vK (aLoad Try.prog 3 v63 h) h fun v64 h =>
                     vK (aFieldAddr Try.prog 24 v2 0) h fun v65 h =>
                     vK (aLoad Try.prog 3 v65 h) h fun v66 h =>
                     cK Try.prog 26 [v64, (Value.int IntKind.i64 0), v66] h fun v67 h =>
                     vK (aUn UnOp.not v67) h fun v68 h =>
                     mvK v68 h fun v69 h =>
                     gdK v69 false (fun k17 =>
                      vK (aFieldAddr Try.prog 44 v5 3) h fun v70 h =>
                      k17 v70 h) (fun v70_1 h =>
                      gdK v69 false (fun k18 =>
                       vK (aLoad Try.prog 3 v70_1 h) h fun v71 h =>
                       k18 v71 h) (fun v71_1 h =>
                       gdK v69 false (fun k19 =>
                        vK (aFieldAddr Try.prog 44 v5 2) h fun v72 h =>
                        k19 v72 h) (fun v72_1 h =>
                        gdK v69 false (fun k20 =>
                         vK (aLoad Try.prog 3 v72_1 h) h fun v73 h =>
                         k20 v73 h) (fun v73_1 h =>
                         gdK v69 false (fun k21 =>
                          cK Try.prog 26 [v71_1, v73_1, (Value.int IntKind.i64 1099511627776)] h fun v74 h =>
                          k21 v74 h) (fun v74_1 h =>
                          gdK v69 false (fun k22 =>
                           vK (aUn UnOp.not v74_1) h fun v75 h =>
                           k22 v75 h) (fun v75_1 h =>
                           vK (pickV v69 (Value.bool true) v75_1) h fun v76 h =>
                           mvK v76 h fun v77 h =>
                           gdK v77 false (fun k23 =>
                            vK (aFieldAddr Try.prog 44 v5 4) h fun v78 h =>
                            k23 v78 h) (fun v78_1 h =>
                            gdK v77 false (fun k24 =>
                             vK (aLoad Try.prog 4 v78_1 h) h fun v79 h =>
                             k24 v79 h) (fun v79_1 h =>
                             gdK v77 false (fun k25 =>
                              mvK v79_1 h fun v80 h =>
                              k25 v80 h) (fun v80_1 h =>
                              gdK v80_1 true (fun k26 =>
                               vK (aFieldAddr Try.prog 44 v5 3) h fun v81 h =>
                               k26 v81 h) (fun v81_1 h =>
                               gdK v80_1 true (fun k27 =>
                                vK (aLoad Try.prog 3 v81_1 h) h fun v82 h =>
                                k27 v82 h) (fun v82_1 h =>
                                gdK v80_1 true (fun k28 =>
                                 vK (aFieldAddr Try.prog 24 v2 0) h fun v83 h =>
                                 k28 v83 h) (fun v83_1 h =>
                                 gdK v80_1 true (fun k29 =>
                                  vK (aLoad Try.prog 3 v83_1 h) h fun v84 h =>
                                  k29 v84 h) (fun v84_1 h =>
                                  gdK v80_1 true (fun k30 =>
                                   vK (aBin Try.prog BinOp.lss 3 v82_1 v84_1) h fun v85 h =>
                                   k30 v85 h) (fun v85_1 h =>
                                   gdK v77 false (fun k31 =>
                                    vK (pickV v80_1 v85_1 (Value.bool false)) h fun v86 h =>
                                    k31 v86 h) (fun v86_1 h =>
                                    vK (pickV v77 (Value.bool true) v86_1) h fun v87 h =>
                                    mvK v87 h fun v88 h =>
                                    gdK v88 false (fun k32 =>
                                     vK (aFieldAddr Try.prog 44 v5 5) h fun v89 h =>
                                     k32 v89 h) (fun v89_1 h =>
                                     gdK v88 false (fun k33 =>
                                      vK (aLoad Try.prog 4 v89_1 h) h fun v90 h =>
                                      k33 v90 h) (fun v90_1 h =>
                                      gdK v88 false (fun k34 =>
                                       mvK v90_1 h fun v91 h =>
                                       k34 v91 h) (fun v91_1 h =>
                                       gdK v91_1 true (fun k35 =>
                                        vK (aFieldAddr Try.prog 44 v5 3) h fun v92 h =>
                                        k35 v92 h) (fun v92_1 h =>
                                        gdK v91_1 true (fun k36 =>
                                         vK (aLoad Try.prog 3 v92_1 h) h fun v93 h =>
                                         k36 v93 h) (fun v93_1 h =>
                                         gdK v91_1 true (fun k37 =>
                                          vK (aFieldAddr Try.prog 24 v2 0) h fun v94 h =>
                                          k37 v94 h) (fun v94_1 h =>
                                          gdK v91_1 true (fun k38 =>
                                           vK (aLoad Try.prog 3 v94_1 h) h fun v95 h =>
                                           k38 v95 h) (fun v95_1 h =>
                                           gdK v91_1 true (fun k39 =>
                                            vK (aBin Try.prog BinOp.gtr 3 v93_1 v95_1) h fun v96 h =>
                                            k39 v96 h) (fun v96_1 h =>
                                            gdK v88 false (fun k40 =>
                                             vK (pickV v91_1 v96_1 (Value.bool false)) h fun v97 h =>
                                             k40 v97 h) (fun v97_1 h =>
                                             vK (pickV v88 (Value.bool true) v97_1) h fun v98 h =>
                                             mvK v98 h fun v8 h =>
                                             mvK v8 h fun v99 h =>
                                             cK Try.prog 73 [v99] h fun v100 h =>
                                             vK (aBin Try.prog BinOp.mul 3 (Value.int IntKind.i64 3) v100) h fun v101 h =>
                                             mvK v101 h fun v4_6 h =>
                                             retV [some v4_6] R h) h) h) h) h) h) h) h) h) h) h) h) h) h) h) h) h) h) h) h) h) h) h) h) h)) h) h) h)) h) h)) h) h) h) h) h) h) h) h) h))
def lv47 (q : Nat) : List Nat := []
theorem ok47 : lkOK Try.prog lv47 Try.f47 2 (Try.f47.body.getD .skip) 47 = true := by kernel_rfl
theorem e47 (a0 a1 : Value) (h : Heap) (R : Value → Heap → Prop) : n47 a0 a1 h R = wpK Try.prog lv47 (Try.f47.body.getD .skip) (endK Try.prog [.tmp 4] R) (argT [a0, a1]) h := by kernel_rfl
theorem w47 {a0 a1 : Value} {h : Heap} {R : Value → Heap → Prop} (hn : n47 a0 a1 h R) : DetP Try.prog 47 [a0, a1] h R :=
  DetP.of_code (rs := [.tmp 4]) (n := 2) Try.func47 (by kernel_rfl) (by kernel_rfl) lv47 ok47 rfl ((e47 a0 a1 h R) ▸ hn)

/-! ### examiner/clock.clockErr: function 48 -/
def n48 (a0 : Value) (h : Heap) (R : Value → Heap → Prop) : Prop :=
  okK (some (aBox Try.prog 24 a0 h)) fun v1 h =>
  mvK (Value.int IntKind.i64 0) h fun v2 h =>
  vK (aLoad Try.prog 24 v1 h) h fun v6 h =>
  cK Try.prog 12 [v6] h fun v7 h =>
  mvK v7 h fun v5 h =>
  vK (aExtract v5 0) h fun v8 h =>
  vK (aExtract v5 1) h fun v9 h =>
  mvK v8 h fun v3 h =>
  mvK v9 h fun v4 h =>
  mvK v4 h fun v10 h =>
  mvK v10 h fun v2_1 h =>
  retV [some v2_1] R h
def lv48 (q : Nat) : List Nat := []
theorem ok48 : lkOK Try.prog lv48 Try.f48 1 (Try.f48.body.getD .skip) 48 = true := by kernel_rfl
theorem e48 (a0 : Value) (h : Heap) (R : Value → Heap → Prop) : n48 a0 h R = wpK Try.prog lv48 (Try.f48.body.getD .skip) (endK Try.prog [.tmp 2] R) (argT [a0]) h := by kernel_rfl
theorem w48 {a0 : Value} {h : Heap} {R : Value → Heap → Prop} (hn : n48 a0 h R) : DetP Try.prog 48 [a0] h R :=
  DetP.of_code (rs := [.tmp 2]) (n := 1) Try.func48 (by kernel_rfl) (by kernel_rfl) lv48 ok48 rfl ((e48 a0 h R) ▸ hn)

/-! ### examiner/examinerref27.fail: function 51 -/
def n51 (a0 : Value) (h : Heap) (R : Value → Heap → Prop) : Prop :=
  okK (aAlloc Try.prog 39 h) fun v2 h =>
  mvK a0 h fun v3 h =>
  vK (aBuild Try.prog 39 [(3, v3)]) h fun v4 h =>
  okK ((aStore Try.prog 39 v2 v4 h).map (undef, ·)) fun _ h =>
  retV [aLoad Try.prog 39 v2 h] R h
def lv51 (q : Nat) : List Nat := []
theorem ok51 : lkOK Try.prog lv51 Try.f51 1 (Try.f51.body.getD .skip) 51 = true := by kernel_rfl
theorem e51 (a0 : Value) (h : Heap) (R : Value → Heap → Prop) : n51 a0 h R = wpK Try.prog lv51 (Try.f51.body.getD .skip) (endK Try.prog [.cell 2 39] R) (argT [a0]) h := by kernel_rfl
theorem w51 {a0 : Value} {h : Heap} {R : Value → Heap → Prop} (hn : n51 a0 h R) : DetP Try.prog 51 [a0] h R :=
  DetP.of_code (rs := [.cell 2 39]) (n := 1) Try.func51 (by kernel_rfl) (by kernel_rfl) lv51 ok51 rfl ((e51 a0 h R) ▸ hn)

/-! ### examiner/examinerref27.namedErr: function 53 -/
/-! ### examiner/examinerref27.idle: function 54 -/
/-! ### examiner/examinerref26.OwnerErr: function 62 -/
def n62 (a0 : Value) (h : Heap) (R : Value → Heap → Prop) : Prop :=
  mvK (Value.int IntKind.i64 0) h fun v2 h =>
  mvK a0 h fun v3 h =>
  cK Try.prog 26 [v3, (Value.int IntKind.i64 0), (Value.int IntKind.i64 11)] h fun v4 h =>
  vK (aUn UnOp.not v4) h fun v5 h =>
  cK Try.prog 73 [v5] h fun v6 h =>
  vK (aBin Try.prog BinOp.mul 3 (Value.int IntKind.i64 3) v6) h fun v7 h =>
  mvK v7 h fun v2_1 h =>
  retV [some v2_1] R h
def lv62 (q : Nat) : List Nat := []
theorem ok62 : lkOK Try.prog lv62 Try.f62 1 (Try.f62.body.getD .skip) 62 = true := by kernel_rfl
theorem e62 (a0 : Value) (h : Heap) (R : Value → Heap → Prop) : n62 a0 h R = wpK Try.prog lv62 (Try.f62.body.getD .skip) (endK Try.prog [.tmp 2] R) (argT [a0]) h := by kernel_rfl
theorem w62 {a0 : Value} {h : Heap} {R : Value → Heap → Prop} (hn : n62 a0 h R) : DetP Try.prog 62 [a0] h R :=
  DetP.of_code (rs := [.tmp 2]) (n := 1) Try.func62 (by kernel_rfl) (by kernel_rfl) lv62 ok62 rfl ((e62 a0 h R) ▸ hn)

/-! ### examiner/examinerref26.NameErr: function 63 -/
def n63 (a0 : Value) (h : Heap) (R : Value → Heap → Prop) : Prop :=
  mvK (Value.int IntKind.i64 0) h fun v2 h =>
  mvK a0 h fun v3 h =>
  cK Try.prog 79 [v3] h fun v4 h =>
  vK (aUn UnOp.not v4) h fun v5 h =>
  cK Try.prog 73 [v5] h fun v6 h =>
  vK (aBin Try.prog BinOp.mul 3 (Value.int IntKind.i64 7) v6) h fun v7 h =>
  mvK v7 h fun v2_1 h =>
  retV [some v2_1] R h
def lv63 (q : Nat) : List Nat := []
theorem ok63 : lkOK Try.prog lv63 Try.f63 1 (Try.f63.body.getD .skip) 63 = true := by kernel_rfl
theorem e63 (a0 : Value) (h : Heap) (R : Value → Heap → Prop) : n63 a0 h R = wpK Try.prog lv63 (Try.f63.body.getD .skip) (endK Try.prog [.tmp 2] R) (argT [a0]) h := by kernel_rfl
theorem w63 {a0 : Value} {h : Heap} {R : Value → Heap → Prop} (hn : n63 a0 h R) : DetP Try.prog 63 [a0] h R :=
  DetP.of_code (rs := [.tmp 2]) (n := 1) Try.func63 (by kernel_rfl) (by kernel_rfl) lv63 ok63 rfl ((e63 a0 h R) ▸ hn)

/-! ### examiner/examinerref27.isLess: function 64 -/
def n64 (a0 a1 : Value) (h : Heap) (R : Value → Heap → Prop) : Prop :=
  okK (some (aBox Try.prog 44 a0 h)) fun v2 h =>
  okK (some (aBox Try.prog 44 a1 h)) fun v3 h =>
  mvK (Value.bool false) h fun v4 h =>
  vK (aFieldAddr Try.prog 44 v2 0) h fun v5 h =>
  vK (aLoad Try.prog 3 v5 h) h fun v6 h =>
  vK (aFieldAddr Try.prog 44 v3 0) h fun v7 h =>
  vK (aLoad Try.prog 3 v7 h) h fun v8 h =>
  vK (aBin Try.prog BinOp.lss 3 v6 v8) h fun v9 h =>
  mvK v9 h fun v10 h =>
  gdK v10 false (fun k0 =>
   vK (aFieldAddr Try.prog 44 v2 0) h fun v11 h =>
   k0 v11 h) (fun v11_1 h =>
   gdK v10 false (fun k1 =>
    vK (aLoad Try.prog 3 v11_1 h) h fun v12 h =>
    k1 v12 h) (fun v12_1 h =>
    gdK v10 false (fun k2 =>
     vK (aFieldAddr Try.prog 44 v3 0) h fun v13 h =>
     k2 v13 h) (fun v13_1 h =>
     gdK v10 false (fun k3 =>
      vK (aLoad Try.prog 3 v13_1 h) h fun v14 h =>
      k3 v14 h) (fun v14_1 h =>
      gdK v10 false (fun k4 =>
       vK (aBin Try.prog BinOp.eql 3 v12_1 v14_1) h fun v15 h =>
       k4 v15 h) (fun v15_1 h =>
       gdK v10 false (fun k5 =>
        mvK v15_1 h fun v16 h =>
        k5 v16 h) (fun v16_1 h =>
        gdK v16_1 true (fun k6 =>
         vK (aFieldAddr Try.prog 44 v2 1) h fun v17 h =>
         k6 v17 h) (fun v17_1 h =>
         gdK v16_1 true (fun k7 =>
          vK (aLoad Try.prog 9 v17_1 h) h fun v18 h =>
          k7 v18 h) (fun v18_1 h =>
          gdK v16_1 true (fun k8 =>
           vK (aFieldAddr Try.prog 44 v3 1) h fun v19 h =>
           k8 v19 h) (fun v19_1 h =>
           gdK v16_1 true (fun k9 =>
            vK (aLoad Try.prog 9 v19_1 h) h fun v20 h =>
            k9 v20 h) (fun v20_1 h =>
            gdK v16_1 true (fun k10 =>
             vK (aBin Try.prog BinOp.lss 9 v18_1 v20_1) h fun v21 h =>
             k10 v21 h) (fun v21_1 h =>
             gdK v10 false (fun k11 =>
              vK (pickV v16_1 v21_1 (Value.bool false)) h fun v22 h =>
              k11 v22 h) (fun v22_1 h =>
              vK (pickV v10 (Value.bool true) v22_1) h fun v23 h =>
              mvK v23 h fun v4_1 h =>
              retV [some v4_1] R h) h) h) h) h) h) h) h) h) h) h) h) h
def lv64 (q : Nat) : List Nat := []
theorem ok64 : lkOK Try.prog lv64 Try.f64 2 (Try.f64.body.getD .skip) 64 = true := by kernel_rfl
theorem e64 (a0 a1 : Value) (h : Heap) (R : Value → Heap → Prop) : n64 a0 a1 h R = wpK Try.prog lv64 (Try.f64.body.getD .skip) (endK Try.prog [.tmp 4] R) (argT [a0, a1]) h := by kernel_rfl
theorem w64 {a0 a1 : Value} {h : Heap} {R : Value → Heap → Prop} (hn : n64 a0 a1 h R) : DetP Try.prog 64 [a0, a1] h R :=
  DetP.of_code (rs := [.tmp 4]) (n := 2) Try.func64 (by kernel_rfl) (by kernel_rfl) lv64 ok64 rfl ((e64 a0 a1 h R) ▸ hn)

/-! ### examiner/clock.isLetter: function 65 -/
def n65 (a0 : Value) (h : Heap) (R : Value → Heap → Prop) : Prop :=
  mvK (Value.bool false) h fun v2 h =>
  mvK a0 h fun v3 h =>
  vK (aBin Try.prog BinOp.geq 21 v3 (Value.int IntKind.i32 97)) h fun v4 h =>
  mvK v4 h fun v5 h =>
  gdK v5 true (fun k0 =>
   mvK a0 h fun v6 h =>
   k0 v6 h) (fun v6_1 h =>
   gdK v5 true (fun k1 =>
    vK (aBin Try.prog BinOp.leq 21 v6_1 (Value.int IntKind.i32 122)) h fun v7 h =>
    k1 v7 h) (fun v7_1 h =>
    vK (pickV v5 v7_1 (Value.bool false)) h fun v8 h =>
    mvK v8 h fun v9 h =>
    gdK v9 false (fun k2 =>
     mvK a0 h fun v10 h =>
     k2 v10 h) (fun v10_1 h =>
     gdK v9 false (fun k3 =>
      vK (aBin Try.prog BinOp.geq 21 v10_1 (Value.int IntKind.i32 65)) h fun v11 h =>
      k3 v11 h) (fun v11_1 h =>
      gdK v9 false (fun k4 =>
       mvK v11_1 h fun v12 h =>
       k4 v12 h) (fun v12_1 h =>
       gdK v12_1 true (fun k5 =>
        mvK a0 h fun v13 h =>
        k5 v13 h) (fun v13_1 h =>
        gdK v12_1 true (fun k6 =>
         vK (aBin Try.prog BinOp.leq 21 v13_1 (Value.int IntKind.i32 90)) h fun v14 h =>
         k6 v14 h) (fun v14_1 h =>
         gdK v9 false (fun k7 =>
          vK (pickV v12_1 v14_1 (Value.bool false)) h fun v15 h =>
          k7 v15 h) (fun v15_1 h =>
          vK (pickV v9 (Value.bool true) v15_1) h fun v16 h =>
          mvK v16 h fun v2_1 h =>
          retV [some v2_1] R h) h) h) h) h) h) h) h) h
def lv65 (q : Nat) : List Nat := []
theorem ok65 : lkOK Try.prog lv65 Try.f65 1 (Try.f65.body.getD .skip) 65 = true := by kernel_rfl
theorem e65 (a0 : Value) (h : Heap) (R : Value → Heap → Prop) : n65 a0 h R = wpK Try.prog lv65 (Try.f65.body.getD .skip) (endK Try.prog [.tmp 2] R) (argT [a0]) h := by kernel_rfl
theorem w65 {a0 : Value} {h : Heap} {R : Value → Heap → Prop} (hn : n65 a0 h R) : DetP Try.prog 65 [a0] h R :=
  DetP.of_code (rs := [.tmp 2]) (n := 1) Try.func65 (by kernel_rfl) (by kernel_rfl) lv65 ok65 rfl ((e65 a0 h R) ▸ hn)

/-! ### strings.HasSuffix: function 66 -/
def n66 (a0 a1 : Value) (h : Heap) (R : Value → Heap → Prop) : Prop :=
  mvK (Value.bool false) h fun v4 h =>
  mvK a0 h fun v5 h =>
  mvK a1 h fun v6 h =>
  cK Try.prog 80 [v5, v6] h fun v7 h =>
  mvK v7 h fun v4_1 h =>
  retV [some v4_1] R h
def lv66 (q : Nat) : List Nat := []
theorem ok66 : lkOK Try.prog lv66 Try.f66 2 (Try.f66.body.getD .skip) 66 = true := by kernel_rfl
theorem e66 (a0 a1 : Value) (h : Heap) (R : Value → Heap → Prop) : n66 a0 a1 h R = wpK Try.prog lv66 (Try.f66.body.getD .skip) (endK Try.prog [.tmp 4] R) (argT [a0, a1]) h := by kernel_rfl
theorem w66 {a0 a1 : Value} {h : Heap} {R : Value → Heap → Prop} (hn : n66 a0 a1 h R) : DetP Try.prog 66 [a0, a1] h R :=
  DetP.of_code (rs := [.tmp 4]) (n := 2) Try.func66 (by kernel_rfl) (by kernel_rfl) lv66 ok66 rfl ((e66 a0 a1 h R) ▸ hn)

/-! ### strings.Contains: function 67 -/
def n67 (a0 a1 : Value) (h : Heap) (R : Value → Heap → Prop) : Prop :=
  mvK (Value.bool false) h fun v4 h =>
  mvK a0 h fun v5 h =>
  mvK a1 h fun v6 h =>
  cK Try.prog 81 [v5, v6] h fun v7 h =>
  vK (aBin Try.prog BinOp.geq 3 v7 (Value.int IntKind.i64 0)) h fun v8 h =>
  mvK v8 h fun v4_1 h =>
  retV [some v4_1] R h
def lv67 (q : Nat) : List Nat := []
theorem ok67 : lkOK Try.prog lv67 Try.f67 2 (Try.f67.body.getD .skip) 67 = true := by kernel_rfl
theorem e67 (a0 a1 : Value) (h : Heap) (R : Value → Heap → Prop) : n67 a0 a1 h R = wpK Try.prog lv67 (Try.f67.body.getD .skip) (endK Try.prog [.tmp 4] R) (argT [a0, a1]) h := by kernel_rfl
theorem w67 {a0 a1 : Value} {h : Heap} {R : Value → Heap → Prop} (hn : n67 a0 a1 h R) : DetP Try.prog 67 [a0, a1] h R :=
  DetP.of_code (rs := [.tmp 4]) (n := 2) Try.func67 (by kernel_rfl) (by kernel_rfl) lv67 ok67 rfl ((e67 a0 a1 h R) ▸ hn)

/-! ### strings.ContainsFunc: function 68 -/
def n68 (a0 a1 : Value) (h : Heap) (R : Value → Heap → Prop) : Prop :=
  mvK (Value.bool false) h fun v4 h =>
  mvK a0 h fun v5 h =>
  mvK a1 h fun v6 h =>
  cK Try.prog 82 [v5, v6] h fun v7 h =>
  vK (aBin Try.prog BinOp.geq 3 v7 (Value.int IntKind.i64 0)) h fun v8 h =>
  mvK v8 h fun v4_1 h =>
  retV [some v4_1] R h
def lv68 (q : Nat) : List Nat := []
theorem ok68 : lkOK Try.prog lv68 Try.f68 2 (Try.f68.body.getD .skip) 68 = true := by kernel_rfl
theorem e68 (a0 a1 : Value) (h : Heap) (R : Value → Heap → Prop) : n68 a0 a1 h R = wpK Try.prog lv68 (Try.f68.body.getD .skip) (endK Try.prog [.tmp 4] R) (argT [a0, a1]) h := by kernel_rfl
theorem w68 {a0 a1 : Value} {h : Heap} {R : Value → Heap → Prop} (hn : n68 a0 a1 h R) : DetP Try.prog 68 [a0, a1] h R :=
  DetP.of_code (rs := [.tmp 4]) (n := 2) Try.func68 (by kernel_rfl) (by kernel_rfl) lv68 ok68 rfl ((e68 a0 a1 h R) ▸ hn)

/-! ### examiner/clock.nameErr$1: function 69 -/
def n69 (a0 : Value) (h : Heap) (R : Value → Heap → Prop) : Prop :=
  mvK (Value.bool false) h fun v2 h =>
  mvK a0 h fun v3 h =>
  cK Try.prog 65 [v3] h fun v4 h =>
  vK (aUn UnOp.not v4) h fun v5 h =>
  mvK v5 h fun v6 h =>
  gdK v6 true (fun k0 =>
   mvK a0 h fun v7 h =>
   k0 v7 h) (fun v7_1 h =>
   gdK v6 true (fun k1 =>
    vK (aBin Try.prog BinOp.geq 21 v7_1 (Value.int IntKind.i32 48)) h fun v8 h =>
    k1 v8 h) (fun v8_1 h =>
    gdK v6 true (fun k2 =>
     mvK v8_1 h fun v9 h =>
     k2 v9 h) (fun v9_1 h =>
     gdK v9_1 true (fun k3 =>
      mvK a0 h fun v10 h =>
      k3 v10 h) (fun v10_1 h =>
      gdK v9_1 true (fun k4 =>
       vK (aBin Try.prog BinOp.leq 21 v10_1 (Value.int IntKind.i32 57)) h fun v11 h =>
       k4 v11 h) (fun v11_1 h =>
       gdK v6 true (fun k5 =>
        vK (pickV v9_1 v11_1 (Value.bool false)) h fun v12 h =>
        k5 v12 h) (fun v12_1 h =>
        gdK v6 true (fun k6 =>
         vK (aUn UnOp.not v12_1) h fun v13 h =>
         k6 v13 h) (fun v13_1 h =>
         vK (pickV v6 v13_1 (Value.bool false)) h fun v14 h =>
         mvK v14 h fun v15 h =>
         gdK v15 true (fun k7 =>
          mvK a0 h fun v16 h =>
          k7 v16 h) (fun v16_1 h =>
          gdK v15 true (fun k8 =>
           vK (aBin Try.prog BinOp.neq 21 v16_1 (Value.int IntKind.i32 95)) h fun v17 h =>
           k8 v17 h) (fun v17_1 h =>
           vK (pickV v15 v17_1 (Value.bool false)) h fun v18 h =>
           mvK v18 h fun v19 h =>
           gdK v19 true (fun k9 =>
            mvK a0 h fun v20 h =>
            k9 v20 h) (fun v20_1 h =>
            gdK v19 true (fun k10 =>
             vK (aBin Try.prog BinOp.neq 21 v20_1 (Value.int IntKind.i32 45)) h fun v21 h =>
             k10 v21 h) (fun v21_1 h =>
             vK (pickV v19 v21_1 (Value.bool false)) h fun v22 h =>
             mvK v22 h fun v2_1 h =>
             retV [some v2_1] R h) h) h) h) h) h) h) h) h) h) h) h
def lv69 (q : Nat) : List Nat := []
theorem ok69 : lkOK Try.prog lv69 Try.f69 1 (Try.f69.body.getD .skip) 69 = true := by kernel_rfl
theorem e69 (a0 : Value) (h : Heap) (R : Value → Heap → Prop) : n69 a0 h R = wpK Try.prog lv69 (Try.f69.body.getD .skip) (endK Try.prog [.tmp 2] R) (argT [a0]) h := by kernel_rfl
theorem w69 {a0 : Value} {h : Heap} {R : Value → Heap → Prop} (hn : n69 a0 h R) : DetP Try.prog 69 [a0] h R :=
  DetP.of_code (rs := [.tmp 2]) (n := 1) Try.func69 (by kernel_rfl) (by kernel_rfl) lv69 ok69 rfl ((e69 a0 h R) ▸ hn)

/-! ### cmp.Or[int]: function 70 -/
def n70 (a0 : Value) (h : Heap) (R : Value → Heap → Prop) : Prop :=
  mvK (Value.int IntKind.i64 0) h fun v2 h =>
  mvK (Value.int IntKind.i64 0) h fun v3 h =>
  mvK a0 h fun v6 h =>
  vK (aLen Try.prog 33 v6) h fun v7 h =>
  mvK (Value.int IntKind.i64 0) h fun v8 h =>
  ∃ (I3 : List Value → Heap → Prop) (μ3 : List Value → Heap → Nat), I3 [v8] h ∧
  ∀ (h3 : Heap) (j3 : Tmps) (v8_1 : Value), I3 [v8_1] h3 → (let h := h3
   vK (aBin Try.prog BinOp.lss 3 v8_1 v7) h fun v9 h =>
   cnd v9 (
    vK (aIndexAddr Try.prog 33 v6 v8_1) h fun v10 h =>
    vK (aLoad Try.prog 3 v10 h) h fun v11 h =>
    mvK v11 h fun v5 h =>
    mvK v5 h fun v12 h =>
    mvK v3 h fun v13 h =>
    vK (aBin Try.prog BinOp.neq 3 v12 v13) h fun v14 h =>
    cnd v14 (
     mvK v5 h fun v15 h =>
     mvK v15 h fun v2_1 h =>
     retV [some v2_1] R h) (
     vK (aBin Try.prog BinOp.add 3 v8_1 (Value.int IntKind.i64 1)) h fun v16 h =>
     mvK v16 h fun v8_2 h =>
     I3 [v8_2] h ∧ μ3 [v8_2] h < μ3 [v8_1] h3)) (
    mvK v3 h fun v17 h =>
    mvK v17 h fun v2_2 h =>
    retV [some v2_2] R h))
def lv70 (q : Nat) : List Nat := bif Nat.beq q 6 then [130852, 8] else []
theorem ok70 : lkOK Try.prog lv70 Try.f70 1 (Try.f70.body.getD .skip) 70 = true := by kernel_rfl
theorem e70 (a0 : Value) (h : Heap) (R : Value → Heap → Prop) : n70 a0 h R = wpK Try.prog lv70 (Try.f70.body.getD .skip) (endK Try.prog [.tmp 2] R) (argT [a0]) h := by kernel_rfl
theorem w70 {a0 : Value} {h : Heap} {R : Value → Heap → Prop} (hn : n70 a0 h R) : DetP Try.prog 70 [a0] h R :=
  DetP.of_code (rs := [.tmp 2]) (n := 1) Try.func70 (by kernel_rfl) (by kernel_rfl) lv70 ok70 rfl ((e70 a0 h R) ▸ hn)

/-! ### cmp.Compare[int]: function 71 -/
def n71 (a0 a1 : Value) (h : Heap) (R : Value → Heap → Prop) : Prop :=
  mvK (Value.int IntKind.i64 0) h fun v4 h =>
  mvK a0 h fun v7 h =>
  cK Try.prog 83 [v7] h fun v8 h =>
  mvK v8 h fun v5 h =>
  mvK a1 h fun v9 h =>
  cK Try.prog 83 [v9] h fun v10 h =>
  mvK v10 h fun v6 h =>
  mvK v5 h fun v11 h =>
  cnd v11 (
   mvK v6 h fun v12 h =>
   cnd v12 (
    mvK (Value.int IntKind.i64 0) h fun v4_1 h =>
    retV [some v4_1] R h) (
    mvK (Value.int IntKind.i64 (-1)) h fun v4_2 h =>
    retV [some v4_2] R h)) (
   mvK v6 h fun v13 h =>
   cnd v13 (
    mvK (Value.int IntKind.i64 1) h fun v4_3 h =>
    retV [some v4_3] R h) (
    mvK a0 h fun v14 h =>
    mvK a1 h fun v15 h =>
    vK (aBin Try.prog BinOp.lss 3 v14 v15) h fun v16 h =>
    cnd v16 (
     mvK (Value.int IntKind.i64 (-1)) h fun v4_4 h =>
     retV [some v4_4] R h) (
     mvK a0 h fun v17 h =>
     mvK a1 h fun v18 h =>
     vK (aBin Try.prog BinOp.gtr 3 v17 v18) h fun v19 h =>
     cnd v19 (
      mvK (Value.int IntKind.i64 1) h fun v4_5 h =>
      retV [some v4_5] R h) (
      mvK (Value.int IntKind.i64 0) h fun v4_6 h =>
      retV [some v4_6] R h))))
def lv71 (q : Nat) : List Nat := []
theorem ok71 : lkOK Try.prog lv71 Try.f71 2 (Try.f71.body.getD .skip) 71 = true := by kernel_rfl
theorem e71 (a0 a1 : Value) (h : Heap) (R : Value → Heap → Prop) : n71 a0 a1 h R = wpK Try.prog lv71 (Try.f71.body.getD .skip) (endK Try.prog [.tmp 4] R) (argT [a0, a1]) h := by kernel_rfl
theorem w71 {a0 a1 : Value} {h : Heap} {R : Value → Heap → Prop} (hn : n71 a0 a1 h R) : DetP Try.prog 71 [a0, a1] h R :=
  DetP.of_code (rs := [.tmp 4]) (n := 2) Try.func71 (by kernel_rfl) (by kernel_rfl) lv71 ok71 rfl ((e71 a0 a1 h R) ▸ hn)

/-! ### strings.Compare: function 72 -/
def n72 (a0 a1 : Value) (h : Heap) (R : Value → Heap → Prop) : Prop :=
  mvK (Value.int IntKind.i64 0) h fun v4 h =>
  mvK a0 h fun v5 h =>
  mvK a1 h fun v6 h =>
  cK Try.prog 84 [v5, v6] h fun v7 h =>
  mvK v7 h fun v4_1 h =>
  retV [some v4_1] R h
def lv72 (q : Nat) : List Nat := []
theorem ok72 : lkOK Try.prog lv72 Try.f72 2 (Try.f72.body.getD .skip) 72 = true := by kernel_rfl
theorem e72 (a0 a1 : Value) (h : Heap) (R : Value → Heap → Prop) : n72 a0 a1 h R = wpK Try.prog lv72 (Try.f72.body.getD .skip) (endK Try.prog [.tmp 4] R) (argT [a0, a1]) h := by kernel_rfl
theorem w72 {a0 a1 : Value} {h : Heap} {R : Value → Heap → Prop} (hn : n72 a0 a1 h R) : DetP Try.prog 72 [a0, a1] h R :=
  DetP.of_code (rs := [.tmp 4]) (n := 2) Try.func72 (by kernel_rfl) (by kernel_rfl) lv72 ok72 rfl ((e72 a0 a1 h R) ▸ hn)

/-! ### examiner/examinerbase.Count: function 73 -/
def n73 (a0 : Value) (h : Heap) (R : Value → Heap → Prop) : Prop :=
  mvK (Value.int IntKind.i64 0) h fun v2 h =>
  mvK a0 h fun v3 h =>
  cnd v3 (
   mvK (Value.int IntKind.i64 1) h fun v2_1 h =>
   retV [some v2_1] R h) (
   mvK (Value.int IntKind.i64 0) h fun v2_2 h =>
   retV [some v2_2] R h)
def lv73 (q : Nat) : List Nat := []
theorem ok73 : lkOK Try.prog lv73 Try.f73 1 (Try.f73.body.getD .skip) 73 = true := by kernel_rfl
theorem e73 (a0 : Value) (h : Heap) (R : Value → Heap → Prop) : n73 a0 h R = wpK Try.prog lv73 (Try.f73.body.getD .skip) (endK Try.prog [.tmp 2] R) (argT [a0]) h := by kernel_rfl
theorem w73 {a0 : Value} {h : Heap} {R : Value → Heap → Prop} (hn : n73 a0 h R) : DetP Try.prog 73 [a0] h R :=
  DetP.of_code (rs := [.tmp 2]) (n := 1) Try.func73 (by kernel_rfl) (by kernel_rfl) lv73 ok73 rfl ((e73 a0 h R) ▸ hn)

/-! ### examiner/clock.find$1: function 76 -/
def n76 (a0 a1 a2 : Value) (h : Heap) (R : Value → Heap → Prop) : Prop :=
  okK (some (aBox Try.prog 44 a0 h)) fun v3 h =>
  mvK (Value.bool false) h fun v4 h =>
  vK (aFieldAddr Try.prog 44 v3 0) h fun v5 h =>
  vK (aLoad Try.prog 3 v5 h) h fun v6 h =>
  vK (aLoad Try.prog 3 a1 h) h fun v7 h =>
  vK (aBin Try.prog BinOp.eql 3 v6 v7) h fun v8 h =>
  mvK v8 h fun v9 h =>
  gdK v9 true (fun k0 =>
   vK (aFieldAddr Try.prog 44 v3 1) h fun v10 h =>
   k0 v10 h) (fun v10_1 h =>
   gdK v9 true (fun k1 =>
    vK (aLoad Try.prog 9 v10_1 h) h fun v11 h =>
    k1 v11 h) (fun v11_1 h =>
    gdK v9 true (fun k2 =>
     vK (aLoad Try.prog 9 a2 h) h fun v12 h =>
     k2 v12 h) (fun v12_1 h =>
     gdK v9 true (fun k3 =>
      vK (aBin Try.prog BinOp.eql 9 v11_1 v12_1) h fun v13 h =>
      k3 v13 h) (fun v13_1 h =>
      vK (pickV v9 v13_1 (Value.bool false)) h fun v14 h =>
      mvK v14 h fun v4_1 h =>
      retV [some v4_1] R h) h) h) h) h
def lv76 (q : Nat) : List Nat := []
theorem ok76 : lkOK Try.prog lv76 Try.f76 3 (Try.f76.body.getD .skip) 76 = true := by kernel_rfl
theorem e76 (a0 a1 a2 : Value) (h : Heap) (R : Value → Heap → Prop) : n76 a0 a1 a2 h R = wpK Try.prog lv76 (Try.f76.body.getD .skip) (endK Try.prog [.tmp 4] R) (argT [a0, a1, a2]) h := by kernel_rfl
theorem w76 {a0 a1 a2 : Value} {h : Heap} {R : Value → Heap → Prop} (hn : n76 a0 a1 a2 h R) : DetP Try.prog 76 [a0, a1, a2] h R :=
  DetP.of_code (rs := [.tmp 4]) (n := 3) Try.func76 (by kernel_rfl) (by kernel_rfl) lv76 ok76 rfl ((e76 a0 a1 a2 h R) ▸ hn)

/-! ### examiner/examinerbase.IsName: function 79 -/
def n79 (a0 : Value) (h : Heap) (R : Value → Heap → Prop) : Prop :=
  mvK (Value.bool false) h fun v2 h =>
  mvK a0 h fun v5 h =>
  vK (aLen Try.prog 9 v5) h fun v6 h =>
  cK Try.prog 26 [v6, (Value.int IntKind.i64 1), (Value.int IntKind.i64 32)] h fun v7 h =>
  vK (aUn UnOp.not v7) h fun v8 h =>
  mvK v8 h fun v9 h =>
  gdK v9 false (fun k0 =>
   mvK a0 h fun v10 h =>
   k0 v10 h) (fun v10_1 h =>
   gdK v9 false (fun k1 =>
    vK (aIndex Try.prog 9 v10_1 (Value.int IntKind.i64 0)) h fun v11 h =>
    k1 v11 h) (fun v11_1 h =>
    gdK v9 false (fun k2 =>
     cK Try.prog 86 [v11_1] h fun v12 h =>
     k2 v12 h) (fun v12_1 h =>
     gdK v9 false (fun k3 =>
      vK (aUn UnOp.not v12_1) h fun v13 h =>
      k3 v13 h) (fun v13_1 h =>
      gdK v9 false (fun k4 =>
       mvK v13_1 h fun v14 h =>
       k4 v14 h) (fun v14_1 h =>
       gdK v14_1 true (fun k5 =>
        mvK a0 h fun v15 h =>
        k5 v15 h) (fun v15_1 h =>
        gdK v14_1 true (fun k6 =>
         vK (aIndex Try.prog 9 v15_1 (Value.int IntKind.i64 0)) h fun v16 h =>
         k6 v16 h) (fun v16_1 h =>
         gdK v14_1 true (fun k7 =>
          cK Try.prog 87 [v16_1] h fun v17 h =>
          k7 v17 h) (fun v17_1 h =>
          gdK v14_1 true (fun k8 =>
           vK (aUn UnOp.not v17_1) h fun v18 h =>
           k8 v18 h) (fun v18_1 h =>
           gdK v9 false (fun k9 =>
            vK (pickV v14_1 v18_1 (Value.bool false)) h fun v19 h =>
            k9 v19 h) (fun v19_1 h =>
            vK (pickV v9 (Value.bool true) v19_1) h fun v20 h =>
            mvK v20 h fun v21 h =>
            gdK v21 false (fun k10 =>
             mvK a0 h fun v22 h =>
             k10 v22 h) (fun v22_1 h =>
             gdK v21 false (fun k11 =>
              mvK a0 h fun v23 h =>
              k11 v23 h) (fun v23_1 h =>
              gdK v21 false (fun k12 =>
               vK (aLen Try.prog 9 v23_1) h fun v24 h =>
               k12 v24 h) (fun v24_1 h =>
               gdK v21 false (fun k13 =>
                vK (aBin Try.prog BinOp.sub 3 v24_1 (Value.int IntKind.i64 1)) h fun v25 h =>
                k13 v25 h) (fun v25_1 h =>
                gdK v21 false (fun k14 =>
                 vK (aIndex Try.prog 9 v22_1 v25_1) h fun v26 h =>
                 k14 v26 h) (fun v26_1 h =>
                 gdK v21 false (fun k15 =>
                  vK (aBin Try.prog BinOp.eql 5 v26_1 (Value.int IntKind.u8 45)) h fun v27 h =>
                  k15 v27 h) (fun v27_1 h =>
                  vK (pickV v21 (Value.bool true) v27_1) h fun v28 h =>
                  cnd v28 (
                   mvK (Value.bool false) h fun v2_1 h =>
                   retV [some v2_1] R h) (
                   mvK (Value.int IntKind.i64 1) h fun v3 h =>
                   ∃ (I4 : List Value → Heap → Prop) (μ4 : List Value → Heap → Nat), I4 [v3] h ∧
                   ∀ (h4 : Heap) (j4 : Tmps) (v3_1 : Value), I4 [v3_1] h4 → (let h := h4
                    mvK v3_1 h fun v29 h =>
                    mvK a0 h fun v30 h =>
                    vK (aLen Try.prog 9 v30) h fun v31 h =>
                    vK (aBin Try.prog BinOp.lss 3 v29 v31) h fun v32 h =>
                    cnd v32 (
                     mvK a0 h fun v35 h =>
                     mvK v3_1 h fun v36 h =>
                     vK (aIndex Try.prog 9 v35 v36) h fun v37 h =>
                     mvK v37 h fun v4 h =>
                     mvK v4 h fun v38 h =>
                     cK Try.prog 88 [v38] h fun v39 h =>
                     vK (aUn UnOp.not v39) h fun v40 h =>
                     mvK v40 h fun v41 h =>
                     gdK v41 true (fun k16 =>
                      mvK v4 h fun v42 h =>
                      k16 v42 h) (fun v42_1 h =>
                      gdK v41 true (fun k17 =>
                       cK Try.prog 86 [v42_1] h fun v43 h =>
                       k17 v43 h) (fun v43_1 h =>
                       gdK v41 true (fun k18 =>
                        vK (aUn UnOp.not v43_1) h fun v44 h =>
                        k18 v44 h) (fun v44_1 h =>
                        vK (pickV v41 v44_1 (Value.bool false)) h fun v45 h =>
                        mvK v45 h fun v46 h =>
                        gdK v46 true (fun k19 =>
                         mvK v4 h fun v47 h =>
                         k19 v47 h) (fun v47_1 h =>
                         gdK v46 true (fun k20 =>
                          cK Try.prog 87 [v47_1] h fun v48 h =>
                          k20 v48 h) (fun v48_1 h =>
                          gdK v46 true (fun k21 =>
                           vK (aUn UnOp.not v48_1) h fun v49 h =>
                           k21 v49 h) (fun v49_1 h =>
                           vK (pickV v46 v49_1 (Value.bool false)) h fun v50 h =>
                           mvK v50 h fun v51 h =>
                           gdK v51 true (fun k22 =>
                            mvK v4 h fun v52 h =>
                            k22 v52 h) (fun v52_1 h =>
                            gdK v51 true (fun k23 =>
                             vK (aBin Try.prog BinOp.neq 5 v52_1 (Value.int IntKind.u8 95)) h fun v53 h =>
                             k23 v53 h) (fun v53_1 h =>
                             vK (pickV v51 v53_1 (Value.bool false)) h fun v54 h =>
                             mvK v54 h fun v55 h =>
                             gdK v55 true (fun k24 =>
                              mvK v4 h fun v56 h =>
                              k24 v56 h) (fun v56_1 h =>
                              gdK v55 true (fun k25 =>
                               vK (aBin Try.prog BinOp.neq 5 v56_1 (Value.int IntKind.u8 45)) h fun v57 h =>
                               k25 v57 h) (fun v57_1 h =>
                               gdK v55 true (fun k26 =>
                                mvK v57_1 h fun v58 h =>
                                k26 v58 h) (fun v58_1 h =>
                                gdK v58_1 false (fun k27 =>
                                 mvK a0 h fun v59 h =>
                                 k27 v59 h) (fun v59_1 h =>
                                 gdK v58_1 false (fun k28 =>
                                  mvK v3_1 h fun v60 h =>
                                  k28 v60 h) (fun v60_1 h =>
                                  gdK v58_1 false (fun k29 =>
                                   vK (aBin Try.prog BinOp.sub 3 v60_1 (Value.int IntKind.i64 1)) h fun v61 h =>
                                   k29 v61 h) (fun v61_1 h =>
                                   gdK v58_1 false (fun k30 =>
                                    vK (aIndex Try.prog 9 v59_1 v61_1) h fun v62 h =>
                                    k30 v62 h) (fun v62_1 h =>
                                    gdK v58_1 false (fun k31 =>
                                     vK (aBin Try.prog BinOp.eql 5 v62_1 (Value.int IntKind.u8 45)) h fun v63 h =>
                                     k31 v63 h) (fun v63_1 h =>
                                     gdK v55 true (fun k32 =>
                                      vK (pickV v58_1 (Value.bool true) v63_1) h fun v64 h =>
                                      k32 v64 h) (fun v64_1 h =>
                                      vK (pickV v55 v64_1 (Value.bool false)) h fun v65 h =>
                                      cnd v65 (
                                       mvK (Value.bool false) h fun v2_2 h =>
                                       retV [some v2_2] R h) (
                                       mvK v3_1 h fun v33 h =>
                                       vK (aBin Try.prog BinOp.add 3 v33 (Value.int IntKind.i64 1)) h fun v34 h =>
                                       mvK v34 h fun v3_2 h =>
                                       I4 [v3_2] h ∧ μ4 [v3_2] h < μ4 [v3_1] h4)) h) h) h) h) h) h) h) h) h) h) h) h) h) h) h) h) h) (
                     mvK (Value.bool true) h fun v2_3 h =>
                     retV [some v2_3] R h)))) h) h) h) h) h) h) h) h) h) h) h) h) h) h) h) h
def lv79 (q : Nat) : List Nat := bif Nat.beq q 8 then [73786976294301335580, 3] else []
theorem ok79 : lkOK Try.prog lv79 Try.f79 1 (Try.f79.body.getD .skip) 79 = true := by kernel_rfl
theorem e79 (a0 : Value) (h : Heap) (R : Value → Heap → Prop) : n79 a0 h R = wpK Try.prog lv79 (Try.f79.body.getD .skip) (endK Try.prog [.tmp 2] R) (argT [a0]) h := by kernel_rfl
theorem w79 {a0 : Value} {h : Heap} {R : Value → Heap → Prop} (hn : n79 a0 h R) : DetP Try.prog 79 [a0] h R :=
  DetP.of_code (rs := [.tmp 2]) (n := 1) Try.func79 (by kernel_rfl) (by kernel_rfl) lv79 ok79 rfl ((e79 a0 h R) ▸ hn)

/-! ### internal/stringslite.HasSuffix: function 80 -/
def n80 (a0 a1 : Value) (h : Heap) (R : Value → Heap → Prop) : Prop :=
  mvK (Value.bool false) h fun v4 h =>
  mvK a0 h fun v5 h =>
  vK (aLen Try.prog 9 v5) h fun v6 h =>
  mvK a1 h fun v7 h =>
  vK (aLen Try.prog 9 v7) h fun v8 h =>
  vK (aBin Try.prog BinOp.geq 3 v6 v8) h fun v9 h =>
  mvK v9 h fun v10 h =>
  gdK v10 true (fun k0 =>
   mvK a0 h fun v11 h =>
   k0 v11 h) (fun v11_1 h =>
   gdK v10 true (fun k1 =>
    mvK a0 h fun v12 h =>
    k1 v12 h) (fun v12_1 h =>
    gdK v10 true (fun k2 =>
     vK (aLen Try.prog 9 v12_1) h fun v13 h =>
     k2 v13 h) (fun v13_1 h =>
     gdK v10 true (fun k3 =>
      mvK a1 h fun v14 h =>
      k3 v14 h) (fun v14_1 h =>
      gdK v10 true (fun k4 =>
       vK (aLen Try.prog 9 v14_1) h fun v15 h =>
       k4 v15 h) (fun v15_1 h =>
       gdK v10 true (fun k5 =>
        vK (aBin Try.prog BinOp.sub 3 v13_1 v15_1) h fun v16 h =>
        k5 v16 h) (fun v16_1 h =>
        gdK v10 true (fun k6 =>
         vK (aSlice Try.prog 9 v11_1 (some v16_1) none none h) h fun v17 h =>
         k6 v17 h) (fun v17_1 h =>
         gdK v10 true (fun k7 =>
          mvK a1 h fun v18 h =>
          k7 v18 h) (fun v18_1 h =>
          gdK v10 true (fun k8 =>
           vK (aBin Try.prog BinOp.eql 9 v17_1 v18_1) h fun v19 h =>
           k8 v19 h) (fun v19_1 h =>
           vK (pickV v10 v19_1 (Value.bool false)) h fun v20 h =>
           mvK v20 h fun v4_1 h =>
           retV [some v4_1] R h) h) h) h) h) h) h) h) h) h
def lv80 (q : Nat) : List Nat := []
theorem ok80 : lkOK Try.prog lv80 Try.f80 2 (Try.f80.body.getD .skip) 80 = true := by kernel_rfl
theorem e80 (a0 a1 : Value) (h : Heap) (R : Value → Heap → Prop) : n80 a0 a1 h R = wpK Try.prog lv80 (Try.f80.body.getD .skip) (endK Try.prog [.tmp 4] R) (argT [a0, a1]) h := by kernel_rfl
theorem w80 {a0 a1 : Value} {h : Heap} {R : Value → Heap → Prop} (hn : n80 a0 a1 h R) : DetP Try.prog 80 [a0, a1] h R :=
  DetP.of_code (rs := [.tmp 4]) (n := 2) Try.func80 (by kernel_rfl) (by kernel_rfl) lv80 ok80 rfl ((e80 a0 a1 h R) ▸ hn)

/-! ### strings.Index: function 81 -/
def n81 (a0 a1 : Value) (h : Heap) (R : Value → Heap → Prop) : Prop :=
  mvK (Value.int IntKind.i64 0) h fun v4 h =>
  mvK a0 h fun v5 h =>
  mvK a1 h fun v6 h =>
  cK Try.prog 89 [v5, v6] h fun v7 h =>
  mvK v7 h fun v4_1 h =>
  retV [some v4_1] R h
def lv81 (q : Nat) : List Nat := []
theorem ok81 : lkOK Try.prog lv81 Try.f81 2 (Try.f81.body.getD .skip) 81 = true := by kernel_rfl
theorem e81 (a0 a1 : Value) (h : Heap) (R : Value → Heap → Prop) : n81 a0 a1 h R = wpK Try.prog lv81 (Try.f81.body.getD .skip) (endK Try.prog [.tmp 4] R) (argT [a0, a1]) h := by kernel_rfl
theorem w81 {a0 a1 : Value} {h : Heap} {R : Value → Heap → Prop} (hn : n81 a0 a1 h R) : DetP Try.prog 81 [a0, a1] h R :=
  DetP.of_code (rs := [.tmp 4]) (n := 2) Try.func81 (by kernel_rfl) (by kernel_rfl) lv81 ok81 rfl ((e81 a0 a1 h R) ▸ hn)

/-! ### strings.IndexFunc: function 82 -/
def n82 (a0 a1 : Value) (h : Heap) (R : Value → Heap → Prop) : Prop :=
  mvK (Value.int IntKind.i64 0) h fun v4 h =>
  mvK a0 h fun v5 h =>
  mvK a1 h fun v6 h =>
  cK Try.prog 90 [v5, v6, (Value.bool true)] h fun v7 h =>
  mvK v7 h fun v4_1 h =>
  retV [some v4_1] R h
def lv82 (q : Nat) : List Nat := []
theorem ok82 : lkOK Try.prog lv82 Try.f82 2 (Try.f82.body.getD .skip) 82 = true := by kernel_rfl
theorem e82 (a0 a1 : Value) (h : Heap) (R : Value → Heap → Prop) : n82 a0 a1 h R = wpK Try.prog lv82 (Try.f82.body.getD .skip) (endK Try.prog [.tmp 4] R) (argT [a0, a1]) h := by kernel_rfl
theorem w82 {a0 a1 : Value} {h : Heap} {R : Value → Heap → Prop} (hn : n82 a0 a1 h R) : DetP Try.prog 82 [a0, a1] h R :=
  DetP.of_code (rs := [.tmp 4]) (n := 2) Try.func82 (by kernel_rfl) (by kernel_rfl) lv82 ok82 rfl ((e82 a0 a1 h R) ▸ hn)

/-! ### cmp.isNaN[int]: function 83 -/
def n83 (a0 : Value) (h : Heap) (R : Value → Heap → Prop) : Prop :=
  mvK (Value.bool false) h fun v2 h =>
  mvK a0 h fun v3 h =>
  mvK a0 h fun v4 h =>
  vK (aBin Try.prog BinOp.neq 3 v3 v4) h fun v5 h =>
  mvK v5 h fun v2_1 h =>
  retV [some v2_1] R h
def lv83 (q : Nat) : List Nat := []
theorem ok83 : lkOK Try.prog lv83 Try.f83 1 (Try.f83.body.getD .skip) 83 = true := by kernel_rfl
theorem e83 (a0 : Value) (h : Heap) (R : Value → Heap → Prop) : n83 a0 h R = wpK Try.prog lv83 (Try.f83.body.getD .skip) (endK Try.prog [.tmp 2] R) (argT [a0]) h := by kernel_rfl
theorem w83 {a0 : Value} {h : Heap} {R : Value → Heap → Prop} (hn : n83 a0 h R) : DetP Try.prog 83 [a0] h R :=
  DetP.of_code (rs := [.tmp 2]) (n := 1) Try.func83 (by kernel_rfl) (by kernel_rfl) lv83 ok83 rfl ((e83 a0 h R) ▸ hn)

/-! ### internal/bytealg.CompareString: function 84 -/
def n84 (a0 a1 : Value) (h : Heap) (R : Value → Heap → Prop) : Prop :=
  mvK (Value.int IntKind.i64 0) h fun v4 h =>
  mvK a0 h fun v5 h =>
  mvK a1 h fun v6 h =>
  cK Try.prog 91 [v5, v6] h fun v7 h =>
  mvK v7 h fun v4_1 h =>
  retV [some v4_1] R h
def lv84 (q : Nat) : List Nat := []
theorem ok84 : lkOK Try.prog lv84 Try.f84 2 (Try.f84.body.getD .skip) 84 = true := by kernel_rfl
theorem e84 (a0 a1 : Value) (h : Heap) (R : Value → Heap → Prop) : n84 a0 a1 h R = wpK Try.prog lv84 (Try.f84.body.getD .skip) (endK Try.prog [.tmp 4] R) (argT [a0, a1]) h := by kernel_rfl
theorem w84 {a0 a1 : Value} {h : Heap} {R : Value → Heap → Prop} (hn : n84 a0 a1 h R) : DetP Try.prog 84 [a0, a1] h R :=
  DetP.of_code (rs := [.tmp 4]) (n := 2) Try.func84 (by kernel_rfl) (by kernel_rfl) lv84 ok84 rfl ((e84 a0 a1 h R) ▸ hn)

/-! ### examiner/examinerbase.IsSmall: function 86 -/
def n86 (a0 : Value) (h : Heap) (R : Value → Heap → Prop) : Prop :=
  mvK (Value.bool false) h fun v2 h =>
  mvK a0 h fun v3 h =>
  vK (aBin Try.prog BinOp.geq 5 v3 (Value.int IntKind.u8 97)) h fun v4 h =>
  mvK v4 h fun v5 h =>
  gdK v5 true (fun k0 =>
   mvK a0 h fun v6 h =>
   k0 v6 h) (fun v6_1 h =>
   gdK v5 true (fun k1 =>
    vK (aBin Try.prog BinOp.leq 5 v6_1 (Value.int IntKind.u8 122)) h fun v7 h =>
    k1 v7 h) (fun v7_1 h =>
    vK (pickV v5 v7_1 (Value.bool false)) h fun v8 h =>
    mvK v8 h fun v2_1 h =>
    retV [some v2_1] R h) h) h
def lv86 (q : Nat) : List Nat := []
theorem ok86 : lkOK Try.prog lv86 Try.f86 1 (Try.f86.body.getD .skip) 86 = true := by kernel_rfl
theorem e86 (a0 : Value) (h : Heap) (R : Value → Heap → Prop) : n86 a0 h R = wpK Try.prog lv86 (Try.f86.body.getD .skip) (endK Try.prog [.tmp 2] R) (argT [a0]) h := by kernel_rfl
theorem w86 {a0 : Value} {h : Heap} {R : Value → Heap → Prop} (hn : n86 a0 h R) : DetP Try.prog 86 [a0] h R :=
  DetP.of_code (rs := [.tmp 2]) (n := 1) Try.func86 (by kernel_rfl) (by kernel_rfl) lv86 ok86 rfl ((e86 a0 h R) ▸ hn)

/-! ### examiner/examinerbase.IsCapital: function 87 -/
def n87 (a0 : Value) (h : Heap) (R : Value → Heap → Prop) : Prop :=
  mvK (Value.bool false) h fun v2 h =>
  mvK a0 h fun v3 h =>
  vK (aBin Try.prog BinOp.geq 5 v3 (Value.int IntKind.u8 65)) h fun v4 h =>
  mvK v4 h fun v5 h =>
  gdK v5 true (fun k0 =>
   mvK a0 h fun v6 h =>
   k0 v6 h) (fun v6_1 h =>
   gdK v5 true (fun k1 =>
    vK (aBin Try.prog BinOp.leq 5 v6_1 (Value.int IntKind.u8 90)) h fun v7 h =>
    k1 v7 h) (fun v7_1 h =>
    vK (pickV v5 v7_1 (Value.bool false)) h fun v8 h =>
    mvK v8 h fun v2_1 h =>
    retV [some v2_1] R h) h) h
def lv87 (q : Nat) : List Nat := []
theorem ok87 : lkOK Try.prog lv87 Try.f87 1 (Try.f87.body.getD .skip) 87 = true := by kernel_rfl
theorem e87 (a0 : Value) (h : Heap) (R : Value → Heap → Prop) : n87 a0 h R = wpK Try.prog lv87 (Try.f87.body.getD .skip) (endK Try.prog [.tmp 2] R) (argT [a0]) h := by kernel_rfl
theorem w87 {a0 : Value} {h : Heap} {R : Value → Heap → Prop} (hn : n87 a0 h R) : DetP Try.prog 87 [a0] h R :=
  DetP.of_code (rs := [.tmp 2]) (n := 1) Try.func87 (by kernel_rfl) (by kernel_rfl) lv87 ok87 rfl ((e87 a0 h R) ▸ hn)

/-! ### examiner/examinerbase.IsDigit: function 88 -/
def n88 (a0 : Value) (h : Heap) (R : Value → Heap → Prop) : Prop :=
  mvK (Value.bool false) h fun v2 h =>
  mvK a0 h fun v3 h =>
  vK (aBin Try.prog BinOp.geq 5 v3 (Value.int IntKind.u8 48)) h fun v4 h =>
  mvK v4 h fun v5 h =>
  gdK v5 true (fun k0 =>
   mvK a0 h fun v6 h =>
   k0 v6 h) (fun v6_1 h =>
   gdK v5 true (fun k1 =>
    vK (aBin Try.prog BinOp.leq 5 v6_1 (Value.int IntKind.u8 57)) h fun v7 h =>
    k1 v7 h) (fun v7_1 h =>
    vK (pickV v5 v7_1 (Value.bool false)) h fun v8 h =>
    mvK v8 h fun v2_1 h =>
    retV [some v2_1] R h) h) h
def lv88 (q : Nat) : List Nat := []
theorem ok88 : lkOK Try.prog lv88 Try.f88 1 (Try.f88.body.getD .skip) 88 = true := by kernel_rfl
theorem e88 (a0 : Value) (h : Heap) (R : Value → Heap → Prop) : n88 a0 h R = wpK Try.prog lv88 (Try.f88.body.getD .skip) (endK Try.prog [.tmp 2] R) (argT [a0]) h := by kernel_rfl
theorem w88 {a0 : Value} {h : Heap} {R : Value → Heap → Prop} (hn : n88 a0 h R) : DetP Try.prog 88 [a0] h R :=
  DetP.of_code (rs := [.tmp 2]) (n := 1) Try.func88 (by kernel_rfl) (by kernel_rfl) lv88 ok88 rfl ((e88 a0 h R) ▸ hn)

/-! ### internal/stringslite.Index: function 89 -/
/-! ### internal/stringslite.IndexByte: function 93 -/
/-! ### internal/bytealg.Cutover: function 95 -/
end Go.Proofs.Ytalnnkpdpjmmkaa

set_option linter.unusedVariables false
namespace Go.Proofs.Ytalnnkpdpjmmkaa
open Go.AM
variable {h : Heap}
theorem c91 (a b : ByteArray) : Runs Try.prog 91 [.string a, .string b] h (.int .i64 (Extern.BytealgCompare.cmp a b)) h := by
  refine Runs.of_extern rfl rfl fun w => ?_
  rw [run_callFunc_extern (fn := Try.f91) (e := Extern.BytealgCompare.compare) (by kernel_rfl) (by kernel_rfl) (by kernel_rfl) (by kernel_rfl) (by kernel_rfl)]
  rfl
end Go.Proofs.Ytalnnkpdpjmmkaa

set_option linter.unusedVariables false
namespace Go.Proofs.Ytalnnkpdpjmmkaa
open Go.AM
variable {h : Heap}
theorem c84 (a b : ByteArray) : Runs Try.prog 84 [.string a, .string b] h (.int .i64 (Extern.BytealgCompare.cmp a b)) h := by
  refine DetP.runs (w84 ?_)
  unfold n84
  (with_reducible repeat first|refine mv_i ?_|refine cnd_t ?_|refine cnd_f ?_|refine gd_tt ?_|refine gd_ff ?_|refine gd_tf ?_|refine gd_ft ?_|refine gd_u ?_|refine pick_t ?_|refine pick_f ?_|refine not_t ?_|refine not_f ?_|refine nil_i ?_|refine ret1 ?_|refine ret2 ?_|refine ret0 ?_|refine ret3 ?_|refine ex2_0 ?_|refine ex2_1 ?_|refine ex3_0 ?_|refine ex3_1 ?_|refine ex3_2 ?_)
  refine call_r (c91 a b) ?_
  (with_reducible repeat first|refine mv_i ?_|refine cnd_t ?_|refine cnd_f ?_|refine gd_tt ?_|refine gd_ff ?_|refine gd_tf ?_|refine gd_ft ?_|refine gd_u ?_|refine pick_t ?_|refine pick_f ?_|refine not_t ?_|refine not_f ?_|refine nil_i ?_|refine ret1 ?_|refine ret2 ?_|refine ret0 ?_|refine ret3 ?_|refine ex2_0 ?_|refine ex2_1 ?_|refine ex3_0 ?_|refine ex3_1 ?_|refine ex3_2 ?_)
  exact ⟨rfl, rfl⟩
theorem c72 (a b : ByteArray) : Runs Try.prog 72 [.string a, .string b] h (.int .i64 (Extern.BytealgCompare.cmp a b)) h := by
  refine DetP.runs (w72 ?_)
  unfold n72
  (with_reducible repeat first|refine mv_i ?_|refine cnd_t ?_|refine cnd_f ?_|refine gd_tt ?_|refine gd_ff ?_|refine gd_tf ?_|refine gd_ft ?_|refine gd_u ?_|refine pick_t ?_|refine pick_f ?_|refine not_t ?_|refine not_f ?_|refine nil_i ?_|refine ret1 ?_|refine ret2 ?_|refine ret0 ?_|refine ret3 ?_|refine ex2_0 ?_|refine ex2_1 ?_|refine ex3_0 ?_|refine ex3_1 ?_|refine ex3_2 ?_)
  refine call_r (c84 a b) ?_
  (with_reducible repeat first|refine mv_i ?_|refine cnd_t ?_|refine cnd_f ?_|refine gd_tt ?_|refine gd_ff ?_|refine gd_tf ?_|refine gd_ft ?_|refine gd_u ?_|refine pick_t ?_|refine pick_f ?_|refine not_t ?_|refine not_f ?_|refine nil_i ?_|refine ret1 ?_|refine ret2 ?_|refine ret0 ?_|refine ret3 ?_|refine ex2_0 ?_|refine ex2_1 ?_|refine ex3_0 ?_|refine ex3_1 ?_|refine ex3_2 ?_)
  exact ⟨rfl, rfl⟩
end Go.Proofs.Ytalnnkpdpjmmkaa

/-
  The types of the seat: facts that steps look for.
-/
set_option linter.unusedVariables false
namespace Go.Proofs.Ytalnnkpdpjmmkaa
open Go.AM
-- 2: int64 (1)
instance : PlT Try.prog 2 := ⟨by kernel_rfl⟩
instance : IntT Try.prog 2 .i64 := ⟨by kernel_rfl⟩
instance : OneT Try.prog 2 := ⟨by kernel_rfl⟩
instance : ZrT Try.prog 2 [(.int .i64 0)] := ⟨by kernel_rfl, by kernel_rfl⟩
-- 3: int (1)
instance : PlT Try.prog 3 := ⟨by kernel_rfl⟩
instance : IntT Try.prog 3 .i64 := ⟨by kernel_rfl⟩
instance : OneT Try.prog 3 := ⟨by kernel_rfl⟩
instance : ZrT Try.prog 3 [(.int .i64 0)] := ⟨by kernel_rfl, by kernel_rfl⟩
-- 4: bool (1)
instance : PlT Try.prog 4 := ⟨by kernel_rfl⟩
instance : OneT Try.prog 4 := ⟨by kernel_rfl⟩
instance : ZrT Try.prog 4 [(.bool false)] := ⟨by kernel_rfl, by kernel_rfl⟩
-- 5: uint8 (1)
instance : PlT Try.prog 5 := ⟨by kernel_rfl⟩
instance : IntT Try.prog 5 .u8 := ⟨by kernel_rfl⟩
instance : OneT Try.prog 5 := ⟨by kernel_rfl⟩
instance : ZrT Try.prog 5 [(.int .u8 0)] := ⟨by kernel_rfl, by kernel_rfl⟩
-- 6: abi.BoundsErrorCode (1)
instance : PlT Try.prog 6 := ⟨by kernel_rfl⟩
instance : IntT Try.prog 6 .u8 := ⟨by kernel_rfl⟩
instance : OneT Try.prog 6 := ⟨by kernel_rfl⟩
instance : ZrT Try.prog 6 [(.int .u8 0)] := ⟨by kernel_rfl, by kernel_rfl⟩
-- 7: struct { x int64; y int; signed bool; code abi.BoundsErrorCode } (4)
instance : RwT Try.prog 7 4 := ⟨by kernel_rfl⟩
instance : ZrT Try.prog 7 [(.int .i64 0), (.int .i64 0), (.bool false), (.int .u8 0)] := ⟨by kernel_rfl, by kernel_rfl⟩
instance : FdT Try.prog 7 0 0 2 := ⟨by kernel_rfl⟩ -- x
instance : FdT Try.prog 7 1 1 3 := ⟨by kernel_rfl⟩ -- y
instance : FdT Try.prog 7 2 2 4 := ⟨by kernel_rfl⟩ -- signed
instance : FdT Try.prog 7 3 3 6 := ⟨by kernel_rfl⟩ -- code
-- 8: runtime.boundsError (4)
instance : RwT Try.prog 8 4 := ⟨by kernel_rfl⟩
instance : ZrT Try.prog 8 [(.int .i64 0), (.int .i64 0), (.bool false), (.int .u8 0)] := ⟨by kernel_rfl, by kernel_rfl⟩
instance : FdT Try.prog 8 0 0 2 := ⟨by kernel_rfl⟩ -- x
instance : FdT Try.prog 8 1 1 3 := ⟨by kernel_rfl⟩ -- y
instance : FdT Try.prog 8 2 2 4 := ⟨by kernel_rfl⟩ -- signed
instance : FdT Try.prog 8 3 3 6 := ⟨by kernel_rfl⟩ -- code
-- 9: string (1)
instance : PlT Try.prog 9 := ⟨by kernel_rfl⟩
instance : StrT Try.prog 9 := ⟨by kernel_rfl⟩
instance : OneT Try.prog 9 := ⟨by kernel_rfl⟩
instance : ZrT Try.prog 9 [(.string ⟨#[]⟩)] := ⟨by kernel_rfl, by kernel_rfl⟩
-- 10: runtime.errorString (1)
instance : PlT Try.prog 10 := ⟨by kernel_rfl⟩
instance : StrT Try.prog 10 := ⟨by kernel_rfl⟩
instance : OneT Try.prog 10 := ⟨by kernel_rfl⟩
instance : ZrT Try.prog 10 [(.string ⟨#[]⟩)] := ⟨by kernel_rfl, by kernel_rfl⟩
-- 11: runtime.plainError (1)
instance : PlT Try.prog 11 := ⟨by kernel_rfl⟩
instance : StrT Try.prog 11 := ⟨by kernel_rfl⟩
instance : OneT Try.prog 11 := ⟨by kernel_rfl⟩
instance : ZrT Try.prog 11 [(.string ⟨#[]⟩)] := ⟨by kernel_rfl, by kernel_rfl⟩
-- 12: uintptr (1)
instance : PlT Try.prog 12 := ⟨by kernel_rfl⟩
instance : IntT Try.prog 12 .u64 := ⟨by kernel_rfl⟩
instance : OneT Try.prog 12 := ⟨by kernel_rfl⟩
instance : ZrT Try.prog 12 [(.int .u64 0)] := ⟨by kernel_rfl, by kernel_rfl⟩
-- 13: struct { msg string; addr uintptr } (2)
instance : RwT Try.prog 13 2 := ⟨by kernel_rfl⟩
instance : ZrT Try.prog 13 [(.string ⟨#[]⟩), (.int .u64 0)] := ⟨by kernel_rfl, by kernel_rfl⟩
instance : FdT Try.prog 13 0 0 9 := ⟨by kernel_rfl⟩ -- msg
instance : FdT Try.prog 13 1 1 12 := ⟨by kernel_rfl⟩ -- addr
-- 14: runtime.errorAddressString (2)
instance : RwT Try.prog 14 2 := ⟨by kernel_rfl⟩
instance : ZrT Try.prog 14 [(.string ⟨#[]⟩), (.int .u64 0)] := ⟨by kernel_rfl, by kernel_rfl⟩
instance : FdT Try.prog 14 0 0 9 := ⟨by kernel_rfl⟩ -- msg
instance : FdT Try.prog 14 1 1 12 := ⟨by kernel_rfl⟩ -- addr
-- 15: *runtime.TypeAssertionError (1)
instance : PlT Try.prog 15 := ⟨by kernel_rfl⟩
instance : OneT Try.prog 15 := ⟨by kernel_rfl⟩
instance : ZrT Try.prog 15 [(.pointer none)] := ⟨by kernel_rfl, by kernel_rfl⟩
-- 16: *runtime.PanicNilError (1)
instance : PlT Try.prog 16 := ⟨by kernel_rfl⟩
instance : OneT Try.prog 16 := ⟨by kernel_rfl⟩
instance : ZrT Try.prog 16 [(.pointer none)] := ⟨by kernel_rfl, by kernel_rfl⟩
-- 17: *abi.Type (1)
instance : PlT Try.prog 17 := ⟨by kernel_rfl⟩
instance : OneT Try.prog 17 := ⟨by kernel_rfl⟩
instance : ZrT Try.prog 17 [(.pointer none)] := ⟨by kernel_rfl, by kernel_rfl⟩
-- 18: struct { typ *abi.Type } (1)
instance : RwT Try.prog 18 1 := ⟨by kernel_rfl⟩
instance : OneT Try.prog 18 := ⟨by kernel_rfl⟩
instance : ZrT Try.prog 18 [(.pointer none)] := ⟨by kernel_rfl, by kernel_rfl⟩
instance : FdT Try.prog 18 0 0 17 := ⟨by kernel_rfl⟩ -- typ
-- 19: maps.unhashableTypeError (1)
instance : RwT Try.prog 19 1 := ⟨by kernel_rfl⟩
instance : OneT Try.prog 19 := ⟨by kernel_rfl⟩
instance : ZrT Try.prog 19 [(.pointer none)] := ⟨by kernel_rfl, by kernel_rfl⟩
instance : FdT Try.prog 19 0 0 17 := ⟨by kernel_rfl⟩ -- typ
-- 21: int32 (1)
instance : PlT Try.prog 21 := ⟨by kernel_rfl⟩
instance : IntT Try.prog 21 .i32 := ⟨by kernel_rfl⟩
instance : OneT Try.prog 21 := ⟨by kernel_rfl⟩
instance : ZrT Try.prog 21 [(.int .i32 0)] := ⟨by kernel_rfl, by kernel_rfl⟩
-- 22: []api.ClockTimer (1)
instance : SlT Try.prog 22 44 6 48 := ⟨by kernel_rfl⟩
instance : PlT Try.prog 22 := ⟨by kernel_rfl⟩
instance : OneT Try.prog 22 := ⟨by kernel_rfl⟩
instance : ZrT Try.prog 22 [(.slice none 0 0)] := ⟨by kernel_rfl, by kernel_rfl⟩
-- 23: struct { Now int; Timers []api.ClockTimer } (2)
instance : RwT Try.prog 23 2 := ⟨by kernel_rfl⟩
instance : ZrT Try.prog 23 [(.int .i64 0), (.slice none 0 0)] := ⟨by kernel_rfl, by kernel_rfl⟩
instance : FdT Try.prog 23 0 0 3 := ⟨by kernel_rfl⟩ -- Now
instance : FdT Try.prog 23 1 1 22 := ⟨by kernel_rfl⟩ -- Timers
-- 24: api.Clock (2)
instance : RwT Try.prog 24 2 := ⟨by kernel_rfl⟩
instance : ZrT Try.prog 24 [(.int .i64 0), (.slice none 0 0)] := ⟨by kernel_rfl, by kernel_rfl⟩
instance : FdT Try.prog 24 0 0 3 := ⟨by kernel_rfl⟩ -- Now
instance : FdT Try.prog 24 1 1 22 := ⟨by kernel_rfl⟩ -- Timers
-- 27: api.Errno (1)
instance : PlT Try.prog 27 := ⟨by kernel_rfl⟩
instance : IntT Try.prog 27 .i64 := ⟨by kernel_rfl⟩
instance : OneT Try.prog 27 := ⟨by kernel_rfl⟩
instance : ZrT Try.prog 27 [(.int .i64 0)] := ⟨by kernel_rfl, by kernel_rfl⟩
-- 33: []int (1)
instance : SlT Try.prog 33 3 1 8 := ⟨by kernel_rfl⟩
instance : PlT Try.prog 33 := ⟨by kernel_rfl⟩
instance : OneT Try.prog 33 := ⟨by kernel_rfl⟩
instance : ZrT Try.prog 33 [(.slice none 0 0)] := ⟨by kernel_rfl, by kernel_rfl⟩
-- 38: struct { Clock api.Clock; List []int; Name string; Err int } (5)
instance : RwT Try.prog 38 5 := ⟨by kernel_rfl⟩
instance : ZrT Try.prog 38 [(.int .i64 0), (.slice none 0 0), (.slice none 0 0), (.string ⟨#[]⟩), (.int .i64 0)] := ⟨by kernel_rfl, by kernel_rfl⟩
instance : FdT Try.prog 38 0 0 24 := ⟨by kernel_rfl⟩ -- Clock
instance : FdT Try.prog 38 1 2 33 := ⟨by kernel_rfl⟩ -- List
instance : FdT Try.prog 38 2 3 9 := ⟨by kernel_rfl⟩ -- Name
instance : FdT Try.prog 38 3 4 3 := ⟨by kernel_rfl⟩ -- Err
-- 39: examinerref27.Result (5)
instance : RwT Try.prog 39 5 := ⟨by kernel_rfl⟩
instance : ZrT Try.prog 39 [(.int .i64 0), (.slice none 0 0), (.slice none 0 0), (.string ⟨#[]⟩), (.int .i64 0)] := ⟨by kernel_rfl, by kernel_rfl⟩
instance : FdT Try.prog 39 0 0 24 := ⟨by kernel_rfl⟩ -- Clock
instance : FdT Try.prog 39 1 2 33 := ⟨by kernel_rfl⟩ -- List
instance : FdT Try.prog 39 2 3 9 := ⟨by kernel_rfl⟩ -- Name
instance : FdT Try.prog 39 3 4 3 := ⟨by kernel_rfl⟩ -- Err
-- 43: struct { Owner int; Name string; Since int; Due int; Running bool; Expired bool  (6)
instance : RwT Try.prog 43 6 := ⟨by kernel_rfl⟩
instance : ZrT Try.prog 43 [(.int .i64 0), (.string ⟨#[]⟩), (.int .i64 0), (.int .i64 0), (.bool false), (.bool false)] := ⟨by kernel_rfl, by kernel_rfl⟩
instance : FdT Try.prog 43 0 0 3 := ⟨by kernel_rfl⟩ -- Owner
instance : FdT Try.prog 43 1 1 9 := ⟨by kernel_rfl⟩ -- Name
instance : FdT Try.prog 43 2 2 3 := ⟨by kernel_rfl⟩ -- Since
instance : FdT Try.prog 43 3 3 3 := ⟨by kernel_rfl⟩ -- Due
instance : FdT Try.prog 43 4 4 4 := ⟨by kernel_rfl⟩ -- Running
instance : FdT Try.prog 43 5 5 4 := ⟨by kernel_rfl⟩ -- Expired
-- 44: api.ClockTimer (6)
instance : RwT Try.prog 44 6 := ⟨by kernel_rfl⟩
instance : ZrT Try.prog 44 [(.int .i64 0), (.string ⟨#[]⟩), (.int .i64 0), (.int .i64 0), (.bool false), (.bool false)] := ⟨by kernel_rfl, by kernel_rfl⟩
instance : FdT Try.prog 44 0 0 3 := ⟨by kernel_rfl⟩ -- Owner
instance : FdT Try.prog 44 1 1 9 := ⟨by kernel_rfl⟩ -- Name
instance : FdT Try.prog 44 2 2 3 := ⟨by kernel_rfl⟩ -- Since
instance : FdT Try.prog 44 3 3 3 := ⟨by kernel_rfl⟩ -- Due
instance : FdT Try.prog 44 4 4 4 := ⟨by kernel_rfl⟩ -- Running
instance : FdT Try.prog 44 5 5 4 := ⟨by kernel_rfl⟩ -- Expired
-- 46: []string (1)
instance : SlT Try.prog 46 9 1 16 := ⟨by kernel_rfl⟩
instance : PlT Try.prog 46 := ⟨by kernel_rfl⟩
instance : OneT Try.prog 46 := ⟨by kernel_rfl⟩
instance : ZrT Try.prog 46 [(.slice none 0 0)] := ⟨by kernel_rfl, by kernel_rfl⟩
-- 74: *api.ClockTimer (1)
instance : PlT Try.prog 74 := ⟨by kernel_rfl⟩
instance : OneT Try.prog 74 := ⟨by kernel_rfl⟩
instance : ZrT Try.prog 74 [(.pointer none)] := ⟨by kernel_rfl, by kernel_rfl⟩
-- 88: []api.Errno (1)
instance : SlT Try.prog 88 27 1 8 := ⟨by kernel_rfl⟩
instance : PlT Try.prog 88 := ⟨by kernel_rfl⟩
instance : OneT Try.prog 88 := ⟨by kernel_rfl⟩
instance : ZrT Try.prog 88 [(.slice none 0 0)] := ⟨by kernel_rfl, by kernel_rfl⟩
-- 98: uint (1)
instance : PlT Try.prog 98 := ⟨by kernel_rfl⟩
instance : IntT Try.prog 98 .u64 := ⟨by kernel_rfl⟩
instance : OneT Try.prog 98 := ⟨by kernel_rfl⟩
instance : ZrT Try.prog 98 [(.int .u64 0)] := ⟨by kernel_rfl, by kernel_rfl⟩
-- 108: uint32 (1)
instance : PlT Try.prog 108 := ⟨by kernel_rfl⟩
instance : IntT Try.prog 108 .u32 := ⟨by kernel_rfl⟩
instance : OneT Try.prog 108 := ⟨by kernel_rfl⟩
instance : ZrT Try.prog 108 [(.int .u32 0)] := ⟨by kernel_rfl, by kernel_rfl⟩
-- 112: struct { _interface *abi.Type; concrete *abi.Type; asserted *abi.Type; missingMe (4)
instance : RwT Try.prog 112 4 := ⟨by kernel_rfl⟩
instance : ZrT Try.prog 112 [(.pointer none), (.pointer none), (.pointer none), (.string ⟨#[]⟩)] := ⟨by kernel_rfl, by kernel_rfl⟩
instance : FdT Try.prog 112 0 0 17 := ⟨by kernel_rfl⟩ -- _interface
instance : FdT Try.prog 112 1 1 17 := ⟨by kernel_rfl⟩ -- concrete
instance : FdT Try.prog 112 2 2 17 := ⟨by kernel_rfl⟩ -- asserted
instance : FdT Try.prog 112 3 3 9 := ⟨by kernel_rfl⟩ -- missingMethod
-- 113: runtime.TypeAssertionError (4)
instance : RwT Try.prog 113 4 := ⟨by kernel_rfl⟩
instance : ZrT Try.prog 113 [(.pointer none), (.pointer none), (.pointer none), (.string ⟨#[]⟩)] := ⟨by kernel_rfl, by kernel_rfl⟩
instance : FdT Try.prog 113 0 0 17 := ⟨by kernel_rfl⟩ -- _interface
instance : FdT Try.prog 113 1 1 17 := ⟨by kernel_rfl⟩ -- concrete
instance : FdT Try.prog 113 2 2 17 := ⟨by kernel_rfl⟩ -- asserted
instance : FdT Try.prog 113 3 3 9 := ⟨by kernel_rfl⟩ -- missingMethod
-- 114: [0]*runtime.PanicNilError (0)
-- 115: struct { _ [0]*runtime.PanicNilError } (0)
-- 116: runtime.PanicNilError (0)
-- 118: abi.TFlag (1)
instance : PlT Try.prog 118 := ⟨by kernel_rfl⟩
instance : IntT Try.prog 118 .u8 := ⟨by kernel_rfl⟩
instance : OneT Try.prog 118 := ⟨by kernel_rfl⟩
instance : ZrT Try.prog 118 [(.int .u8 0)] := ⟨by kernel_rfl, by kernel_rfl⟩
-- 119: abi.Kind (1)
instance : PlT Try.prog 119 := ⟨by kernel_rfl⟩
instance : IntT Try.prog 119 .u8 := ⟨by kernel_rfl⟩
instance : OneT Try.prog 119 := ⟨by kernel_rfl⟩
instance : ZrT Try.prog 119 [(.int .u8 0)] := ⟨by kernel_rfl, by kernel_rfl⟩
-- 121: *uint8 (1)
instance : PlT Try.prog 121 := ⟨by kernel_rfl⟩
instance : OneT Try.prog 121 := ⟨by kernel_rfl⟩
instance : ZrT Try.prog 121 [(.pointer none)] := ⟨by kernel_rfl, by kernel_rfl⟩
-- 122: abi.NameOff (1)
instance : PlT Try.prog 122 := ⟨by kernel_rfl⟩
instance : IntT Try.prog 122 .i32 := ⟨by kernel_rfl⟩
instance : OneT Try.prog 122 := ⟨by kernel_rfl⟩
instance : ZrT Try.prog 122 [(.int .i32 0)] := ⟨by kernel_rfl, by kernel_rfl⟩
-- 123: abi.TypeOff (1)
instance : PlT Try.prog 123 := ⟨by kernel_rfl⟩
instance : IntT Try.prog 123 .i32 := ⟨by kernel_rfl⟩
instance : OneT Try.prog 123 := ⟨by kernel_rfl⟩
instance : ZrT Try.prog 123 [(.int .i32 0)] := ⟨by kernel_rfl, by kernel_rfl⟩
-- 124: struct { Size_ uintptr; PtrBytes uintptr; Hash uint32; TFlag abi.TFlag; Align_ u (11)
instance : RwT Try.prog 124 11 := ⟨by kernel_rfl⟩
instance : ZrT Try.prog 124 [(.int .u64 0), (.int .u64 0), (.int .u32 0), (.int .u8 0), (.int .u8 0), (.int .u8 0), (.int .u8 0), .nilFunc, (.pointer none), (.int .i32 0), (.int .i32 0)] := ⟨by kernel_rfl, by kernel_rfl⟩
instance : FdT Try.prog 124 0 0 12 := ⟨by kernel_rfl⟩ -- Size_
instance : FdT Try.prog 124 1 1 12 := ⟨by kernel_rfl⟩ -- PtrBytes
instance : FdT Try.prog 124 2 2 108 := ⟨by kernel_rfl⟩ -- Hash
instance : FdT Try.prog 124 3 3 118 := ⟨by kernel_rfl⟩ -- TFlag
instance : FdT Try.prog 124 4 4 5 := ⟨by kernel_rfl⟩ -- Align_
instance : FdT Try.prog 124 5 5 5 := ⟨by kernel_rfl⟩ -- FieldAlign_
instance : FdT Try.prog 124 6 6 119 := ⟨by kernel_rfl⟩ -- Kind_
instance : FdT Try.prog 124 7 7 120 := ⟨by kernel_rfl⟩ -- Equal
instance : FdT Try.prog 124 8 8 121 := ⟨by kernel_rfl⟩ -- GCData
instance : FdT Try.prog 124 9 9 122 := ⟨by kernel_rfl⟩ -- Str
instance : FdT Try.prog 124 10 10 123 := ⟨by kernel_rfl⟩ -- PtrToThis
-- 125: abi.Type (11)
instance : RwT Try.prog 125 11 := ⟨by kernel_rfl⟩
instance : ZrT Try.prog 125 [(.int .u64 0), (.int .u64 0), (.int .u32 0), (.int .u8 0), (.int .u8 0), (.int .u8 0), (.int .u8 0), .nilFunc, (.pointer none), (.int .i32 0), (.int .i32 0)] := ⟨by kernel_rfl, by kernel_rfl⟩
instance : FdT Try.prog 125 0 0 12 := ⟨by kernel_rfl⟩ -- Size_
instance : FdT Try.prog 125 1 1 12 := ⟨by kernel_rfl⟩ -- PtrBytes
instance : FdT Try.prog 125 2 2 108 := ⟨by kernel_rfl⟩ -- Hash
instance : FdT Try.prog 125 3 3 118 := ⟨by kernel_rfl⟩ -- TFlag
instance : FdT Try.prog 125 4 4 5 := ⟨by kernel_rfl⟩ -- Align_
instance : FdT Try.prog 125 5 5 5 := ⟨by kernel_rfl⟩ -- FieldAlign_
instance : FdT Try.prog 125 6 6 119 := ⟨by kernel_rfl⟩ -- Kind_
instance : FdT Try.prog 125 7 7 120 := ⟨by kernel_rfl⟩ -- Equal
instance : FdT Try.prog 125 8 8 121 := ⟨by kernel_rfl⟩ -- GCData
instance : FdT Try.prog 125 9 9 122 := ⟨by kernel_rfl⟩ -- Str
instance : FdT Try.prog 125 10 10 123 := ⟨by kernel_rfl⟩ -- PtrToThis
-- 126: unsafe.Pointer (1)
instance : PlT Try.prog 126 := ⟨by kernel_rfl⟩
instance : OneT Try.prog 126 := ⟨by kernel_rfl⟩
instance : ZrT Try.prog 126 [(.pointer none)] := ⟨by kernel_rfl, by kernel_rfl⟩
end Go.Proofs.Ytalnnkpdpjmmkaa

set_option linter.unusedSimpArgs false
set_option linter.unusedVariables false
set_option maxRecDepth 100000
namespace Go.Proofs.Ytalnnkpdpjmmkaa
open Go.AM
variable {h : Heap}
theorem c41 (n lo hi : Int) : Runs Try.prog 41 [.int .i64 n, .int .i64 lo, .int .i64 hi] h (.bool (decide (lo ≤ n ∧ n ≤ hi))) h := by
  refine DetP.runs (w41 ?_)
  unfold n41
  ((with_reducible (refine mv_i ?_; refine mv_i ?_; refine mv_i ?_; refine leq_i (fun hc => ?_) (fun hc => ?_); refine mv_i ?_; refine gd_tt ?_; refine mv_i ?_; refine gd_tt ?_; refine mv_i ?_; refine gd_tt ?_; refine leq_i (fun hc => ?_) (fun hc => ?_); refine pick_t ?_; refine mv_i ?_; refine ret1 ?_));
      (rotate_left);
      (with_reducible (refine pick_t ?_; refine mv_i ?_; refine ret1 ?_));
      (rotate_left);
      (with_reducible (refine mv_i ?_; refine gd_ft ?_; refine gd_ft ?_; refine gd_ft ?_; refine pick_f ?_; refine mv_i ?_; refine ret1 ?_));
      (rotate_left))
  all_goals exact ⟨by first | (simp_all; done) | (simp_all; omega), rfl⟩
theorem c26 (n lo hi : Int) : Runs Try.prog 26 [.int .i64 n, .int .i64 lo, .int .i64 hi] h (.bool (decide (lo ≤ n ∧ n ≤ hi))) h := by
  refine DetP.runs (w26 ?_)
  unfold n26
  ((with_reducible (refine mv_i ?_; refine mv_i ?_; refine mv_i ?_; refine leq_i (fun hc => ?_) (fun hc => ?_); refine mv_i ?_; refine gd_tt ?_; refine mv_i ?_; refine gd_tt ?_; refine mv_i ?_; refine gd_tt ?_; refine leq_i (fun hc => ?_) (fun hc => ?_); refine pick_t ?_; refine mv_i ?_; refine ret1 ?_));
      (rotate_left);
      (with_reducible (refine pick_t ?_; refine mv_i ?_; refine ret1 ?_));
      (rotate_left);
      (with_reducible (refine mv_i ?_; refine gd_ft ?_; refine gd_ft ?_; refine gd_ft ?_; refine pick_f ?_; refine mv_i ?_; refine ret1 ?_));
      (rotate_left))
  all_goals exact ⟨by first | (simp_all; done) | (simp_all; omega), rfl⟩
theorem c73 (b : Bool) : Runs Try.prog 73 [.bool b] h (.int .i64 (if b then 1 else 0)) h := by
  refine DetP.runs (w73 ?_)
  unfold n73
  ((with_reducible (refine mv_i ?_; refine mv_i ?_; refine cnd_b (fun hb => ?_) (fun hb => ?_); refine mv_i ?_; refine ret1 ?_));
      (rotate_left);
      (with_reducible (refine mv_i ?_; refine ret1 ?_));
      (rotate_left))
  all_goals exact ⟨by first | (simp_all; done) | (simp_all; omega), rfl⟩
def ownE (n : Int) : Int := if 0 ≤ n ∧ n ≤ 11 then 0 else 3
theorem c43 (n : Int) : Runs Try.prog 43 [.int .i64 n] h (.int .i64 (ownE n)) h := by
  refine DetP.runs (w43 ?_)
  unfold n43
  ((with_reducible (refine mv_i ?_; refine mv_i ?_));
      (refine call_r (c41 _ _ _) ?_);
      (with_reducible (refine not_s (fun hb => ?_) (fun hb => ?_); refine cnd_f ?_; refine mv_i ?_; refine ret1 ?_));
      (rotate_left);
      (with_reducible (refine cnd_t ?_; refine mv_i ?_; refine ret1 ?_));
      (rotate_left))
  all_goals exact ⟨by simp_all [ownE], rfl⟩
theorem mulw_i {P : Program} {K : Value → Heap → Prop} {t : TypeId} {a b : Int} (hx : R64 (a * b)) (hk : K (.int .i64 (a * b)) h) : vK (aBin P .mul t (.int .i64 a) (.int .i64 b)) h K :=
  vk_i (v := .int .i64 (a * b)) (by simp [aBin, aInt, wrap_i64 hx]) hk
theorem mulc_i {P : Program} {K : Value → Heap → Prop} {t : TypeId} {a : Int} {c : Prop} [Decidable c] (hx : R64 a) (hk : K (.int .i64 (if c then a else 0)) h) : vK (aBin P .mul t (.int .i64 a) (.int .i64 (if c then 1 else 0))) h K := by
  refine mulw_i ?_ ?_
  · split
    · simpa using hx
    · simp [R64]
  · split <;> simp_all
theorem c62 (n : Int) : Runs Try.prog 62 [.int .i64 n] h (.int .i64 (ownE n)) h := by
  refine DetP.runs (w62 ?_)
  unfold n62
  ((with_reducible (refine mv_i ?_; refine mv_i ?_));
      (refine call_r (c26 _ _ _) ?_);
      (with_reducible (refine not_s (fun hb => ?_) (fun hb => ?_)));
      (refine call_r (c73 _) ?_);
      (rotate_left);
      (refine call_r (c73 _) ?_);
      (rotate_left))
  all_goals refine mulc_i (by simp [R64]) ?_
  all_goals (repeat' first|(refine call_r (c41 _ _ _) ?_)|(refine calld_r (c41 _ _ _) ?_)|(refine call_r (c26 _ _ _) ?_)|(refine calld_r (c26 _ _ _) ?_)|(refine call_r (c73 _) ?_)|(refine calld_r (c73 _) ?_)|(refine rt_w1 (by assumption) (by infer_instance) (by with_unfolding_all rfl) ?_)|(refine rt_w2 (by assumption) (by infer_instance) (by with_unfolding_all rfl) ?_)|(refine rt_11 (by assumption) (by infer_instance) (by with_unfolding_all rfl) ?_)|(refine rt_12 (by assumption) (by infer_instance) (by with_unfolding_all rfl) ?_)|(with_reducible refine len_o (by assumption) ?_)|(with_reducible refine mv_i ?_)|(with_reducible refine nil_i ?_)|(with_reducible refine ex2_0 ?_)|(with_reducible refine ex2_1 ?_)|(with_reducible refine ex3_0 ?_)|(with_reducible refine ex3_1 ?_)|(with_reducible refine ex3_2 ?_)|(with_reducible refine pick_t ?_)|(with_reducible refine pick_f ?_)|(with_reducible refine not_t ?_)|(with_reducible refine not_f ?_)|(with_reducible refine gd_tt ?_)|(with_reducible refine gd_ff ?_)|(with_reducible refine gd_tf ?_)|(with_reducible refine gd_ft ?_)|(with_reducible refine gd_u ?_)|(with_reducible refine cnd_t ?_)|(with_reducible refine cnd_f ?_)|(with_reducible refine gd_ht (by assumption) ?_)|(with_reducible refine gd_hf (by assumption) ?_)|(with_reducible refine gd_nt (by assumption) ?_)|(with_reducible refine gd_nf (by assumption) ?_)|(with_reducible refine cnd_h (by assumption) ?_)|(with_reducible refine cnd_n (by assumption) ?_)|(with_reducible refine pick_h (by assumption) ?_)|(with_reducible refine pick_n (by assumption) ?_)|(with_reducible refine not_h (by assumption) ?_)|(with_reducible refine not_n (by assumption) ?_)|(with_reducible refine gd_st (fun hb => ?_) (fun hb => ?_))|(with_reducible refine gd_sf (fun hb => ?_) (fun hb => ?_))|(with_reducible refine cnd_b (fun hb => ?_) (fun hb => ?_))|(with_reducible refine not_s (fun hb => ?_) (fun hb => ?_))|(with_reducible refine eql_h (by first | assumption | decide) ?_)|(with_reducible refine eql_n (by first | assumption | decide) ?_)|(with_reducible refine neq_h (by first | assumption | decide) ?_)|(with_reducible refine neq_n (by first | assumption | decide) ?_)|(with_reducible refine lss_i (fun hc => ?_) (fun hc => ?_))|(with_reducible refine leq_i (fun hc => ?_) (fun hc => ?_))|(with_reducible refine gtr_i (fun hc => ?_) (fun hc => ?_))|(with_reducible refine geq_i (fun hc => ?_) (fun hc => ?_))|(with_reducible refine eql_i (fun hc => ?_) (fun hc => ?_))|(with_reducible refine neq_i (fun hc => ?_) (fun hc => ?_))|(with_reducible refine seq_s (fun hc => ?_) (fun hc => ?_))|(with_reducible refine sne_s (fun hc => ?_) (fun hc => ?_))|(with_reducible refine sls_i ?_)|(with_reducible refine pick_s (fun hb => ?_) (fun hb => ?_))|(with_reducible refine len_g (by assumption) ?_)|(with_reducible refine slen_i ?_)|(with_reducible refine len_s ?_)|(with_reducible refine sidx_0 (by omega) ?_)|(refine idx_d (by assumption) (by with_unfolding_all rfl) (by omega) fun p hp => ?_)|(refine idx_dp (by assumption) (by with_unfolding_all rfl) (by omega) (by omega) fun p hp => ?_)|(refine idx_dz (by assumption) (by with_unfolding_all rfl) (by omega) (by omega) fun p hp => ?_)|(refine idx_f (by assumption) (by with_unfolding_all rfl) (by omega) fun p hp => ?_)|(refine idx_fz (by assumption) (by with_unfolding_all rfl) (by omega) (by omega) fun p hp => ?_)|(with_reducible refine fa_g (by assumption) fun p hp => ?_)|(refine ld_g (by assumption) (by with_unfolding_all rfl) ?_)|(refine ldr_w (by assumption) (by with_unfolding_all rfl) ?_)|(refine ldr_g (by assumption) (by with_unfolding_all rfl) (by with_unfolding_all exact Nat.le_refl _) ?_)|(with_reducible refine fao_e ?_)|(with_reducible refine fao ?_)|(refine ldo (by assumption) (q := by infer_instance) (by with_unfolding_all rfl) ?_)|(refine ldo_w (by assumption) (by infer_instance) (by with_unfolding_all rfl) ?_)|(refine ldor (by assumption) (q := by infer_instance) (by with_unfolding_all rfl) (by with_unfolding_all exact Nat.le_refl _) ?_)|(with_reducible refine box_a (by assumption) fun i h z p m => ?_)|(with_reducible refine alloc_z (by assumption) fun i h z p m => ?_)|(refine box_1 (by assumption) (by with_unfolding_all rfl) fun i h z p m => ?_)|(refine sto (by assumption) (q := by infer_instance) (by with_unfolding_all exact Nat.le_of_ble_eq_true rfl) rfl rfl (u := by infer_instance) fun h p m => ?_)|(refine st_w (by assumption) (by infer_instance) (by with_unfolding_all rfl) (by with_unfolding_all rfl) (by first | rfl | exact flat_ones (Flat.flat _)) (by infer_instance) fun h p m => ?_)|(with_reducible refine new_n ?_)|(refine pd_c (by assumption) (by infer_instance) (by with_unfolding_all rfl) ?_)|(with_reducible refine new_p (by assumption) ?_)|(with_reducible refine vb_f ?_)|(refine vb_n (by with_unfolding_all rfl) ?_)|(with_reducible refine vb_l (by assumption) ?_)|(refine pd_o (by assumption) (by infer_instance) (by with_unfolding_all rfl) ?_)|(with_reducible refine ⟨trivial, ?_⟩)|(refine fld_g (by with_unfolding_all rfl) ?_)|(with_reducible refine leni_t (by assumption) ?_)|(refine idxi_t (by assumption) (by omega) ?_)|(refine ldi_t (by assumption) (by omega) ?_)|(with_reducible refine inc_i (by omega) ?_)|(with_reducible refine ret1 ?_)|(with_reducible refine ret2 ?_)|(with_reducible refine ret3 ?_)|(with_reducible refine ret0 ?_)|(with_reducible refine seq_i ?_)|((with_reducible refine fun (_ : Tmps) => ?_); dsimp only [nth])|(with_reducible refine sub_j (by omega) (by omega) ?_)|(with_reducible refine add_j (by omega) (by omega) ?_)|(refine vb_as rfl (by assumption) ?_)|(refine vb_ao rfl (by assumption) (by assumption) (by infer_instance) ?_)|(refine idx_o (by assumption) (by omega) ?_)|(refine idx_oz (by assumption) (by omega) (by omega) ?_)|(refine ldf_d (by assumption) (by infer_instance) (by with_unfolding_all rfl) (by omega) (by with_unfolding_all exact Nat.le_of_ble_eq_true rfl) (by with_unfolding_all rfl) ?_)|(refine ldw_d (by assumption) (by infer_instance) (by with_unfolding_all rfl) (by omega) ?_)|(refine stw_o (by assumption) (by infer_instance) (by with_unfolding_all rfl) (by omega) (by infer_instance) fun h p m => ?_))
  all_goals exact ⟨by simp_all [ownE], rfl⟩
def isLetter (c : Int) : Bool := decide (97 ≤ c ∧ c ≤ 122 ∨ 65 ≤ c ∧ c ≤ 90)
theorem c65 (n : Int) : Runs Try.prog 65 [.int .i32 n] h (.bool (isLetter n)) h := by
  refine DetP.runs (w65 ?_)
  unfold n65
  ((with_reducible (refine mv_i ?_; refine mv_i ?_; refine geq_i (fun hc => ?_) (fun hc => ?_); refine mv_i ?_; refine gd_tt ?_; refine mv_i ?_; refine gd_tt ?_; refine leq_i (fun hc => ?_) (fun hc => ?_); refine pick_t ?_; refine mv_i ?_; refine gd_tf ?_; refine gd_tf ?_; refine gd_tf ?_; refine gd_u ?_; refine gd_u ?_; refine gd_tf ?_; refine pick_t ?_; refine mv_i ?_; refine ret1 ?_));
      (rotate_left);
      (with_reducible (refine pick_t ?_; refine mv_i ?_; refine gd_ff ?_; refine mv_i ?_; refine gd_ff ?_; refine geq_i (fun hc => ?_) (fun hc => ?_); refine gd_ff ?_; refine mv_i ?_; refine gd_tt ?_; refine mv_i ?_; refine gd_tt ?_; refine leq_i (fun hc => ?_) (fun hc => ?_); refine gd_ff ?_; refine pick_t ?_; refine pick_f ?_; refine mv_i ?_; refine ret1 ?_));
      (rotate_left);
      (with_reducible (refine gd_ff ?_; refine pick_t ?_; refine pick_f ?_; refine mv_i ?_; refine ret1 ?_));
      (rotate_left);
      (with_reducible (refine gd_ff ?_; refine mv_i ?_; refine gd_ft ?_; refine gd_ft ?_; refine gd_ff ?_; refine pick_f ?_; refine pick_f ?_; refine mv_i ?_; refine ret1 ?_));
      (rotate_left);
      (with_reducible (refine mv_i ?_; refine gd_ft ?_; refine gd_ft ?_; refine pick_f ?_; refine mv_i ?_; refine gd_ff ?_; refine mv_i ?_; refine gd_ff ?_; refine geq_i (fun hc => ?_) (fun hc => ?_); refine gd_ff ?_; refine mv_i ?_; refine gd_tt ?_; refine mv_i ?_; refine gd_tt ?_; refine leq_i (fun hc => ?_) (fun hc => ?_); refine gd_ff ?_; refine pick_t ?_; refine pick_f ?_; refine mv_i ?_; refine ret1 ?_));
      (rotate_left);
      (with_reducible (refine gd_ff ?_; refine pick_t ?_; refine pick_f ?_; refine mv_i ?_; refine ret1 ?_));
      (rotate_left);
      (with_reducible (refine gd_ff ?_; refine mv_i ?_; refine gd_ft ?_; refine gd_ft ?_; refine gd_ff ?_; refine pick_f ?_; refine pick_f ?_; refine mv_i ?_; refine ret1 ?_));
      (rotate_left))
  all_goals exact ⟨by simp [isLetter]; omega, rfl⟩
end Go.Proofs.Ytalnnkpdpjmmkaa

set_option linter.unusedSimpArgs false
set_option linter.unusedVariables false
set_option maxRecDepth 100000
namespace Go.Proofs
open Go.Shelf in
def Ytalnnkpdpjmmkaa.lays315_ren : Go.Shelf.Ren := ⟨fun | 315 => 90 | n => n, fun | 9 => 9 | 40 => 89 | 4 => 4 | 3 => 3 | 0 => 0 | 21 => 21 | n => n, fun | n => n⟩
open Go.Shelf in
theorem Ytalnnkpdpjmmkaa.lays315 : Go.Proofs.Lays.n315 Try.prog Ytalnnkpdpjmmkaa.lays315_ren where
  mixed := by kernel_rfl
  f315 := Try.func90.trans (congrArg some (by kernel_rfl))
  t0 := Try.underlying0
  a0 := Try.isAgg0
  z0 := Try.sizeOf0
  v0 := Try.zeroValue0
  t3 := Try.underlying3
  a3 := Try.isAgg3
  z3 := Try.sizeOf3
  v3 := Try.zeroValue3
  t4 := Try.underlying4
  a4 := Try.isAgg4
  z4 := Try.sizeOf4
  v4 := Try.zeroValue4
  t9 := Try.underlying9
  a9 := Try.isAgg9
  z9 := Try.sizeOf9
  v9 := Try.zeroValue9
  t21 := Try.underlying21
  a21 := Try.isAgg21
  z21 := Try.sizeOf21
  v21 := Try.zeroValue21
  t40 := Try.underlying89
  a40 := Try.isAgg89
  z40 := Try.sizeOf89
  v40 := Try.zeroValue89
open Go.Shelf in
def Ytalnnkpdpjmmkaa.lays219_ren : Go.Shelf.Ren := ⟨fun | 219 => 89 | 217 => 93 | 225 => 94 | 224 => 95 | 267 => 96 | 266 => 97 | 314 => 98 | n => n, fun | 9 => 9 | 3 => 3 | 4 => 4 | 5 => 5 | 46 => 98 | 146 => 109 | 51 => 108 | n => n, fun | 1 => 0 | n => n⟩
open Go.Shelf in
theorem Ytalnnkpdpjmmkaa.lays219 : Go.Proofs.Lays.n219 Try.prog Ytalnnkpdpjmmkaa.lays219_ren where
  mixed := by kernel_rfl
  f217 := Try.func93.trans (congrArg some (by kernel_rfl))
  f219 := Try.func89.trans (congrArg some (by kernel_rfl))
  f224 := Try.func95.trans (congrArg some (by kernel_rfl))
  f225 := Try.func94.trans (congrArg some (by kernel_rfl))
  f266 := Try.func97.trans (congrArg some (by kernel_rfl))
  f267 := Try.func96.trans (congrArg some (by kernel_rfl))
  f314 := Try.func98.trans (congrArg some (by kernel_rfl))
  t3 := Try.underlying3
  a3 := Try.isAgg3
  z3 := Try.sizeOf3
  v3 := Try.zeroValue3
  t4 := Try.underlying4
  a4 := Try.isAgg4
  z4 := Try.sizeOf4
  v4 := Try.zeroValue4
  t5 := Try.underlying5
  a5 := Try.isAgg5
  z5 := Try.sizeOf5
  v5 := Try.zeroValue5
  t9 := Try.underlying9
  a9 := Try.isAgg9
  z9 := Try.sizeOf9
  v9 := Try.zeroValue9
  t46 := Try.underlying98
  a46 := Try.isAgg98
  z46 := Try.sizeOf98
  v46 := Try.zeroValue98
  t51 := Try.underlying108
  a51 := Try.isAgg108
  z51 := Try.sizeOf108
  v51 := Try.zeroValue108
  t146 := Try.underlying109
  a146 := Try.isAgg109
  z146 := Try.sizeOf109
  v146 := Try.zeroValue109
  g1 := by kernel_rfl
end Go.Proofs
namespace Go.Proofs.Ytalnnkpdpjmmkaa
open Go.AM Go.RowKit
variable {h : Heap}
theorem c89 [GM h] (s sub : ByteArray) (hs : s.size < 4294967281) : Runs Try.prog 89 [.string s, .string sub] h (.int .i64 (Lib.index s.data.toList sub.data.toList)) h := by
  refine Runs.of_below rfl rfl rfl fun ρ w G R => ?_
  obtain ⟨m, hm⟩ := GM.cell G R (by decide)
  refine (Any.stringslite_Index lays219 s sub m w hs hm).mono ?_
  rintro e w' ⟨rfl, rfl⟩
  exact ⟨rfl, Below.refl _ _⟩
theorem c81 [GM h] (s sub : ByteArray) (hs : s.size < 4294967281) : Runs Try.prog 81 [.string s, .string sub] h (.int .i64 (Lib.index s.data.toList sub.data.toList)) h := by
  refine DetP.runs (w81 ?_)
  unfold n81
  ((with_reducible (refine mv_i ?_; refine mv_i ?_; refine mv_i ?_)))
  refine call_r (c89 s sub hs) ?_
  ((with_reducible (refine mv_i ?_; refine ret1 ?_)))
  exact ⟨rfl, rfl⟩
theorem c67 [GM h] (s sub : ByteArray) (hs : s.size < 4294967281) : Runs Try.prog 67 [.string s, .string sub] h (.bool (decide (0 ≤ Lib.index s.data.toList sub.data.toList))) h := by
  refine DetP.runs (w67 ?_)
  unfold n67
  ((with_reducible (refine mv_i ?_; refine mv_i ?_; refine mv_i ?_)))
  refine call_r (c81 s sub hs) ?_
  ((with_reducible (refine geq_i (fun hc => ?_) (fun hc => ?_); refine mv_i ?_; refine ret1 ?_));
      (rotate_left);
      (with_reducible (refine mv_i ?_; refine ret1 ?_));
      (rotate_left))
  all_goals exact ⟨by simp_all, rfl⟩
/-- A character that no name has. -/
def badR (c : Int) : Bool := !isLetter c && !decide (48 ≤ c ∧ c ≤ 57) && decide (c ≠ 95) && decide (c ≠ 45)
theorem c69 (n : Int) : Runs Try.prog 69 [.int .i32 n] h (.bool (badR n)) h := by
  refine DetP.runs (w69 ?_)
  unfold n69
  ((with_reducible (refine mv_i ?_; refine mv_i ?_));
      (refine call_r (c65 _) ?_);
      (with_reducible (refine not_s (fun hb => ?_) (fun hb => ?_); refine mv_i ?_; refine gd_ft ?_; refine gd_ft ?_; refine gd_ft ?_; refine gd_u ?_; refine gd_u ?_; refine gd_ft ?_; refine gd_ft ?_; refine pick_f ?_; refine mv_i ?_; refine gd_ft ?_; refine gd_ft ?_; refine pick_f ?_; refine mv_i ?_; refine gd_ft ?_; refine gd_ft ?_; refine pick_f ?_; refine mv_i ?_; refine ret1 ?_));
      (rotate_left);
      (with_reducible (refine mv_i ?_; refine gd_tt ?_; refine mv_i ?_; refine gd_tt ?_; refine geq_i (fun hc => ?_) (fun hc => ?_); refine gd_tt ?_; refine mv_i ?_; refine gd_tt ?_; refine mv_i ?_; refine gd_tt ?_; refine leq_i (fun hc => ?_) (fun hc => ?_); refine gd_tt ?_; refine pick_t ?_; refine gd_tt ?_; refine not_t ?_; refine pick_t ?_; refine mv_i ?_; refine gd_ft ?_; refine gd_ft ?_; refine pick_f ?_; refine mv_i ?_; refine gd_ft ?_; refine gd_ft ?_; refine pick_f ?_; refine mv_i ?_; refine ret1 ?_));
      (rotate_left);
      (with_reducible (refine gd_tt ?_; refine pick_t ?_; refine gd_tt ?_; refine not_f ?_; refine pick_t ?_; refine mv_i ?_; refine gd_tt ?_; refine mv_i ?_; refine gd_tt ?_; refine neq_i (fun hc => ?_) (fun hc => ?_); refine pick_t ?_; refine mv_i ?_; refine gd_ft ?_; refine gd_ft ?_; refine pick_f ?_; refine mv_i ?_; refine ret1 ?_));
      (rotate_left);
      (with_reducible (refine pick_t ?_; refine mv_i ?_; refine gd_tt ?_; refine mv_i ?_; refine gd_tt ?_; refine neq_i (fun hc => ?_) (fun hc => ?_); refine pick_t ?_; refine mv_i ?_; refine ret1 ?_));
      (rotate_left);
      (with_reducible (refine pick_t ?_; refine mv_i ?_; refine ret1 ?_));
      (rotate_left);
      (with_reducible (refine gd_tt ?_; refine mv_i ?_; refine gd_ft ?_; refine gd_ft ?_; refine gd_tt ?_; refine pick_f ?_; refine gd_tt ?_; refine not_f ?_; refine pick_t ?_; refine mv_i ?_; refine gd_tt ?_; refine mv_i ?_; refine gd_tt ?_; refine neq_i (fun hc => ?_) (fun hc => ?_); refine pick_t ?_; refine mv_i ?_; refine gd_ft ?_; refine gd_ft ?_; refine pick_f ?_; refine mv_i ?_; refine ret1 ?_));
      (rotate_left);
      (with_reducible (refine pick_t ?_; refine mv_i ?_; refine gd_tt ?_; refine mv_i ?_; refine gd_tt ?_; refine neq_i (fun hc => ?_) (fun hc => ?_); refine pick_t ?_; refine mv_i ?_; refine ret1 ?_));
      (rotate_left);
      (with_reducible (refine pick_t ?_; refine mv_i ?_; refine ret1 ?_));
      (rotate_left))
  all_goals exact ⟨by simp_all [badR] <;> omega, rfl⟩
theorem c90 (s : ByteArray) : Runs Try.prog 90 [.string s, .func (.func 69) #[] #[], .bool true] h (.int .i64 (Lib.idxFunc (fun x => badR x) true s)) h := by
  refine Runs.of_below rfl rfl rfl fun ρ w G R => ?_
  refine (Any.strings_indexFunc_grows lays315 69 #[] (fun args w => by kernel_rfl) (fun x => badR x) true s w ?_)
  intro W x _ _
  exact Runs.to_below (P := Try.prog) (f := 69) (args := [.int .i32 x]) (v := .bool (badR x)) rfl rfl rfl (fun h => c69 x) W
theorem c82 (s : ByteArray) : Runs Try.prog 82 [.string s, .func (.func 69) #[] #[]] h (.int .i64 (Lib.idxFunc (fun x => badR x) true s)) h := by
  refine DetP.runs (w82 ?_)
  unfold n82
  ((with_reducible (refine mv_i ?_; refine mv_i ?_; refine mv_i ?_)))
  refine call_r (c90 s) ?_
  ((with_reducible (refine mv_i ?_; refine ret1 ?_)))
  exact ⟨rfl, rfl⟩
theorem c68 (s : ByteArray) : Runs Try.prog 68 [.string s, .func (.func 69) #[] #[]] h (.bool (decide (0 ≤ Lib.idxFunc (fun x => badR x) true s))) h := by
  refine DetP.runs (w68 ?_)
  unfold n68
  ((with_reducible (refine mv_i ?_; refine mv_i ?_; refine mv_i ?_)))
  refine call_r (c82 s) ?_
  ((with_reducible (refine geq_i (fun hc => ?_) (fun hc => ?_); refine mv_i ?_; refine ret1 ?_));
      (rotate_left);
      (with_reducible (refine mv_i ?_; refine ret1 ?_));
      (rotate_left))
  all_goals exact ⟨by simp_all, rfl⟩
end Go.Proofs.Ytalnnkpdpjmmkaa

set_option linter.unusedSimpArgs false
set_option linter.unusedVariables false
set_option maxRecDepth 100000
set_option maxHeartbeats 4000000
namespace Go.Proofs.Ytalnnkpdpjmmkaa
open Go.AM
variable {h : Heap}
/-! ### texts by their numbers -/
def chr (s : ByteArray) (k : Nat) : Int := ((s.data.toList.getD k 0).toNat : Int)
theorem chr_at {s : ByteArray} {k : Nat} (hk : k < s.size) : ((s[k]'hk).toNat : Int) = chr s k := by
  unfold chr
  have hk2 : k < s.data.toList.length := by simpa using hk
  rw [show s.data.toList.getD k 0 = s.data.toList[k] by rw [List.getD, List.getElem?_eq_getElem hk2]; rfl]
  rw [Array.getElem_toList]; rfl
theorem chr_range (s : ByteArray) (k : Nat) : 0 ≤ chr s k ∧ chr s k < 256 := by
  unfold chr
  have := UInt8.toNat_lt (s.data.toList.getD k 0)
  omega
theorem schr_z {K : Value → Heap → Prop} {z : Int} {a : ByteArray} (h0 : 0 ≤ z) (hl : z.toNat < a.size) (hk : K (.int .u8 (chr a z.toNat)) h) : vK (aIndex Try.prog 9 (.string a) (.int .i64 z)) h K := by
  refine sidx_z h0 hl ?_
  rw [chr_at hl]; exact hk
theorem schr_n {K : Value → Heap → Prop} {k : Nat} {a : ByteArray} (hl : k < a.size) (hk : K (.int .u8 (chr a k)) h) : vK (aIndex Try.prog 9 (.string a) (.int .i64 (k : Int))) h K :=
  schr_z (by omega) (by simpa using hl) (by simpa using hk)
theorem schr_0 {K : Value → Heap → Prop} {a : ByteArray} (hl : 0 < a.size) (hk : K (.int .u8 (chr a 0)) h) : vK (aIndex Try.prog 9 (.string a) (.int .i64 0)) h K := schr_n (k := 0) hl hk
def okC (s : ByteArray) (i : Nat) : Prop := isLetter (chr s i) = true ∨ (48 ≤ chr s i ∧ chr s i ≤ 57) ∨ chr s i = 95 ∨ (chr s i = 45 ∧ chr s (i - 1) ≠ 45)
def NameOK (s : ByteArray) : Prop := 1 ≤ s.size ∧ s.size ≤ 32 ∧ isLetter (chr s 0) = true ∧ chr s (s.size - 1) ≠ 45 ∧ ∀ i, 1 ≤ i → i < s.size → okC s i
open Classical in
noncomputable def nameE (s : ByteArray) : Int := if NameOK s then 0 else 7
/-! ### the reference's check -/
def isSmall (c : Int) : Bool := decide (97 ≤ c ∧ c ≤ 122)
def isCap (c : Int) : Bool := decide (65 ≤ c ∧ c ≤ 90)
def isDig (c : Int) : Bool := decide (48 ≤ c ∧ c ≤ 57)
theorem c86 (n : Int) : Runs Try.prog 86 [.int .u8 n] h (.bool (isSmall n)) h := by
  refine DetP.runs (w86 ?_)
  unfold n86
  ((with_reducible (refine mv_i ?_; refine mv_i ?_; refine geq_i (fun hc => ?_) (fun hc => ?_); refine mv_i ?_; refine gd_tt ?_; refine mv_i ?_; refine gd_tt ?_; refine leq_i (fun hc => ?_) (fun hc => ?_); refine pick_t ?_; refine mv_i ?_; refine ret1 ?_));
      (rotate_left);
      (with_reducible (refine pick_t ?_; refine mv_i ?_; refine ret1 ?_));
      (rotate_left);
      (with_reducible (refine mv_i ?_; refine gd_ft ?_; refine gd_ft ?_; refine pick_f ?_; refine mv_i ?_; refine ret1 ?_));
      (rotate_left))
  all_goals exact ⟨by simp_all [isSmall] <;> omega, rfl⟩
theorem c87 (n : Int) : Runs Try.prog 87 [.int .u8 n] h (.bool (isCap n)) h := by
  refine DetP.runs (w87 ?_)
  unfold n87
  ((with_reducible (refine mv_i ?_; refine mv_i ?_; refine geq_i (fun hc => ?_) (fun hc => ?_); refine mv_i ?_; refine gd_tt ?_; refine mv_i ?_; refine gd_tt ?_; refine leq_i (fun hc => ?_) (fun hc => ?_); refine pick_t ?_; refine mv_i ?_; refine ret1 ?_));
      (rotate_left);
      (with_reducible (refine pick_t ?_; refine mv_i ?_; refine ret1 ?_));
      (rotate_left);
      (with_reducible (refine mv_i ?_; refine gd_ft ?_; refine gd_ft ?_; refine pick_f ?_; refine mv_i ?_; refine ret1 ?_));
      (rotate_left))
  all_goals exact ⟨by simp_all [isCap] <;> omega, rfl⟩
theorem c88 (n : Int) : Runs Try.prog 88 [.int .u8 n] h (.bool (isDig n)) h := by
  refine DetP.runs (w88 ?_)
  unfold n88
  ((with_reducible (refine mv_i ?_; refine mv_i ?_; refine geq_i (fun hc => ?_) (fun hc => ?_); refine mv_i ?_; refine gd_tt ?_; refine mv_i ?_; refine gd_tt ?_; refine leq_i (fun hc => ?_) (fun hc => ?_); refine pick_t ?_; refine mv_i ?_; refine ret1 ?_));
      (rotate_left);
      (with_reducible (refine pick_t ?_; refine mv_i ?_; refine ret1 ?_));
      (rotate_left);
      (with_reducible (refine mv_i ?_; refine gd_ft ?_; refine gd_ft ?_; refine pick_f ?_; refine mv_i ?_; refine ret1 ?_));
      (rotate_left))
  all_goals exact ⟨by simp_all [isDig] <;> omega, rfl⟩
open Classical in
theorem c79 (s : ByteArray) : Runs Try.prog 79 [.string s] h (.bool (decide (NameOK s))) h := by
  refine DetP.runs (w79 ?_)
  unfold n79
  refine mv_i ?_
  refine mv_i ?_
  refine slen_i ?_
  refine call_r (c26 _ _ _) ?_
  by_cases hlen : 1 ≤ (s.size : Int) ∧ (s.size : Int) ≤ 32
  rotate_left
  · rw [decide_eq_false hlen]
    ((with_reducible (refine not_f ?_; refine mv_i ?_; refine gd_tf ?_; refine gd_tf ?_; refine gd_tf ?_; refine gd_tf ?_; refine gd_tf ?_; refine gd_u ?_; refine gd_u ?_; refine gd_u ?_; refine gd_u ?_; refine gd_tf ?_; refine pick_t ?_; refine mv_i ?_; refine gd_tf ?_; refine gd_tf ?_; refine gd_tf ?_; refine gd_tf ?_; refine gd_tf ?_; refine gd_tf ?_; refine pick_t ?_; refine cnd_t ?_; refine mv_i ?_; refine ret1 ?_)))
    all_goals exact ⟨by rw [decide_eq_false]; rintro ⟨a, b, _⟩; exact hlen ⟨by omega, by omega⟩, rfl⟩
  rw [decide_eq_true hlen]
  have r0 := chr_range s 0
  have hsl : ∀ c : Int, isLetter c = (isSmall c || isCap c) := by
    intro c
    simp only [isLetter, isSmall, isCap]
    rw [Bool.eq_iff_iff]
    simp
  have no : ∀ {k : Nat}, 1 ≤ k → k < s.size → ¬ okC s k → decide (NameOK s) = false := fun h1 h2 h3 => decide_eq_false fun ⟨_, _, _, _, h4⟩ => h3 (h4 _ h1 h2)
  have e1 : (1 : Int).toNat = 1 := rfl
  ((with_reducible (refine not_t ?_; refine mv_i ?_; refine gd_ff ?_; refine mv_i ?_; refine gd_ff ?_));
      (refine schr_0 (by omega) ?_);
      (with_reducible (refine gd_ff ?_));
      (refine call_r (c86 _) ?_);
      (with_reducible (refine gd_ff ?_; refine not_s (fun hb => ?_) (fun hb => ?_); refine gd_ff ?_; refine mv_i ?_; refine gd_ft ?_; refine gd_ft ?_; refine gd_ft ?_; refine gd_ft ?_; refine gd_ff ?_; refine pick_f ?_; refine pick_f ?_; refine mv_i ?_; refine gd_ff ?_; refine mv_i ?_; refine gd_ff ?_; refine mv_i ?_; refine gd_ff ?_; refine slen_i ?_; refine gd_ff ?_; refine sub_j (by omega) (by omega) ?_; refine gd_ff ?_));
      (refine schr_z (by omega) (by omega) ?_);
      (with_reducible (refine gd_ff ?_; refine eql_i (fun hc => ?_) (fun hc => ?_); refine pick_f ?_; refine cnd_t ?_; refine mv_i ?_; refine ret1 ?_));
      (rotate_left);
      (with_reducible (refine pick_f ?_; refine cnd_f ?_; refine mv_i ?_));
      (rotate_left);
      (with_reducible (refine gd_ff ?_; refine mv_i ?_; refine gd_tt ?_; refine mv_i ?_; refine gd_tt ?_));
      (refine schr_0 (by omega) ?_);
      (with_reducible (refine gd_tt ?_));
      (refine call_r (c87 _) ?_);
      (with_reducible (refine gd_tt ?_; refine not_s (fun hb => ?_) (fun hb => ?_); refine gd_ff ?_; refine pick_t ?_; refine pick_f ?_; refine mv_i ?_; refine gd_ff ?_; refine mv_i ?_; refine gd_ff ?_; refine mv_i ?_; refine gd_ff ?_; refine slen_i ?_; refine gd_ff ?_; refine sub_j (by omega) (by omega) ?_; refine gd_ff ?_));
      (refine schr_z (by omega) (by omega) ?_);
      (with_reducible (refine gd_ff ?_; refine eql_i (fun hc => ?_) (fun hc => ?_); refine pick_f ?_; refine cnd_t ?_; refine mv_i ?_; refine ret1 ?_));
      (rotate_left);
      (with_reducible (refine pick_f ?_; refine cnd_f ?_; refine mv_i ?_));
      (rotate_left);
      (with_reducible (refine gd_ff ?_; refine pick_t ?_; refine pick_f ?_; refine mv_i ?_; refine gd_tf ?_; refine gd_tf ?_; refine gd_tf ?_; refine gd_tf ?_; refine gd_tf ?_; refine gd_tf ?_; refine pick_t ?_; refine cnd_t ?_; refine mv_i ?_; refine ret1 ?_));
      (rotate_left))
  all_goals first
    | (refine ⟨?_, rfl⟩
       rw [decide_eq_false]
       rintro ⟨_, _, h3, h4, _⟩
       first
         | (rw [hsl] at h3; simp_all; done)
         | (apply h4; rw [← ‹_ = (45 : Int)›]; congr 1; omega))
    | skip
  all_goals refine lp1 (fun n vs h2 => ∃ k : Nat, vs = [.int .i64 (k : Int)] ∧ n = s.size - k ∧ h = h2 ∧ 1 ≤ k ∧ k ≤ s.size ∧ ∀ j, 1 ≤ j → j < k → okC s j) (n0 := s.size - 1) ⟨1, rfl, rfl, rfl, by omega, by omega, fun j h1 h2 => by omega⟩ ?_
  all_goals
    rintro _ _ h2 _ ⟨k, ev, rfl, rfl, hk1, hk2, hJ⟩ hl
    cases ev
    (repeat' first|(refine call_r (c86 _) ?_)|(refine calld_r (c86 _) ?_)|(refine call_r (c87 _) ?_)|(refine calld_r (c87 _) ?_)|(refine call_r (c88 _) ?_)|(refine calld_r (c88 _) ?_)|(refine schr_0 (by omega) ?_)|(refine schr_n (by omega) ?_)|(refine schr_z (by omega) (by omega) ?_)|(refine call_r (c65 _) ?_)|(refine calld_r (c65 _) ?_)|(refine call_r (c41 _ _ _) ?_)|(refine calld_r (c41 _ _ _) ?_)|(refine call_r (c26 _ _ _) ?_)|(refine calld_r (c26 _ _ _) ?_)|(refine call_r (c73 _) ?_)|(refine calld_r (c73 _) ?_)|(refine rt_w1 (by assumption) (by infer_instance) (by with_unfolding_all rfl) ?_)|(refine rt_w2 (by assumption) (by infer_instance) (by with_unfolding_all rfl) ?_)|(refine rt_11 (by assumption) (by infer_instance) (by with_unfolding_all rfl) ?_)|(refine rt_12 (by assumption) (by infer_instance) (by with_unfolding_all rfl) ?_)|(with_reducible refine len_o (by assumption) ?_)|(with_reducible refine mv_i ?_)|(with_reducible refine nil_i ?_)|(with_reducible refine ex2_0 ?_)|(with_reducible refine ex2_1 ?_)|(with_reducible refine ex3_0 ?_)|(with_reducible refine ex3_1 ?_)|(with_reducible refine ex3_2 ?_)|(with_reducible refine pick_t ?_)|(with_reducible refine pick_f ?_)|(with_reducible refine not_t ?_)|(with_reducible refine not_f ?_)|(with_reducible refine gd_tt ?_)|(with_reducible refine gd_ff ?_)|(with_reducible refine gd_tf ?_)|(with_reducible refine gd_ft ?_)|(with_reducible refine gd_u ?_)|(with_reducible refine cnd_t ?_)|(with_reducible refine cnd_f ?_)|(with_reducible refine gd_ht (by assumption) ?_)|(with_reducible refine gd_hf (by assumption) ?_)|(with_reducible refine gd_nt (by assumption) ?_)|(with_reducible refine gd_nf (by assumption) ?_)|(with_reducible refine cnd_h (by assumption) ?_)|(with_reducible refine cnd_n (by assumption) ?_)|(with_reducible refine pick_h (by assumption) ?_)|(with_reducible refine pick_n (by assumption) ?_)|(with_reducible refine not_h (by assumption) ?_)|(with_reducible refine not_n (by assumption) ?_)|(with_reducible refine gd_st (fun hb => ?_) (fun hb => ?_))|(with_reducible refine gd_sf (fun hb => ?_) (fun hb => ?_))|(with_reducible refine cnd_b (fun hb => ?_) (fun hb => ?_))|(with_reducible refine not_s (fun hb => ?_) (fun hb => ?_))|(with_reducible refine eql_h (by first | assumption | decide) ?_)|(with_reducible refine eql_n (by first | assumption | decide) ?_)|(with_reducible refine neq_h (by first | assumption | decide) ?_)|(with_reducible refine neq_n (by first | assumption | decide) ?_)|(with_reducible refine lss_i (fun hc => ?_) (fun hc => ?_))|(with_reducible refine leq_i (fun hc => ?_) (fun hc => ?_))|(with_reducible refine gtr_i (fun hc => ?_) (fun hc => ?_))|(with_reducible refine geq_i (fun hc => ?_) (fun hc => ?_))|(with_reducible refine eql_i (fun hc => ?_) (fun hc => ?_))|(with_reducible refine neq_i (fun hc => ?_) (fun hc => ?_))|(with_reducible refine seq_s (fun hc => ?_) (fun hc => ?_))|(with_reducible refine sne_s (fun hc => ?_) (fun hc => ?_))|(with_reducible refine sls_i ?_)|(with_reducible refine pick_s (fun hb => ?_) (fun hb => ?_))|(with_reducible refine len_g (by assumption) ?_)|(with_reducible refine slen_i ?_)|(with_reducible refine len_s ?_)|(with_reducible refine sidx_0 (by omega) ?_)|(refine idx_d (by assumption) (by with_unfolding_all rfl) (by omega) fun p hp => ?_)|(refine idx_dp (by assumption) (by with_unfolding_all rfl) (by omega) (by omega) fun p hp => ?_)|(refine idx_dz (by assumption) (by with_unfolding_all rfl) (by omega) (by omega) fun p hp => ?_)|(refine idx_f (by assumption) (by with_unfolding_all rfl) (by omega) fun p hp => ?_)|(refine idx_fz (by assumption) (by with_unfolding_all rfl) (by omega) (by omega) fun p hp => ?_)|(with_reducible refine fa_g (by assumption) fun p hp => ?_)|(refine ld_g (by assumption) (by with_unfolding_all rfl) ?_)|(refine ldr_w (by assumption) (by with_unfolding_all rfl) ?_)|(refine ldr_g (by assumption) (by with_unfolding_all rfl) (by with_unfolding_all exact Nat.le_refl _) ?_)|(with_reducible refine fao_e ?_)|(with_reducible refine fao ?_)|(refine ldo (by assumption) (q := by infer_instance) (by with_unfolding_all rfl) ?_)|(refine ldo_w (by assumption) (by infer_instance) (by with_unfolding_all rfl) ?_)|(refine ldor (by assumption) (q := by infer_instance) (by with_unfolding_all rfl) (by with_unfolding_all exact Nat.le_refl _) ?_)|(with_reducible refine box_a (by assumption) fun i h z p m => ?_)|(with_reducible refine alloc_z (by assumption) fun i h z p m => ?_)|(refine box_1 (by assumption) (by with_unfolding_all rfl) fun i h z p m => ?_)|(refine sto (by assumption) (q := by infer_instance) (by with_unfolding_all exact Nat.le_of_ble_eq_true rfl) rfl rfl (u := by infer_instance) fun h p m => ?_)|(refine st_w (by assumption) (by infer_instance) (by with_unfolding_all rfl) (by with_unfolding_all rfl) (by first | rfl | exact flat_ones (Flat.flat _)) (by infer_instance) fun h p m => ?_)|(with_reducible refine new_n ?_)|(refine pd_c (by assumption) (by infer_instance) (by with_unfolding_all rfl) ?_)|(with_reducible refine new_p (by assumption) ?_)|(with_reducible refine vb_f ?_)|(refine vb_n (by with_unfolding_all rfl) ?_)|(with_reducible refine vb_l (by assumption) ?_)|(refine pd_o (by assumption) (by infer_instance) (by with_unfolding_all rfl) ?_)|(with_reducible refine ⟨trivial, ?_⟩)|(refine fld_g (by with_unfolding_all rfl) ?_)|(with_reducible refine leni_t (by assumption) ?_)|(refine idxi_t (by assumption) (by omega) ?_)|(refine ldi_t (by assumption) (by omega) ?_)|(with_reducible refine inc_i (by omega) ?_)|(with_reducible refine ret1 ?_)|(with_reducible refine ret2 ?_)|(with_reducible refine ret3 ?_)|(with_reducible refine ret0 ?_)|(with_reducible refine seq_i ?_)|((with_reducible refine fun (_ : Tmps) => ?_); dsimp only [nth])|(with_reducible refine sub_j (by omega) (by omega) ?_)|(with_reducible refine add_j (by omega) (by omega) ?_)|(refine vb_as rfl (by assumption) ?_)|(refine vb_ao rfl (by assumption) (by assumption) (by infer_instance) ?_)|(refine idx_o (by assumption) (by omega) ?_)|(refine idx_oz (by assumption) (by omega) (by omega) ?_)|(refine ldf_d (by assumption) (by infer_instance) (by with_unfolding_all rfl) (by omega) (by with_unfolding_all exact Nat.le_of_ble_eq_true rfl) (by with_unfolding_all rfl) ?_)|(refine ldw_d (by assumption) (by infer_instance) (by with_unfolding_all rfl) (by omega) ?_)|(refine stw_o (by assumption) (by infer_instance) (by with_unfolding_all rfl) (by omega) (by infer_instance) fun h p m => ?_))
  all_goals first
    | (refine nxt hl (n' := s.size - (k + 1)) (by omega) ⟨k + 1, rfl, rfl, rfl, by omega, by omega, fun j h1 h2 => ?_⟩
       by_cases q : j < k
       · exact hJ j h1 q
       · have q' : j = k := by omega
         subst q'
         unfold okC
         rw [hsl]
         first
           | (simp_all [isDig]; done)
           | (simp_all [isDig]; omega))
    | (refine ⟨?_, rfl⟩
       rw [no hk1 (by omega)]
       unfold okC
       rw [hsl]
       have e2 : ((k : Int) - 1).toNat = k - 1 := by omega
       first
         | (simp_all [isDig]; done)
         | (simp_all [isDig]; omega))
    | (refine ⟨?_, rfl⟩
       rw [decide_eq_true]
       refine ⟨by omega, by omega, by rw [hsl]; simp_all, ?_, fun j h1 h2 => hJ j h1 (by omega)⟩
       have e2 : ((s.size : Int) - 1).toNat = s.size - 1 := by omega
       simp_all)
end Go.Proofs.Ytalnnkpdpjmmkaa

set_option linter.unusedSimpArgs false
set_option linter.unusedVariables false
set_option maxRecDepth 100000
set_option maxHeartbeats 4000000
namespace Go.Proofs.Ytalnnkpdpjmmkaa
open Go.AM
variable {h : Heap}
/-! ### what the library's searches tell -/
theorem data_at {s : ByteArray} {k : Nat} (hk : k < s.size) : chr s k = ((s.data.toList[k]'(by simpa using hk)).toNat : Int) := by
  rw [← chr_at hk, Array.getElem_toList]; rfl
theorem occ2 (s : ByteArray) (i : Nat) : Lib.occAt s.data.toList [45, 45] i = true ↔ i + 1 < s.size ∧ chr s i = 45 ∧ chr s (i + 1) = 45 := by
  unfold Lib.occAt
  have hsz : s.data.toList.length = s.size := by simp
  have key : ∀ b : UInt8, (b.toNat : Int) = 45 ↔ b = 45 := by
    intro b
    constructor
    · intro e
      apply UInt8.toNat_inj.mp
      have : b.toNat = 45 := by omega
      rw [this]; rfl
    · rintro rfl; rfl
  rw [List.isPrefixOf_iff_prefix]
  constructor
  · rintro ⟨t, e⟩
    have h1 : i + 1 < s.size := by
      have := congrArg List.length e
      rw [List.length_drop, hsz] at this
      simp at this
      omega
    have g : ∀ j : Nat, (s.data.toList.drop i)[j]? = (([45, 45] : List UInt8) ++ t)[j]? := fun j => by rw [e]
    have g0 := g 0
    have g1 := g 1
    rw [List.getElem?_drop] at g0 g1
    simp only [Nat.add_zero] at g0
    rw [List.getElem?_eq_getElem (by rw [hsz]; omega)] at g0 g1
    simp at g0 g1
    exact ⟨h1, by rw [data_at (by omega), key]; exact g0, by rw [data_at h1, key]; exact g1⟩
  · rintro ⟨h1, h2, h3⟩
    rw [data_at (by omega), key] at h2
    rw [data_at h1, key] at h3
    refine ⟨s.data.toList.drop (i + 2), ?_⟩
    rw [List.drop_eq_getElem_cons (i := i) (by rw [hsz]; omega), List.drop_eq_getElem_cons (i := i + 1) (by rw [hsz]; omega), h2, h3]
    rfl
theorem has2 (s : ByteArray) : 0 ≤ Lib.index s.data.toList [45, 45] ↔ ∃ i, i + 1 < s.size ∧ chr s i = 45 ∧ chr s (i + 1) = 45 := by
  have hsz : s.data.toList.length = s.size := by simp
  rcases Lib.index_spec s.data.toList [45, 45] with ⟨e, hn⟩ | ⟨i, e, hi, ho, _⟩
  · rw [e]
    constructor
    · intro hh; omega
    · rintro ⟨i, hi⟩
      have := hn i (by rw [hsz]; omega)
      rw [(occ2 s i).mpr hi] at this
      cases this
  · rw [e]
    exact ⟨fun _ => ⟨i, (occ2 s i).mp ho⟩, fun _ => by omega⟩
theorem bad_high {c : Int} (hc : 128 ≤ c) : badR c = true := by
  simp [badR, isLetter]; omega
theorem idx_bad (s : ByteArray) : ∀ (f pos : Nat), s.size ≤ pos + f → (0 ≤ Lib.idxFuncFrom (fun x => badR x) true s f pos ↔ ∃ i, pos ≤ i ∧ i < s.size ∧ badR (chr s i) = true)
  | 0, pos, hf => by
    unfold Lib.idxFuncFrom
    constructor
    · intro hh; omega
    · rintro ⟨i, h1, h2, _⟩; omega
  | f + 1, pos, hf => by
    unfold Lib.idxFuncFrom
    by_cases hp : pos < s.size
    · rw [if_pos hp]
      by_cases ha : (s[pos]'hp).toNat < 128
      · rw [decode_ascii s pos hp ha]
        simp only
        have hc := chr_at hp
        rw [hc]
        by_cases hb : badR (chr s pos) = true
        · rw [if_pos hb]
          exact ⟨fun _ => ⟨pos, Nat.le_refl _, hp, hb⟩, fun _ => by omega⟩
        · rw [if_neg hb, idx_bad s f (pos + 1) (by omega)]
          constructor
          · rintro ⟨i, h1, h2⟩; exact ⟨i, by omega, h2⟩
          · rintro ⟨i, h1, h2, h3⟩
            refine ⟨i, ?_, h2, h3⟩
            rcases Nat.lt_or_ge pos i with q | q
            · exact q
            · have : i = pos := by omega
              subst this; exact absurd h3 hb
      · have hd := (decode_high s pos hp (by omega)).1
        rw [if_pos (bad_high (by omega))]
        refine ⟨fun _ => ⟨pos, Nat.le_refl _, hp, ?_⟩, fun _ => by omega⟩
        apply bad_high
        rw [← chr_at hp]
        omega
    · rw [if_neg hp]
      constructor
      · intro hh; omega
      · rintro ⟨i, h1, h2, _⟩; omega
theorem has_bad (s : ByteArray) : 0 ≤ Lib.idxFunc (fun x => badR x) true s ↔ ∃ i, i < s.size ∧ badR (chr s i) = true := by
  unfold Lib.idxFunc
  rw [idx_bad s s.size 0 (by omega)]
  simp
theorem ext_last {s : ByteArray} (hs : 1 ≤ s.size) : s.extract (s.size - 1) s.size = ⟨#[45]⟩ ↔ chr s (s.size - 1) = 45 := by
  have hx : (s.extract (s.size - 1) s.size).size = 1 := by simp; omega
  have hg : ∀ (hk : s.size - 1 < s.size), s.extract (s.size - 1) s.size = ⟨#[s[s.size - 1]]⟩ := by
    intro hk
    apply ByteArray.ext
    apply Array.ext
    · exact hx
    · intro i h1 h2
      have : i = 0 := by simp at h2; exact h2
      subst this
      simp [ByteArray.data_extract]
      rfl
  rw [hg (by omega), ← chr_at (by omega)]
  constructor
  · intro e
    have := congrArg (fun b : ByteArray => b.data.toList) e
    simp at this
    rw [this]; rfl
  · intro e
    congr 2
    congr 1
    apply UInt8.toNat_inj.mp
    have : (s[s.size - 1]).toNat = 45 := by omega
    rw [this]; rfl
theorem name_iff (s : ByteArray) : NameOK s ↔ (s ≠ ⟨#[]⟩ ∧ ¬ 32 < s.size ∧ isLetter (chr s 0) = true ∧ chr s (s.size - 1) ≠ 45 ∧ ¬ 0 ≤ Lib.index s.data.toList [45, 45] ∧ ¬ 0 ≤ Lib.idxFunc (fun x => badR x) true s) := by
  rw [has2, has_bad]
  have he : s ≠ ⟨#[]⟩ ↔ 1 ≤ s.size := by
    constructor
    · intro hn
      rcases Nat.eq_zero_or_pos s.size with q | q
      · refine absurd (ByteArray.ext (Array.eq_empty_of_size_eq_zero q)) hn
      · exact q
    · rintro hh rfl
      exact absurd hh (by decide)
  rw [he]
  have okb : ∀ c, badR c = false ↔ isLetter c = true ∨ (48 ≤ c ∧ c ≤ 57) ∨ c = 95 ∨ c = 45 := by
    intro c
    simp only [badR]
    cases isLetter c <;> simp
    omega
  constructor
  · rintro ⟨h1, h2, h3, h4, h5⟩
    refine ⟨h1, by omega, h3, h4, ?_, ?_⟩
    · rintro ⟨i, g1, g2, g3⟩
      have := h5 (i + 1) (by omega) g1
      unfold okC at this
      rw [g3] at this
      simp [isLetter] at this
      exact this g2
    · rintro ⟨i, g1, g2⟩
      rcases Nat.eq_zero_or_pos i with q | q
      · subst q
        have : badR (chr s 0) = false := (okb _).mpr (.inl h3)
        rw [this] at g2; cases g2
      · have := h5 i q g1
        have : badR (chr s i) = false := by
          rw [okb]
          unfold okC at this
          rcases this with a | a | a | a
          · exact .inl a
          · exact .inr (.inl a)
          · exact .inr (.inr (.inl a))
          · exact .inr (.inr (.inr a.1))
        rw [this] at g2; cases g2
  · rintro ⟨h1, h2, h3, h4, h5, h6⟩
    refine ⟨h1, by omega, h3, h4, fun i g1 g2 => ?_⟩
    have hb : badR (chr s i) = false := by
      cases q : badR (chr s i) with
      | false => rfl
      | true => exact absurd ⟨i, g2, q⟩ h6
    rw [okb] at hb
    unfold okC
    rcases hb with a | a | a | a
    · exact .inl a
    · exact .inr (.inl a)
    · exact .inr (.inr (.inl a))
    · refine .inr (.inr (.inr ⟨a, fun q => h5 ⟨i - 1, by omega, q, ?_⟩⟩))
      rw [show i - 1 + 1 = i by omega]; exact a
/-! ### walks -/
theorem c80 (s p : ByteArray) (hs : s.size ≤ 60 ∧ p.size ≤ 60) : Runs Try.prog 80 [.string s, .string p] h (.bool (decide (p.size ≤ s.size ∧ s.extract (s.size - p.size) s.size = p))) h := by
  refine DetP.runs (w80 ?_)
  unfold n80
  have e1 : p.size ≤ s.size → ((s.size : Int) - (p.size : Int)).toNat = s.size - p.size := fun hh => by omega
  ((with_reducible (refine mv_i ?_; refine mv_i ?_; refine slen_i ?_; refine mv_i ?_; refine slen_i ?_; refine geq_i (fun hc => ?_) (fun hc => ?_); refine mv_i ?_; refine gd_tt ?_; refine mv_i ?_; refine gd_tt ?_; refine mv_i ?_; refine gd_tt ?_; refine slen_i ?_; refine gd_tt ?_; refine mv_i ?_; refine gd_tt ?_; refine slen_i ?_; refine gd_tt ?_));
      (refine sub_i ⟨by omega, by omega⟩ ?_);
      (with_reducible (refine gd_tt ?_));
      (rotate_left);
      (with_reducible (refine mv_i ?_; refine gd_ft ?_; refine gd_ft ?_; refine gd_ft ?_; refine gd_ft ?_; refine gd_ft ?_; refine gd_ft ?_; refine gd_ft ?_; refine gd_ft ?_; refine gd_ft ?_; refine pick_f ?_; refine mv_i ?_; refine ret1 ?_));
      (rotate_left))
  · refine ssl_i (by omega) (by omega) ?_
    rw [e1 (by omega)]
    ((with_reducible (refine gd_tt ?_; refine mv_i ?_; refine gd_tt ?_; refine seq_s (fun hc => ?_) (fun hc => ?_); refine pick_t ?_; refine mv_i ?_; refine ret1 ?_));
        (rotate_left);
        (with_reducible (refine pick_t ?_; refine mv_i ?_; refine ret1 ?_));
        (rotate_left))
    all_goals exact ⟨by simp_all, rfl⟩
  · exact ⟨by simp_all; omega, rfl⟩
theorem c66 (s p : ByteArray) (hs : s.size ≤ 60 ∧ p.size ≤ 60) : Runs Try.prog 66 [.string s, .string p] h (.bool (decide (p.size ≤ s.size ∧ s.extract (s.size - p.size) s.size = p))) h := by
  refine DetP.runs (w66 ?_)
  unfold n66
  ((with_reducible (refine mv_i ?_; refine mv_i ?_; refine mv_i ?_)))
  refine call_r (c80 s p hs) ?_
  ((with_reducible (refine mv_i ?_; refine ret1 ?_)))
  exact ⟨rfl, rfl⟩
theorem c44 [GM h] (s : ByteArray) (hs : s.size ≤ 60) : Runs Try.prog 44 [.string s] h (.int .i64 (nameE s)) h := by
  refine DetP.runs (w44 ?_)
  unfold n44
  have hn := name_iff s
  have r0 := chr_range s 0
  unfold nameE
  refine mv_i ?_
  refine seq_J (fun xs h2 => h = h2 ∧ xs = [.bool (decide (s = ⟨#[]⟩ ∨ 32 < s.size ∨ isLetter (chr s 0) = false ∨ chr s (s.size - 1) = 45 ∨ 0 ≤ Lib.index s.data.toList [45, 45]))]) ?_ ?_
  · rintro _ _ ⟨rfl, rfl⟩
    (((with_reducible refine fun (_ : Tmps) => ?_); dsimp only [nth]);
        (with_reducible (refine cnd_b (fun hb => ?_) (fun hb => ?_); refine mv_i ?_; refine ret1 ?_));
        (rotate_left);
        (with_reducible (refine mv_i ?_));
        (rotate_left))
    · exact ⟨by rw [if_neg (by rw [hn]; simp_all; grind)], rfl⟩
    · refine call_r (c68 s) ?_
      ((with_reducible (refine mv_i ?_; refine cnd_b (fun hb => ?_) (fun hb => ?_); refine mv_i ?_; refine ret1 ?_));
          (rotate_left);
          (with_reducible (refine mv_i ?_; refine ret1 ?_));
          (rotate_left))
      · exact ⟨by rw [if_neg (by rw [hn]; simp_all)], rfl⟩
      · exact ⟨by rw [if_pos (by rw [hn]; simp_all)], rfl⟩
  · intro k' hk
    ((with_reducible (refine mv_i ?_; refine seq_s (fun hc => ?_) (fun hc => ?_); refine mv_i ?_; refine cnd_t ?_));
        (rotate_left);
        (with_reducible (refine mv_i ?_; refine cnd_f ?_; refine mv_i ?_; refine slen_i ?_; refine gtr_i (fun hc => ?_) (fun hc => ?_); refine mv_i ?_; refine cnd_t ?_));
        (rotate_left);
        (with_reducible (refine mv_i ?_; refine cnd_f ?_; refine mv_i ?_));
        (rotate_left))
    · exact hk _ _ ⟨rfl, by simp_all⟩
    · exact hk _ _ ⟨rfl, by rw [decide_eq_true]; exact .inr (.inl (by omega))⟩
    · rename_i hne
      have h1 : 1 ≤ s.size := by
        rcases Nat.eq_zero_or_pos s.size with q | q
        · exact absurd (ByteArray.ext (Array.eq_empty_of_size_eq_zero q)) hne
        · exact q
      ((refine schr_0 (by omega) ?_))
      refine cvt_i (wrap32 (by omega) (by omega)) ?_
      ((refine call_r (c65 _) ?_);
          (with_reducible (refine not_s (fun hb => ?_) (fun hb => ?_); refine mv_i ?_; refine cnd_f ?_; refine mv_i ?_));
          (rotate_left);
          (with_reducible (refine mv_i ?_; refine cnd_t ?_));
          (rotate_left))
      · refine call_r (c66 s ⟨#[45]⟩ ⟨by omega, by decide⟩) ?_
        have e1 : (ByteArray.mk #[45]).size = 1 := rfl
        rw [e1, show decide (1 ≤ s.size ∧ s.extract (s.size - 1) s.size = ⟨#[45]⟩) = decide (chr s (s.size - 1) = 45) from decide_eq_decide.mpr ⟨fun q => (ext_last h1).mp q.2, fun q => ⟨h1, (ext_last h1).mpr q⟩⟩]
        ((with_reducible (refine mv_i ?_; refine cnd_b (fun hb => ?_) (fun hb => ?_)));
            (rotate_left);
            (with_reducible (refine mv_i ?_));
            (rotate_left))
        · exact hk _ _ ⟨rfl, by simp_all⟩
        · refine call_r (c67 s ⟨#[45, 45]⟩ (by omega)) ?_
          ((with_reducible (refine mv_i ?_)))
          refine hk _ _ ⟨rfl, ?_⟩
          simp_all
          omega
      · exact hk _ _ ⟨rfl, by simp_all⟩
end Go.Proofs.Ytalnnkpdpjmmkaa
