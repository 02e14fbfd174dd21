/- What the functions that these laws reach compute, printed by a program of ours and tied to the model by the kernel. -/
import Derived.Test.YtjmafbiklebjcaaEngQ
import Derived.Test.YtjmafbiklebjcaaRows
set_option linter.unusedVariables false
set_option linter.unusedSimpArgs false
namespace Go.Proofs.Ytjmafbiklebjcaa
open Go.Proofs.Ytjmafbiklebjcaa.Eng
/-! ### 11: (*aqueduct/aqueductref05.Table).Bytes (1 arguments) -/
noncomputable def R11.b_34 (call : FuncId → List Value → AM Value) (k : Nat) (v0_in : Value) (rec_2_7 : Value → Value → AM Value) (v3_8 : Value) (v4_9 : Value) : AM Value :=
  bindV (ret v4_9) fun v5_27 =>
    bindV (ret v0_in) fun v6_28 =>
    bindV (nilCheckA v6_28) fun v7_29 =>
    bindV (fieldAddrA 1 v7_29) fun v8_30 =>
    bindV (loadA none v8_30) fun v9_31 =>
    bindV (lenA v9_31) fun v10_32 =>
    bindV (binA Try.prog .lss 3 v5_27 v10_32) fun v11_33 =>
    condA v11_33 (bindV (ret v3_8) fun v14_15 =>
    bindV (ret v0_in) fun v15_16 =>
    bindV (nilCheckA v15_16) fun v16_17 =>
    bindV (fieldAddrA 1 v16_17) fun v17_18 =>
    bindV (loadA none v17_18) fun v18_19 =>
    bindV (ret v4_9) fun v19_20 =>
    bindV (indexAddrA 3 v18_19 v19_20) fun v20_21 =>
    bindV (loadA (some 3) v20_21) fun v21_22 =>
    bindV (call 23 [v21_22]) fun v22_23 =>
    bindV (binA Try.prog .add 3 v14_15 v22_23) fun v23_24 =>
    bindV (ret v23_24) fun v3_25 =>
    bindV (ret v4_9) fun v12_11 =>
    bindV (binA Try.prog .add 3 v12_11 (.int .i64 1)) fun v13_12 =>
    bindV (ret v13_12) fun v4_13 =>
    rec_2_7 v3_25 v4_13)
    (bindV (ret v3_8) fun v24_3 =>
    bindV (ret v24_3) fun v2_4 =>
    ret v2_4)

noncomputable def R11.top (call : FuncId → List Value → AM Value) (k : Nat) (v0_in : Value) : AM Value :=
  bindV (ret (.int .i64 0)) fun v2_0 =>
    bindV (ret (.int .i64 0)) fun v3_1 =>
    bindV (ret (.int .i64 0)) fun v4_6 =>
    loop2 (R11.b_34 call k v0_in) k v3_1 v4_6

theorem R11.eq (call : FuncId → List Value → AM Value) (k : Nat) (v0_in : Value) : funcA Try.prog call k 11 [v0_in] = R11.top call k v0_in := by kernel_rfl

/-! ### 13: aqueduct/table.New (1 arguments) -/
noncomputable def R13.top (call : FuncId → List Value → AM Value) (k : Nat) (v0_in : Value) : AM Value :=
  bindV (ret (.pointer none)) fun v2_0 =>
    bindV (ret (.int .i64 0)) fun v3_1 =>
    bindV (ret v0_in) fun v4_8 =>
    bindV (call 24 [v4_8]) fun v5_9 =>
    bindV (unA .not v5_9) fun v6_10 =>
    condA v6_10 (bindV (ret (.pointer none)) fun v2_11 =>
    bindV (ret (.int .i64 1)) fun v3_12 =>
    ret (.tuple #[v2_11, v3_12]))
    (bindV (ret v0_in) fun v7_2 =>
    bindV (buildA [(0, 1), (1, 1), (2, 1), (3, 1)] [(.bool false), (.slice none 0 0), (.int .i64 0), (.int .i64 0)] [(0, (.bool true)), (2, v7_2)]) fun v8_3 =>
    bindV (boxA 64 v8_3) fun v9_4 =>
    bindV (ret v9_4) fun v2_5 =>
    bindV (ret (.int .i64 0)) fun v3_6 =>
    ret (.tuple #[v2_5, v3_6]))

theorem R13.eq (call : FuncId → List Value → AM Value) (k : Nat) (v0_in : Value) : funcA Try.prog call k 13 [v0_in] = R13.top call k v0_in := by kernel_rfl

/-! ### 14: aqueduct/aqueductref05.New (1 arguments) -/
noncomputable def R14.g_17 (call : FuncId → List Value → AM Value) (k : Nat) (v0_in : Value) (v6_14 : Value) (v8_15 : Value) : AM Value :=
  bindV (pickA v6_14 (.bool true) v8_15) fun v9_16 =>
    condA v9_16 (bindV (ret (.pointer none)) fun v2_9 =>
    bindV (ret (.int .i64 1)) fun v3_10 =>
    ret (.tuple #[v2_9, v3_10]))
    (bindV (ret v0_in) fun v10_2 =>
    bindV (buildA [(0, 1), (1, 1)] [(.int .i64 0), (.slice none 0 0)] [(0, v10_2)]) fun v11_3 =>
    bindV (boxA 60 v11_3) fun v12_4 =>
    bindV (ret v12_4) fun v2_5 =>
    bindV (ret (.int .i64 0)) fun v3_6 =>
    ret (.tuple #[v2_5, v3_6]))

noncomputable def R14.top (call : FuncId → List Value → AM Value) (k : Nat) (v0_in : Value) : AM Value :=
  bindV (ret (.pointer none)) fun v2_0 =>
    bindV (ret (.int .i64 0)) fun v3_1 =>
    bindV (ret v0_in) fun v4_12 =>
    bindV (binA Try.prog .lss 3 v4_12 (.int .i64 0)) fun v5_13 =>
    bindV (ret v5_13) fun v6_14 =>
    guardA false v6_14 (bindV (ret v0_in) fun v7_18 =>
    bindV (binA Try.prog .gtr 3 v7_18 (.int .i64 65536)) fun v8_19 =>
    R14.g_17 call k v0_in v6_14 v8_19)
    (R14.g_17 call k v0_in v6_14 (.tuple #[]))

theorem R14.eq (call : FuncId → List Value → AM Value) (k : Nat) (v0_in : Value) : funcA Try.prog call k 14 [v0_in] = R14.top call k v0_in := by kernel_rfl

/-! ### 16: (*aqueduct/table.Table).Resize (2 arguments) -/
noncomputable def R16.top (call : FuncId → List Value → AM Value) (k : Nat) (v0_in : Value) (v1_in : Value) : AM Value :=
  bindV (ret (.int .i64 0)) fun v4_0 =>
    bindV (ret v0_in) fun v6_10 =>
    bindV (call 25 [v6_10]) fun v7_11 =>
    bindV (ret v7_11) fun v5_12 =>
    condA v5_12 (bindV (ret (.int .i64 7)) fun v4_13 =>
    ret v4_13)
    (bindV (ret v1_in) fun v9_14 =>
    bindV (call 24 [v9_14]) fun v10_15 =>
    bindV (unA .not v10_15) fun v11_16 =>
    bindV (ret v11_16) fun v8_17 =>
    condA v8_17 (bindV (ret (.int .i64 1)) fun v4_18 =>
    ret v4_18)
    (bindV (ret v0_in) fun v12_1 =>
    bindV (ret v1_in) fun v13_2 =>
    bindV (nilCheckA v12_1) fun v14_3 =>
    bindV (fieldAddrA 2 v14_3) fun v15_4 =>
    bindV (storeA 1 v15_4 v13_2) fun _ =>
    bindV (ret v0_in) fun v16_5 =>
    bindV (ret v1_in) fun v17_6 =>
    bindV (call 26 [v16_5, v17_6]) fun v18_7 =>
    bindV (ret (.int .i64 0)) fun v4_8 =>
    ret v4_8))

theorem R16.eq (call : FuncId → List Value → AM Value) (k : Nat) (v0_in : Value) (v1_in : Value) : funcA Try.prog call k 16 [v0_in, v1_in] = R16.top call k v0_in v1_in := by kernel_rfl

/-! ### 17: (*aqueduct/aqueductref05.Table).Resize (2 arguments) -/
noncomputable def R17.g_17 (call : FuncId → List Value → AM Value) (k : Nat) (v0_in : Value) (v1_in : Value) (v7_14 : Value) (v9_15 : Value) : AM Value :=
  bindV (pickA v7_14 (.bool true) v9_15) fun v10_16 =>
    condA v10_16 (bindV (ret (.int .i64 1)) fun v4_10 =>
    ret v4_10)
    (bindV (ret v0_in) fun v11_1 =>
    bindV (ret v1_in) fun v12_2 =>
    bindV (nilCheckA v11_1) fun v13_3 =>
    bindV (fieldAddrA 0 v13_3) fun v14_4 =>
    bindV (storeA 1 v14_4 v12_2) fun _ =>
    bindV (ret v0_in) fun v15_5 =>
    bindV (call 27 [v15_5, (.int .i64 0)]) fun v16_6 =>
    bindV (ret (.int .i64 0)) fun v4_7 =>
    ret v4_7)

noncomputable def R17.top (call : FuncId → List Value → AM Value) (k : Nat) (v0_in : Value) (v1_in : Value) : AM Value :=
  bindV (ret (.int .i64 0)) fun v4_0 =>
    bindV (ret v1_in) fun v5_12 =>
    bindV (binA Try.prog .lss 3 v5_12 (.int .i64 0)) fun v6_13 =>
    bindV (ret v6_13) fun v7_14 =>
    guardA false v7_14 (bindV (ret v1_in) fun v8_18 =>
    bindV (binA Try.prog .gtr 3 v8_18 (.int .i64 65536)) fun v9_19 =>
    R17.g_17 call k v0_in v1_in v7_14 v9_19)
    (R17.g_17 call k v0_in v1_in v7_14 (.tuple #[]))

theorem R17.eq (call : FuncId → List Value → AM Value) (k : Nat) (v0_in : Value) (v1_in : Value) : funcA Try.prog call k 17 [v0_in, v1_in] = R17.top call k v0_in v1_in := by kernel_rfl

/-! ### 23: aqueduct/aqueductref05.Size (1 arguments) -/
noncomputable def R23.top (call : FuncId → List Value → AM Value) (k : Nat) (v0_in : Value) : AM Value :=
  bindV (boxA 56 v0_in) fun v1_0 =>
    bindV (ret (.int .i64 0)) fun v2_1 =>
    bindV (fieldAddrA 0 v1_0) fun v3_2 =>
    bindV (loadA none v3_2) fun v4_3 =>
    bindV (lenStrA v4_3) fun v5_4 =>
    bindV (fieldAddrA 1 v1_0) fun v6_5 =>
    bindV (loadA none v6_5) fun v7_6 =>
    bindV (lenStrA v7_6) fun v8_7 =>
    bindV (binA Try.prog .add 3 v5_4 v8_7) fun v9_8 =>
    bindV (binA Try.prog .add 3 v9_8 (.int .i64 32)) fun v10_9 =>
    bindV (ret v10_9) fun v2_10 =>
    ret v2_10

theorem R23.eq (call : FuncId → List Value → AM Value) (k : Nat) (v0_in : Value) : funcA Try.prog call k 23 [v0_in] = R23.top call k v0_in := by kernel_rfl

/-! ### 24: aqueduct/table.may (1 arguments) -/
noncomputable def R24.g_9 (call : FuncId → List Value → AM Value) (k : Nat) (v5_5 : Value) (v7_6 : Value) : AM Value :=
  bindV (pickA v5_5 v7_6 (.bool false)) fun v8_7 =>
    bindV (ret v8_7) fun v2_8 =>
    ret v2_8

noncomputable def R24.top (call : FuncId → List Value → AM Value) (k : Nat) (v0_in : Value) : AM Value :=
  bindV (ret (.bool false)) fun v2_0 =>
    bindV (ret v0_in) fun v3_3 =>
    bindV (binA Try.prog .geq 3 v3_3 (.int .i64 0)) fun v4_4 =>
    bindV (ret v4_4) fun v5_5 =>
    guardA true v5_5 (bindV (ret v0_in) fun v6_10 =>
    bindV (binA Try.prog .leq 3 v6_10 (.int .i64 65536)) fun v7_11 =>
    R24.g_9 call k v5_5 v7_11)
    (R24.g_9 call k v5_5 (.tuple #[]))

theorem R24.eq (call : FuncId → List Value → AM Value) (k : Nat) (v0_in : Value) : funcA Try.prog call k 24 [v0_in] = R24.top call k v0_in := by kernel_rfl

/-! ### 25: (*aqueduct/table.Table).none (1 arguments) -/
noncomputable def R25.g_9 (call : FuncId → List Value → AM Value) (k : Nat) (v5_5 : Value) (v10_6 : Value) : AM Value :=
  bindV (pickA v5_5 (.bool true) v10_6) fun v11_7 =>
    bindV (ret v11_7) fun v2_8 =>
    ret v2_8

noncomputable def R25.top (call : FuncId → List Value → AM Value) (k : Nat) (v0_in : Value) : AM Value :=
  bindV (ret (.bool false)) fun v2_0 =>
    bindV (ret v0_in) fun v3_3 =>
    bindV (binA Try.prog .eql 46 v3_3 (.pointer none)) fun v4_4 =>
    bindV (ret v4_4) fun v5_5 =>
    guardA false v5_5 (bindV (ret v0_in) fun v6_10 =>
    bindV (nilCheckA v6_10) fun v7_11 =>
    bindV (fieldAddrA 0 v7_11) fun v8_12 =>
    bindV (loadA none v8_12) fun v9_13 =>
    bindV (unA .not v9_13) fun v10_14 =>
    R25.g_9 call k v5_5 v10_14)
    (R25.g_9 call k v5_5 (.tuple #[]))

theorem R25.eq (call : FuncId → List Value → AM Value) (k : Nat) (v0_in : Value) : funcA Try.prog call k 25 [v0_in] = R25.top call k v0_in := by kernel_rfl

/-! ### 26: (*aqueduct/table.Table).fall (2 arguments) -/
noncomputable def R26.g_59 (call : FuncId → List Value → AM Value) (k : Nat) (rec_1_24 : Value → AM Value) (v0_in : Value) (v12_56 : Value) (v4_25 : Value) (v18_57 : Value) : AM Value :=
  bindV (pickA v12_56 v18_57 (.bool false)) fun v19_58 =>
    condA v19_58 (bindV (ret v0_in) fun v20_26 =>
    bindV (nilCheckA v20_26) fun v21_27 =>
    bindV (fieldAddrA 3 v21_27) fun v22_28 =>
    bindV (loadA none v22_28) fun v23_29 =>
    bindV (ret v0_in) fun v24_30 =>
    bindV (nilCheckA v24_30) fun v25_31 =>
    bindV (fieldAddrA 1 v25_31) fun v26_32 =>
    bindV (loadA none v26_32) fun v27_33 =>
    bindV (ret v4_25) fun v28_34 =>
    bindV (indexAddrA 3 v27_33 v28_34) fun v29_35 =>
    bindV (loadA (some 3) v29_35) fun v30_36 =>
    bindV (call 32 [v30_36]) fun v31_38 =>
    hereV [((loadA none v22_28 : AM Value), (v23_29 : Value))] (
    bindV (binA Try.prog .sub 3 v23_29 v31_38) fun v32_39 =>
    bindV (nilCheckA v20_26) fun v33_40 =>
    bindV (fieldAddrA 3 v33_40) fun v34_41 =>
    bindV (storeA 1 v34_41 v32_39) fun _ =>
    bindV (ret v4_25) fun v35_43 =>
    bindV (binA Try.prog .add 3 v35_43 (.int .i64 1)) fun v36_44 =>
    bindV (ret v36_44) fun v4_45 =>
    rec_1_24 v4_45))
    (bindV (ret v0_in) fun v37_2 =>
    bindV (ret v0_in) fun v38_3 =>
    bindV (nilCheckA v38_3) fun v39_4 =>
    bindV (fieldAddrA 1 v39_4) fun v40_5 =>
    bindV (loadA none v40_5) fun v41_6 =>
    bindV (ret v0_in) fun v42_7 =>
    bindV (nilCheckA v42_7) fun v43_8 =>
    bindV (fieldAddrA 1 v43_8) fun v44_9 =>
    bindV (loadA none v44_9) fun v45_10 =>
    bindV (ret v0_in) fun v46_11 =>
    bindV (nilCheckA v46_11) fun v47_12 =>
    bindV (fieldAddrA 1 v47_12) fun v48_13 =>
    bindV (loadA none v48_13) fun v49_14 =>
    bindV (ret v4_25) fun v50_15 =>
    bindV (sliceA 3 v49_14 (some v50_15) none) fun v51_16 =>
    bindV (copyA 3 v45_10 v51_16) fun v52_18 =>
    hereV [((loadA none v40_5 : AM Value), (v41_6 : Value))] (
    bindV (sliceA 3 v41_6 none (some v52_18)) fun v53_19 =>
    bindV (nilCheckA v37_2) fun v54_20 =>
    bindV (fieldAddrA 1 v54_20) fun v55_21 =>
    bindV (storeA 1 v55_21 v53_19) fun _ =>
    ret (.tuple #[])))

noncomputable def R26.b_66 (call : FuncId → List Value → AM Value) (k : Nat) (v0_in : Value) (v1_in : Value) (rec_1_24 : Value → AM Value) (v4_25 : Value) : AM Value :=
  bindV (ret v4_25) fun v5_49 =>
    bindV (ret v0_in) fun v6_50 =>
    bindV (nilCheckA v6_50) fun v7_51 =>
    bindV (fieldAddrA 1 v7_51) fun v8_52 =>
    bindV (loadA none v8_52) fun v9_53 =>
    bindV (lenA v9_53) fun v10_54 =>
    bindV (binA Try.prog .lss 3 v5_49 v10_54) fun v11_55 =>
    bindV (ret v11_55) fun v12_56 =>
    guardA true v12_56 (bindV (ret v0_in) fun v13_60 =>
    bindV (nilCheckA v13_60) fun v14_61 =>
    bindV (fieldAddrA 3 v14_61) fun v15_62 =>
    bindV (loadA none v15_62) fun v16_63 =>
    bindV (ret v1_in) fun v17_64 =>
    bindV (binA Try.prog .gtr 3 v16_63 v17_64) fun v18_65 =>
    R26.g_59 call k rec_1_24 v0_in v12_56 v4_25 v18_65)
    (R26.g_59 call k rec_1_24 v0_in v12_56 v4_25 (.tuple #[]))

noncomputable def R26.top (call : FuncId → List Value → AM Value) (k : Nat) (v0_in : Value) (v1_in : Value) : AM Value :=
  bindV (ret (.int .i64 0)) fun v4_0 =>
    loop1 (R26.b_66 call k v0_in v1_in) k v4_0

theorem R26.eq (call : FuncId → List Value → AM Value) (k : Nat) (v0_in : Value) (v1_in : Value) : funcA Try.prog call k 26 [v0_in, v1_in] = R26.top call k v0_in v1_in := by kernel_rfl

/-! ### 27: (*aqueduct/aqueductref05.Table).fall (2 arguments) -/
noncomputable def R27.d_20 (call : FuncId → List Value → AM Value) (k : Nat) (rec_0_0 : AM Value) (v0_in : Value) (v20_19 : Value) : AM Value :=
  condA v20_19 (bindV (ret v0_in) fun v21_1 =>
    bindV (ret v0_in) fun v22_2 =>
    bindV (nilCheckA v22_2) fun v23_3 =>
    bindV (fieldAddrA 1 v23_3) fun v24_4 =>
    bindV (loadA none v24_4) fun v25_5 =>
    bindV (ret v0_in) fun v26_6 =>
    bindV (nilCheckA v26_6) fun v27_7 =>
    bindV (fieldAddrA 1 v27_7) fun v28_8 =>
    bindV (loadA none v28_8) fun v29_9 =>
    bindV (lenA v29_9) fun v30_10 =>
    bindV (binA Try.prog .sub 3 v30_10 (.int .i64 1)) fun v31_11 =>
    bindV (sliceA 3 v25_5 none (some v31_11)) fun v32_12 =>
    bindV (nilCheckA v21_1) fun v33_13 =>
    bindV (fieldAddrA 1 v33_13) fun v34_14 =>
    bindV (storeA 1 v34_14 v32_12) fun _ =>
    rec_0_0)
    (ret (.tuple #[]))

noncomputable def R27.b_40 (call : FuncId → List Value → AM Value) (k : Nat) (v0_in : Value) (v1_in : Value) (rec_0_0 : AM Value) : AM Value :=
  bindV (ret v0_in) fun v4_21 =>
    bindV (nilCheckA v4_21) fun v5_22 =>
    bindV (fieldAddrA 1 v5_22) fun v6_23 =>
    bindV (loadA none v6_23) fun v7_24 =>
    bindV (lenA v7_24) fun v8_25 =>
    bindV (binA Try.prog .gtr 3 v8_25 (.int .i64 0)) fun v9_26 =>
    bindV (ret v9_26) fun v10_27 =>
    guardA true v10_27 (bindV (ret v0_in) fun v11_28 =>
    bindS fun s_29 =>
    bindV (call 11 [v11_28]) fun v12_30 =>
    bindV (ret v1_in) fun v13_31 =>
    bindV (binA Try.prog .add 3 v12_30 v13_31) fun v14_32 =>
    bindV (ret v0_in) fun v15_33 =>
    bindV (nilCheckA v15_33) fun v16_34 =>
    bindV (fieldAddrA 0 v16_34) fun v17_35 =>
    bindV (loadA none v17_35) fun v18_36 =>
    thereV [s_29] (loadA none v17_35) v18_36 (
    bindV (binA Try.prog .gtr 3 v14_32 v18_36) fun v19_37 =>
    bindV (pickA v10_27 v19_37 (.bool false)) fun v20_38 =>
    R27.d_20 call k rec_0_0 v0_in v20_38))
    (bindV (pickA v10_27 (.tuple #[]) (.bool false)) fun v20_39 =>
    R27.d_20 call k rec_0_0 v0_in v20_39)

noncomputable def R27.top (call : FuncId → List Value → AM Value) (k : Nat) (v0_in : Value) (v1_in : Value) : AM Value :=
  loop0 (R27.b_40 call k v0_in v1_in) k

theorem R27.eq (call : FuncId → List Value → AM Value) (k : Nat) (v0_in : Value) (v1_in : Value) : funcA Try.prog call k 27 [v0_in, v1_in] = R27.top call k v0_in v1_in := by kernel_rfl

/-! ### 28: (*aqueduct/table.Table).Most (1 arguments) -/
noncomputable def R28.top (call : FuncId → List Value → AM Value) (k : Nat) (v0_in : Value) : AM Value :=
  bindV (ret (.int .i64 0)) fun v2_0 =>
    bindV (ret v0_in) fun v3_7 =>
    bindV (call 25 [v3_7]) fun v4_8 =>
    condA v4_8 (bindV (ret (.int .i64 0)) fun v2_9 =>
    ret v2_9)
    (bindV (ret v0_in) fun v5_1 =>
    bindV (nilCheckA v5_1) fun v6_2 =>
    bindV (fieldAddrA 2 v6_2) fun v7_3 =>
    bindV (loadA none v7_3) fun v8_4 =>
    bindV (ret v8_4) fun v2_5 =>
    ret v2_5)

theorem R28.eq (call : FuncId → List Value → AM Value) (k : Nat) (v0_in : Value) : funcA Try.prog call k 28 [v0_in] = R28.top call k v0_in := by kernel_rfl

/-! ### 30: (*aqueduct/table.Table).Find (2 arguments) -/
noncomputable def R30.b_49 (call : FuncId → List Value → AM Value) (k : Nat) (v0_in : Value) (v34_15 : Value) (v6_4 : Value) (v7_6 : Value) (rec_1_17 : Value → AM Value) (v35_18 : Value) : AM Value :=
  bindV (binA Try.prog .lss 3 v35_18 v34_15) fun v36_19 =>
    condA v36_19 (bindV (ret v35_18) fun v37_23 =>
    bindV (ret v37_23) fun v10_24 =>
    bindV (ret v7_6) fun v38_25 =>
    bindV (ret v0_in) fun v39_26 =>
    bindV (nilCheckA v39_26) fun v40_27 =>
    bindV (fieldAddrA 1 v40_27) fun v41_28 =>
    bindV (loadA none v41_28) fun v42_29 =>
    bindV (ret v0_in) fun v43_30 =>
    bindV (nilCheckA v43_30) fun v44_31 =>
    bindV (fieldAddrA 1 v44_31) fun v45_32 =>
    bindV (loadA none v45_32) fun v46_33 =>
    bindV (lenA v46_33) fun v47_34 =>
    bindV (binA Try.prog .sub 3 v47_34 (.int .i64 1)) fun v48_35 =>
    bindV (ret v10_24) fun v49_36 =>
    bindV (binA Try.prog .sub 3 v48_35 v49_36) fun v50_37 =>
    bindV (indexAddrA 3 v42_29 v50_37) fun v51_38 =>
    bindV (loadA (some 3) v51_38) fun v52_39 =>
    bindV (ret v10_24) fun v53_40 =>
    bindV (binA Try.prog .add 3 (.int .i64 62) v53_40) fun v54_41 =>
    bindV (callA call v38_25 [v52_39, v54_41]) fun v55_43 =>
    condA v55_43 (bindV (ret v10_24) fun v56_44 =>
    bindV (binA Try.prog .add 3 (.int .i64 62) v56_44) fun v57_45 =>
    bindV (ret v57_45) fun v4_46 =>
    bindV (ret (.bool true)) fun v5_47 =>
    ret (.tuple #[v4_46, v5_47]))
    (bindV (binA Try.prog .add 3 v35_18 (.int .i64 1)) fun v58_20 =>
    bindV (ret v58_20) fun v35_21 =>
    rec_1_17 v35_21))
    (bindV (loadA none v6_4) fun v59_7 =>
    bindV (ret v59_7) fun v4_8 =>
    bindV (ret (.bool false)) fun v5_9 =>
    ret (.tuple #[v4_8, v5_9]))

noncomputable def R30.b_75 (call : FuncId → List Value → AM Value) (k : Nat) (v0_in : Value) (v15_51 : Value) (v16_52 : Value) (v6_4 : Value) (v7_6 : Value) (rec_1_54 : Value → AM Value) (v17_55 : Value) : AM Value :=
  bindV (binA Try.prog .lss 3 v17_55 v16_52) fun v18_56 =>
    condA v18_56 (bindV (ret v17_55) fun v19_60 =>
    bindV (indexAddrA 3 v15_51 v17_55) fun v20_61 =>
    bindV (loadA (some 3) v20_61) fun v21_62 =>
    bindV (newA [(.string ⟨#[]⟩), (.string ⟨#[]⟩), (.bool false)] 56) fun v9_63 =>
    bindV (ret v19_60) fun v8_64 =>
    bindV (storeA 3 v9_63 v21_62) fun _ =>
    bindV (ret v7_6) fun v22_65 =>
    bindV (loadA (some 3) v9_63) fun v23_66 =>
    bindV (ret v8_64) fun v24_67 =>
    bindV (binA Try.prog .add 3 v24_67 (.int .i64 1)) fun v25_68 =>
    bindV (callA call v22_65 [v23_66, v25_68]) fun v26_69 =>
    condA v26_69 (bindV (ret v8_64) fun v27_70 =>
    bindV (binA Try.prog .add 3 v27_70 (.int .i64 1)) fun v28_71 =>
    bindV (ret v28_71) fun v4_72 =>
    bindV (ret (.bool true)) fun v5_73 =>
    ret (.tuple #[v4_72, v5_73]))
    (bindV (binA Try.prog .add 3 v17_55 (.int .i64 1)) fun v29_57 =>
    bindV (ret v29_57) fun v17_58 =>
    rec_1_54 v17_58))
    (bindV (ret v0_in) fun v30_11 =>
    bindV (nilCheckA v30_11) fun v31_12 =>
    bindV (fieldAddrA 1 v31_12) fun v32_13 =>
    bindV (loadA none v32_13) fun v33_14 =>
    bindV (lenA v33_14) fun v34_15 =>
    bindV (ret (.int .i64 0)) fun v35_16 =>
    loop1 (R30.b_49 call k v0_in v34_15 v6_4 v7_6) k v35_16)

noncomputable def R30.top (call : FuncId → List Value → AM Value) (k : Nat) (v0_in : Value) (v1_in : Value) : AM Value :=
  bindV (boxA 56 v1_in) fun v3_0 =>
    bindV (ret (.int .i64 0)) fun v4_1 =>
    bindV (ret (.bool false)) fun v5_2 =>
    bindV (ret v0_in) fun v11_77 =>
    bindV (call 25 [v11_77]) fun v12_78 =>
    condA v12_78 (bindV (ret (.int .i64 0)) fun v4_79 =>
    bindV (ret (.bool false)) fun v5_80 =>
    ret (.tuple #[v4_79, v5_80]))
    (bindV (fieldAddrA 2 v3_0) fun v13_3 =>
    bindV (storeA 1 v13_3 (.bool false)) fun _ =>
    bindV (newA [(.int .i64 0)] 3) fun v6_4 =>
    bindV (storeA 1 v6_4 (.int .i64 0)) fun _ =>
    bindV (ret (.func (.func 40) #[] #[v6_4, v3_0])) fun v14_5 =>
    bindV (ret v14_5) fun v7_6 =>
    bindV (call 41 []) fun v15_51 =>
    bindV (lenA v15_51) fun v16_52 =>
    bindV (ret (.int .i64 0)) fun v17_53 =>
    loop1 (R30.b_75 call k v0_in v15_51 v16_52 v6_4 v7_6) k v17_53)

theorem R30.eq (call : FuncId → List Value → AM Value) (k : Nat) (v0_in : Value) (v1_in : Value) : funcA Try.prog call k 30 [v0_in, v1_in] = R30.top call k v0_in v1_in := by kernel_rfl

/-! ### 32: aqueduct/table.Size (1 arguments) -/
noncomputable def R32.top (call : FuncId → List Value → AM Value) (k : Nat) (v0_in : Value) : AM Value :=
  bindV (boxA 56 v0_in) fun v1_0 =>
    bindV (ret (.int .i64 0)) fun v2_1 =>
    bindV (fieldAddrA 0 v1_0) fun v3_2 =>
    bindV (loadA none v3_2) fun v4_3 =>
    bindV (lenStrA v4_3) fun v5_4 =>
    bindV (fieldAddrA 1 v1_0) fun v6_5 =>
    bindV (loadA none v6_5) fun v7_6 =>
    bindV (lenStrA v7_6) fun v8_7 =>
    bindV (binA Try.prog .add 3 v5_4 v8_7) fun v9_8 =>
    bindV (binA Try.prog .add 3 v9_8 (.int .i64 32)) fun v10_9 =>
    bindV (ret v10_9) fun v2_10 =>
    ret v2_10

theorem R32.eq (call : FuncId → List Value → AM Value) (k : Nat) (v0_in : Value) : funcA Try.prog call k 32 [v0_in] = R32.top call k v0_in := by kernel_rfl

/-! ### 33: (*aqueduct/table.Table).Add (2 arguments) -/
noncomputable def R33.j_27 (call : FuncId → List Value → AM Value) (k : Nat) : AM Value :=
  bindV (ret (.int .i64 0)) fun v4_26 =>
    ret v4_26

noncomputable def R33.top (call : FuncId → List Value → AM Value) (k : Nat) (v0_in : Value) (v1_in : Value) : AM Value :=
  bindV (boxA 56 v1_in) fun v3_0 =>
    bindV (ret (.int .i64 0)) fun v4_1 =>
    bindV (ret v0_in) fun v6_56 =>
    bindV (call 25 [v6_56]) fun v7_57 =>
    condA v7_57 (bindV (ret (.int .i64 7)) fun v4_58 =>
    ret v4_58)
    (bindV (fieldAddrA 2 v3_0) fun v8_2 =>
    bindV (storeA 1 v8_2 (.bool false)) fun _ =>
    bindV (fieldAddrA 0 v3_0) fun v9_3 =>
    bindV (loadA none v9_3) fun v10_4 =>
    bindS fun s_5 =>
    bindV (call 43 [v10_4]) fun v11_6 =>
    bindV (fieldAddrA 1 v3_0) fun v12_7 =>
    bindV (loadA none v12_7) fun v13_8 =>
    thereV [s_5] (loadA none v12_7) v13_8 (
    bindV (call 43 [v13_8]) fun v14_10 =>
    bindV (fieldAddrA 0 v3_0) fun v15_11 =>
    bindV (storeA 1 v15_11 v11_6) fun _ =>
    bindV (fieldAddrA 1 v3_0) fun v16_13 =>
    bindV (storeA 1 v16_13 v14_10) fun _ =>
    bindV (loadA (some 3) v3_0) fun v17_15 =>
    bindV (call 32 [v17_15]) fun v18_16 =>
    bindV (ret v18_16) fun v5_17 =>
    bindV (ret v0_in) fun v19_18 =>
    bindV (ret v0_in) fun v20_19 =>
    bindV (nilCheckA v20_19) fun v21_20 =>
    bindV (fieldAddrA 2 v21_20) fun v22_21 =>
    bindV (loadA none v22_21) fun v23_22 =>
    bindV (ret v5_17) fun v24_23 =>
    bindV (binA Try.prog .sub 3 v23_22 v24_23) fun v25_24 =>
    bindV (call 26 [v19_18, v25_24]) fun v26_25 =>
    bindV (ret v5_17) fun v27_28 =>
    bindV (ret v0_in) fun v28_29 =>
    bindV (nilCheckA v28_29) fun v29_30 =>
    bindV (fieldAddrA 2 v29_30) fun v30_31 =>
    bindV (loadA none v30_31) fun v31_32 =>
    bindV (binA Try.prog .leq 3 v27_28 v31_32) fun v32_33 =>
    condA v32_33 (bindV (ret v0_in) fun v33_34 =>
    bindV (ret v0_in) fun v34_35 =>
    bindV (nilCheckA v34_35) fun v35_36 =>
    bindV (fieldAddrA 1 v35_36) fun v36_37 =>
    bindV (loadA none v36_37) fun v37_38 =>
    bindV (loadA (some 3) v3_0) fun v38_39 =>
    bindV (buildSliceA 56 3 1 [(.string ⟨#[]⟩), (.string ⟨#[]⟩), (.bool false)] [(0, v38_39)]) fun v39_41 =>
    hereV [((loadA none v36_37 : AM Value), (v37_38 : Value))] (
    bindV (appendA 56 3 40 v37_38 v39_41) fun v40_43 =>
    bindV (nilCheckA v33_34) fun v41_44 =>
    bindV (fieldAddrA 1 v41_44) fun v42_45 =>
    bindV (storeA 1 v42_45 v40_43) fun _ =>
    bindV (ret v0_in) fun v43_47 =>
    bindV (nilCheckA v43_47) fun v44_48 =>
    bindV (fieldAddrA 3 v44_48) fun v45_49 =>
    bindV (loadA none v45_49) fun v46_50 =>
    bindV (ret v5_17) fun v47_51 =>
    bindV (binA Try.prog .add 3 v46_50 v47_51) fun v48_52 =>
    bindV (nilCheckA v43_47) fun v49_53 =>
    bindV (fieldAddrA 3 v49_53) fun v50_54 =>
    bindV (storeA 1 v50_54 v48_52) fun _ =>
    R33.j_27 call k))
    (R33.j_27 call k)))

theorem R33.eq (call : FuncId → List Value → AM Value) (k : Nat) (v0_in : Value) (v1_in : Value) : funcA Try.prog call k 33 [v0_in, v1_in] = R33.top call k v0_in v1_in := by kernel_rfl

/-! ### 35: (*aqueduct/aqueductref05.Table).Find (2 arguments) -/
noncomputable def R35.j_17 (call : FuncId → List Value → AM Value) (k : Nat) (rec_2_10 : Value → Value → AM Value) (v7_12 : Value) (v6_13 : Value) : AM Value :=
  bindV (ret v7_12) fun v18_14 =>
    bindV (binA Try.prog .add 3 v18_14 (.int .i64 1)) fun v19_15 =>
    bindV (ret v19_15) fun v7_16 =>
    rec_2_10 v6_13 v7_16

noncomputable def R35.g_38 (call : FuncId → List Value → AM Value) (k : Nat) (rec_2_10 : Value → Value → AM Value) (v44_35 : Value) (v6_11 : Value) (v7_12 : Value) (v46_36 : Value) : AM Value :=
  bindV (pickA v44_35 v46_36 (.bool false)) fun v47_37 =>
    condA v47_37 (bindV (ret v7_12) fun v48_27 =>
    bindV (ret v48_27) fun v6_28 =>
    R35.j_17 call k rec_2_10 v7_12 v6_28)
    (R35.j_17 call k rec_2_10 v7_12 v6_11)

noncomputable def R35.g_55 (call : FuncId → List Value → AM Value) (k : Nat) (rec_2_10 : Value → Value → AM Value) (v31_52 : Value) (v3_0 : Value) (v6_11 : Value) (v7_12 : Value) (v8_24 : Value) (v36_53 : Value) : AM Value :=
  bindV (pickA v31_52 v36_53 (.bool false)) fun v37_54 =>
    condA v37_54 (bindV (ret v7_12) fun v38_43 =>
    bindV (ret v38_43) fun v4_44 =>
    bindV (ret (.bool true)) fun v5_45 =>
    ret (.tuple #[v4_44, v5_45]))
    (bindV (fieldAddrA 0 v8_24) fun v39_30 =>
    bindV (loadA none v39_30) fun v40_31 =>
    bindV (fieldAddrA 0 v3_0) fun v41_32 =>
    bindV (loadA none v41_32) fun v42_33 =>
    bindV (binA Try.prog .eql 9 v40_31 v42_33) fun v43_34 =>
    bindV (ret v43_34) fun v44_35 =>
    guardA true v44_35 (bindV (ret v6_11) fun v45_39 =>
    bindV (binA Try.prog .eql 3 v45_39 (.int .i64 0)) fun v46_40 =>
    R35.g_38 call k rec_2_10 v44_35 v6_11 v7_12 v46_40)
    (R35.g_38 call k rec_2_10 v44_35 v6_11 v7_12 (.tuple #[])))

noncomputable def R35.b_70 (call : FuncId → List Value → AM Value) (k : Nat) (v0_in : Value) (v3_0 : Value) (rec_2_10 : Value → Value → AM Value) (v6_11 : Value) (v7_12 : Value) : AM Value :=
  bindV (ret v7_12) fun v10_62 =>
    bindV (ret v0_in) fun v11_63 =>
    bindV (nilCheckA v11_63) fun v12_64 =>
    bindV (fieldAddrA 1 v12_64) fun v13_65 =>
    bindV (loadA none v13_65) fun v14_66 =>
    bindV (lenA v14_66) fun v15_67 =>
    bindV (binA Try.prog .add 3 (.int .i64 61) v15_67) fun v16_68 =>
    bindV (binA Try.prog .leq 3 v10_62 v16_68) fun v17_69 =>
    condA v17_69 (bindV (ret v0_in) fun v21_18 =>
    bindV (ret v7_12) fun v22_19 =>
    bindV (call 44 [v21_18, v22_19]) fun v23_20 =>
    bindV (ret v23_20) fun v20_21 =>
    bindV (extractA v20_21 0) fun v24_22 =>
    bindV (extractA v20_21 1) fun v25_23 =>
    bindV (newA [(.string ⟨#[]⟩), (.string ⟨#[]⟩), (.bool false)] 56) fun v8_24 =>
    bindV (storeA 3 v8_24 v24_22) fun _ =>
    bindV (ret v25_23) fun v9_25 =>
    bindV (fieldAddrA 0 v8_24) fun v26_47 =>
    bindV (loadA none v26_47) fun v27_48 =>
    bindV (fieldAddrA 0 v3_0) fun v28_49 =>
    bindV (loadA none v28_49) fun v29_50 =>
    bindV (binA Try.prog .eql 9 v27_48 v29_50) fun v30_51 =>
    bindV (ret v30_51) fun v31_52 =>
    guardA true v31_52 (bindV (fieldAddrA 1 v8_24) fun v32_56 =>
    bindV (loadA none v32_56) fun v33_57 =>
    bindV (fieldAddrA 1 v3_0) fun v34_58 =>
    bindV (loadA none v34_58) fun v35_59 =>
    bindV (binA Try.prog .eql 9 v33_57 v35_59) fun v36_60 =>
    R35.g_55 call k rec_2_10 v31_52 v3_0 v6_11 v7_12 v8_24 v36_60)
    (R35.g_55 call k rec_2_10 v31_52 v3_0 v6_11 v7_12 v8_24 (.tuple #[])))
    (bindV (ret v6_11) fun v49_5 =>
    bindV (ret v49_5) fun v4_6 =>
    bindV (ret (.bool false)) fun v5_7 =>
    ret (.tuple #[v4_6, v5_7]))

noncomputable def R35.top (call : FuncId → List Value → AM Value) (k : Nat) (v0_in : Value) (v1_in : Value) : AM Value :=
  bindV (boxA 56 v1_in) fun v3_0 =>
    bindV (ret (.int .i64 0)) fun v4_1 =>
    bindV (ret (.bool false)) fun v5_2 =>
    bindV (ret (.int .i64 0)) fun v6_3 =>
    bindV (ret (.int .i64 1)) fun v7_9 =>
    loop2 (R35.b_70 call k v0_in v3_0) k v6_3 v7_9

theorem R35.eq (call : FuncId → List Value → AM Value) (k : Nat) (v0_in : Value) (v1_in : Value) : funcA Try.prog call k 35 [v0_in, v1_in] = R35.top call k v0_in v1_in := by kernel_rfl

/-! ### 37: (*aqueduct/aqueductref05.Table).Add (2 arguments) -/
noncomputable def R37.top (call : FuncId → List Value → AM Value) (k : Nat) (v0_in : Value) (v1_in : Value) : AM Value :=
  bindV (boxA 56 v1_in) fun v3_0 =>
    bindV (fieldAddrA 2 v3_0) fun v4_1 =>
    bindV (storeA 1 v4_1 (.bool false)) fun _ =>
    bindV (ret v0_in) fun v5_2 =>
    bindV (loadA (some 3) v3_0) fun v6_3 =>
    bindV (call 23 [v6_3]) fun v7_4 =>
    bindV (call 27 [v5_2, v7_4]) fun v8_5 =>
    bindV (loadA (some 3) v3_0) fun v9_20 =>
    bindS fun s_21 =>
    bindV (call 23 [v9_20]) fun v10_22 =>
    bindV (ret v0_in) fun v11_23 =>
    bindV (nilCheckA v11_23) fun v12_24 =>
    bindV (fieldAddrA 0 v12_24) fun v13_25 =>
    bindV (loadA none v13_25) fun v14_26 =>
    thereV [s_21] (loadA none v13_25) v14_26 (
    bindV (binA Try.prog .gtr 3 v10_22 v14_26) fun v15_27 =>
    condA v15_27 (ret (.tuple #[]))
    (bindV (ret v0_in) fun v16_6 =>
    bindV (loadA (some 3) v3_0) fun v17_7 =>
    bindS fun s_8 =>
    bindV (buildSliceA 56 3 1 [(.string ⟨#[]⟩), (.string ⟨#[]⟩), (.bool false)] [(0, v17_7)]) fun v18_9 =>
    bindV (ret v0_in) fun v19_10 =>
    bindV (nilCheckA v19_10) fun v20_11 =>
    bindV (fieldAddrA 1 v20_11) fun v21_12 =>
    bindV (loadA none v21_12) fun v22_13 =>
    thereV [s_8] (loadA none v21_12) v22_13 (
    bindV (appendA 56 3 40 v18_9 v22_13) fun v23_15 =>
    bindV (nilCheckA v16_6) fun v24_16 =>
    bindV (fieldAddrA 1 v24_16) fun v25_17 =>
    bindV (storeA 1 v25_17 v23_15) fun _ =>
    ret (.tuple #[]))))

theorem R37.eq (call : FuncId → List Value → AM Value) (k : Nat) (v0_in : Value) (v1_in : Value) : funcA Try.prog call k 37 [v0_in, v1_in] = R37.top call k v0_in v1_in := by kernel_rfl

/-! ### 38: (*aqueduct/table.Table).Bytes (1 arguments) -/
noncomputable def R38.top (call : FuncId → List Value → AM Value) (k : Nat) (v0_in : Value) : AM Value :=
  bindV (ret (.int .i64 0)) fun v2_0 =>
    bindV (ret v0_in) fun v3_7 =>
    bindV (call 25 [v3_7]) fun v4_8 =>
    condA v4_8 (bindV (ret (.int .i64 0)) fun v2_9 =>
    ret v2_9)
    (bindV (ret v0_in) fun v5_1 =>
    bindV (nilCheckA v5_1) fun v6_2 =>
    bindV (fieldAddrA 3 v6_2) fun v7_3 =>
    bindV (loadA none v7_3) fun v8_4 =>
    bindV (ret v8_4) fun v2_5 =>
    ret v2_5)

theorem R38.eq (call : FuncId → List Value → AM Value) (k : Nat) (v0_in : Value) : funcA Try.prog call k 38 [v0_in] = R38.top call k v0_in := by kernel_rfl

/-! ### 40: (*aqueduct/table.Table).Find$1 (4 arguments) -/
noncomputable def R40.j_6 (call : FuncId → List Value → AM Value) (k : Nat) (v3_in : Value) (v4_0 : Value) : AM Value :=
  bindV (loadA (some 3) v4_0) fun v17_2 =>
    bindV (loadA (some 3) v3_in) fun v18_3 =>
    bindV (binA Try.prog .eql 56 v17_2 v18_3) fun v19_4 =>
    bindV (ret v19_4) fun v6_5 =>
    ret v6_5

noncomputable def R40.g_15 (call : FuncId → List Value → AM Value) (k : Nat) (v1_in : Value) (v2_in : Value) (v3_in : Value) (v4_0 : Value) (v9_12 : Value) (v14_13 : Value) : AM Value :=
  bindV (pickA v9_12 v14_13 (.bool false)) fun v15_14 =>
    condA v15_14 (bindV (ret v1_in) fun v16_8 =>
    bindV (storeA 1 v2_in v16_8) fun _ =>
    R40.j_6 call k v3_in v4_0)
    (R40.j_6 call k v3_in v4_0)

noncomputable def R40.top (call : FuncId → List Value → AM Value) (k : Nat) (v0_in : Value) (v1_in : Value) (v2_in : Value) (v3_in : Value) : AM Value :=
  bindV (boxA 56 v0_in) fun v4_0 =>
    bindV (ret (.bool false)) fun v6_1 =>
    bindV (loadA none v2_in) fun v7_10 =>
    bindV (binA Try.prog .eql 3 v7_10 (.int .i64 0)) fun v8_11 =>
    bindV (ret v8_11) fun v9_12 =>
    guardA true v9_12 (bindV (fieldAddrA 0 v4_0) fun v10_16 =>
    bindV (loadA none v10_16) fun v11_17 =>
    bindV (fieldAddrA 0 v3_in) fun v12_18 =>
    bindV (loadA none v12_18) fun v13_19 =>
    bindV (binA Try.prog .eql 9 v11_17 v13_19) fun v14_20 =>
    R40.g_15 call k v1_in v2_in v3_in v4_0 v9_12 v14_20)
    (R40.g_15 call k v1_in v2_in v3_in v4_0 v9_12 (.tuple #[]))

theorem R40.eq (call : FuncId → List Value → AM Value) (k : Nat) (v0_in : Value) (v1_in : Value) (v2_in : Value) (v3_in : Value) : funcA Try.prog call k 40 [v0_in, v1_in, v2_in, v3_in] = R40.top call k v0_in v1_in v2_in v3_in := by kernel_rfl

/-! ### 41: aqueduct/table.lines (0 arguments) -/
noncomputable def R41.j_16 (call : FuncId → List Value → AM Value) (k : Nat) (rec_2_9 : Value → Value → AM Value) (v8_11 : Value) (v1_13 : Value) : AM Value :=
  bindV (binA Try.prog .add 3 v8_11 (.int .i64 1)) fun v30_14 =>
    bindV (ret v30_14) fun v8_15 =>
    rec_2_9 v1_13 v8_15

noncomputable def R41.b_46 (call : FuncId → List Value → AM Value) (k : Nat) (rec_2_9 : Value → Value → AM Value) (v12_20 : Value) (v3_18 : Value) (v8_11 : Value) (rec_1_21 : Value → AM Value) (v1_22 : Value) : AM Value :=
  bindV (nextA v12_20) fun v13_23 =>
    bindV (extractA v13_23 0) fun v14_24 =>
    condA v14_24 (bindV (extractA v13_23 1) fun v15_25 =>
    bindV (extractA v13_23 2) fun v16_26 =>
    bindV (ret v15_25) fun v4_27 =>
    bindV (ret v16_26) fun v5_28 =>
    bindV (ret v5_28) fun v17_29 =>
    bindV (binA Try.prog .eql 21 v17_29 (.int .i32 61)) fun v18_30 =>
    condA v18_30 (bindV (ret v1_22) fun v19_31 =>
    bindV (ret v3_18) fun v20_32 =>
    bindV (ret v4_27) fun v21_33 =>
    bindV (sliceStrA v20_32 none (some v21_33)) fun v22_34 =>
    bindV (ret v3_18) fun v23_35 =>
    bindV (ret v4_27) fun v24_36 =>
    bindV (binA Try.prog .add 3 v24_36 (.int .i64 1)) fun v25_37 =>
    bindV (sliceStrA v23_35 (some v25_37) none) fun v26_38 =>
    bindV (buildA [(0, 1), (1, 1), (2, 1)] [(.string ⟨#[]⟩), (.string ⟨#[]⟩), (.bool false)] [(0, v22_34), (1, v26_38)]) fun v27_39 =>
    bindV (buildSliceA 56 3 1 [(.string ⟨#[]⟩), (.string ⟨#[]⟩), (.bool false)] [(0, v27_39)]) fun v28_41 =>
    bindV (appendA 56 3 40 v19_31 v28_41) fun v29_43 =>
    bindV (ret v29_43) fun v1_44 =>
    R41.j_16 call k rec_2_9 v8_11 v1_44)
    (rec_1_21 v1_22))
    (R41.j_16 call k rec_2_9 v8_11 v1_22)

noncomputable def R41.b_48 (call : FuncId → List Value → AM Value) (k : Nat) (v7_7 : Value) (rec_2_9 : Value → Value → AM Value) (v1_10 : Value) (v8_11 : Value) : AM Value :=
  bindV (binA Try.prog .lss 3 v8_11 (.int .i64 61)) fun v9_12 =>
    condA v9_12 (bindV (indexA 61 1 none v7_7 v8_11) fun v10_17 =>
    bindV (ret v10_17) fun v3_18 =>
    bindV (ret v3_18) fun v11_19 =>
    bindV (rangeA v11_19) fun v12_20 =>
    loop1 (R41.b_46 call k rec_2_9 v12_20 v3_18 v8_11) k v1_10)
    (bindV (ret v1_10) fun v31_4 =>
    bindV (ret v31_4) fun v0_5 =>
    ret v0_5)

noncomputable def R41.top (call : FuncId → List Value → AM Value) (k : Nat) : AM Value :=
  bindV (ret (.slice none 0 0)) fun v0_0 =>
    bindV (makeSliceA 56 3 40 [(.string ⟨#[]⟩), (.string ⟨#[]⟩), (.bool false)] (.int .i64 0) (.int .i64 61)) fun v6_1 =>
    bindV (ret v6_1) fun v1_2 =>
    bindV (call 46 []) fun v7_7 =>
    bindV (ret (.int .i64 0)) fun v8_8 =>
    loop2 (R41.b_48 call k v7_7) k v1_2 v8_8

theorem R41.eq (call : FuncId → List Value → AM Value) (k : Nat) : funcA Try.prog call k 41 [] = R41.top call k := by kernel_rfl

/-! ### 43: strings.Clone (1 arguments) -/
noncomputable def R43.top (call : FuncId → List Value → AM Value) (k : Nat) (v0_in : Value) : AM Value :=
  bindV (ret (.string ⟨#[]⟩)) fun v2_0 =>
    bindV (ret v0_in) fun v3_1 =>
    bindV (call 49 [v3_1]) fun v4_2 =>
    bindV (ret v4_2) fun v2_3 =>
    ret v2_3

theorem R43.eq (call : FuncId → List Value → AM Value) (k : Nat) (v0_in : Value) : funcA Try.prog call k 43 [v0_in] = R43.top call k v0_in := by kernel_rfl

/-! ### 44: (*aqueduct/aqueductref05.Table).Get (2 arguments) -/
noncomputable def R44.g_32 (call : FuncId → List Value → AM Value) (k : Nat) (v0_in : Value) (v1_in : Value) (v4_0 : Value) (v8_29 : Value) (v16_30 : Value) : AM Value :=
  bindV (pickA v8_29 (.bool true) v16_30) fun v17_31 =>
    condA v17_31 (bindV (buildA [(0, 1), (1, 1), (2, 1)] [(.string ⟨#[]⟩), (.string ⟨#[]⟩), (.bool false)] []) fun v18_23 =>
    bindV (storeA 3 v4_0 v18_23) fun _ =>
    bindV (ret (.int .i64 50)) fun v5_24 =>
    bindV (loadA (some 3) v4_0) fun v4_25 =>
    ret (.tuple #[v4_25, v5_24]))
    (bindV (ret v1_in) fun v19_13 =>
    bindV (binA Try.prog .leq 3 v19_13 (.int .i64 61)) fun v20_14 =>
    condA v20_14 (bindV (ret v1_in) fun v21_15 =>
    bindV (call 50 [v21_15]) fun v22_16 =>
    bindV (extractA v22_16 0) fun v23_17 =>
    bindV (extractA v22_16 1) fun v24_18 =>
    bindV (storeA 3 v4_0 v23_17) fun _ =>
    bindV (ret v24_18) fun v5_19 =>
    bindV (loadA (some 3) v4_0) fun v4_20 =>
    ret (.tuple #[v4_20, v5_19]))
    (bindV (ret v0_in) fun v25_2 =>
    bindV (nilCheckA v25_2) fun v26_3 =>
    bindV (fieldAddrA 1 v26_3) fun v27_4 =>
    bindV (loadA none v27_4) fun v28_5 =>
    bindV (ret v1_in) fun v29_6 =>
    bindV (binA Try.prog .sub 3 v29_6 (.int .i64 62)) fun v30_7 =>
    bindV (indexAddrA 3 v28_5 v30_7) fun v31_8 =>
    bindV (loadA (some 3) v31_8) fun v32_9 =>
    bindV (storeA 3 v4_0 v32_9) fun _ =>
    bindV (ret (.int .i64 0)) fun v5_10 =>
    bindV (loadA (some 3) v4_0) fun v4_11 =>
    ret (.tuple #[v4_11, v5_10])))

noncomputable def R44.top (call : FuncId → List Value → AM Value) (k : Nat) (v0_in : Value) (v1_in : Value) : AM Value :=
  bindV (newA [(.string ⟨#[]⟩), (.string ⟨#[]⟩), (.bool false)] 56) fun v4_0 =>
    bindV (ret (.int .i64 0)) fun v5_1 =>
    bindV (ret v1_in) fun v6_27 =>
    bindV (binA Try.prog .lss 3 v6_27 (.int .i64 1)) fun v7_28 =>
    bindV (ret v7_28) fun v8_29 =>
    guardA false v8_29 (bindV (ret v1_in) fun v9_33 =>
    bindV (ret v0_in) fun v10_34 =>
    bindV (nilCheckA v10_34) fun v11_35 =>
    bindV (fieldAddrA 1 v11_35) fun v12_36 =>
    bindV (loadA none v12_36) fun v13_37 =>
    bindV (lenA v13_37) fun v14_38 =>
    bindV (binA Try.prog .add 3 (.int .i64 61) v14_38) fun v15_39 =>
    bindV (binA Try.prog .gtr 3 v9_33 v15_39) fun v16_40 =>
    R44.g_32 call k v0_in v1_in v4_0 v8_29 v16_40)
    (R44.g_32 call k v0_in v1_in v4_0 v8_29 (.tuple #[]))

theorem R44.eq (call : FuncId → List Value → AM Value) (k : Nat) (v0_in : Value) (v1_in : Value) : funcA Try.prog call k 44 [v0_in, v1_in] = R44.top call k v0_in v1_in := by kernel_rfl

/-! ### 46: aqueduct/table.statics (0 arguments) -/
noncomputable def R46.top (call : FuncId → List Value → AM Value) (k : Nat) : AM Value :=
  bindV (newA [(.string ⟨#[]⟩), (.string ⟨#[]⟩), (.string ⟨#[]⟩), (.string ⟨#[]⟩), (.string ⟨#[]⟩), (.string ⟨#[]⟩), (.string ⟨#[]⟩), (.string ⟨#[]⟩), (.string ⟨#[]⟩), (.string ⟨#[]⟩), (.string ⟨#[]⟩), (.string ⟨#[]⟩), (.string ⟨#[]⟩), (.string ⟨#[]⟩), (.string ⟨#[]⟩), (.string ⟨#[]⟩), (.string ⟨#[]⟩), (.string ⟨#[]⟩), (.string ⟨#[]⟩), (.string ⟨#[]⟩), (.string ⟨#[]⟩), (.string ⟨#[]⟩), (.string ⟨#[]⟩), (.string ⟨#[]⟩), (.string ⟨#[]⟩), (.string ⟨#[]⟩), (.string ⟨#[]⟩), (.string ⟨#[]⟩), (.string ⟨#[]⟩), (.string ⟨#[]⟩), (.string ⟨#[]⟩), (.string ⟨#[]⟩), (.string ⟨#[]⟩), (.string ⟨#[]⟩), (.string ⟨#[]⟩), (.string ⟨#[]⟩), (.string ⟨#[]⟩), (.string ⟨#[]⟩), (.string ⟨#[]⟩), (.string ⟨#[]⟩), (.string ⟨#[]⟩), (.string ⟨#[]⟩), (.string ⟨#[]⟩), (.string ⟨#[]⟩), (.string ⟨#[]⟩), (.string ⟨#[]⟩), (.string ⟨#[]⟩), (.string ⟨#[]⟩), (.string ⟨#[]⟩), (.string ⟨#[]⟩), (.string ⟨#[]⟩), (.string ⟨#[]⟩), (.string ⟨#[]⟩), (.string ⟨#[]⟩), (.string ⟨#[]⟩), (.string ⟨#[]⟩), (.string ⟨#[]⟩), (.string ⟨#[]⟩), (.string ⟨#[]⟩), (.string ⟨#[]⟩), (.string ⟨#[]⟩)] 84) fun v0_0 =>
    bindV (buildArrA 1 [(.string ⟨#[]⟩), (.string ⟨#[]⟩), (.string ⟨#[]⟩), (.string ⟨#[]⟩), (.string ⟨#[]⟩), (.string ⟨#[]⟩), (.string ⟨#[]⟩), (.string ⟨#[]⟩), (.string ⟨#[]⟩), (.string ⟨#[]⟩), (.string ⟨#[]⟩), (.string ⟨#[]⟩), (.string ⟨#[]⟩), (.string ⟨#[]⟩), (.string ⟨#[]⟩), (.string ⟨#[]⟩), (.string ⟨#[]⟩), (.string ⟨#[]⟩), (.string ⟨#[]⟩), (.string ⟨#[]⟩), (.string ⟨#[]⟩), (.string ⟨#[]⟩), (.string ⟨#[]⟩), (.string ⟨#[]⟩), (.string ⟨#[]⟩), (.string ⟨#[]⟩), (.string ⟨#[]⟩), (.string ⟨#[]⟩), (.string ⟨#[]⟩), (.string ⟨#[]⟩), (.string ⟨#[]⟩), (.string ⟨#[]⟩), (.string ⟨#[]⟩), (.string ⟨#[]⟩), (.string ⟨#[]⟩), (.string ⟨#[]⟩), (.string ⟨#[]⟩), (.string ⟨#[]⟩), (.string ⟨#[]⟩), (.string ⟨#[]⟩), (.string ⟨#[]⟩), (.string ⟨#[]⟩), (.string ⟨#[]⟩), (.string ⟨#[]⟩), (.string ⟨#[]⟩), (.string ⟨#[]⟩), (.string ⟨#[]⟩), (.string ⟨#[]⟩), (.string ⟨#[]⟩), (.string ⟨#[]⟩), (.string ⟨#[]⟩), (.string ⟨#[]⟩), (.string ⟨#[]⟩), (.string ⟨#[]⟩), (.string ⟨#[]⟩), (.string ⟨#[]⟩), (.string ⟨#[]⟩), (.string ⟨#[]⟩), (.string ⟨#[]⟩), (.string ⟨#[]⟩), (.string ⟨#[]⟩)] [(0, (.string ⟨#[58, 97, 117, 116, 104, 111, 114, 105, 116, 121, 61]⟩)), (1, (.string ⟨#[58, 109, 101, 116, 104, 111, 100, 61, 71, 69, 84]⟩)), (2, (.string ⟨#[58, 109, 101, 116, 104, 111, 100, 61, 80, 79, 83, 84]⟩)), (3, (.string ⟨#[58, 112, 97, 116, 104, 61, 47]⟩)), (4, (.string ⟨#[58, 112, 97, 116, 104, 61, 47, 105, 110, 100, 101, 120, 46, 104, 116, 109, 108]⟩)), (5, (.string ⟨#[58, 115, 99, 104, 101, 109, 101, 61, 104, 116, 116, 112]⟩)), (6, (.string ⟨#[58, 115, 99, 104, 101, 109, 101, 61, 104, 116, 116, 112, 115]⟩)), (7, (.string ⟨#[58, 115, 116, 97, 116, 117, 115, 61, 50, 48, 48]⟩)), (8, (.string ⟨#[58, 115, 116, 97, 116, 117, 115, 61, 50, 48, 52]⟩)), (9, (.string ⟨#[58, 115, 116, 97, 116, 117, 115, 61, 50, 48, 54]⟩)), (10, (.string ⟨#[58, 115, 116, 97, 116, 117, 115, 61, 51, 48, 52]⟩)), (11, (.string ⟨#[58, 115, 116, 97, 116, 117, 115, 61, 52, 48, 48]⟩)), (12, (.string ⟨#[58, 115, 116, 97, 116, 117, 115, 61, 52, 48, 52]⟩)), (13, (.string ⟨#[58, 115, 116, 97, 116, 117, 115, 61, 53, 48, 48]⟩)), (14, (.string ⟨#[97, 99, 99, 101, 112, 116, 45, 99, 104, 97, 114, 115, 101, 116, 61]⟩)), (15, (.string ⟨#[97, 99, 99, 101, 112, 116, 45, 101, 110, 99, 111, 100, 105, 110, 103, 61, 103, 122, 105, 112, 44, 32, 100, 101, 102, 108, 97, 116, 101]⟩)), (16, (.string ⟨#[97, 99, 99, 101, 112, 116, 45, 108, 97, 110, 103, 117, 97, 103, 101, 61]⟩)), (17, (.string ⟨#[97, 99, 99, 101, 112, 116, 45, 114, 97, 110, 103, 101, 115, 61]⟩)), (18, (.string ⟨#[97, 99, 99, 101, 112, 116, 61]⟩)), (19, (.string ⟨#[97, 99, 99, 101, 115, 115, 45, 99, 111, 110, 116, 114, 111, 108, 45, 97, 108, 108, 111, 119, 45, 111, 114, 105, 103, 105, 110, 61]⟩)), (20, (.string ⟨#[97, 103, 101, 61]⟩)), (21, (.string ⟨#[97, 108, 108, 111, 119, 61]⟩)), (22, (.string ⟨#[97, 117, 116, 104, 111, 114, 105, 122, 97, 116, 105, 111, 110, 61]⟩)), (23, (.string ⟨#[99, 97, 99, 104, 101, 45, 99, 111, 110, 116, 114, 111, 108, 61]⟩)), (24, (.string ⟨#[99, 111, 110, 116, 101, 110, 116, 45, 100, 105, 115, 112, 111, 115, 105, 116, 105, 111, 110, 61]⟩)), (25, (.string ⟨#[99, 111, 110, 116, 101, 110, 116, 45, 101, 110, 99, 111, 100, 105, 110, 103, 61]⟩)), (26, (.string ⟨#[99, 111, 110, 116, 101, 110, 116, 45, 108, 97, 110, 103, 117, 97, 103, 101, 61]⟩)), (27, (.string ⟨#[99, 111, 110, 116, 101, 110, 116, 45, 108, 101, 110, 103, 116, 104, 61]⟩)), (28, (.string ⟨#[99, 111, 110, 116, 101, 110, 116, 45, 108, 111, 99, 97, 116, 105, 111, 110, 61]⟩)), (29, (.string ⟨#[99, 111, 110, 116, 101, 110, 116, 45, 114, 97, 110, 103, 101, 61]⟩)), (30, (.string ⟨#[99, 111, 110, 116, 101, 110, 116, 45, 116, 121, 112, 101, 61]⟩)), (31, (.string ⟨#[99, 111, 111, 107, 105, 101, 61]⟩)), (32, (.string ⟨#[100, 97, 116, 101, 61]⟩)), (33, (.string ⟨#[101, 116, 97, 103, 61]⟩)), (34, (.string ⟨#[101, 120, 112, 101, 99, 116, 61]⟩)), (35, (.string ⟨#[101, 120, 112, 105, 114, 101, 115, 61]⟩)), (36, (.string ⟨#[102, 114, 111, 109, 61]⟩)), (37, (.string ⟨#[104, 111, 115, 116, 61]⟩)), (38, (.string ⟨#[105, 102, 45, 109, 97, 116, 99, 104, 61]⟩)), (39, (.string ⟨#[105, 102, 45, 109, 111, 100, 105, 102, 105, 101, 100, 45, 115, 105, 110, 99, 101, 61]⟩)), (40, (.string ⟨#[105, 102, 45, 110, 111, 110, 101, 45, 109, 97, 116, 99, 104, 61]⟩)), (41, (.string ⟨#[105, 102, 45, 114, 97, 110, 103, 101, 61]⟩)), (42, (.string ⟨#[105, 102, 45, 117, 110, 109, 111, 100, 105, 102, 105, 101, 100, 45, 115, 105, 110, 99, 101, 61]⟩)), (43, (.string ⟨#[108, 97, 115, 116, 45, 109, 111, 100, 105, 102, 105, 101, 100, 61]⟩)), (44, (.string ⟨#[108, 105, 110, 107, 61]⟩)), (45, (.string ⟨#[108, 111, 99, 97, 116, 105, 111, 110, 61]⟩)), (46, (.string ⟨#[109, 97, 120, 45, 102, 111, 114, 119, 97, 114, 100, 115, 61]⟩)), (47, (.string ⟨#[112, 114, 111, 120, 121, 45, 97, 117, 116, 104, 101, 110, 116, 105, 99, 97, 116, 101, 61]⟩)), (48, (.string ⟨#[112, 114, 111, 120, 121, 45, 97, 117, 116, 104, 111, 114, 105, 122, 97, 116, 105, 111, 110, 61]⟩)), (49, (.string ⟨#[114, 97, 110, 103, 101, 61]⟩)), (50, (.string ⟨#[114, 101, 102, 101, 114, 101, 114, 61]⟩)), (51, (.string ⟨#[114, 101, 102, 114, 101, 115, 104, 61]⟩)), (52, (.string ⟨#[114, 101, 116, 114, 121, 45, 97, 102, 116, 101, 114, 61]⟩)), (53, (.string ⟨#[115, 101, 114, 118, 101, 114, 61]⟩)), (54, (.string ⟨#[115, 101, 116, 45, 99, 111, 111, 107, 105, 101, 61]⟩)), (55, (.string ⟨#[115, 116, 114, 105, 99, 116, 45, 116, 114, 97, 110, 115, 112, 111, 114, 116, 45, 115, 101, 99, 117, 114, 105, 116, 121, 61]⟩)), (56, (.string ⟨#[116, 114, 97, 110, 115, 102, 101, 114, 45, 101, 110, 99, 111, 100, 105, 110, 103, 61]⟩)), (57, (.string ⟨#[117, 115, 101, 114, 45, 97, 103, 101, 110, 116, 61]⟩)), (58, (.string ⟨#[118, 97, 114, 121, 61]⟩)), (59, (.string ⟨#[118, 105, 97, 61]⟩)), (60, (.string ⟨#[119, 119, 119, 45, 97, 117, 116, 104, 101, 110, 116, 105, 99, 97, 116, 101, 61]⟩))]) fun v1_1 =>
    bindV (storeA 61 v0_0 v1_1) fun _ =>
    bindV (loadA (some 61) v0_0) fun v0_2 =>
    ret v0_2

theorem R46.eq (call : FuncId → List Value → AM Value) (k : Nat) : funcA Try.prog call k 46 [] = R46.top call k := by kernel_rfl

/-! ### 49: internal/stringslite.Clone (1 arguments) -/
noncomputable def R49.top (call : FuncId → List Value → AM Value) (k : Nat) (v0_in : Value) : AM Value :=
  bindV (ret (.string ⟨#[]⟩)) fun v2_0 =>
    bindV (ret v0_in) fun v4_15 =>
    bindV (lenStrA v4_15) fun v5_16 =>
    bindV (binA Try.prog .eql 3 v5_16 (.int .i64 0)) fun v6_17 =>
    condA v6_17 (bindV (ret (.string ⟨#[]⟩)) fun v2_18 =>
    ret v2_18)
    (bindV (ret v0_in) fun v7_1 =>
    bindV (lenStrA v7_1) fun v8_2 =>
    bindV (makeSliceA 5 1 1 [(.int .u8 0)] v8_2 v8_2) fun v9_3 =>
    bindV (ret v9_3) fun v3_4 =>
    bindV (ret v3_4) fun v10_5 =>
    bindV (ret v0_in) fun v11_6 =>
    bindV (copyA 1 v10_5 v11_6) fun v12_7 =>
    bindV (ret v3_4) fun v13_8 =>
    bindV (indexAddrA 1 v13_8 (.int .i64 0)) fun v14_9 =>
    bindV (ret v3_4) fun v15_10 =>
    bindV (lenA v15_10) fun v16_11 =>
    bindV (bytesStrA 5 v14_9 v16_11) fun v17_12 =>
    bindV (ret v17_12) fun v2_13 =>
    ret v2_13)

theorem R49.eq (call : FuncId → List Value → AM Value) (k : Nat) (v0_in : Value) : funcA Try.prog call k 49 [v0_in] = R49.top call k v0_in := by kernel_rfl

/-! ### 50: aqueduct/aqueductref05.Static (1 arguments) -/
noncomputable def R50.b_34 (call : FuncId → List Value → AM Value) (k : Nat) (v2_0 : Value) (v5_9 : Value) (rec_1_24 : Value → AM Value) (v6_25 : Value) : AM Value :=
  bindV (ret v5_9) fun v22_30 =>
    bindV (ret v6_25) fun v23_31 =>
    bindV (indexStrA v22_30 v23_31) fun v24_32 =>
    bindV (binA Try.prog .neq 5 v24_32 (.int .u8 61)) fun v25_33 =>
    condA v25_33 (bindV (ret v6_25) fun v26_26 =>
    bindV (binA Try.prog .add 3 v26_26 (.int .i64 1)) fun v27_27 =>
    bindV (ret v27_27) fun v6_28 =>
    rec_1_24 v6_28)
    (bindV (ret v5_9) fun v28_12 =>
    bindV (ret v6_25) fun v29_13 =>
    bindV (sliceStrA v28_12 none (some v29_13)) fun v30_14 =>
    bindV (ret v5_9) fun v31_15 =>
    bindV (ret v6_25) fun v32_16 =>
    bindV (binA Try.prog .add 3 v32_16 (.int .i64 1)) fun v33_17 =>
    bindV (sliceStrA v31_15 (some v33_17) none) fun v34_18 =>
    bindV (buildA [(0, 1), (1, 1), (2, 1)] [(.string ⟨#[]⟩), (.string ⟨#[]⟩), (.bool false)] [(0, v30_14), (1, v34_18)]) fun v35_19 =>
    bindV (storeA 3 v2_0 v35_19) fun _ =>
    bindV (ret (.int .i64 0)) fun v3_21 =>
    bindV (loadA (some 3) v2_0) fun v2_22 =>
    ret (.tuple #[v2_22, v3_21]))

noncomputable def R50.g_46 (call : FuncId → List Value → AM Value) (k : Nat) (v0_in : Value) (v10_43 : Value) (v2_0 : Value) (v4_3 : Value) (v14_44 : Value) : AM Value :=
  bindV (pickA v10_43 (.bool true) v14_44) fun v15_45 =>
    condA v15_45 (bindV (buildA [(0, 1), (1, 1), (2, 1)] [(.string ⟨#[]⟩), (.string ⟨#[]⟩), (.bool false)] []) fun v16_37 =>
    bindV (storeA 3 v2_0 v16_37) fun _ =>
    bindV (ret (.int .i64 50)) fun v3_38 =>
    bindV (loadA (some 3) v2_0) fun v2_39 =>
    ret (.tuple #[v2_39, v3_38]))
    (bindV (ret v4_3) fun v17_4 =>
    bindV (ret v0_in) fun v18_5 =>
    bindV (binA Try.prog .sub 3 v18_5 (.int .i64 1)) fun v19_6 =>
    bindV (indexAddrA 1 v17_4 v19_6) fun v20_7 =>
    bindV (loadA none v20_7) fun v21_8 =>
    bindV (ret v21_8) fun v5_9 =>
    bindV (ret (.int .i64 0)) fun v6_10 =>
    loop1 (R50.b_34 call k v2_0 v5_9) k v6_10)

noncomputable def R50.top (call : FuncId → List Value → AM Value) (k : Nat) (v0_in : Value) : AM Value :=
  bindV (newA [(.string ⟨#[]⟩), (.string ⟨#[]⟩), (.bool false)] 56) fun v2_0 =>
    bindV (ret (.int .i64 0)) fun v3_1 =>
    bindV (call 54 []) fun v7_2 =>
    bindV (ret v7_2) fun v4_3 =>
    bindV (ret v0_in) fun v8_41 =>
    bindV (binA Try.prog .lss 3 v8_41 (.int .i64 1)) fun v9_42 =>
    bindV (ret v9_42) fun v10_43 =>
    guardA false v10_43 (bindV (ret v0_in) fun v11_47 =>
    bindV (ret v4_3) fun v12_48 =>
    bindV (lenA v12_48) fun v13_49 =>
    bindV (binA Try.prog .gtr 3 v11_47 v13_49) fun v14_50 =>
    R50.g_46 call k v0_in v10_43 v2_0 v4_3 v14_50)
    (R50.g_46 call k v0_in v10_43 v2_0 v4_3 (.tuple #[]))

theorem R50.eq (call : FuncId → List Value → AM Value) (k : Nat) (v0_in : Value) : funcA Try.prog call k 50 [v0_in] = R50.top call k v0_in := by kernel_rfl

/-! ### 54: aqueduct/aqueductref05.statics (0 arguments) -/
noncomputable def R54.top (call : FuncId → List Value → AM Value) (k : Nat) : AM Value :=
  bindV (ret (.slice none 0 0)) fun v0_0 =>
    bindV (buildSliceA 9 1 61 [(.string ⟨#[]⟩)] [(0, (.string ⟨#[58, 97, 117, 116, 104, 111, 114, 105, 116, 121, 61]⟩)), (1, (.string ⟨#[58, 109, 101, 116, 104, 111, 100, 61, 71, 69, 84]⟩)), (2, (.string ⟨#[58, 109, 101, 116, 104, 111, 100, 61, 80, 79, 83, 84]⟩)), (3, (.string ⟨#[58, 112, 97, 116, 104, 61, 47]⟩)), (4, (.string ⟨#[58, 112, 97, 116, 104, 61, 47, 105, 110, 100, 101, 120, 46, 104, 116, 109, 108]⟩)), (5, (.string ⟨#[58, 115, 99, 104, 101, 109, 101, 61, 104, 116, 116, 112]⟩)), (6, (.string ⟨#[58, 115, 99, 104, 101, 109, 101, 61, 104, 116, 116, 112, 115]⟩)), (7, (.string ⟨#[58, 115, 116, 97, 116, 117, 115, 61, 50, 48, 48]⟩)), (8, (.string ⟨#[58, 115, 116, 97, 116, 117, 115, 61, 50, 48, 52]⟩)), (9, (.string ⟨#[58, 115, 116, 97, 116, 117, 115, 61, 50, 48, 54]⟩)), (10, (.string ⟨#[58, 115, 116, 97, 116, 117, 115, 61, 51, 48, 52]⟩)), (11, (.string ⟨#[58, 115, 116, 97, 116, 117, 115, 61, 52, 48, 48]⟩)), (12, (.string ⟨#[58, 115, 116, 97, 116, 117, 115, 61, 52, 48, 52]⟩)), (13, (.string ⟨#[58, 115, 116, 97, 116, 117, 115, 61, 53, 48, 48]⟩)), (14, (.string ⟨#[97, 99, 99, 101, 112, 116, 45, 99, 104, 97, 114, 115, 101, 116, 61]⟩)), (15, (.string ⟨#[97, 99, 99, 101, 112, 116, 45, 101, 110, 99, 111, 100, 105, 110, 103, 61, 103, 122, 105, 112, 44, 32, 100, 101, 102, 108, 97, 116, 101]⟩)), (16, (.string ⟨#[97, 99, 99, 101, 112, 116, 45, 108, 97, 110, 103, 117, 97, 103, 101, 61]⟩)), (17, (.string ⟨#[97, 99, 99, 101, 112, 116, 45, 114, 97, 110, 103, 101, 115, 61]⟩)), (18, (.string ⟨#[97, 99, 99, 101, 112, 116, 61]⟩)), (19, (.string ⟨#[97, 99, 99, 101, 115, 115, 45, 99, 111, 110, 116, 114, 111, 108, 45, 97, 108, 108, 111, 119, 45, 111, 114, 105, 103, 105, 110, 61]⟩)), (20, (.string ⟨#[97, 103, 101, 61]⟩)), (21, (.string ⟨#[97, 108, 108, 111, 119, 61]⟩)), (22, (.string ⟨#[97, 117, 116, 104, 111, 114, 105, 122, 97, 116, 105, 111, 110, 61]⟩)), (23, (.string ⟨#[99, 97, 99, 104, 101, 45, 99, 111, 110, 116, 114, 111, 108, 61]⟩)), (24, (.string ⟨#[99, 111, 110, 116, 101, 110, 116, 45, 100, 105, 115, 112, 111, 115, 105, 116, 105, 111, 110, 61]⟩)), (25, (.string ⟨#[99, 111, 110, 116, 101, 110, 116, 45, 101, 110, 99, 111, 100, 105, 110, 103, 61]⟩)), (26, (.string ⟨#[99, 111, 110, 116, 101, 110, 116, 45, 108, 97, 110, 103, 117, 97, 103, 101, 61]⟩)), (27, (.string ⟨#[99, 111, 110, 116, 101, 110, 116, 45, 108, 101, 110, 103, 116, 104, 61]⟩)), (28, (.string ⟨#[99, 111, 110, 116, 101, 110, 116, 45, 108, 111, 99, 97, 116, 105, 111, 110, 61]⟩)), (29, (.string ⟨#[99, 111, 110, 116, 101, 110, 116, 45, 114, 97, 110, 103, 101, 61]⟩)), (30, (.string ⟨#[99, 111, 110, 116, 101, 110, 116, 45, 116, 121, 112, 101, 61]⟩)), (31, (.string ⟨#[99, 111, 111, 107, 105, 101, 61]⟩)), (32, (.string ⟨#[100, 97, 116, 101, 61]⟩)), (33, (.string ⟨#[101, 116, 97, 103, 61]⟩)), (34, (.string ⟨#[101, 120, 112, 101, 99, 116, 61]⟩)), (35, (.string ⟨#[101, 120, 112, 105, 114, 101, 115, 61]⟩)), (36, (.string ⟨#[102, 114, 111, 109, 61]⟩)), (37, (.string ⟨#[104, 111, 115, 116, 61]⟩)), (38, (.string ⟨#[105, 102, 45, 109, 97, 116, 99, 104, 61]⟩)), (39, (.string ⟨#[105, 102, 45, 109, 111, 100, 105, 102, 105, 101, 100, 45, 115, 105, 110, 99, 101, 61]⟩)), (40, (.string ⟨#[105, 102, 45, 110, 111, 110, 101, 45, 109, 97, 116, 99, 104, 61]⟩)), (41, (.string ⟨#[105, 102, 45, 114, 97, 110, 103, 101, 61]⟩)), (42, (.string ⟨#[105, 102, 45, 117, 110, 109, 111, 100, 105, 102, 105, 101, 100, 45, 115, 105, 110, 99, 101, 61]⟩)), (43, (.string ⟨#[108, 97, 115, 116, 45, 109, 111, 100, 105, 102, 105, 101, 100, 61]⟩)), (44, (.string ⟨#[108, 105, 110, 107, 61]⟩)), (45, (.string ⟨#[108, 111, 99, 97, 116, 105, 111, 110, 61]⟩)), (46, (.string ⟨#[109, 97, 120, 45, 102, 111, 114, 119, 97, 114, 100, 115, 61]⟩)), (47, (.string ⟨#[112, 114, 111, 120, 121, 45, 97, 117, 116, 104, 101, 110, 116, 105, 99, 97, 116, 101, 61]⟩)), (48, (.string ⟨#[112, 114, 111, 120, 121, 45, 97, 117, 116, 104, 111, 114, 105, 122, 97, 116, 105, 111, 110, 61]⟩)), (49, (.string ⟨#[114, 97, 110, 103, 101, 61]⟩)), (50, (.string ⟨#[114, 101, 102, 101, 114, 101, 114, 61]⟩)), (51, (.string ⟨#[114, 101, 102, 114, 101, 115, 104, 61]⟩)), (52, (.string ⟨#[114, 101, 116, 114, 121, 45, 97, 102, 116, 101, 114, 61]⟩)), (53, (.string ⟨#[115, 101, 114, 118, 101, 114, 61]⟩)), (54, (.string ⟨#[115, 101, 116, 45, 99, 111, 111, 107, 105, 101, 61]⟩)), (55, (.string ⟨#[115, 116, 114, 105, 99, 116, 45, 116, 114, 97, 110, 115, 112, 111, 114, 116, 45, 115, 101, 99, 117, 114, 105, 116, 121, 61]⟩)), (56, (.string ⟨#[116, 114, 97, 110, 115, 102, 101, 114, 45, 101, 110, 99, 111, 100, 105, 110, 103, 61]⟩)), (57, (.string ⟨#[117, 115, 101, 114, 45, 97, 103, 101, 110, 116, 61]⟩)), (58, (.string ⟨#[118, 97, 114, 121, 61]⟩)), (59, (.string ⟨#[118, 105, 97, 61]⟩)), (60, (.string ⟨#[119, 119, 119, 45, 97, 117, 116, 104, 101, 110, 116, 105, 99, 97, 116, 101, 61]⟩))]) fun v1_1 =>
    bindV (ret v1_1) fun v0_2 =>
    ret v0_2

theorem R54.eq (call : FuncId → List Value → AM Value) (k : Nat) : funcA Try.prog call k 54 [] = R54.top call k := by kernel_rfl

end Go.Proofs.Ytjmafbiklebjcaa
