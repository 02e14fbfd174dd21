/- What the functions that these laws reach compute, printed by a program of ours and tied to the model by the kernel. -/
import Derived.Test.YtgpddhoidlpcaaaEngQ
import Derived.Test.YtgpddhoidlpcaaaRows
set_option linter.unusedVariables false
set_option linter.unusedSimpArgs false
namespace Go.Proofs.Ytgpddhoidlpcaaa
open Go.Proofs.Ytgpddhoidlpcaaa.Eng
/-! ### 3: aqueduct/aqueductlaw03.HuffCodes (1 arguments) -/
noncomputable def R3.g_34 (call : FuncId → List Value → AM Value) (k : Nat) (v34_30 : Value) (v35_31 : Value) : AM Value :=
  bindV (pickA v34_30 v35_31 (.bool false)) fun v36_32 =>
    bindV (ret v36_32) fun v2_33 =>
    ret v2_33

noncomputable def R3.g_36 (call : FuncId → List Value → AM Value) (k : Nat) (v29_27 : Value) (v32_28 : Value) : AM Value :=
  bindV (pickA v29_27 v32_28 (.bool false)) fun v33_29 =>
    bindV (ret v33_29) fun v34_30 =>
    guardA true v34_30 (bindV (call 16 []) fun v35_35 =>
    R3.g_34 call k v34_30 v35_35)
    (R3.g_34 call k v34_30 (.tuple #[]))

noncomputable def R3.g_40 (call : FuncId → List Value → AM Value) (k : Nat) (v24_24 : Value) (v5_9 : Value) (v8_18 : Value) (v27_25 : Value) : AM Value :=
  bindV (pickA v24_24 v27_25 (.bool false)) fun v28_26 =>
    bindV (ret v28_26) fun v29_27 =>
    guardA true v29_27 (bindV (ret v5_9) fun v30_37 =>
    bindV (ret v8_18) fun v31_38 =>
    bindV (binA Try.prog .eql 3 v30_37 v31_38) fun v32_39 =>
    R3.g_36 call k v29_27 v32_39)
    (R3.g_36 call k v29_27 (.tuple #[]))

noncomputable def R3.top (call : FuncId → List Value → AM Value) (k : Nat) (v0_in : Value) : AM Value :=
  bindV (ret (.bool false)) fun v2_0 =>
    bindV (ret v0_in) fun v10_1 =>
    bindV (call 14 [v10_1]) fun v11_2 =>
    bindV (ret v11_2) fun v9_3 =>
    bindV (extractA v9_3 0) fun v12_4 =>
    bindV (extractA v9_3 1) fun v13_5 =>
    bindV (extractA v9_3 2) fun v14_6 =>
    bindV (ret v12_4) fun v3_7 =>
    bindV (ret v13_5) fun v4_8 =>
    bindV (ret v14_6) fun v5_9 =>
    bindV (ret v0_in) fun v16_10 =>
    bindV (call 15 [v16_10]) fun v17_11 =>
    bindV (ret v17_11) fun v15_12 =>
    bindV (extractA v15_12 0) fun v18_13 =>
    bindV (extractA v15_12 1) fun v19_14 =>
    bindV (extractA v15_12 2) fun v20_15 =>
    bindV (ret v18_13) fun v6_16 =>
    bindV (ret v19_14) fun v7_17 =>
    bindV (ret v20_15) fun v8_18 =>
    bindV (ret v3_7) fun v21_21 =>
    bindV (ret v6_16) fun v22_22 =>
    bindV (binA Try.prog .eql 22 v21_21 v22_22) fun v23_23 =>
    bindV (ret v23_23) fun v24_24 =>
    guardA true v24_24 (bindV (ret v4_8) fun v25_41 =>
    bindV (ret v7_17) fun v26_42 =>
    bindV (binA Try.prog .eql 3 v25_41 v26_42) fun v27_43 =>
    R3.g_40 call k v24_24 v5_9 v8_18 v27_43)
    (R3.g_40 call k v24_24 v5_9 v8_18 (.tuple #[]))

theorem R3.eq (call : FuncId → List Value → AM Value) (k : Nat) (v0_in : Value) : funcA Try.prog call k 3 [v0_in] = R3.top call k v0_in := by kernel_rfl

/-! ### 4: aqueduct/aqueductlaw03.HuffApart (2 arguments) -/
noncomputable def R4.g_41 (call : FuncId → List Value → AM Value) (k : Nat) (v69_35 : Value) (v82_38 : Value) : AM Value :=
  bindV (pickA v69_35 v82_38 (.bool false)) fun v83_39 =>
    bindV (ret v83_39) fun v4_40 =>
    ret v4_40

noncomputable def R4.g_43 (call : FuncId → List Value → AM Value) (k : Nat) (v69_35 : Value) (v73_36 : Value) (v81_37 : Value) : AM Value :=
  guardA true v69_35 (bindV (pickA v73_36 (.bool true) v81_37) fun v82_42 =>
    R4.g_41 call k v69_35 v82_42)
    (R4.g_41 call k v69_35 (.tuple #[]))

noncomputable def R4.g_52 (call : FuncId → List Value → AM Value) (k : Nat) (v10_24 : Value) (v11_25 : Value) (v69_35 : Value) (v7_15 : Value) (v8_16 : Value) (v73_36 : Value) : AM Value :=
  guardA false v73_36 (bindV (ret v7_15) fun v74_44 =>
    bindV (ret v8_16) fun v75_45 =>
    bindV (ret v11_25) fun v76_46 =>
    bindV (binA Try.prog .sub 3 v75_45 v76_46) fun v77_47 =>
    bindV (convIntA .u64 v77_47) fun v78_48 =>
    bindV (binA Try.prog .shr 22 v74_44 v78_48) fun v79_49 =>
    bindV (ret v10_24) fun v80_50 =>
    bindV (binA Try.prog .neq 22 v79_49 v80_50) fun v81_51 =>
    R4.g_43 call k v69_35 v73_36 v81_51)
    (R4.g_43 call k v69_35 v73_36 (.tuple #[]))

noncomputable def R4.g_57 (call : FuncId → List Value → AM Value) (k : Nat) (v10_24 : Value) (v11_25 : Value) (v59_32 : Value) (v7_15 : Value) (v8_16 : Value) (v67_33 : Value) : AM Value :=
  bindV (pickA v59_32 (.bool true) v67_33) fun v68_34 =>
    bindV (ret v68_34) fun v69_35 =>
    guardA true v69_35 (bindV (ret v11_25) fun v70_53 =>
    bindV (ret v8_16) fun v71_54 =>
    bindV (binA Try.prog .gtr 3 v70_53 v71_54) fun v72_55 =>
    bindV (ret v72_55) fun v73_56 =>
    R4.g_52 call k v10_24 v11_25 v69_35 v7_15 v8_16 v73_56)
    (R4.g_52 call k v10_24 v11_25 v69_35 v7_15 v8_16 (.tuple #[]))

noncomputable def R4.g_79 (call : FuncId → List Value → AM Value) (k : Nat) (v51_75 : Value) (v54_76 : Value) : AM Value :=
  bindV (pickA v51_75 v54_76 (.bool false)) fun v55_77 =>
    bindV (ret v55_77) fun v4_78 =>
    ret v4_78

noncomputable def R4.g_98 (call : FuncId → List Value → AM Value) (k : Nat) (v10_24 : Value) (v11_25 : Value) (v41_95 : Value) (v5_4 : Value) (v6_8 : Value) (v7_15 : Value) (v8_16 : Value) (v43_96 : Value) : AM Value :=
  bindV (pickA v41_95 (.bool true) v43_96) fun v44_97 =>
    condA v44_97 (bindV (ret (.bool false)) fun v4_85 =>
    ret v4_85)
    (bindV (ret v5_4) fun v45_67 =>
    bindV (ret v6_8) fun v46_68 =>
    bindV (binA Try.prog .eql 3 v45_67 v46_68) fun v47_69 =>
    condA v47_69 (bindV (ret v7_15) fun v48_72 =>
    bindV (ret v10_24) fun v49_73 =>
    bindV (binA Try.prog .eql 22 v48_72 v49_73) fun v50_74 =>
    bindV (ret v50_74) fun v51_75 =>
    guardA true v51_75 (bindV (ret v8_16) fun v52_80 =>
    bindV (ret v11_25) fun v53_81 =>
    bindV (binA Try.prog .eql 3 v52_80 v53_81) fun v54_82 =>
    R4.g_79 call k v51_75 v54_82)
    (R4.g_79 call k v51_75 (.tuple #[])))
    (bindV (ret v8_16) fun v56_29 =>
    bindV (ret v11_25) fun v57_30 =>
    bindV (binA Try.prog .gtr 3 v56_29 v57_30) fun v58_31 =>
    bindV (ret v58_31) fun v59_32 =>
    guardA false v59_32 (bindV (ret v10_24) fun v60_58 =>
    bindV (ret v11_25) fun v61_59 =>
    bindV (ret v8_16) fun v62_60 =>
    bindV (binA Try.prog .sub 3 v61_59 v62_60) fun v63_61 =>
    bindV (convIntA .u64 v63_61) fun v64_62 =>
    bindV (binA Try.prog .shr 22 v60_58 v64_62) fun v65_63 =>
    bindV (ret v7_15) fun v66_64 =>
    bindV (binA Try.prog .neq 22 v65_63 v66_64) fun v67_65 =>
    R4.g_57 call k v10_24 v11_25 v59_32 v7_15 v8_16 v67_65)
    (R4.g_57 call k v10_24 v11_25 v59_32 v7_15 v8_16 (.tuple #[]))))

noncomputable def R4.g_101 (call : FuncId → List Value → AM Value) (k : Nat) (v10_24 : Value) (v11_25 : Value) (v37_92 : Value) (v5_4 : Value) (v6_8 : Value) (v7_15 : Value) (v8_16 : Value) (v39_93 : Value) : AM Value :=
  bindV (pickA v37_92 (.bool true) v39_93) fun v40_94 =>
    bindV (ret v40_94) fun v41_95 =>
    guardA false v41_95 (bindV (ret v8_16) fun v42_99 =>
    bindV (binA Try.prog .gtr 3 v42_99 (.int .i64 30)) fun v43_100 =>
    R4.g_98 call k v10_24 v11_25 v41_95 v5_4 v6_8 v7_15 v8_16 v43_100)
    (R4.g_98 call k v10_24 v11_25 v41_95 v5_4 v6_8 v7_15 v8_16 (.tuple #[]))

noncomputable def R4.g_104 (call : FuncId → List Value → AM Value) (k : Nat) (v10_24 : Value) (v11_25 : Value) (v33_89 : Value) (v5_4 : Value) (v6_8 : Value) (v7_15 : Value) (v8_16 : Value) (v35_90 : Value) : AM Value :=
  bindV (pickA v33_89 (.bool true) v35_90) fun v36_91 =>
    bindV (ret v36_91) fun v37_92 =>
    guardA false v37_92 (bindV (ret v8_16) fun v38_102 =>
    bindV (binA Try.prog .lss 3 v38_102 (.int .i64 5)) fun v39_103 =>
    R4.g_101 call k v10_24 v11_25 v37_92 v5_4 v6_8 v7_15 v8_16 v39_103)
    (R4.g_101 call k v10_24 v11_25 v37_92 v5_4 v6_8 v7_15 v8_16 (.tuple #[]))

noncomputable def R4.top (call : FuncId → List Value → AM Value) (k : Nat) (v0_in : Value) (v1_in : Value) : AM Value :=
  bindV (ret (.bool false)) fun v4_0 =>
    bindV (ret v0_in) fun v13_1 =>
    bindV (convIntA .i64 v13_1) fun v14_2 =>
    bindV (binA Try.prog .rem 3 v14_2 (.int .i64 257)) fun v15_3 =>
    bindV (ret v15_3) fun v5_4 =>
    bindV (ret v1_in) fun v16_5 =>
    bindV (convIntA .i64 v16_5) fun v17_6 =>
    bindV (binA Try.prog .rem 3 v17_6 (.int .i64 257)) fun v18_7 =>
    bindV (ret v18_7) fun v6_8 =>
    bindV (ret v5_4) fun v20_9 =>
    bindV (call 14 [v20_9]) fun v21_10 =>
    bindV (ret v21_10) fun v19_11 =>
    bindV (extractA v19_11 0) fun v22_12 =>
    bindV (extractA v19_11 1) fun v23_13 =>
    bindV (extractA v19_11 2) fun v24_14 =>
    bindV (ret v22_12) fun v7_15 =>
    bindV (ret v23_13) fun v8_16 =>
    bindV (ret v24_14) fun v9_17 =>
    bindV (ret v6_8) fun v26_18 =>
    bindV (call 14 [v26_18]) fun v27_19 =>
    bindV (ret v27_19) fun v25_20 =>
    bindV (extractA v25_20 0) fun v28_21 =>
    bindV (extractA v25_20 1) fun v29_22 =>
    bindV (extractA v25_20 2) fun v30_23 =>
    bindV (ret v28_21) fun v10_24 =>
    bindV (ret v29_22) fun v11_25 =>
    bindV (ret v30_23) fun v12_26 =>
    bindV (ret v9_17) fun v31_87 =>
    bindV (binA Try.prog .neq 23 v31_87 (.int .i64 0)) fun v32_88 =>
    bindV (ret v32_88) fun v33_89 =>
    guardA false v33_89 (bindV (ret v12_26) fun v34_105 =>
    bindV (binA Try.prog .neq 23 v34_105 (.int .i64 0)) fun v35_106 =>
    R4.g_104 call k v10_24 v11_25 v33_89 v5_4 v6_8 v7_15 v8_16 v35_106)
    (R4.g_104 call k v10_24 v11_25 v33_89 v5_4 v6_8 v7_15 v8_16 (.tuple #[]))

theorem R4.eq (call : FuncId → List Value → AM Value) (k : Nat) (v0_in : Value) (v1_in : Value) : funcA Try.prog call k 4 [v0_in, v1_in] = R4.top call k v0_in v1_in := by kernel_rfl

/-! ### 5: aqueduct/aqueductlaw03.HuffSizes (1 arguments) -/
noncomputable def R5.g_22 (call : FuncId → List Value → AM Value) (k : Nat) (v29_18 : Value) (v30_19 : Value) : AM Value :=
  bindV (pickA v29_18 v30_19 (.bool false)) fun v31_20 =>
    bindV (ret v31_20) fun v2_21 =>
    ret v2_21

noncomputable def R5.g_24 (call : FuncId → List Value → AM Value) (k : Nat) (v21_15 : Value) (v27_16 : Value) : AM Value :=
  bindV (pickA v21_15 v27_16 (.bool false)) fun v28_17 =>
    bindV (ret v28_17) fun v29_18 =>
    guardA true v29_18 (bindV (call 16 []) fun v30_23 =>
    R5.g_22 call k v29_18 v30_23)
    (R5.g_22 call k v29_18 (.tuple #[]))

noncomputable def R5.g_31 (call : FuncId → List Value → AM Value) (k : Nat) (v0_in : Value) (v12_12 : Value) (v3_3 : Value) (v19_13 : Value) : AM Value :=
  bindV (pickA v12_12 v19_13 (.bool false)) fun v20_14 =>
    bindV (ret v20_14) fun v21_15 =>
    guardA true v21_15 (bindV (ret v3_3) fun v22_25 =>
    bindV (binA Try.prog .eql 3 v22_25 (.int .i64 0)) fun v23_26 =>
    bindV (ret v0_in) fun v24_27 =>
    bindV (lenA v24_27) fun v25_28 =>
    bindV (binA Try.prog .eql 3 v25_28 (.int .i64 0)) fun v26_29 =>
    bindV (binA Try.prog .eql 4 v23_26 v26_29) fun v27_30 =>
    R5.g_24 call k v21_15 v27_30)
    (R5.g_24 call k v21_15 (.tuple #[]))

noncomputable def R5.top (call : FuncId → List Value → AM Value) (k : Nat) (v0_in : Value) : AM Value :=
  bindV (ret (.bool false)) fun v2_0 =>
    bindV (ret v0_in) fun v4_1 =>
    bindV (call 17 [v4_1]) fun v5_2 =>
    bindV (ret v5_2) fun v3_3 =>
    bindV (ret v3_3) fun v6_6 =>
    bindV (binA Try.prog .mul 3 (.int .i64 8) v6_6) fun v7_7 =>
    bindV (ret v0_in) fun v8_8 =>
    bindV (lenA v8_8) fun v9_9 =>
    bindV (binA Try.prog .mul 3 (.int .i64 5) v9_9) fun v10_10 =>
    bindV (binA Try.prog .geq 3 v7_7 v10_10) fun v11_11 =>
    bindV (ret v11_11) fun v12_12 =>
    guardA true v12_12 (bindV (ret v3_3) fun v13_32 =>
    bindV (binA Try.prog .mul 3 (.int .i64 8) v13_32) fun v14_33 =>
    bindV (ret v0_in) fun v15_34 =>
    bindV (lenA v15_34) fun v16_35 =>
    bindV (binA Try.prog .mul 3 (.int .i64 30) v16_35) fun v17_36 =>
    bindV (binA Try.prog .add 3 v17_36 (.int .i64 7)) fun v18_37 =>
    bindV (binA Try.prog .leq 3 v14_33 v18_37) fun v19_38 =>
    R5.g_31 call k v0_in v12_12 v3_3 v19_38)
    (R5.g_31 call k v0_in v12_12 v3_3 (.tuple #[]))

theorem R5.eq (call : FuncId → List Value → AM Value) (k : Nat) (v0_in : Value) : funcA Try.prog call k 5 [v0_in] = R5.top call k v0_in := by kernel_rfl

/-! ### 6: aqueduct/aqueductlaw03.HuffEncodes (1 arguments) -/
noncomputable def R6.d_9 (call : FuncId → List Value → AM Value) (k : Nat) (v2_8 : Value) : AM Value :=
  ret v2_8

noncomputable def R6.top (call : FuncId → List Value → AM Value) (k : Nat) (v0_in : Value) : AM Value :=
  bindV (ret (.bool false)) fun v2_0 =>
    bindV (buildSliceA 5 1 0 [(.int .u8 0)] []) fun v4_1 =>
    bindV (ret v0_in) fun v5_2 =>
    bindV (appendA 5 1 1 v4_1 v5_2) fun v6_3 =>
    bindV (call 18 [v6_3]) fun v7_4 =>
    bindV (ret v7_4) fun v3_5 =>
    bindV (ret v3_5) fun v8_10 =>
    bindV (toStrA v8_10) fun v9_11 =>
    bindV (ret v0_in) fun v10_12 =>
    bindV (call 19 [v10_12]) fun v11_14 =>
    hereV [((toStrA v8_10 : AM Value), (v9_11 : Value))] (
    bindV (toStrA v11_14) fun v12_15 =>
    bindV (binA Try.prog .eql 9 v9_11 v12_15) fun v13_16 =>
    bindV (ret v13_16) fun v14_17 =>
    guardA true v14_17 (bindV (ret v0_in) fun v15_18 =>
    bindV (call 17 [v15_18]) fun v16_20 =>
    bindV (ret v3_5) fun v17_21 =>
    bindV (lenA v17_21) fun v18_22 =>
    bindV (binA Try.prog .eql 3 v16_20 v18_22) fun v19_23 =>
    bindV (pickA v14_17 v19_23 (.bool false)) fun v20_24 =>
    bindV (ret v20_24) fun v21_25 =>
    guardA true v21_25 (bindV (call 16 []) fun v22_27 =>
    bindV (pickA v21_25 v22_27 (.bool false)) fun v23_28 =>
    bindV (ret v23_28) fun v2_29 =>
    R6.d_9 call k v2_29)
    (bindV (pickA v21_25 (.tuple #[]) (.bool false)) fun v23_30 =>
    bindV (ret v23_30) fun v2_31 =>
    R6.d_9 call k v2_31))
    (bindV (pickA v14_17 (.tuple #[]) (.bool false)) fun v20_32 =>
    bindV (ret v20_32) fun v21_33 =>
    guardA true v21_33 (bindV (call 16 []) fun v22_35 =>
    bindV (pickA v21_33 v22_35 (.bool false)) fun v23_36 =>
    bindV (ret v23_36) fun v2_37 =>
    R6.d_9 call k v2_37)
    (bindV (pickA v21_33 (.tuple #[]) (.bool false)) fun v23_38 =>
    bindV (ret v23_38) fun v2_39 =>
    R6.d_9 call k v2_39)))

theorem R6.eq (call : FuncId → List Value → AM Value) (k : Nat) (v0_in : Value) : funcA Try.prog call k 6 [v0_in] = R6.top call k v0_in := by kernel_rfl

/-! ### 7: aqueduct/aqueductlaw03.HuffDecodes (1 arguments) -/
noncomputable def R7.g_38 (call : FuncId → List Value → AM Value) (k : Nat) (v38_34 : Value) (v39_35 : Value) : AM Value :=
  bindV (pickA v38_34 v39_35 (.bool false)) fun v40_36 =>
    bindV (ret v40_36) fun v2_37 =>
    ret v2_37

noncomputable def R7.g_40 (call : FuncId → List Value → AM Value) (k : Nat) (v33_31 : Value) (v36_32 : Value) : AM Value :=
  bindV (pickA v33_31 v36_32 (.bool false)) fun v37_33 =>
    bindV (ret v37_33) fun v38_34 =>
    guardA true v38_34 (bindV (call 16 []) fun v39_39 =>
    R7.g_38 call k v38_34 v39_39)
    (R7.g_38 call k v38_34 (.tuple #[]))

noncomputable def R7.g_44 (call : FuncId → List Value → AM Value) (k : Nat) (v28_28 : Value) (v5_11 : Value) (v8_20 : Value) (v31_29 : Value) : AM Value :=
  bindV (pickA v28_28 v31_29 (.bool false)) fun v32_30 =>
    bindV (ret v32_30) fun v33_31 =>
    guardA true v33_31 (bindV (ret v5_11) fun v34_41 =>
    bindV (ret v8_20) fun v35_42 =>
    bindV (binA Try.prog .eql 3 v34_41 v35_42) fun v36_43 =>
    R7.g_40 call k v33_31 v36_43)
    (R7.g_40 call k v33_31 (.tuple #[]))

noncomputable def R7.top (call : FuncId → List Value → AM Value) (k : Nat) (v0_in : Value) : AM Value :=
  bindV (ret (.bool false)) fun v2_0 =>
    bindV (buildSliceA 5 1 0 [(.int .u8 0)] []) fun v10_1 =>
    bindV (ret v0_in) fun v11_2 =>
    bindV (appendA 5 1 1 v10_1 v11_2) fun v12_3 =>
    bindV (call 20 [v12_3]) fun v13_4 =>
    bindV (ret v13_4) fun v9_5 =>
    bindV (extractA v9_5 0) fun v14_6 =>
    bindV (extractA v9_5 1) fun v15_7 =>
    bindV (extractA v9_5 2) fun v16_8 =>
    bindV (ret v14_6) fun v3_9 =>
    bindV (ret v15_7) fun v4_10 =>
    bindV (ret v16_8) fun v5_11 =>
    bindV (ret v0_in) fun v18_12 =>
    bindV (call 21 [v18_12]) fun v19_13 =>
    bindV (ret v19_13) fun v17_14 =>
    bindV (extractA v17_14 0) fun v20_15 =>
    bindV (extractA v17_14 1) fun v21_16 =>
    bindV (extractA v17_14 2) fun v22_17 =>
    bindV (ret v20_15) fun v6_18 =>
    bindV (ret v21_16) fun v7_19 =>
    bindV (ret v22_17) fun v8_20 =>
    bindV (ret v3_9) fun v23_23 =>
    bindV (toStrA v23_23) fun v24_24 =>
    bindV (ret v6_18) fun v25_25 =>
    bindV (toStrA v25_25) fun v26_26 =>
    bindV (binA Try.prog .eql 9 v24_24 v26_26) fun v27_27 =>
    bindV (ret v27_27) fun v28_28 =>
    guardA true v28_28 (bindV (ret v4_10) fun v29_45 =>
    bindV (ret v7_19) fun v30_46 =>
    bindV (binA Try.prog .eql 3 v29_45 v30_46) fun v31_47 =>
    R7.g_44 call k v28_28 v5_11 v8_20 v31_47)
    (R7.g_44 call k v28_28 v5_11 v8_20 (.tuple #[]))

theorem R7.eq (call : FuncId → List Value → AM Value) (k : Nat) (v0_in : Value) : funcA Try.prog call k 7 [v0_in] = R7.top call k v0_in := by kernel_rfl

/-! ### 8: aqueduct/aqueductlaw03.HuffBack (2 arguments) -/
noncomputable def R8.d_23 (call : FuncId → List Value → AM Value) (k : Nat) (v4_22 : Value) : AM Value :=
  ret v4_22

noncomputable def R8.g_59 (call : FuncId → List Value → AM Value) (k : Nat) (v19_56 : Value) (v1_in : Value) (v24_57 : Value) : AM Value :=
  bindV (pickA v19_56 (.bool true) v24_57) fun v25_58 =>
    condA v25_58 (bindV (ret (.bool false)) fun v4_52 =>
    ret v4_52)
    (bindV (ret v1_in) fun v27_11 =>
    bindV (call 20 [v27_11]) fun v28_12 =>
    bindV (ret v28_12) fun v26_13 =>
    bindV (extractA v26_13 0) fun v29_14 =>
    bindV (extractA v26_13 1) fun v30_15 =>
    bindV (extractA v26_13 2) fun v31_16 =>
    bindV (ret v29_14) fun v8_17 =>
    bindV (ret v30_15) fun v9_18 =>
    bindV (ret v31_16) fun v7_19 =>
    bindV (ret v7_19) fun v32_24 =>
    bindV (binA Try.prog .neq 23 v32_24 (.int .i64 0)) fun v33_25 =>
    bindV (ret v33_25) fun v34_26 =>
    guardA false v34_26 (bindV (ret v8_17) fun v35_27 =>
    bindS fun s_28 =>
    bindV (call 18 [v35_27]) fun v36_29 =>
    bindV (toStrA v36_29) fun v37_30 =>
    bindV (ret v1_in) fun v38_31 =>
    bindV (toStrA v38_31) fun v39_32 =>
    thereV [s_28] (toStrA v38_31) v39_32 (
    bindV (binA Try.prog .eql 9 v37_30 v39_32) fun v40_33 =>
    bindV (pickA v34_26 (.bool true) v40_33) fun v41_34 =>
    bindV (ret v41_34) fun v42_35 =>
    guardA true v42_35 (bindV (call 16 []) fun v43_37 =>
    bindV (pickA v42_35 v43_37 (.bool false)) fun v44_38 =>
    bindV (ret v44_38) fun v4_39 =>
    R8.d_23 call k v4_39)
    (bindV (pickA v42_35 (.tuple #[]) (.bool false)) fun v44_40 =>
    bindV (ret v44_40) fun v4_41 =>
    R8.d_23 call k v4_41)))
    (bindV (pickA v34_26 (.bool true) (.tuple #[])) fun v41_42 =>
    bindV (ret v41_42) fun v42_43 =>
    guardA true v42_43 (bindV (call 16 []) fun v43_45 =>
    bindV (pickA v42_43 v43_45 (.bool false)) fun v44_46 =>
    bindV (ret v44_46) fun v4_47 =>
    R8.d_23 call k v4_47)
    (bindV (pickA v42_43 (.tuple #[]) (.bool false)) fun v44_48 =>
    bindV (ret v44_48) fun v4_49 =>
    R8.d_23 call k v4_49)))

noncomputable def R8.top (call : FuncId → List Value → AM Value) (k : Nat) (v0_in : Value) (v1_in : Value) : AM Value :=
  bindV (ret (.bool false)) fun v4_0 =>
    bindV (ret v0_in) fun v11_1 =>
    bindV (call 18 [v11_1]) fun v12_2 =>
    bindV (call 20 [v12_2]) fun v13_3 =>
    bindV (ret v13_3) fun v10_4 =>
    bindV (extractA v10_4 0) fun v14_5 =>
    bindV (extractA v10_4 1) fun v15_6 =>
    bindV (extractA v10_4 2) fun v16_7 =>
    bindV (ret v14_5) fun v5_8 =>
    bindV (ret v15_6) fun v6_9 =>
    bindV (ret v16_7) fun v7_10 =>
    bindV (ret v7_10) fun v17_54 =>
    bindV (binA Try.prog .neq 23 v17_54 (.int .i64 0)) fun v18_55 =>
    bindV (ret v18_55) fun v19_56 =>
    guardA false v19_56 (bindV (ret v5_8) fun v20_60 =>
    bindV (toStrA v20_60) fun v21_61 =>
    bindV (ret v0_in) fun v22_62 =>
    bindV (toStrA v22_62) fun v23_63 =>
    bindV (binA Try.prog .neq 9 v21_61 v23_63) fun v24_64 =>
    R8.g_59 call k v19_56 v1_in v24_64)
    (R8.g_59 call k v19_56 v1_in (.tuple #[]))

theorem R8.eq (call : FuncId → List Value → AM Value) (k : Nat) (v0_in : Value) (v1_in : Value) : funcA Try.prog call k 8 [v0_in, v1_in] = R8.top call k v0_in v1_in := by kernel_rfl

/-! ### 9: aqueduct/aqueductlaw03.HuffPads (2 arguments) -/
noncomputable def R9.g_70 (call : FuncId → List Value → AM Value) (k : Nat) (v94_66 : Value) (v95_67 : Value) : AM Value :=
  bindV (pickA v94_66 v95_67 (.bool false)) fun v96_68 =>
    bindV (ret v96_68) fun v4_69 =>
    ret v4_69

noncomputable def R9.g_72 (call : FuncId → List Value → AM Value) (k : Nat) (v83_61 : Value) (v92_64 : Value) : AM Value :=
  bindV (pickA v83_61 (.bool true) v92_64) fun v93_65 =>
    bindV (ret v93_65) fun v94_66 =>
    guardA true v94_66 (bindV (call 16 []) fun v95_71 =>
    R9.g_70 call k v94_66 v95_71)
    (R9.g_70 call k v94_66 (.tuple #[]))

noncomputable def R9.g_74 (call : FuncId → List Value → AM Value) (k : Nat) (v83_61 : Value) (v86_62 : Value) (v91_63 : Value) : AM Value :=
  guardA false v83_61 (bindV (pickA v86_62 v91_63 (.bool false)) fun v92_73 =>
    R9.g_72 call k v83_61 v92_73)
    (R9.g_72 call k v83_61 (.tuple #[]))

noncomputable def R9.g_80 (call : FuncId → List Value → AM Value) (k : Nat) (v0_in : Value) (v11_51 : Value) (v83_61 : Value) (v86_62 : Value) : AM Value :=
  guardA true v86_62 (bindV (ret v11_51) fun v87_75 =>
    bindV (toStrA v87_75) fun v88_76 =>
    bindV (ret v0_in) fun v89_77 =>
    bindV (toStrA v89_77) fun v90_78 =>
    bindV (binA Try.prog .neq 9 v88_76 v90_78) fun v91_79 =>
    R9.g_74 call k v83_61 v86_62 v91_79)
    (R9.g_74 call k v83_61 v86_62 (.tuple #[]))

noncomputable def R9.g_84 (call : FuncId → List Value → AM Value) (k : Nat) (v0_in : Value) (v11_51 : Value) (v77_58 : Value) (v8_53 : Value) (v81_59 : Value) : AM Value :=
  bindV (pickA v77_58 v81_59 (.bool false)) fun v82_60 =>
    bindV (ret v82_60) fun v83_61 =>
    guardA false v83_61 (bindV (ret v8_53) fun v84_81 =>
    bindV (binA Try.prog .eql 23 v84_81 (.int .i64 0)) fun v85_82 =>
    bindV (ret v85_82) fun v86_83 =>
    R9.g_80 call k v0_in v11_51 v83_61 v86_83)
    (R9.g_80 call k v0_in v11_51 v83_61 (.tuple #[]))

noncomputable def R9.g_99 (call : FuncId → List Value → AM Value) (k : Nat) (v0_in : Value) (v1_in : Value) (v42_96 : Value) (v5_3 : Value) (v9_21 : Value) (v45_97 : Value) : AM Value :=
  bindV (pickA v42_96 (.bool true) v45_97) fun v46_98 =>
    condA v46_98 (bindV (call 16 []) fun v47_91 =>
    bindV (ret v47_91) fun v4_92 =>
    ret v4_92)
    (bindV (buildSliceA 5 1 0 [(.int .u8 0)] []) fun v48_22 =>
    bindV (ret v5_3) fun v49_23 =>
    bindV (appendA 5 1 1 v48_22 v49_23) fun v50_24 =>
    bindV (ret v50_24) fun v10_25 =>
    bindV (ret v10_25) fun v51_26 =>
    bindV (ret v10_25) fun v52_27 =>
    bindV (lenA v52_27) fun v53_28 =>
    bindV (binA Try.prog .sub 3 v53_28 (.int .i64 1)) fun v54_29 =>
    bindV (ret v10_25) fun v55_30 =>
    bindV (ret v10_25) fun v56_31 =>
    bindV (lenA v56_31) fun v57_32 =>
    bindV (binA Try.prog .sub 3 v57_32 (.int .i64 1)) fun v58_33 =>
    bindV (indexAddrA 1 v55_30 v58_33) fun v59_34 =>
    bindV (loadA none v59_34) fun v60_35 =>
    bindV (ret v1_in) fun v61_36 =>
    bindV (convIntA .u64 v61_36) fun v62_37 =>
    bindV (ret v9_21) fun v63_38 =>
    bindV (convIntA .u64 v63_38) fun v64_39 =>
    bindV (binA Try.prog .rem 31 v62_37 v64_39) fun v65_40 =>
    bindV (binA Try.prog .shl 5 (.int .u8 1) v65_40) fun v66_41 =>
    bindV (binA Try.prog .sub 5 v60_35 v66_41) fun v67_42 =>
    bindV (indexAddrA 1 v51_26 v54_29) fun v68_43 =>
    bindV (storeA 1 v68_43 v67_42) fun _ =>
    bindV (ret v10_25) fun v70_45 =>
    bindV (call 20 [v70_45]) fun v71_46 =>
    bindV (ret v71_46) fun v69_47 =>
    bindV (extractA v69_47 0) fun v72_48 =>
    bindV (extractA v69_47 1) fun v73_49 =>
    bindV (extractA v69_47 2) fun v74_50 =>
    bindV (ret v72_48) fun v11_51 =>
    bindV (ret v73_49) fun v7_52 =>
    bindV (ret v74_50) fun v8_53 =>
    bindV (ret v8_53) fun v75_56 =>
    bindV (binA Try.prog .eql 23 v75_56 (.int .i64 30)) fun v76_57 =>
    bindV (ret v76_57) fun v77_58 =>
    guardA true v77_58 (bindV (ret v7_52) fun v78_85 =>
    bindV (ret v10_25) fun v79_86 =>
    bindV (lenA v79_86) fun v80_87 =>
    bindV (binA Try.prog .eql 3 v78_85 v80_87) fun v81_88 =>
    R9.g_84 call k v0_in v11_51 v77_58 v8_53 v81_88)
    (R9.g_84 call k v0_in v11_51 v77_58 v8_53 (.tuple #[])))

noncomputable def R9.b_112 (call : FuncId → List Value → AM Value) (k : Nat) (v0_in : Value) (v1_in : Value) (v5_3 : Value) (rec_1_104 : Value → AM Value) (v9_105 : Value) : AM Value :=
  bindV (ret v9_105) fun v36_110 =>
    bindV (binA Try.prog .lss 3 v36_110 (.int .i64 0)) fun v37_111 =>
    condA v37_111 (bindV (ret v9_105) fun v38_106 =>
    bindV (binA Try.prog .add 3 v38_106 (.int .i64 8)) fun v39_107 =>
    bindV (ret v39_107) fun v9_108 =>
    rec_1_104 v9_108)
    (bindV (ret v9_105) fun v40_94 =>
    bindV (binA Try.prog .eql 3 v40_94 (.int .i64 0)) fun v41_95 =>
    bindV (ret v41_95) fun v42_96 =>
    guardA false v42_96 (bindV (ret v5_3) fun v43_100 =>
    bindV (lenA v43_100) fun v44_101 =>
    bindV (binA Try.prog .eql 3 v44_101 (.int .i64 0)) fun v45_102 =>
    R9.g_99 call k v0_in v1_in v42_96 v5_3 v9_105 v45_102)
    (R9.g_99 call k v0_in v1_in v42_96 v5_3 v9_105 (.tuple #[])))

noncomputable def R9.g_122 (call : FuncId → List Value → AM Value) (k : Nat) (v0_in : Value) (v1_in : Value) (v26_119 : Value) (v5_3 : Value) (v31_120 : Value) : AM Value :=
  bindV (pickA v26_119 (.bool true) v31_120) fun v32_121 =>
    condA v32_121 (bindV (ret (.bool false)) fun v4_115 =>
    ret v4_115)
    (bindV (ret v0_in) fun v33_17 =>
    bindV (call 22 [v33_17]) fun v34_18 =>
    bindV (unA .neg v34_18) fun v35_19 =>
    bindV (ret v35_19) fun v9_20 =>
    loop1 (R9.b_112 call k v0_in v1_in v5_3) k v9_20)

noncomputable def R9.top (call : FuncId → List Value → AM Value) (k : Nat) (v0_in : Value) (v1_in : Value) : AM Value :=
  bindV (ret (.bool false)) fun v4_0 =>
    bindV (ret v0_in) fun v12_1 =>
    bindV (call 18 [v12_1]) fun v13_2 =>
    bindV (ret v13_2) fun v5_3 =>
    bindV (buildSliceA 5 1 0 [(.int .u8 0)] []) fun v15_4 =>
    bindV (ret v5_3) fun v16_5 =>
    bindV (appendA 5 1 1 v15_4 v16_5) fun v17_6 =>
    bindV (buildSliceA 5 1 1 [(.int .u8 0)] [(0, (.int .u8 255))]) fun v18_7 =>
    bindV (appendA 5 1 1 v17_6 v18_7) fun v19_8 =>
    bindV (call 20 [v19_8]) fun v20_9 =>
    bindV (ret v20_9) fun v14_10 =>
    bindV (extractA v14_10 0) fun v21_11 =>
    bindV (extractA v14_10 1) fun v22_12 =>
    bindV (extractA v14_10 2) fun v23_13 =>
    bindV (ret v21_11) fun v6_14 =>
    bindV (ret v22_12) fun v7_15 =>
    bindV (ret v23_13) fun v8_16 =>
    bindV (ret v8_16) fun v24_117 =>
    bindV (binA Try.prog .neq 23 v24_117 (.int .i64 30)) fun v25_118 =>
    bindV (ret v25_118) fun v26_119 =>
    guardA false v26_119 (bindV (ret v7_15) fun v27_123 =>
    bindV (ret v5_3) fun v28_124 =>
    bindV (lenA v28_124) fun v29_125 =>
    bindV (binA Try.prog .add 3 v29_125 (.int .i64 1)) fun v30_126 =>
    bindV (binA Try.prog .neq 3 v27_123 v30_126) fun v31_127 =>
    R9.g_122 call k v0_in v1_in v26_119 v5_3 v31_127)
    (R9.g_122 call k v0_in v1_in v26_119 v5_3 (.tuple #[]))

theorem R9.eq (call : FuncId → List Value → AM Value) (k : Nat) (v0_in : Value) (v1_in : Value) : funcA Try.prog call k 9 [v0_in, v1_in] = R9.top call k v0_in v1_in := by kernel_rfl

/-! ### 14: aqueduct/huff.Code (1 arguments) -/
noncomputable def R14.g_25 (call : FuncId → List Value → AM Value) (k : Nat) (v0_in : Value) (v8_22 : Value) (v10_23 : Value) : AM Value :=
  bindV (pickA v8_22 (.bool true) v10_23) fun v11_24 =>
    condA v11_24 (bindV (ret (.int .u32 0)) fun v2_16 =>
    bindV (ret (.int .i64 0)) fun v3_17 =>
    bindV (ret (.int .i64 1)) fun v4_18 =>
    ret (.tuple #[v2_16, v3_17, v4_18]))
    (bindV (call 30 []) fun v12_3 =>
    bindV (ret v0_in) fun v13_4 =>
    bindV (indexA 257 2 (some 2) v12_3 v13_4) fun v14_5 =>
    bindV (newA [(.int .u32 0), (.int .i64 0)] 58) fun v5_6 =>
    bindV (storeA 2 v5_6 v14_5) fun _ =>
    bindV (fieldAddrA 0 v5_6) fun v15_7 =>
    bindV (loadA none v15_7) fun v16_8 =>
    bindV (fieldAddrA 1 v5_6) fun v17_9 =>
    bindV (loadA none v17_9) fun v18_10 =>
    bindV (ret v16_8) fun v2_11 =>
    bindV (ret v18_10) fun v3_12 =>
    bindV (ret (.int .i64 0)) fun v4_13 =>
    ret (.tuple #[v2_11, v3_12, v4_13]))

noncomputable def R14.top (call : FuncId → List Value → AM Value) (k : Nat) (v0_in : Value) : AM Value :=
  bindV (ret (.int .u32 0)) fun v2_0 =>
    bindV (ret (.int .i64 0)) fun v3_1 =>
    bindV (ret (.int .i64 0)) fun v4_2 =>
    bindV (ret v0_in) fun v6_20 =>
    bindV (binA Try.prog .lss 3 v6_20 (.int .i64 0)) fun v7_21 =>
    bindV (ret v7_21) fun v8_22 =>
    guardA false v8_22 (bindV (ret v0_in) fun v9_26 =>
    bindV (binA Try.prog .gtr 3 v9_26 (.int .i64 256)) fun v10_27 =>
    R14.g_25 call k v0_in v8_22 v10_27)
    (R14.g_25 call k v0_in v8_22 (.tuple #[]))

theorem R14.eq (call : FuncId → List Value → AM Value) (k : Nat) (v0_in : Value) : funcA Try.prog call k 14 [v0_in] = R14.top call k v0_in := by kernel_rfl

/-! ### 15: aqueduct/aqueductref03.Code (1 arguments) -/
noncomputable def R15.b_62 (call : FuncId → List Value → AM Value) (k : Nat) (rec_3_12 : Value → Value → Value → AM Value) (v0_in : Value) (v6_23 : Value) (v7_6 : Value) (v8_15 : Value) (rec_2_25 : Value → Value → AM Value) (v5_26 : Value) (v9_27 : Value) : AM Value :=
  bindV (ret v9_27) fun v28_54 =>
    bindV (ret v7_6) fun v29_55 =>
    bindV (ret v8_15) fun v30_56 =>
    bindV (indexAddrA 2 v29_55 v30_56) fun v31_57 =>
    bindV (fieldAddrA 1 v31_57) fun v32_58 =>
    bindV (loadA none v32_58) fun v33_59 =>
    bindV (lenA v33_59) fun v34_60 =>
    bindV (binA Try.prog .lss 3 v28_54 v34_60) fun v35_61 =>
    condA v35_61 (bindV (ret v7_6) fun v38_37 =>
    bindV (ret v8_15) fun v39_38 =>
    bindV (indexAddrA 2 v38_37 v39_38) fun v40_39 =>
    bindV (fieldAddrA 1 v40_39) fun v41_40 =>
    bindV (loadA none v41_40) fun v42_41 =>
    bindV (ret v9_27) fun v43_42 =>
    bindV (indexAddrA 1 v42_41 v43_42) fun v44_43 =>
    bindV (loadA none v44_43) fun v45_44 =>
    bindV (ret v0_in) fun v46_45 =>
    bindV (binA Try.prog .eql 3 v45_44 v46_45) fun v47_46 =>
    condA v47_46 (bindV (ret v5_26) fun v48_47 =>
    bindV (convIntA .u32 v48_47) fun v49_48 =>
    bindV (ret v6_23) fun v50_49 =>
    bindV (ret v49_48) fun v2_50 =>
    bindV (ret v50_49) fun v3_51 =>
    bindV (ret (.int .i64 0)) fun v4_52 =>
    ret (.tuple #[v2_50, v3_51, v4_52]))
    (bindV (ret v5_26) fun v51_33 =>
    bindV (binA Try.prog .add 61 v51_33 (.int .u64 1)) fun v52_34 =>
    bindV (ret v52_34) fun v5_35 =>
    bindV (ret v9_27) fun v36_29 =>
    bindV (binA Try.prog .add 3 v36_29 (.int .i64 1)) fun v37_30 =>
    bindV (ret v37_30) fun v9_31 =>
    rec_2_25 v5_35 v9_31))
    (bindV (ret v8_15) fun v15_18 =>
    bindV (binA Try.prog .add 3 v15_18 (.int .i64 1)) fun v16_19 =>
    bindV (ret v16_19) fun v8_20 =>
    rec_3_12 v5_26 v6_23 v8_20)

noncomputable def R15.b_81 (call : FuncId → List Value → AM Value) (k : Nat) (rec_3_12 : Value → Value → Value → AM Value) (v0_in : Value) (v7_6 : Value) (v8_15 : Value) (rec_2_64 : Value → Value → AM Value) (v5_65 : Value) (v6_66 : Value) : AM Value :=
  bindV (ret v6_66) fun v17_74 =>
    bindV (ret v7_6) fun v18_75 =>
    bindV (ret v8_15) fun v19_76 =>
    bindV (indexAddrA 2 v18_75 v19_76) fun v20_77 =>
    bindV (fieldAddrA 0 v20_77) fun v21_78 =>
    bindV (loadA none v21_78) fun v22_79 =>
    bindV (binA Try.prog .lss 3 v17_74 v22_79) fun v23_80 =>
    condA v23_80 (bindV (ret v5_65) fun v24_67 =>
    bindV (binA Try.prog .mul 61 v24_67 (.int .u64 2)) fun v25_68 =>
    bindV (ret v25_68) fun v5_69 =>
    bindV (ret v6_66) fun v26_70 =>
    bindV (binA Try.prog .add 3 v26_70 (.int .i64 1)) fun v27_71 =>
    bindV (ret v27_71) fun v6_72 =>
    rec_2_64 v5_69 v6_72)
    (bindV (ret (.int .i64 0)) fun v9_24 =>
    loop2 (R15.b_62 call k rec_3_12 v0_in v6_66 v7_6 v8_15) k v5_65 v9_24)

noncomputable def R15.b_87 (call : FuncId → List Value → AM Value) (k : Nat) (v0_in : Value) (v7_6 : Value) (rec_3_12 : Value → Value → Value → AM Value) (v5_13 : Value) (v6_14 : Value) (v8_15 : Value) : AM Value :=
  bindV (ret v8_15) fun v11_83 =>
    bindV (ret v7_6) fun v12_84 =>
    bindV (lenA v12_84) fun v13_85 =>
    bindV (binA Try.prog .lss 3 v11_83 v13_85) fun v14_86 =>
    condA v14_86 (loop2 (R15.b_81 call k rec_3_12 v0_in v7_6 v8_15) k v5_13 v6_14)
    (bindV (ret (.int .u32 0)) fun v2_7 =>
    bindV (ret (.int .i64 0)) fun v3_8 =>
    bindV (ret (.int .i64 1)) fun v4_9 =>
    ret (.tuple #[v2_7, v3_8, v4_9]))

noncomputable def R15.top (call : FuncId → List Value → AM Value) (k : Nat) (v0_in : Value) : AM Value :=
  bindV (ret (.int .u32 0)) fun v2_0 =>
    bindV (ret (.int .i64 0)) fun v3_1 =>
    bindV (ret (.int .i64 0)) fun v4_2 =>
    bindV (ret (.int .u64 0)) fun v5_3 =>
    bindV (ret (.int .i64 0)) fun v6_4 =>
    bindV (call 31 []) fun v10_5 =>
    bindV (ret v10_5) fun v7_6 =>
    bindV (ret (.int .i64 0)) fun v8_11 =>
    loop3 (R15.b_87 call k v0_in v7_6) k v5_3 v6_4 v8_11

theorem R15.eq (call : FuncId → List Value → AM Value) (k : Nat) (v0_in : Value) : funcA Try.prog call k 15 [v0_in] = R15.top call k v0_in := by kernel_rfl

/-! ### 16: aqueduct/aqueductlaw03.awake (0 arguments) -/
noncomputable def R16.g_20 (call : FuncId → List Value → AM Value) (k : Nat) (v15_16 : Value) (v17_17 : Value) : AM Value :=
  bindV (pickA v15_16 v17_17 (.bool false)) fun v18_18 =>
    bindV (ret v18_18) fun v0_19 =>
    ret v0_19

noncomputable def R16.g_23 (call : FuncId → List Value → AM Value) (k : Nat) (v11_13 : Value) (v3_8 : Value) (v13_14 : Value) : AM Value :=
  bindV (pickA v11_13 v13_14 (.bool false)) fun v14_15 =>
    bindV (ret v14_15) fun v15_16 =>
    guardA true v15_16 (bindV (ret v3_8) fun v16_21 =>
    bindV (binA Try.prog .eql 23 v16_21 (.int .i64 0)) fun v17_22 =>
    R16.g_20 call k v15_16 v17_22)
    (R16.g_20 call k v15_16 (.tuple #[]))

noncomputable def R16.top (call : FuncId → List Value → AM Value) (k : Nat) : AM Value :=
  bindV (ret (.bool false)) fun v0_0 =>
    bindV (call 14 [(.int .i64 256)]) fun v5_1 =>
    bindV (ret v5_1) fun v4_2 =>
    bindV (extractA v4_2 0) fun v6_3 =>
    bindV (extractA v4_2 1) fun v7_4 =>
    bindV (extractA v4_2 2) fun v8_5 =>
    bindV (ret v6_3) fun v1_6 =>
    bindV (ret v7_4) fun v2_7 =>
    bindV (ret v8_5) fun v3_8 =>
    bindV (ret v1_6) fun v9_11 =>
    bindV (binA Try.prog .eql 22 v9_11 (.int .u32 1073741823)) fun v10_12 =>
    bindV (ret v10_12) fun v11_13 =>
    guardA true v11_13 (bindV (ret v2_7) fun v12_24 =>
    bindV (binA Try.prog .eql 3 v12_24 (.int .i64 30)) fun v13_25 =>
    R16.g_23 call k v11_13 v3_8 v13_25)
    (R16.g_23 call k v11_13 v3_8 (.tuple #[]))

theorem R16.eq (call : FuncId → List Value → AM Value) (k : Nat) : funcA Try.prog call k 16 [] = R16.top call k := by kernel_rfl

/-! ### 17: aqueduct/huff.Length (1 arguments) -/
noncomputable def R17.b_32 (call : FuncId → List Value → AM Value) (k : Nat) (v3_2 : Value) (v8_10 : Value) (v9_11 : Value) (rec_2_13 : Value → Value → AM Value) (v4_14 : Value) (v10_15 : Value) : AM Value :=
  bindV (binA Try.prog .lss 3 v10_15 v9_11) fun v11_16 =>
    condA v11_16 (bindV (indexAddrA 1 v8_10 v10_15) fun v12_21 =>
    bindV (loadA none v12_21) fun v13_22 =>
    bindV (ret v13_22) fun v6_23 =>
    bindV (ret v4_14) fun v14_24 =>
    bindV (ret v6_23) fun v15_25 =>
    bindV (indexArrAddrA 257 2 v3_2 v15_25) fun v16_26 =>
    bindV (fieldAddrA 1 v16_26) fun v17_27 =>
    bindV (loadA none v17_27) fun v18_28 =>
    bindV (binA Try.prog .add 3 v14_24 v18_28) fun v19_29 =>
    bindV (ret v19_29) fun v4_30 =>
    bindV (binA Try.prog .add 3 v10_15 (.int .i64 1)) fun v20_18 =>
    bindV (ret v20_18) fun v10_19 =>
    rec_2_13 v4_30 v10_19)
    (bindV (ret v4_14) fun v21_5 =>
    bindV (binA Try.prog .add 3 v21_5 (.int .i64 7)) fun v22_6 =>
    bindV (binA Try.prog .quo 3 v22_6 (.int .i64 8)) fun v23_7 =>
    bindV (ret v23_7) fun v2_8 =>
    ret v2_8)

noncomputable def R17.top (call : FuncId → List Value → AM Value) (k : Nat) (v0_in : Value) : AM Value :=
  bindV (ret (.int .i64 0)) fun v2_0 =>
    bindV (call 30 []) fun v7_1 =>
    bindV (newA [(.int .u32 0), (.int .i64 0), (.int .u32 0), (.int .i64 0), (.int .u32 0), (.int .i64 0), (.int .u32 0), (.int .i64 0), (.int .u32 0), (.int .i64 0), (.int .u32 0), (.int .i64 0), (.int .u32 0), (.int .i64 0), (.int .u32 0), (.int .i64 0), (.int .u32 0), (.int .i64 0), (.int .u32 0), (.int .i64 0), (.int .u32 0), (.int .i64 0), (.int .u32 0), (.int .i64 0), (.int .u32 0), (.int .i64 0), (.int .u32 0), (.int .i64 0), (.int .u32 0), (.int .i64 0), (.int .u32 0), (.int .i64 0), (.int .u32 0), (.int .i64 0), (.int .u32 0), (.int .i64 0), (.int .u32 0), (.int .i64 0), (.int .u32 0), (.int .i64 0), (.int .u32 0), (.int .i64 0), (.int .u32 0), (.int .i64 0), (.int .u32 0), (.int .i64 0), (.int .u32 0), (.int .i64 0), (.int .u32 0), (.int .i64 0), (.int .u32 0), (.int .i64 0), (.int .u32 0), (.int .i64 0), (.int .u32 0), (.int .i64 0), (.int .u32 0), (.int .i64 0), (.int .u32 0), (.int .i64 0), (.int .u32 0), (.int .i64 0), (.int .u32 0), (.int .i64 0), (.int .u32 0), (.int .i64 0), (.int .u32 0), (.int .i64 0), (.int .u32 0), (.int .i64 0), (.int .u32 0), (.int .i64 0), (.int .u32 0), (.int .i64 0), (.int .u32 0), (.int .i64 0), (.int .u32 0), (.int .i64 0), (.int .u32 0), (.int .i64 0), (.int .u32 0), (.int .i64 0), (.int .u32 0), (.int .i64 0), (.int .u32 0), (.int .i64 0), (.int .u32 0), (.int .i64 0), (.int .u32 0), (.int .i64 0), (.int .u32 0), (.int .i64 0), (.int .u32 0), (.int .i64 0), (.int .u32 0), (.int .i64 0), (.int .u32 0), (.int .i64 0), (.int .u32 0), (.int .i64 0), (.int .u32 0), (.int .i64 0), (.int .u32 0), (.int .i64 0), (.int .u32 0), (.int .i64 0), (.int .u32 0), (.int .i64 0), (.int .u32 0), (.int .i64 0), (.int .u32 0), (.int .i64 0), (.int .u32 0), (.int .i64 0), (.int .u32 0), (.int .i64 0), (.int .u32 0), (.int .i64 0), (.int .u32 0), (.int .i64 0), (.int .u32 0), (.int .i64 0), (.int .u32 0), (.int .i64 0), (.int .u32 0), (.int .i64 0), (.int .u32 0), (.int .i64 0), (.int .u32 0), (.int .i64 0), (.int .u32 0), (.int .i64 0), (.int .u32 0), (.int .i64 0), (.int .u32 0), (.int .i64 0), (.int .u32 0), (.int .i64 0), (.int .u32 0), (.int .i64 0), (.int .u32 0), (.int .i64 0), (.int .u32 0), (.int .i64 0), (.int .u32 0), (.int .i64 0), (.int .u32 0), (.int .i64 0), (.int .u32 0), (.int .i64 0), (.int .u32 0), (.int .i64 0), (.int .u32 0), (.int .i64 0), (.int .u32 0), (.int .i64 0), (.int .u32 0), (.int .i64 0), (.int .u32 0), (.int .i64 0), (.int .u32 0), (.int .i64 0), (.int .u32 0), (.int .i64 0), (.int .u32 0), (.int .i64 0), (.int .u32 0), (.int .i64 0), (.int .u32 0), (.int .i64 0), (.int .u32 0), (.int .i64 0), (.int .u32 0), (.int .i64 0), (.int .u32 0), (.int .i64 0), (.int .u32 0), (.int .i64 0), (.int .u32 0), (.int .i64 0), (.int .u32 0), (.int .i64 0), (.int .u32 0), (.int .i64 0), (.int .u32 0), (.int .i64 0), (.int .u32 0), (.int .i64 0), (.int .u32 0), (.int .i64 0), (.int .u32 0), (.int .i64 0), (.int .u32 0), (.int .i64 0), (.int .u32 0), (.int .i64 0), (.int .u32 0), (.int .i64 0), (.int .u32 0), (.int .i64 0), (.int .u32 0), (.int .i64 0), (.int .u32 0), (.int .i64 0), (.int .u32 0), (.int .i64 0), (.int .u32 0), (.int .i64 0), (.int .u32 0), (.int .i64 0), (.int .u32 0), (.int .i64 0), (.int .u32 0), (.int .i64 0), (.int .u32 0), (.int .i64 0), (.int .u32 0), (.int .i64 0), (.int .u32 0), (.int .i64 0), (.int .u32 0), (.int .i64 0), (.int .u32 0), (.int .i64 0), (.int .u32 0), (.int .i64 0), (.int .u32 0), (.int .i64 0), (.int .u32 0), (.int .i64 0), (.int .u32 0), (.int .i64 0), (.int .u32 0), (.int .i64 0), (.int .u32 0), (.int .i64 0), (.int .u32 0), (.int .i64 0), (.int .u32 0), (.int .i64 0), (.int .u32 0), (.int .i64 0), (.int .u32 0), (.int .i64 0), (.int .u32 0), (.int .i64 0), (.int .u32 0), (.int .i64 0), (.int .u32 0), (.int .i64 0), (.int .u32 0), (.int .i64 0), (.int .u32 0), (.int .i64 0), (.int .u32 0), (.int .i64 0), (.int .u32 0), (.int .i64 0), (.int .u32 0), (.int .i64 0), (.int .u32 0), (.int .i64 0), (.int .u32 0), (.int .i64 0), (.int .u32 0), (.int .i64 0), (.int .u32 0), (.int .i64 0), (.int .u32 0), (.int .i64 0), (.int .u32 0), (.int .i64 0), (.int .u32 0), (.int .i64 0), (.int .u32 0), (.int .i64 0), (.int .u32 0), (.int .i64 0), (.int .u32 0), (.int .i64 0), (.int .u32 0), (.int .i64 0), (.int .u32 0), (.int .i64 0), (.int .u32 0), (.int .i64 0), (.int .u32 0), (.int .i64 0), (.int .u32 0), (.int .i64 0), (.int .u32 0), (.int .i64 0), (.int .u32 0), (.int .i64 0), (.int .u32 0), (.int .i64 0), (.int .u32 0), (.int .i64 0), (.int .u32 0), (.int .i64 0), (.int .u32 0), (.int .i64 0), (.int .u32 0), (.int .i64 0), (.int .u32 0), (.int .i64 0), (.int .u32 0), (.int .i64 0), (.int .u32 0), (.int .i64 0), (.int .u32 0), (.int .i64 0), (.int .u32 0), (.int .i64 0), (.int .u32 0), (.int .i64 0), (.int .u32 0), (.int .i64 0), (.int .u32 0), (.int .i64 0), (.int .u32 0), (.int .i64 0), (.int .u32 0), (.int .i64 0), (.int .u32 0), (.int .i64 0), (.int .u32 0), (.int .i64 0), (.int .u32 0), (.int .i64 0), (.int .u32 0), (.int .i64 0), (.int .u32 0), (.int .i64 0), (.int .u32 0), (.int .i64 0), (.int .u32 0), (.int .i64 0), (.int .u32 0), (.int .i64 0), (.int .u32 0), (.int .i64 0), (.int .u32 0), (.int .i64 0), (.int .u32 0), (.int .i64 0), (.int .u32 0), (.int .i64 0), (.int .u32 0), (.int .i64 0), (.int .u32 0), (.int .i64 0), (.int .u32 0), (.int .i64 0), (.int .u32 0), (.int .i64 0), (.int .u32 0), (.int .i64 0), (.int .u32 0), (.int .i64 0), (.int .u32 0), (.int .i64 0), (.int .u32 0), (.int .i64 0), (.int .u32 0), (.int .i64 0), (.int .u32 0), (.int .i64 0), (.int .u32 0), (.int .i64 0), (.int .u32 0), (.int .i64 0), (.int .u32 0), (.int .i64 0), (.int .u32 0), (.int .i64 0), (.int .u32 0), (.int .i64 0), (.int .u32 0), (.int .i64 0), (.int .u32 0), (.int .i64 0), (.int .u32 0), (.int .i64 0), (.int .u32 0), (.int .i64 0), (.int .u32 0), (.int .i64 0), (.int .u32 0), (.int .i64 0), (.int .u32 0), (.int .i64 0), (.int .u32 0), (.int .i64 0), (.int .u32 0), (.int .i64 0), (.int .u32 0), (.int .i64 0), (.int .u32 0), (.int .i64 0), (.int .u32 0), (.int .i64 0), (.int .u32 0), (.int .i64 0), (.int .u32 0), (.int .i64 0), (.int .u32 0), (.int .i64 0), (.int .u32 0), (.int .i64 0), (.int .u32 0), (.int .i64 0), (.int .u32 0), (.int .i64 0), (.int .u32 0), (.int .i64 0), (.int .u32 0), (.int .i64 0), (.int .u32 0), (.int .i64 0), (.int .u32 0), (.int .i64 0), (.int .u32 0), (.int .i64 0), (.int .u32 0), (.int .i64 0), (.int .u32 0), (.int .i64 0), (.int .u32 0), (.int .i64 0), (.int .u32 0), (.int .i64 0), (.int .u32 0), (.int .i64 0), (.int .u32 0), (.int .i64 0), (.int .u32 0), (.int .i64 0), (.int .u32 0), (.int .i64 0), (.int .u32 0), (.int .i64 0), (.int .u32 0), (.int .i64 0), (.int .u32 0), (.int .i64 0), (.int .u32 0), (.int .i64 0), (.int .u32 0), (.int .i64 0), (.int .u32 0), (.int .i64 0), (.int .u32 0), (.int .i64 0), (.int .u32 0), (.int .i64 0), (.int .u32 0), (.int .i64 0), (.int .u32 0), (.int .i64 0), (.int .u32 0), (.int .i64 0), (.int .u32 0), (.int .i64 0), (.int .u32 0), (.int .i64 0), (.int .u32 0), (.int .i64 0), (.int .u32 0), (.int .i64 0), (.int .u32 0), (.int .i64 0), (.int .u32 0), (.int .i64 0), (.int .u32 0), (.int .i64 0), (.int .u32 0), (.int .i64 0), (.int .u32 0), (.int .i64 0), (.int .u32 0), (.int .i64 0), (.int .u32 0), (.int .i64 0), (.int .u32 0), (.int .i64 0), (.int .u32 0), (.int .i64 0), (.int .u32 0), (.int .i64 0), (.int .u32 0), (.int .i64 0), (.int .u32 0), (.int .i64 0), (.int .u32 0), (.int .i64 0), (.int .u32 0), (.int .i64 0), (.int .u32 0), (.int .i64 0), (.int .u32 0), (.int .i64 0), (.int .u32 0), (.int .i64 0), (.int .u32 0), (.int .i64 0), (.int .u32 0), (.int .i64 0), (.int .u32 0), (.int .i64 0), (.int .u32 0), (.int .i64 0), (.int .u32 0), (.int .i64 0)] 59) fun v3_2 =>
    bindV (storeA 514 v3_2 v7_1) fun _ =>
    bindV (ret (.int .i64 0)) fun v4_3 =>
    bindV (ret v0_in) fun v8_10 =>
    bindV (lenA v8_10) fun v9_11 =>
    bindV (ret (.int .i64 0)) fun v10_12 =>
    loop2 (R17.b_32 call k v3_2 v8_10 v9_11) k v4_3 v10_12

theorem R17.eq (call : FuncId → List Value → AM Value) (k : Nat) (v0_in : Value) : funcA Try.prog call k 17 [v0_in] = R17.top call k v0_in := by kernel_rfl

/-! ### 18: aqueduct/huff.Encode (1 arguments) -/
noncomputable def R18.j_10 (call : FuncId → List Value → AM Value) (k : Nat) (v3_1 : Value) : AM Value :=
  bindV (loadA none v3_1) fun v35_8 =>
    bindV (ret v35_8) fun v2_9 =>
    ret v2_9

noncomputable def R18.b_42 (call : FuncId → List Value → AM Value) (k : Nat) (v12_24 : Value) (v13_25 : Value) (v3_1 : Value) (v4_3 : Value) (v6_5 : Value) (v7_7 : Value) (rec_1_27 : Value → AM Value) (v14_28 : Value) : AM Value :=
  bindV (binA Try.prog .lss 3 v14_28 v13_25) fun v15_29 =>
    condA v15_29 (bindV (indexAddrA 1 v12_24 v14_28) fun v16_33 =>
    bindV (loadA none v16_33) fun v17_34 =>
    bindV (ret v17_34) fun v9_35 =>
    bindV (ret v7_7) fun v18_36 =>
    bindV (ret v9_35) fun v19_37 =>
    bindV (indexArrAddrA 257 2 v4_3 v19_37) fun v20_38 =>
    bindV (loadA (some 2) v20_38) fun v21_39 =>
    bindV (callA call v18_36 [v21_39]) fun v22_40 =>
    bindV (binA Try.prog .add 3 v14_28 (.int .i64 1)) fun v23_30 =>
    bindV (ret v23_30) fun v14_31 =>
    rec_1_27 v14_31)
    (bindV (loadA none v6_5) fun v24_11 =>
    bindV (binA Try.prog .gtr 3 v24_11 (.int .i64 0)) fun v25_12 =>
    condA v25_12 (bindV (ret v7_7) fun v26_13 =>
    bindV (loadA none v6_5) fun v27_14 =>
    bindV (binA Try.prog .sub 3 (.int .i64 8) v27_14) fun v28_15 =>
    bindV (binA Try.prog .shl 22 (.int .u32 1) v28_15) fun v29_16 =>
    bindV (binA Try.prog .sub 22 v29_16 (.int .u32 1)) fun v30_17 =>
    bindV (loadA none v6_5) fun v31_18 =>
    bindV (binA Try.prog .sub 3 (.int .i64 8) v31_18) fun v32_19 =>
    bindV (buildA [(0, 1), (1, 1)] [(.int .u32 0), (.int .i64 0)] [(0, v30_17), (1, v32_19)]) fun v33_20 =>
    bindV (callA call v26_13 [v33_20]) fun v34_22 =>
    R18.j_10 call k v3_1)
    (R18.j_10 call k v3_1))

noncomputable def R18.top (call : FuncId → List Value → AM Value) (k : Nat) (v0_in : Value) : AM Value :=
  bindV (ret (.slice none 0 0)) fun v2_0 =>
    bindV (newA [(.slice none 0 0)] 33) fun v3_1 =>
    bindV (call 30 []) fun v10_2 =>
    bindV (newA [(.int .u32 0), (.int .i64 0), (.int .u32 0), (.int .i64 0), (.int .u32 0), (.int .i64 0), (.int .u32 0), (.int .i64 0), (.int .u32 0), (.int .i64 0), (.int .u32 0), (.int .i64 0), (.int .u32 0), (.int .i64 0), (.int .u32 0), (.int .i64 0), (.int .u32 0), (.int .i64 0), (.int .u32 0), (.int .i64 0), (.int .u32 0), (.int .i64 0), (.int .u32 0), (.int .i64 0), (.int .u32 0), (.int .i64 0), (.int .u32 0), (.int .i64 0), (.int .u32 0), (.int .i64 0), (.int .u32 0), (.int .i64 0), (.int .u32 0), (.int .i64 0), (.int .u32 0), (.int .i64 0), (.int .u32 0), (.int .i64 0), (.int .u32 0), (.int .i64 0), (.int .u32 0), (.int .i64 0), (.int .u32 0), (.int .i64 0), (.int .u32 0), (.int .i64 0), (.int .u32 0), (.int .i64 0), (.int .u32 0), (.int .i64 0), (.int .u32 0), (.int .i64 0), (.int .u32 0), (.int .i64 0), (.int .u32 0), (.int .i64 0), (.int .u32 0), (.int .i64 0), (.int .u32 0), (.int .i64 0), (.int .u32 0), (.int .i64 0), (.int .u32 0), (.int .i64 0), (.int .u32 0), (.int .i64 0), (.int .u32 0), (.int .i64 0), (.int .u32 0), (.int .i64 0), (.int .u32 0), (.int .i64 0), (.int .u32 0), (.int .i64 0), (.int .u32 0), (.int .i64 0), (.int .u32 0), (.int .i64 0), (.int .u32 0), (.int .i64 0), (.int .u32 0), (.int .i64 0), (.int .u32 0), (.int .i64 0), (.int .u32 0), (.int .i64 0), (.int .u32 0), (.int .i64 0), (.int .u32 0), (.int .i64 0), (.int .u32 0), (.int .i64 0), (.int .u32 0), (.int .i64 0), (.int .u32 0), (.int .i64 0), (.int .u32 0), (.int .i64 0), (.int .u32 0), (.int .i64 0), (.int .u32 0), (.int .i64 0), (.int .u32 0), (.int .i64 0), (.int .u32 0), (.int .i64 0), (.int .u32 0), (.int .i64 0), (.int .u32 0), (.int .i64 0), (.int .u32 0), (.int .i64 0), (.int .u32 0), (.int .i64 0), (.int .u32 0), (.int .i64 0), (.int .u32 0), (.int .i64 0), (.int .u32 0), (.int .i64 0), (.int .u32 0), (.int .i64 0), (.int .u32 0), (.int .i64 0), (.int .u32 0), (.int .i64 0), (.int .u32 0), (.int .i64 0), (.int .u32 0), (.int .i64 0), (.int .u32 0), (.int .i64 0), (.int .u32 0), (.int .i64 0), (.int .u32 0), (.int .i64 0), (.int .u32 0), (.int .i64 0), (.int .u32 0), (.int .i64 0), (.int .u32 0), (.int .i64 0), (.int .u32 0), (.int .i64 0), (.int .u32 0), (.int .i64 0), (.int .u32 0), (.int .i64 0), (.int .u32 0), (.int .i64 0), (.int .u32 0), (.int .i64 0), (.int .u32 0), (.int .i64 0), (.int .u32 0), (.int .i64 0), (.int .u32 0), (.int .i64 0), (.int .u32 0), (.int .i64 0), (.int .u32 0), (.int .i64 0), (.int .u32 0), (.int .i64 0), (.int .u32 0), (.int .i64 0), (.int .u32 0), (.int .i64 0), (.int .u32 0), (.int .i64 0), (.int .u32 0), (.int .i64 0), (.int .u32 0), (.int .i64 0), (.int .u32 0), (.int .i64 0), (.int .u32 0), (.int .i64 0), (.int .u32 0), (.int .i64 0), (.int .u32 0), (.int .i64 0), (.int .u32 0), (.int .i64 0), (.int .u32 0), (.int .i64 0), (.int .u32 0), (.int .i64 0), (.int .u32 0), (.int .i64 0), (.int .u32 0), (.int .i64 0), (.int .u32 0), (.int .i64 0), (.int .u32 0), (.int .i64 0), (.int .u32 0), (.int .i64 0), (.int .u32 0), (.int .i64 0), (.int .u32 0), (.int .i64 0), (.int .u32 0), (.int .i64 0), (.int .u32 0), (.int .i64 0), (.int .u32 0), (.int .i64 0), (.int .u32 0), (.int .i64 0), (.int .u32 0), (.int .i64 0), (.int .u32 0), (.int .i64 0), (.int .u32 0), (.int .i64 0), (.int .u32 0), (.int .i64 0), (.int .u32 0), (.int .i64 0), (.int .u32 0), (.int .i64 0), (.int .u32 0), (.int .i64 0), (.int .u32 0), (.int .i64 0), (.int .u32 0), (.int .i64 0), (.int .u32 0), (.int .i64 0), (.int .u32 0), (.int .i64 0), (.int .u32 0), (.int .i64 0), (.int .u32 0), (.int .i64 0), (.int .u32 0), (.int .i64 0), (.int .u32 0), (.int .i64 0), (.int .u32 0), (.int .i64 0), (.int .u32 0), (.int .i64 0), (.int .u32 0), (.int .i64 0), (.int .u32 0), (.int .i64 0), (.int .u32 0), (.int .i64 0), (.int .u32 0), (.int .i64 0), (.int .u32 0), (.int .i64 0), (.int .u32 0), (.int .i64 0), (.int .u32 0), (.int .i64 0), (.int .u32 0), (.int .i64 0), (.int .u32 0), (.int .i64 0), (.int .u32 0), (.int .i64 0), (.int .u32 0), (.int .i64 0), (.int .u32 0), (.int .i64 0), (.int .u32 0), (.int .i64 0), (.int .u32 0), (.int .i64 0), (.int .u32 0), (.int .i64 0), (.int .u32 0), (.int .i64 0), (.int .u32 0), (.int .i64 0), (.int .u32 0), (.int .i64 0), (.int .u32 0), (.int .i64 0), (.int .u32 0), (.int .i64 0), (.int .u32 0), (.int .i64 0), (.int .u32 0), (.int .i64 0), (.int .u32 0), (.int .i64 0), (.int .u32 0), (.int .i64 0), (.int .u32 0), (.int .i64 0), (.int .u32 0), (.int .i64 0), (.int .u32 0), (.int .i64 0), (.int .u32 0), (.int .i64 0), (.int .u32 0), (.int .i64 0), (.int .u32 0), (.int .i64 0), (.int .u32 0), (.int .i64 0), (.int .u32 0), (.int .i64 0), (.int .u32 0), (.int .i64 0), (.int .u32 0), (.int .i64 0), (.int .u32 0), (.int .i64 0), (.int .u32 0), (.int .i64 0), (.int .u32 0), (.int .i64 0), (.int .u32 0), (.int .i64 0), (.int .u32 0), (.int .i64 0), (.int .u32 0), (.int .i64 0), (.int .u32 0), (.int .i64 0), (.int .u32 0), (.int .i64 0), (.int .u32 0), (.int .i64 0), (.int .u32 0), (.int .i64 0), (.int .u32 0), (.int .i64 0), (.int .u32 0), (.int .i64 0), (.int .u32 0), (.int .i64 0), (.int .u32 0), (.int .i64 0), (.int .u32 0), (.int .i64 0), (.int .u32 0), (.int .i64 0), (.int .u32 0), (.int .i64 0), (.int .u32 0), (.int .i64 0), (.int .u32 0), (.int .i64 0), (.int .u32 0), (.int .i64 0), (.int .u32 0), (.int .i64 0), (.int .u32 0), (.int .i64 0), (.int .u32 0), (.int .i64 0), (.int .u32 0), (.int .i64 0), (.int .u32 0), (.int .i64 0), (.int .u32 0), (.int .i64 0), (.int .u32 0), (.int .i64 0), (.int .u32 0), (.int .i64 0), (.int .u32 0), (.int .i64 0), (.int .u32 0), (.int .i64 0), (.int .u32 0), (.int .i64 0), (.int .u32 0), (.int .i64 0), (.int .u32 0), (.int .i64 0), (.int .u32 0), (.int .i64 0), (.int .u32 0), (.int .i64 0), (.int .u32 0), (.int .i64 0), (.int .u32 0), (.int .i64 0), (.int .u32 0), (.int .i64 0), (.int .u32 0), (.int .i64 0), (.int .u32 0), (.int .i64 0), (.int .u32 0), (.int .i64 0), (.int .u32 0), (.int .i64 0), (.int .u32 0), (.int .i64 0), (.int .u32 0), (.int .i64 0), (.int .u32 0), (.int .i64 0), (.int .u32 0), (.int .i64 0), (.int .u32 0), (.int .i64 0), (.int .u32 0), (.int .i64 0), (.int .u32 0), (.int .i64 0), (.int .u32 0), (.int .i64 0), (.int .u32 0), (.int .i64 0), (.int .u32 0), (.int .i64 0), (.int .u32 0), (.int .i64 0), (.int .u32 0), (.int .i64 0), (.int .u32 0), (.int .i64 0), (.int .u32 0), (.int .i64 0), (.int .u32 0), (.int .i64 0), (.int .u32 0), (.int .i64 0), (.int .u32 0), (.int .i64 0), (.int .u32 0), (.int .i64 0), (.int .u32 0), (.int .i64 0), (.int .u32 0), (.int .i64 0), (.int .u32 0), (.int .i64 0), (.int .u32 0), (.int .i64 0), (.int .u32 0), (.int .i64 0), (.int .u32 0), (.int .i64 0), (.int .u32 0), (.int .i64 0), (.int .u32 0), (.int .i64 0), (.int .u32 0), (.int .i64 0), (.int .u32 0), (.int .i64 0), (.int .u32 0), (.int .i64 0), (.int .u32 0), (.int .i64 0), (.int .u32 0), (.int .i64 0), (.int .u32 0), (.int .i64 0), (.int .u32 0), (.int .i64 0), (.int .u32 0), (.int .i64 0), (.int .u32 0), (.int .i64 0), (.int .u32 0), (.int .i64 0), (.int .u32 0), (.int .i64 0), (.int .u32 0), (.int .i64 0), (.int .u32 0), (.int .i64 0), (.int .u32 0), (.int .i64 0), (.int .u32 0), (.int .i64 0), (.int .u32 0), (.int .i64 0), (.int .u32 0), (.int .i64 0), (.int .u32 0), (.int .i64 0), (.int .u32 0), (.int .i64 0), (.int .u32 0), (.int .i64 0), (.int .u32 0), (.int .i64 0), (.int .u32 0), (.int .i64 0), (.int .u32 0), (.int .i64 0), (.int .u32 0), (.int .i64 0), (.int .u32 0), (.int .i64 0), (.int .u32 0), (.int .i64 0), (.int .u32 0), (.int .i64 0), (.int .u32 0), (.int .i64 0), (.int .u32 0), (.int .i64 0), (.int .u32 0), (.int .i64 0), (.int .u32 0), (.int .i64 0), (.int .u32 0), (.int .i64 0), (.int .u32 0), (.int .i64 0)] 59) fun v4_3 =>
    bindV (storeA 514 v4_3 v10_2) fun _ =>
    bindV (newA [(.int .u64 0)] 61) fun v5_4 =>
    bindV (newA [(.int .i64 0)] 3) fun v6_5 =>
    bindV (storeA 1 v5_4 (.int .u64 0)) fun _ =>
    bindV (storeA 1 v6_5 (.int .i64 0)) fun _ =>
    bindV (ret (.func (.func 32) #[] #[v5_4, v6_5, v3_1])) fun v11_6 =>
    bindV (ret v11_6) fun v7_7 =>
    bindV (ret v0_in) fun v12_24 =>
    bindV (lenA v12_24) fun v13_25 =>
    bindV (ret (.int .i64 0)) fun v14_26 =>
    loop1 (R18.b_42 call k v12_24 v13_25 v3_1 v4_3 v6_5 v7_7) k v14_26

theorem R18.eq (call : FuncId → List Value → AM Value) (k : Nat) (v0_in : Value) : funcA Try.prog call k 18 [v0_in] = R18.top call k v0_in := by kernel_rfl

/-! ### 19: aqueduct/aqueductref03.Encode (1 arguments) -/
noncomputable def R19.b_48 (call : FuncId → List Value → AM Value) (k : Nat) (rec_2_10 : Value → Value → AM Value) (v3_3 : Value) (v4_11 : Value) (v5_12 : Value) (rec_2_27 : Value → Value → AM Value) (v6_28 : Value) (v7_29 : Value) : AM Value :=
  bindV (ret v7_29) fun v16_46 =>
    bindV (binA Try.prog .lss 3 v16_46 (.int .i64 8)) fun v17_47 =>
    condA v17_47 (bindV (ret v6_28) fun v20_35 =>
    bindV (binA Try.prog .mul 5 v20_35 (.int .u8 2)) fun v21_36 =>
    bindV (ret v3_3) fun v22_37 =>
    bindV (ret v5_12) fun v23_38 =>
    bindV (ret v7_29) fun v24_39 =>
    bindV (binA Try.prog .add 3 v23_38 v24_39) fun v25_40 =>
    bindV (indexAddrA 1 v22_37 v25_40) fun v26_41 =>
    bindV (loadA none v26_41) fun v27_42 =>
    bindV (binA Try.prog .add 5 v21_36 v27_42) fun v28_43 =>
    bindV (ret v28_43) fun v6_44 =>
    bindV (ret v7_29) fun v18_31 =>
    bindV (binA Try.prog .add 3 v18_31 (.int .i64 1)) fun v19_32 =>
    bindV (ret v19_32) fun v7_33 =>
    rec_2_27 v6_44 v7_33)
    (bindV (ret v4_11) fun v29_20 =>
    bindV (ret v6_28) fun v30_21 =>
    bindV (buildSliceA 5 1 1 [(.int .u8 0)] [(0, v30_21)]) fun v31_22 =>
    bindV (appendA 5 1 1 v29_20 v31_22) fun v32_23 =>
    bindV (ret v32_23) fun v4_24 =>
    bindV (ret v5_12) fun v14_14 =>
    bindV (binA Try.prog .add 3 v14_14 (.int .i64 8)) fun v15_15 =>
    bindV (ret v15_15) fun v5_16 =>
    rec_2_10 v4_24 v5_16)

noncomputable def R19.b_54 (call : FuncId → List Value → AM Value) (k : Nat) (v3_3 : Value) (rec_2_10 : Value → Value → AM Value) (v4_11 : Value) (v5_12 : Value) : AM Value :=
  bindV (ret v5_12) fun v10_50 =>
    bindV (ret v3_3) fun v11_51 =>
    bindV (lenA v11_51) fun v12_52 =>
    bindV (binA Try.prog .lss 3 v10_50 v12_52) fun v13_53 =>
    condA v13_53 (bindV (ret (.int .u8 0)) fun v6_18 =>
    bindV (ret (.int .i64 0)) fun v7_26 =>
    loop2 (R19.b_48 call k rec_2_10 v3_3 v4_11 v5_12) k v6_18 v7_26)
    (bindV (ret v4_11) fun v33_6 =>
    bindV (ret v33_6) fun v2_7 =>
    ret v2_7)

noncomputable def R19.top (call : FuncId → List Value → AM Value) (k : Nat) (v0_in : Value) : AM Value :=
  bindV (ret (.slice none 0 0)) fun v2_0 =>
    bindV (ret v0_in) fun v8_1 =>
    bindV (call 33 [v8_1]) fun v9_2 =>
    bindV (ret v9_2) fun v3_3 =>
    bindV (ret (.slice none 0 0)) fun v4_4 =>
    bindV (ret (.int .i64 0)) fun v5_9 =>
    loop2 (R19.b_54 call k v3_3) k v4_4 v5_9

theorem R19.eq (call : FuncId → List Value → AM Value) (k : Nat) (v0_in : Value) : funcA Try.prog call k 19 [v0_in] = R19.top call k v0_in := by kernel_rfl

/-! ### 20: aqueduct/huff.Decode (1 arguments) -/
noncomputable def R20.g_29 (call : FuncId → List Value → AM Value) (k : Nat) (v0_in : Value) (v113_26 : Value) (v5_11 : Value) (v115_27 : Value) : AM Value :=
  bindV (pickA v113_26 (.bool true) v115_27) fun v116_28 =>
    condA v116_28 (bindV (ret v0_in) fun v117_18 =>
    bindV (lenA v117_18) fun v118_19 =>
    bindV (ret (.slice none 0 0)) fun v2_20 =>
    bindV (ret v118_19) fun v3_21 =>
    bindV (ret (.int .i64 30)) fun v4_22 =>
    ret (.tuple #[v2_20, v3_21, v4_22]))
    (bindV (ret v5_11) fun v119_12 =>
    bindV (ret v119_12) fun v2_13 =>
    bindV (ret (.int .i64 0)) fun v3_14 =>
    bindV (ret (.int .i64 0)) fun v4_15 =>
    ret (.tuple #[v2_13, v3_14, v4_15]))

noncomputable def R20.j_44 (call : FuncId → List Value → AM Value) (k : Nat) (rec_2_37 : Value → Value → AM Value) (v23_39 : Value) (v5_41 : Value) : AM Value :=
  bindV (binA Try.prog .add 3 v23_39 (.int .i64 1)) fun v110_42 =>
    bindV (ret v110_42) fun v23_43 =>
    rec_2_37 v5_41 v23_43

noncomputable def R20.g_138 (call : FuncId → List Value → AM Value) (k : Nat) (rec_2_37 : Value → Value → AM Value) (rec_4_64 : Value → Value → Value → Value → AM Value) (v10_10 : Value) (v11_46 : Value) (v13_85 : Value) (v14_88 : Value) (v16_78 : Value) (v23_39 : Value) (v50_68 : Value) (v5_65 : Value) (v75_134 : Value) (v7_6 : Value) (v83_135 : Value) : AM Value :=
  bindV (pickA v75_134 v83_135 (.bool false)) fun v84_136 =>
    bindV (ret v84_136) fun v66_137 =>
    condA v66_137 (bindV (fieldAddrA 1 v16_78) fun v85_103 =>
    bindV (loadA none v85_103) fun v86_104 =>
    bindV (loadA none v7_6) fun v87_105 =>
    bindV (ret v13_85) fun v88_106 =>
    bindV (binA Try.prog .sub 22 v87_105 v88_106) fun v89_107 =>
    bindV (indexAddrA 1 v86_104 v89_107) fun v90_108 =>
    bindV (loadA none v90_108) fun v91_109 =>
    bindV (ret v91_109) fun v17_110 =>
    bindV (ret v17_110) fun v92_120 =>
    bindV (binA Try.prog .eql 30 v92_120 (.int .u16 256)) fun v93_121 =>
    condA v93_121 (bindV (ret v11_46) fun v94_122 =>
    bindV (binA Try.prog .quo 3 v94_122 (.int .i64 8)) fun v95_123 =>
    bindV (ret (.slice none 0 0)) fun v2_124 =>
    bindV (ret v95_123) fun v3_125 =>
    bindV (ret (.int .i64 31)) fun v4_126 =>
    ret (.tuple #[v2_124, v3_125, v4_126]))
    (bindV (ret v5_65) fun v96_111 =>
    bindV (ret v17_110) fun v97_112 =>
    bindV (convIntA .u8 v97_112) fun v98_113 =>
    bindV (buildSliceA 5 1 1 [(.int .u8 0)] [(0, v98_113)]) fun v99_114 =>
    bindV (appendA 5 1 1 v96_111 v99_114) fun v100_115 =>
    bindV (ret v100_115) fun v5_116 =>
    bindV (ret v10_10) fun v101_117 =>
    bindV (callA call v101_117 []) fun v102_118 =>
    R20.j_44 call k rec_2_37 v23_39 v5_116))
    (bindV (ret v13_85) fun v103_90 =>
    bindV (fieldAddrA 1 v16_78) fun v104_91 =>
    bindV (loadA none v104_91) fun v105_92 =>
    bindV (lenA v105_92) fun v106_93 =>
    bindV (convIntA .u32 v106_93) fun v107_94 =>
    bindV (binA Try.prog .add 22 v103_90 v107_94) fun v108_95 =>
    bindV (ret v108_95) fun v13_96 =>
    bindV (binA Try.prog .add 3 v50_68 (.int .i64 1)) fun v109_73 =>
    bindV (ret v109_73) fun v50_74 =>
    rec_4_64 v5_65 v13_96 v14_88 v50_74)

noncomputable def R20.g_147 (call : FuncId → List Value → AM Value) (k : Nat) (rec_2_37 : Value → Value → AM Value) (rec_4_64 : Value → Value → Value → Value → AM Value) (v10_10 : Value) (v11_46 : Value) (v13_85 : Value) (v14_88 : Value) (v16_78 : Value) (v23_39 : Value) (v50_68 : Value) (v5_65 : Value) (v70_131 : Value) (v7_6 : Value) (v73_132 : Value) : AM Value :=
  bindV (pickA v70_131 v73_132 (.bool false)) fun v74_133 =>
    bindV (ret v74_133) fun v75_134 =>
    guardA true v75_134 (bindV (loadA none v7_6) fun v76_139 =>
    bindV (ret v13_85) fun v77_140 =>
    bindV (binA Try.prog .sub 22 v76_139 v77_140) fun v78_141 =>
    bindV (convIntA .i64 v78_141) fun v79_142 =>
    bindV (fieldAddrA 1 v16_78) fun v80_143 =>
    bindV (loadA none v80_143) fun v81_144 =>
    bindV (lenA v81_144) fun v82_145 =>
    bindV (binA Try.prog .lss 3 v79_142 v82_145) fun v83_146 =>
    R20.g_138 call k rec_2_37 rec_4_64 v10_10 v11_46 v13_85 v14_88 v16_78 v23_39 v50_68 v5_65 v75_134 v7_6 v83_146)
    (R20.g_138 call k rec_2_37 rec_4_64 v10_10 v11_46 v13_85 v14_88 v16_78 v23_39 v50_68 v5_65 v75_134 v7_6 (.tuple #[]))

noncomputable def R20.b_152 (call : FuncId → List Value → AM Value) (k : Nat) (rec_2_37 : Value → Value → AM Value) (v10_10 : Value) (v11_46 : Value) (v23_39 : Value) (v48_61 : Value) (v49_62 : Value) (v7_6 : Value) (v8_7 : Value) (rec_4_64 : Value → Value → Value → Value → AM Value) (v5_65 : Value) (v13_66 : Value) (v14_67 : Value) (v50_68 : Value) : AM Value :=
  bindV (binA Try.prog .lss 3 v50_68 v49_62) fun v51_69 =>
    condA v51_69 (bindV (indexAddrA 2 v48_61 v50_68) fun v52_76 =>
    bindV (loadA (some 2) v52_76) fun v53_77 =>
    bindV (newA [(.int .i64 0), (.slice none 0 0)] 72) fun v16_78 =>
    bindV (storeA 2 v16_78 v53_77) fun _ =>
    bindV (ret v13_66) fun v54_79 =>
    bindV (fieldAddrA 0 v16_78) fun v55_80 =>
    bindV (loadA none v55_80) fun v56_81 =>
    bindV (ret v14_67) fun v57_82 =>
    bindV (binA Try.prog .sub 3 v56_81 v57_82) fun v58_83 =>
    bindV (binA Try.prog .shl 22 v54_79 v58_83) fun v59_84 =>
    bindV (ret v59_84) fun v13_85 =>
    bindV (fieldAddrA 0 v16_78) fun v60_86 =>
    bindV (loadA none v60_86) fun v61_87 =>
    bindV (ret v61_87) fun v14_88 =>
    bindV (ret v14_88) fun v63_98 =>
    bindV (loadA none v8_7) fun v64_99 =>
    bindV (binA Try.prog .gtr 3 v63_98 v64_99) fun v65_100 =>
    bindV (ret v65_100) fun v62_101 =>
    condA v62_101 (R20.j_44 call k rec_2_37 v23_39 v5_65)
    (bindV (ret v14_88) fun v67_128 =>
    bindV (loadA none v8_7) fun v68_129 =>
    bindV (binA Try.prog .eql 3 v67_128 v68_129) fun v69_130 =>
    bindV (ret v69_130) fun v70_131 =>
    guardA true v70_131 (bindV (loadA none v7_6) fun v71_148 =>
    bindV (ret v13_85) fun v72_149 =>
    bindV (binA Try.prog .geq 22 v71_148 v72_149) fun v73_150 =>
    R20.g_147 call k rec_2_37 rec_4_64 v10_10 v11_46 v13_85 v14_88 v16_78 v23_39 v50_68 v5_65 v70_131 v7_6 v73_150)
    (R20.g_147 call k rec_2_37 rec_4_64 v10_10 v11_46 v13_85 v14_88 v16_78 v23_39 v50_68 v5_65 v70_131 v7_6 (.tuple #[]))))
    (R20.j_44 call k rec_2_37 v23_39 v5_65)

noncomputable def R20.d_154 (call : FuncId → List Value → AM Value) (k : Nat) (rec_2_37 : Value → Value → AM Value) (v10_10 : Value) (v11_46 : Value) (v23_39 : Value) (v5_38 : Value) (v6_5 : Value) (v7_6 : Value) (v8_7 : Value) : AM Value :=
  bindV (ret (.int .u32 0)) fun v13_59 =>
    bindV (ret (.int .i64 0)) fun v14_60 =>
    bindV (ret v6_5) fun v48_61 =>
    bindV (lenA v48_61) fun v49_62 =>
    bindV (ret (.int .i64 0)) fun v50_63 =>
    loop4 (R20.b_152 call k rec_2_37 v10_10 v11_46 v23_39 v48_61 v49_62 v7_6 v8_7) k v5_38 v13_59 v14_60 v50_63

noncomputable def R20.b_174 (call : FuncId → List Value → AM Value) (k : Nat) (v0_in : Value) (v10_10 : Value) (v22_35 : Value) (v6_5 : Value) (v7_6 : Value) (v8_7 : Value) (v9_8 : Value) (rec_2_37 : Value → Value → AM Value) (v5_38 : Value) (v23_39 : Value) : AM Value :=
  bindV (binA Try.prog .lss 3 v23_39 v22_35) fun v24_40 =>
    condA v24_40 (bindV (ret v23_39) fun v25_45 =>
    bindV (ret v25_45) fun v11_46 =>
    bindV (ret v0_in) fun v26_47 =>
    bindV (ret v11_46) fun v27_48 =>
    bindV (binA Try.prog .quo 3 v27_48 (.int .i64 8)) fun v28_49 =>
    bindV (indexAddrA 1 v26_47 v28_49) fun v29_50 =>
    bindV (loadA none v29_50) fun v30_51 =>
    bindV (ret v11_46) fun v31_52 =>
    bindV (binA Try.prog .rem 3 v31_52 (.int .i64 8)) fun v32_53 =>
    bindV (binA Try.prog .sub 3 (.int .i64 7) v32_53) fun v33_54 =>
    bindV (binA Try.prog .shr 5 v30_51 v33_54) fun v34_55 =>
    bindV (convIntA .u32 v34_55) fun v35_56 =>
    bindV (binA Try.prog .and 22 v35_56 (.int .u32 1)) fun v36_57 =>
    bindV (ret v36_57) fun v12_58 =>
    bindV (loadA none v7_6) fun v37_155 =>
    bindV (binA Try.prog .shl 22 v37_155 (.int .u64 1)) fun v38_156 =>
    bindV (ret v12_58) fun v39_157 =>
    bindV (binA Try.prog .or 22 v38_156 v39_157) fun v40_158 =>
    bindV (loadA none v8_7) fun v41_159 =>
    bindV (binA Try.prog .add 3 v41_159 (.int .i64 1)) fun v42_160 =>
    bindV (loadA none v9_8) fun v43_161 =>
    bindV (ret v43_161) fun v44_162 =>
    guardA true v44_162 (bindV (ret v12_58) fun v45_163 =>
    bindV (binA Try.prog .eql 22 v45_163 (.int .u32 1)) fun v46_164 =>
    bindV (pickA v44_162 v46_164 (.bool false)) fun v47_165 =>
    bindV (storeA 1 v7_6 v40_158) fun _ =>
    hereV [((loadA none v8_7 : AM Value), (v41_159 : Value))] (
    bindV (storeA 1 v8_7 v42_160) fun _ =>
    bindV (storeA 1 v9_8 v47_165) fun _ =>
    R20.d_154 call k rec_2_37 v10_10 v11_46 v23_39 v5_38 v6_5 v7_6 v8_7))
    (bindV (pickA v44_162 (.tuple #[]) (.bool false)) fun v47_169 =>
    bindV (storeA 1 v7_6 v40_158) fun _ =>
    hereV [((loadA none v8_7 : AM Value), (v41_159 : Value))] (
    bindV (storeA 1 v8_7 v42_160) fun _ =>
    bindV (storeA 1 v9_8 v47_169) fun _ =>
    R20.d_154 call k rec_2_37 v10_10 v11_46 v23_39 v5_38 v6_5 v7_6 v8_7)))
    (bindV (loadA none v8_7) fun v111_24 =>
    bindV (binA Try.prog .gtr 3 v111_24 (.int .i64 7)) fun v112_25 =>
    bindV (ret v112_25) fun v113_26 =>
    guardA false v113_26 (bindV (loadA none v9_8) fun v114_30 =>
    bindV (unA .not v114_30) fun v115_31 =>
    R20.g_29 call k v0_in v113_26 v5_38 v115_31)
    (R20.g_29 call k v0_in v113_26 v5_38 (.tuple #[])))

noncomputable def R20.top (call : FuncId → List Value → AM Value) (k : Nat) (v0_in : Value) : AM Value :=
  bindV (ret (.slice none 0 0)) fun v2_0 =>
    bindV (ret (.int .i64 0)) fun v3_1 =>
    bindV (ret (.int .i64 0)) fun v4_2 =>
    bindV (ret (.slice none 0 0)) fun v5_3 =>
    bindV (call 34 []) fun v18_4 =>
    bindV (ret v18_4) fun v6_5 =>
    bindV (newA [(.int .u32 0)] 22) fun v7_6 =>
    bindV (newA [(.int .i64 0)] 3) fun v8_7 =>
    bindV (newA [(.bool false)] 4) fun v9_8 =>
    bindV (storeA 1 v7_6 (.int .u32 0)) fun _ =>
    bindV (storeA 1 v8_7 (.int .i64 0)) fun _ =>
    bindV (storeA 1 v9_8 (.bool true)) fun _ =>
    bindV (ret (.func (.func 35) #[] #[v7_6, v8_7, v9_8])) fun v19_9 =>
    bindV (ret v19_9) fun v10_10 =>
    bindV (ret v0_in) fun v20_33 =>
    bindV (lenA v20_33) fun v21_34 =>
    bindV (binA Try.prog .mul 3 (.int .i64 8) v21_34) fun v22_35 =>
    bindV (ret (.int .i64 0)) fun v23_36 =>
    loop2 (R20.b_174 call k v0_in v10_10 v22_35 v6_5 v7_6 v8_7 v9_8) k v5_3 v23_36

theorem R20.eq (call : FuncId → List Value → AM Value) (k : Nat) (v0_in : Value) : funcA Try.prog call k 20 [v0_in] = R20.top call k v0_in := by kernel_rfl

/-! ### 21: aqueduct/aqueductref03.Decode (1 arguments) -/
noncomputable def R21.g_29 (call : FuncId → List Value → AM Value) (k : Nat) (v0_in : Value) (v5_9 : Value) (v61_26 : Value) (v63_27 : Value) : AM Value :=
  bindV (pickA v61_26 (.bool true) v63_27) fun v64_28 =>
    condA v64_28 (bindV (ret v0_in) fun v65_18 =>
    bindV (lenA v65_18) fun v66_19 =>
    bindV (ret (.slice none 0 0)) fun v2_20 =>
    bindV (ret v66_19) fun v3_21 =>
    bindV (ret (.int .i64 30)) fun v4_22 =>
    ret (.tuple #[v2_20, v3_21, v4_22]))
    (bindV (ret v5_9) fun v67_12 =>
    bindV (ret v67_12) fun v2_13 =>
    bindV (ret (.int .i64 0)) fun v3_14 =>
    bindV (ret (.int .i64 0)) fun v4_15 =>
    ret (.tuple #[v2_13, v3_14, v4_15]))

noncomputable def R21.j_47 (call : FuncId → List Value → AM Value) (k : Nat) (rec_5_34 : Value → Value → Value → Value → Value → AM Value) (v10_39 : Value) (v5_40 : Value) (v7_41 : Value) (v8_42 : Value) (v9_43 : Value) : AM Value :=
  bindV (ret v10_39) fun v19_44 =>
    bindV (binA Try.prog .add 3 v19_44 (.int .i64 1)) fun v20_45 =>
    bindV (ret v20_45) fun v10_46 =>
    rec_5_34 v5_40 v7_41 v8_42 v9_43 v10_46

noncomputable def R21.g_100 (call : FuncId → List Value → AM Value) (k : Nat) (rec_5_34 : Value → Value → Value → Value → Value → AM Value) (v10_39 : Value) (v40_96 : Value) (v5_35 : Value) (v6_5 : Value) (v7_65 : Value) (v8_68 : Value) (v42_97 : Value) : AM Value :=
  bindV (pickA v40_96 v42_97 (.bool false)) fun v43_98 =>
    bindV (ret v43_98) fun v9_99 =>
    bindV (ret v6_5) fun v44_70 =>
    bindV (ret v7_65) fun v45_71 =>
    bindV (ret v8_68) fun v46_72 =>
    bindV (call 37 [v44_70, v45_71, v46_72]) fun v47_73 =>
    bindV (ret v47_73) fun v12_74 =>
    bindV (ret v12_74) fun v48_87 =>
    bindV (binA Try.prog .eql 3 v48_87 (.int .i64 256)) fun v49_88 =>
    condA v49_88 (bindV (ret v10_39) fun v50_89 =>
    bindV (binA Try.prog .quo 3 v50_89 (.int .i64 8)) fun v51_90 =>
    bindV (ret (.slice none 0 0)) fun v2_91 =>
    bindV (ret v51_90) fun v3_92 =>
    bindV (ret (.int .i64 31)) fun v4_93 =>
    ret (.tuple #[v2_91, v3_92, v4_93]))
    (bindV (ret v12_74) fun v52_75 =>
    bindV (binA Try.prog .geq 3 v52_75 (.int .i64 0)) fun v53_76 =>
    condA v53_76 (bindV (ret v5_35) fun v54_77 =>
    bindV (ret v12_74) fun v55_78 =>
    bindV (convIntA .u8 v55_78) fun v56_79 =>
    bindV (buildSliceA 5 1 1 [(.int .u8 0)] [(0, v56_79)]) fun v57_80 =>
    bindV (appendA 5 1 1 v54_77 v57_80) fun v58_81 =>
    bindV (ret v58_81) fun v5_82 =>
    bindV (ret (.int .u64 0)) fun v7_83 =>
    bindV (ret (.int .i64 0)) fun v8_84 =>
    bindV (ret (.bool true)) fun v9_85 =>
    R21.j_47 call k rec_5_34 v10_39 v5_82 v7_83 v8_84 v9_85)
    (R21.j_47 call k rec_5_34 v10_39 v5_35 v7_65 v8_68 v9_99))

noncomputable def R21.b_109 (call : FuncId → List Value → AM Value) (k : Nat) (v0_in : Value) (v6_5 : Value) (rec_5_34 : Value → Value → Value → Value → Value → AM Value) (v5_35 : Value) (v7_36 : Value) (v8_37 : Value) (v9_38 : Value) (v10_39 : Value) : AM Value :=
  bindV (ret v10_39) fun v14_104 =>
    bindV (ret v0_in) fun v15_105 =>
    bindV (lenA v15_105) fun v16_106 =>
    bindV (binA Try.prog .mul 3 (.int .i64 8) v16_106) fun v17_107 =>
    bindV (binA Try.prog .lss 3 v14_104 v17_107) fun v18_108 =>
    condA v18_108 (bindV (ret v0_in) fun v21_48 =>
    bindV (ret v10_39) fun v22_49 =>
    bindV (binA Try.prog .quo 3 v22_49 (.int .i64 8)) fun v23_50 =>
    bindV (indexAddrA 1 v21_48 v23_50) fun v24_51 =>
    bindV (loadA none v24_51) fun v25_52 =>
    bindV (ret v10_39) fun v26_53 =>
    bindV (binA Try.prog .rem 3 v26_53 (.int .i64 8)) fun v27_54 =>
    bindV (binA Try.prog .sub 3 (.int .i64 7) v27_54) fun v28_55 =>
    bindV (convIntA .u64 v28_55) fun v29_56 =>
    bindV (binA Try.prog .shr 5 v25_52 v29_56) fun v30_57 =>
    bindV (convIntA .u64 v30_57) fun v31_58 =>
    bindV (binA Try.prog .rem 61 v31_58 (.int .u64 2)) fun v32_59 =>
    bindV (ret v32_59) fun v11_60 =>
    bindV (ret v7_36) fun v33_61 =>
    bindV (binA Try.prog .mul 61 v33_61 (.int .u64 2)) fun v34_62 =>
    bindV (ret v11_60) fun v35_63 =>
    bindV (binA Try.prog .add 61 v34_62 v35_63) fun v36_64 =>
    bindV (ret v36_64) fun v7_65 =>
    bindV (ret v8_37) fun v37_66 =>
    bindV (binA Try.prog .add 3 v37_66 (.int .i64 1)) fun v38_67 =>
    bindV (ret v38_67) fun v8_68 =>
    bindV (ret v9_38) fun v39_95 =>
    bindV (ret v39_95) fun v40_96 =>
    guardA true v40_96 (bindV (ret v11_60) fun v41_101 =>
    bindV (binA Try.prog .eql 61 v41_101 (.int .u64 1)) fun v42_102 =>
    R21.g_100 call k rec_5_34 v10_39 v40_96 v5_35 v6_5 v7_65 v8_68 v42_102)
    (R21.g_100 call k rec_5_34 v10_39 v40_96 v5_35 v6_5 v7_65 v8_68 (.tuple #[])))
    (bindV (ret v8_37) fun v59_24 =>
    bindV (binA Try.prog .gtr 3 v59_24 (.int .i64 7)) fun v60_25 =>
    bindV (ret v60_25) fun v61_26 =>
    guardA false v61_26 (bindV (ret v9_38) fun v62_30 =>
    bindV (unA .not v62_30) fun v63_31 =>
    R21.g_29 call k v0_in v5_35 v61_26 v63_31)
    (R21.g_29 call k v0_in v5_35 v61_26 (.tuple #[])))

noncomputable def R21.top (call : FuncId → List Value → AM Value) (k : Nat) (v0_in : Value) : AM Value :=
  bindV (ret (.slice none 0 0)) fun v2_0 =>
    bindV (ret (.int .i64 0)) fun v3_1 =>
    bindV (ret (.int .i64 0)) fun v4_2 =>
    bindV (ret (.slice none 0 0)) fun v5_3 =>
    bindV (call 36 []) fun v13_4 =>
    bindV (ret v13_4) fun v6_5 =>
    bindV (ret (.int .u64 0)) fun v7_6 =>
    bindV (ret (.int .i64 0)) fun v8_7 =>
    bindV (ret (.bool true)) fun v9_8 =>
    bindV (ret (.int .i64 0)) fun v10_33 =>
    loop5 (R21.b_109 call k v0_in v6_5) k v5_3 v7_6 v8_7 v9_8 v10_33

theorem R21.eq (call : FuncId → List Value → AM Value) (k : Nat) (v0_in : Value) : funcA Try.prog call k 21 [v0_in] = R21.top call k v0_in := by kernel_rfl

/-! ### 22: aqueduct/aqueductlaw03.bits (1 arguments) -/
noncomputable def R22.b_38 (call : FuncId → List Value → AM Value) (k : Nat) (v0_in : Value) (rec_2_7 : Value → Value → AM Value) (v3_8 : Value) (v4_9 : Value) : AM Value :=
  bindV (ret v4_9) fun v8_34 =>
    bindV (ret v0_in) fun v9_35 =>
    bindV (lenA v9_35) fun v10_36 =>
    bindV (binA Try.prog .lss 3 v8_34 v10_36) fun v11_37 =>
    condA v11_37 (bindV (ret v0_in) fun v15_15 =>
    bindV (ret v4_9) fun v16_16 =>
    bindV (indexAddrA 1 v15_15 v16_16) fun v17_17 =>
    bindV (loadA none v17_17) fun v18_18 =>
    bindV (convIntA .i64 v18_18) fun v19_19 =>
    bindV (call 14 [v19_19]) fun v20_20 =>
    bindV (ret v20_20) fun v14_21 =>
    bindV (extractA v14_21 0) fun v21_22 =>
    bindV (extractA v14_21 1) fun v22_23 =>
    bindV (extractA v14_21 2) fun v23_24 =>
    bindV (ret v21_22) fun v5_25 =>
    bindV (ret v22_23) fun v6_26 =>
    bindV (ret v23_24) fun v7_27 =>
    bindV (ret v3_8) fun v24_28 =>
    bindV (ret v6_26) fun v25_29 =>
    bindV (binA Try.prog .add 3 v24_28 v25_29) fun v26_30 =>
    bindV (binA Try.prog .rem 3 v26_30 (.int .i64 8)) fun v27_31 =>
    bindV (ret v27_31) fun v3_32 =>
    bindV (ret v4_9) fun v12_11 =>
    bindV (binA Try.prog .add 3 v12_11 (.int .i64 1)) fun v13_12 =>
    bindV (ret v13_12) fun v4_13 =>
    rec_2_7 v3_32 v4_13)
    (bindV (ret v3_8) fun v28_3 =>
    bindV (ret v28_3) fun v2_4 =>
    ret v2_4)

noncomputable def R22.top (call : FuncId → List Value → AM Value) (k : Nat) (v0_in : Value) : AM Value :=
  bindV (ret (.int .i64 0)) fun v2_0 =>
    bindV (ret (.int .i64 0)) fun v3_1 =>
    bindV (ret (.int .i64 0)) fun v4_6 =>
    loop2 (R22.b_38 call k v0_in) k v3_1 v4_6

theorem R22.eq (call : FuncId → List Value → AM Value) (k : Nat) (v0_in : Value) : funcA Try.prog call k 22 [v0_in] = R22.top call k v0_in := by kernel_rfl

/-! ### 30: aqueduct/huff.codes (0 arguments) -/
noncomputable def R30.b_52 (call : FuncId → List Value → AM Value) (k : Nat) (rec_1_10 : Value → AM Value) (v10_11 : Value) (v1_1 : Value) (v27_32 : Value) (v28_33 : Value) (v2_3 : Value) (rec_1_35 : Value → AM Value) (v29_36 : Value) : AM Value :=
  bindV (binA Try.prog .lss 3 v29_36 v28_33) fun v30_37 =>
    condA v30_37 (bindV (indexAddrA 1 v27_32 v29_36) fun v31_41 =>
    bindV (loadA none v31_41) fun v32_42 =>
    bindV (ret v32_42) fun v6_43 =>
    bindV (ret v6_43) fun v33_44 =>
    bindV (loadA (some 2) v2_3) fun v34_45 =>
    bindV (indexArrAddrA 257 2 v1_1 v33_44) fun v35_46 =>
    bindV (storeA 2 v35_46 v34_45) fun _ =>
    bindV (fieldAddrA 0 v2_3) fun v36_47 =>
    bindV (loadA none v36_47) fun v37_48 =>
    bindV (binA Try.prog .add 22 v37_48 (.int .u32 1)) fun v38_49 =>
    bindV (fieldAddrA 0 v2_3) fun v39_50 =>
    bindV (storeA 1 v39_50 v38_49) fun _ =>
    bindV (binA Try.prog .add 3 v29_36 (.int .i64 1)) fun v40_38 =>
    bindV (ret v40_38) fun v29_39 =>
    rec_1_35 v29_39)
    (bindV (binA Try.prog .add 3 v10_11 (.int .i64 1)) fun v41_13 =>
    bindV (ret v41_13) fun v10_14 =>
    rec_1_10 v10_14)

noncomputable def R30.b_54 (call : FuncId → List Value → AM Value) (k : Nat) (v0_0 : Value) (v1_1 : Value) (v2_3 : Value) (v8_7 : Value) (v9_8 : Value) (rec_1_10 : Value → AM Value) (v10_11 : Value) : AM Value :=
  bindV (binA Try.prog .lss 3 v10_11 v9_8) fun v11_12 =>
    condA v11_12 (bindV (indexAddrA 2 v8_7 v10_11) fun v12_16 =>
    bindV (loadA (some 2) v12_16) fun v13_17 =>
    bindV (newA [(.int .i64 0), (.slice none 0 0)] 72) fun v4_18 =>
    bindV (storeA 2 v4_18 v13_17) fun _ =>
    bindV (fieldAddrA 0 v2_3) fun v14_19 =>
    bindV (loadA none v14_19) fun v15_20 =>
    bindV (fieldAddrA 0 v4_18) fun v16_21 =>
    bindV (loadA none v16_21) fun v17_22 =>
    bindV (fieldAddrA 1 v2_3) fun v18_23 =>
    bindV (loadA none v18_23) fun v19_24 =>
    bindV (binA Try.prog .sub 3 v17_22 v19_24) fun v20_25 =>
    bindV (binA Try.prog .shl 22 v15_20 v20_25) fun v21_26 =>
    bindV (fieldAddrA 0 v2_3) fun v22_27 =>
    bindV (storeA 1 v22_27 v21_26) fun _ =>
    bindV (fieldAddrA 0 v4_18) fun v23_28 =>
    bindV (loadA none v23_28) fun v24_29 =>
    bindV (fieldAddrA 1 v2_3) fun v25_30 =>
    bindV (storeA 1 v25_30 v24_29) fun _ =>
    bindV (fieldAddrA 1 v4_18) fun v26_31 =>
    bindV (loadA none v26_31) fun v27_32 =>
    bindV (lenA v27_32) fun v28_33 =>
    bindV (ret (.int .i64 0)) fun v29_34 =>
    loop1 (R30.b_52 call k rec_1_10 v10_11 v1_1 v27_32 v28_33 v2_3) k v29_34)
    (bindV (loadA (some 514) v1_1) fun v42_4 =>
    bindV (storeA 514 v0_0 v42_4) fun _ =>
    bindV (loadA (some 514) v0_0) fun v0_5 =>
    ret v0_5)

noncomputable def R30.top (call : FuncId → List Value → AM Value) (k : Nat) : AM Value :=
  bindV (newA [(.int .u32 0), (.int .i64 0), (.int .u32 0), (.int .i64 0), (.int .u32 0), (.int .i64 0), (.int .u32 0), (.int .i64 0), (.int .u32 0), (.int .i64 0), (.int .u32 0), (.int .i64 0), (.int .u32 0), (.int .i64 0), (.int .u32 0), (.int .i64 0), (.int .u32 0), (.int .i64 0), (.int .u32 0), (.int .i64 0), (.int .u32 0), (.int .i64 0), (.int .u32 0), (.int .i64 0), (.int .u32 0), (.int .i64 0), (.int .u32 0), (.int .i64 0), (.int .u32 0), (.int .i64 0), (.int .u32 0), (.int .i64 0), (.int .u32 0), (.int .i64 0), (.int .u32 0), (.int .i64 0), (.int .u32 0), (.int .i64 0), (.int .u32 0), (.int .i64 0), (.int .u32 0), (.int .i64 0), (.int .u32 0), (.int .i64 0), (.int .u32 0), (.int .i64 0), (.int .u32 0), (.int .i64 0), (.int .u32 0), (.int .i64 0), (.int .u32 0), (.int .i64 0), (.int .u32 0), (.int .i64 0), (.int .u32 0), (.int .i64 0), (.int .u32 0), (.int .i64 0), (.int .u32 0), (.int .i64 0), (.int .u32 0), (.int .i64 0), (.int .u32 0), (.int .i64 0), (.int .u32 0), (.int .i64 0), (.int .u32 0), (.int .i64 0), (.int .u32 0), (.int .i64 0), (.int .u32 0), (.int .i64 0), (.int .u32 0), (.int .i64 0), (.int .u32 0), (.int .i64 0), (.int .u32 0), (.int .i64 0), (.int .u32 0), (.int .i64 0), (.int .u32 0), (.int .i64 0), (.int .u32 0), (.int .i64 0), (.int .u32 0), (.int .i64 0), (.int .u32 0), (.int .i64 0), (.int .u32 0), (.int .i64 0), (.int .u32 0), (.int .i64 0), (.int .u32 0), (.int .i64 0), (.int .u32 0), (.int .i64 0), (.int .u32 0), (.int .i64 0), (.int .u32 0), (.int .i64 0), (.int .u32 0), (.int .i64 0), (.int .u32 0), (.int .i64 0), (.int .u32 0), (.int .i64 0), (.int .u32 0), (.int .i64 0), (.int .u32 0), (.int .i64 0), (.int .u32 0), (.int .i64 0), (.int .u32 0), (.int .i64 0), (.int .u32 0), (.int .i64 0), (.int .u32 0), (.int .i64 0), (.int .u32 0), (.int .i64 0), (.int .u32 0), (.int .i64 0), (.int .u32 0), (.int .i64 0), (.int .u32 0), (.int .i64 0), (.int .u32 0), (.int .i64 0), (.int .u32 0), (.int .i64 0), (.int .u32 0), (.int .i64 0), (.int .u32 0), (.int .i64 0), (.int .u32 0), (.int .i64 0), (.int .u32 0), (.int .i64 0), (.int .u32 0), (.int .i64 0), (.int .u32 0), (.int .i64 0), (.int .u32 0), (.int .i64 0), (.int .u32 0), (.int .i64 0), (.int .u32 0), (.int .i64 0), (.int .u32 0), (.int .i64 0), (.int .u32 0), (.int .i64 0), (.int .u32 0), (.int .i64 0), (.int .u32 0), (.int .i64 0), (.int .u32 0), (.int .i64 0), (.int .u32 0), (.int .i64 0), (.int .u32 0), (.int .i64 0), (.int .u32 0), (.int .i64 0), (.int .u32 0), (.int .i64 0), (.int .u32 0), (.int .i64 0), (.int .u32 0), (.int .i64 0), (.int .u32 0), (.int .i64 0), (.int .u32 0), (.int .i64 0), (.int .u32 0), (.int .i64 0), (.int .u32 0), (.int .i64 0), (.int .u32 0), (.int .i64 0), (.int .u32 0), (.int .i64 0), (.int .u32 0), (.int .i64 0), (.int .u32 0), (.int .i64 0), (.int .u32 0), (.int .i64 0), (.int .u32 0), (.int .i64 0), (.int .u32 0), (.int .i64 0), (.int .u32 0), (.int .i64 0), (.int .u32 0), (.int .i64 0), (.int .u32 0), (.int .i64 0), (.int .u32 0), (.int .i64 0), (.int .u32 0), (.int .i64 0), (.int .u32 0), (.int .i64 0), (.int .u32 0), (.int .i64 0), (.int .u32 0), (.int .i64 0), (.int .u32 0), (.int .i64 0), (.int .u32 0), (.int .i64 0), (.int .u32 0), (.int .i64 0), (.int .u32 0), (.int .i64 0), (.int .u32 0), (.int .i64 0), (.int .u32 0), (.int .i64 0), (.int .u32 0), (.int .i64 0), (.int .u32 0), (.int .i64 0), (.int .u32 0), (.int .i64 0), (.int .u32 0), (.int .i64 0), (.int .u32 0), (.int .i64 0), (.int .u32 0), (.int .i64 0), (.int .u32 0), (.int .i64 0), (.int .u32 0), (.int .i64 0), (.int .u32 0), (.int .i64 0), (.int .u32 0), (.int .i64 0), (.int .u32 0), (.int .i64 0), (.int .u32 0), (.int .i64 0), (.int .u32 0), (.int .i64 0), (.int .u32 0), (.int .i64 0), (.int .u32 0), (.int .i64 0), (.int .u32 0), (.int .i64 0), (.int .u32 0), (.int .i64 0), (.int .u32 0), (.int .i64 0), (.int .u32 0), (.int .i64 0), (.int .u32 0), (.int .i64 0), (.int .u32 0), (.int .i64 0), (.int .u32 0), (.int .i64 0), (.int .u32 0), (.int .i64 0), (.int .u32 0), (.int .i64 0), (.int .u32 0), (.int .i64 0), (.int .u32 0), (.int .i64 0), (.int .u32 0), (.int .i64 0), (.int .u32 0), (.int .i64 0), (.int .u32 0), (.int .i64 0), (.int .u32 0), (.int .i64 0), (.int .u32 0), (.int .i64 0), (.int .u32 0), (.int .i64 0), (.int .u32 0), (.int .i64 0), (.int .u32 0), (.int .i64 0), (.int .u32 0), (.int .i64 0), (.int .u32 0), (.int .i64 0), (.int .u32 0), (.int .i64 0), (.int .u32 0), (.int .i64 0), (.int .u32 0), (.int .i64 0), (.int .u32 0), (.int .i64 0), (.int .u32 0), (.int .i64 0), (.int .u32 0), (.int .i64 0), (.int .u32 0), (.int .i64 0), (.int .u32 0), (.int .i64 0), (.int .u32 0), (.int .i64 0), (.int .u32 0), (.int .i64 0), (.int .u32 0), (.int .i64 0), (.int .u32 0), (.int .i64 0), (.int .u32 0), (.int .i64 0), (.int .u32 0), (.int .i64 0), (.int .u32 0), (.int .i64 0), (.int .u32 0), (.int .i64 0), (.int .u32 0), (.int .i64 0), (.int .u32 0), (.int .i64 0), (.int .u32 0), (.int .i64 0), (.int .u32 0), (.int .i64 0), (.int .u32 0), (.int .i64 0), (.int .u32 0), (.int .i64 0), (.int .u32 0), (.int .i64 0), (.int .u32 0), (.int .i64 0), (.int .u32 0), (.int .i64 0), (.int .u32 0), (.int .i64 0), (.int .u32 0), (.int .i64 0), (.int .u32 0), (.int .i64 0), (.int .u32 0), (.int .i64 0), (.int .u32 0), (.int .i64 0), (.int .u32 0), (.int .i64 0), (.int .u32 0), (.int .i64 0), (.int .u32 0), (.int .i64 0), (.int .u32 0), (.int .i64 0), (.int .u32 0), (.int .i64 0), (.int .u32 0), (.int .i64 0), (.int .u32 0), (.int .i64 0), (.int .u32 0), (.int .i64 0), (.int .u32 0), (.int .i64 0), (.int .u32 0), (.int .i64 0), (.int .u32 0), (.int .i64 0), (.int .u32 0), (.int .i64 0), (.int .u32 0), (.int .i64 0), (.int .u32 0), (.int .i64 0), (.int .u32 0), (.int .i64 0), (.int .u32 0), (.int .i64 0), (.int .u32 0), (.int .i64 0), (.int .u32 0), (.int .i64 0), (.int .u32 0), (.int .i64 0), (.int .u32 0), (.int .i64 0), (.int .u32 0), (.int .i64 0), (.int .u32 0), (.int .i64 0), (.int .u32 0), (.int .i64 0), (.int .u32 0), (.int .i64 0), (.int .u32 0), (.int .i64 0), (.int .u32 0), (.int .i64 0), (.int .u32 0), (.int .i64 0), (.int .u32 0), (.int .i64 0), (.int .u32 0), (.int .i64 0), (.int .u32 0), (.int .i64 0), (.int .u32 0), (.int .i64 0), (.int .u32 0), (.int .i64 0), (.int .u32 0), (.int .i64 0), (.int .u32 0), (.int .i64 0), (.int .u32 0), (.int .i64 0), (.int .u32 0), (.int .i64 0), (.int .u32 0), (.int .i64 0), (.int .u32 0), (.int .i64 0), (.int .u32 0), (.int .i64 0), (.int .u32 0), (.int .i64 0), (.int .u32 0), (.int .i64 0), (.int .u32 0), (.int .i64 0), (.int .u32 0), (.int .i64 0), (.int .u32 0), (.int .i64 0), (.int .u32 0), (.int .i64 0), (.int .u32 0), (.int .i64 0), (.int .u32 0), (.int .i64 0), (.int .u32 0), (.int .i64 0), (.int .u32 0), (.int .i64 0), (.int .u32 0), (.int .i64 0), (.int .u32 0), (.int .i64 0), (.int .u32 0), (.int .i64 0), (.int .u32 0), (.int .i64 0), (.int .u32 0), (.int .i64 0), (.int .u32 0), (.int .i64 0), (.int .u32 0), (.int .i64 0), (.int .u32 0), (.int .i64 0), (.int .u32 0), (.int .i64 0), (.int .u32 0), (.int .i64 0), (.int .u32 0), (.int .i64 0), (.int .u32 0), (.int .i64 0), (.int .u32 0), (.int .i64 0), (.int .u32 0), (.int .i64 0), (.int .u32 0), (.int .i64 0), (.int .u32 0), (.int .i64 0), (.int .u32 0), (.int .i64 0), (.int .u32 0), (.int .i64 0), (.int .u32 0), (.int .i64 0), (.int .u32 0), (.int .i64 0), (.int .u32 0), (.int .i64 0), (.int .u32 0), (.int .i64 0), (.int .u32 0), (.int .i64 0), (.int .u32 0), (.int .i64 0), (.int .u32 0), (.int .i64 0), (.int .u32 0), (.int .i64 0), (.int .u32 0), (.int .i64 0), (.int .u32 0), (.int .i64 0), (.int .u32 0), (.int .i64 0), (.int .u32 0), (.int .i64 0), (.int .u32 0), (.int .i64 0), (.int .u32 0), (.int .i64 0)] 59) fun v0_0 =>
    bindV (newA [(.int .u32 0), (.int .i64 0), (.int .u32 0), (.int .i64 0), (.int .u32 0), (.int .i64 0), (.int .u32 0), (.int .i64 0), (.int .u32 0), (.int .i64 0), (.int .u32 0), (.int .i64 0), (.int .u32 0), (.int .i64 0), (.int .u32 0), (.int .i64 0), (.int .u32 0), (.int .i64 0), (.int .u32 0), (.int .i64 0), (.int .u32 0), (.int .i64 0), (.int .u32 0), (.int .i64 0), (.int .u32 0), (.int .i64 0), (.int .u32 0), (.int .i64 0), (.int .u32 0), (.int .i64 0), (.int .u32 0), (.int .i64 0), (.int .u32 0), (.int .i64 0), (.int .u32 0), (.int .i64 0), (.int .u32 0), (.int .i64 0), (.int .u32 0), (.int .i64 0), (.int .u32 0), (.int .i64 0), (.int .u32 0), (.int .i64 0), (.int .u32 0), (.int .i64 0), (.int .u32 0), (.int .i64 0), (.int .u32 0), (.int .i64 0), (.int .u32 0), (.int .i64 0), (.int .u32 0), (.int .i64 0), (.int .u32 0), (.int .i64 0), (.int .u32 0), (.int .i64 0), (.int .u32 0), (.int .i64 0), (.int .u32 0), (.int .i64 0), (.int .u32 0), (.int .i64 0), (.int .u32 0), (.int .i64 0), (.int .u32 0), (.int .i64 0), (.int .u32 0), (.int .i64 0), (.int .u32 0), (.int .i64 0), (.int .u32 0), (.int .i64 0), (.int .u32 0), (.int .i64 0), (.int .u32 0), (.int .i64 0), (.int .u32 0), (.int .i64 0), (.int .u32 0), (.int .i64 0), (.int .u32 0), (.int .i64 0), (.int .u32 0), (.int .i64 0), (.int .u32 0), (.int .i64 0), (.int .u32 0), (.int .i64 0), (.int .u32 0), (.int .i64 0), (.int .u32 0), (.int .i64 0), (.int .u32 0), (.int .i64 0), (.int .u32 0), (.int .i64 0), (.int .u32 0), (.int .i64 0), (.int .u32 0), (.int .i64 0), (.int .u32 0), (.int .i64 0), (.int .u32 0), (.int .i64 0), (.int .u32 0), (.int .i64 0), (.int .u32 0), (.int .i64 0), (.int .u32 0), (.int .i64 0), (.int .u32 0), (.int .i64 0), (.int .u32 0), (.int .i64 0), (.int .u32 0), (.int .i64 0), (.int .u32 0), (.int .i64 0), (.int .u32 0), (.int .i64 0), (.int .u32 0), (.int .i64 0), (.int .u32 0), (.int .i64 0), (.int .u32 0), (.int .i64 0), (.int .u32 0), (.int .i64 0), (.int .u32 0), (.int .i64 0), (.int .u32 0), (.int .i64 0), (.int .u32 0), (.int .i64 0), (.int .u32 0), (.int .i64 0), (.int .u32 0), (.int .i64 0), (.int .u32 0), (.int .i64 0), (.int .u32 0), (.int .i64 0), (.int .u32 0), (.int .i64 0), (.int .u32 0), (.int .i64 0), (.int .u32 0), (.int .i64 0), (.int .u32 0), (.int .i64 0), (.int .u32 0), (.int .i64 0), (.int .u32 0), (.int .i64 0), (.int .u32 0), (.int .i64 0), (.int .u32 0), (.int .i64 0), (.int .u32 0), (.int .i64 0), (.int .u32 0), (.int .i64 0), (.int .u32 0), (.int .i64 0), (.int .u32 0), (.int .i64 0), (.int .u32 0), (.int .i64 0), (.int .u32 0), (.int .i64 0), (.int .u32 0), (.int .i64 0), (.int .u32 0), (.int .i64 0), (.int .u32 0), (.int .i64 0), (.int .u32 0), (.int .i64 0), (.int .u32 0), (.int .i64 0), (.int .u32 0), (.int .i64 0), (.int .u32 0), (.int .i64 0), (.int .u32 0), (.int .i64 0), (.int .u32 0), (.int .i64 0), (.int .u32 0), (.int .i64 0), (.int .u32 0), (.int .i64 0), (.int .u32 0), (.int .i64 0), (.int .u32 0), (.int .i64 0), (.int .u32 0), (.int .i64 0), (.int .u32 0), (.int .i64 0), (.int .u32 0), (.int .i64 0), (.int .u32 0), (.int .i64 0), (.int .u32 0), (.int .i64 0), (.int .u32 0), (.int .i64 0), (.int .u32 0), (.int .i64 0), (.int .u32 0), (.int .i64 0), (.int .u32 0), (.int .i64 0), (.int .u32 0), (.int .i64 0), (.int .u32 0), (.int .i64 0), (.int .u32 0), (.int .i64 0), (.int .u32 0), (.int .i64 0), (.int .u32 0), (.int .i64 0), (.int .u32 0), (.int .i64 0), (.int .u32 0), (.int .i64 0), (.int .u32 0), (.int .i64 0), (.int .u32 0), (.int .i64 0), (.int .u32 0), (.int .i64 0), (.int .u32 0), (.int .i64 0), (.int .u32 0), (.int .i64 0), (.int .u32 0), (.int .i64 0), (.int .u32 0), (.int .i64 0), (.int .u32 0), (.int .i64 0), (.int .u32 0), (.int .i64 0), (.int .u32 0), (.int .i64 0), (.int .u32 0), (.int .i64 0), (.int .u32 0), (.int .i64 0), (.int .u32 0), (.int .i64 0), (.int .u32 0), (.int .i64 0), (.int .u32 0), (.int .i64 0), (.int .u32 0), (.int .i64 0), (.int .u32 0), (.int .i64 0), (.int .u32 0), (.int .i64 0), (.int .u32 0), (.int .i64 0), (.int .u32 0), (.int .i64 0), (.int .u32 0), (.int .i64 0), (.int .u32 0), (.int .i64 0), (.int .u32 0), (.int .i64 0), (.int .u32 0), (.int .i64 0), (.int .u32 0), (.int .i64 0), (.int .u32 0), (.int .i64 0), (.int .u32 0), (.int .i64 0), (.int .u32 0), (.int .i64 0), (.int .u32 0), (.int .i64 0), (.int .u32 0), (.int .i64 0), (.int .u32 0), (.int .i64 0), (.int .u32 0), (.int .i64 0), (.int .u32 0), (.int .i64 0), (.int .u32 0), (.int .i64 0), (.int .u32 0), (.int .i64 0), (.int .u32 0), (.int .i64 0), (.int .u32 0), (.int .i64 0), (.int .u32 0), (.int .i64 0), (.int .u32 0), (.int .i64 0), (.int .u32 0), (.int .i64 0), (.int .u32 0), (.int .i64 0), (.int .u32 0), (.int .i64 0), (.int .u32 0), (.int .i64 0), (.int .u32 0), (.int .i64 0), (.int .u32 0), (.int .i64 0), (.int .u32 0), (.int .i64 0), (.int .u32 0), (.int .i64 0), (.int .u32 0), (.int .i64 0), (.int .u32 0), (.int .i64 0), (.int .u32 0), (.int .i64 0), (.int .u32 0), (.int .i64 0), (.int .u32 0), (.int .i64 0), (.int .u32 0), (.int .i64 0), (.int .u32 0), (.int .i64 0), (.int .u32 0), (.int .i64 0), (.int .u32 0), (.int .i64 0), (.int .u32 0), (.int .i64 0), (.int .u32 0), (.int .i64 0), (.int .u32 0), (.int .i64 0), (.int .u32 0), (.int .i64 0), (.int .u32 0), (.int .i64 0), (.int .u32 0), (.int .i64 0), (.int .u32 0), (.int .i64 0), (.int .u32 0), (.int .i64 0), (.int .u32 0), (.int .i64 0), (.int .u32 0), (.int .i64 0), (.int .u32 0), (.int .i64 0), (.int .u32 0), (.int .i64 0), (.int .u32 0), (.int .i64 0), (.int .u32 0), (.int .i64 0), (.int .u32 0), (.int .i64 0), (.int .u32 0), (.int .i64 0), (.int .u32 0), (.int .i64 0), (.int .u32 0), (.int .i64 0), (.int .u32 0), (.int .i64 0), (.int .u32 0), (.int .i64 0), (.int .u32 0), (.int .i64 0), (.int .u32 0), (.int .i64 0), (.int .u32 0), (.int .i64 0), (.int .u32 0), (.int .i64 0), (.int .u32 0), (.int .i64 0), (.int .u32 0), (.int .i64 0), (.int .u32 0), (.int .i64 0), (.int .u32 0), (.int .i64 0), (.int .u32 0), (.int .i64 0), (.int .u32 0), (.int .i64 0), (.int .u32 0), (.int .i64 0), (.int .u32 0), (.int .i64 0), (.int .u32 0), (.int .i64 0), (.int .u32 0), (.int .i64 0), (.int .u32 0), (.int .i64 0), (.int .u32 0), (.int .i64 0), (.int .u32 0), (.int .i64 0), (.int .u32 0), (.int .i64 0), (.int .u32 0), (.int .i64 0), (.int .u32 0), (.int .i64 0), (.int .u32 0), (.int .i64 0), (.int .u32 0), (.int .i64 0), (.int .u32 0), (.int .i64 0), (.int .u32 0), (.int .i64 0), (.int .u32 0), (.int .i64 0), (.int .u32 0), (.int .i64 0), (.int .u32 0), (.int .i64 0), (.int .u32 0), (.int .i64 0), (.int .u32 0), (.int .i64 0), (.int .u32 0), (.int .i64 0), (.int .u32 0), (.int .i64 0), (.int .u32 0), (.int .i64 0), (.int .u32 0), (.int .i64 0), (.int .u32 0), (.int .i64 0), (.int .u32 0), (.int .i64 0), (.int .u32 0), (.int .i64 0), (.int .u32 0), (.int .i64 0), (.int .u32 0), (.int .i64 0), (.int .u32 0), (.int .i64 0), (.int .u32 0), (.int .i64 0), (.int .u32 0), (.int .i64 0), (.int .u32 0), (.int .i64 0), (.int .u32 0), (.int .i64 0), (.int .u32 0), (.int .i64 0), (.int .u32 0), (.int .i64 0), (.int .u32 0), (.int .i64 0), (.int .u32 0), (.int .i64 0), (.int .u32 0), (.int .i64 0), (.int .u32 0), (.int .i64 0), (.int .u32 0), (.int .i64 0), (.int .u32 0), (.int .i64 0), (.int .u32 0), (.int .i64 0), (.int .u32 0), (.int .i64 0), (.int .u32 0), (.int .i64 0), (.int .u32 0), (.int .i64 0), (.int .u32 0), (.int .i64 0), (.int .u32 0), (.int .i64 0), (.int .u32 0), (.int .i64 0), (.int .u32 0), (.int .i64 0), (.int .u32 0), (.int .i64 0), (.int .u32 0), (.int .i64 0), (.int .u32 0), (.int .i64 0), (.int .u32 0), (.int .i64 0), (.int .u32 0), (.int .i64 0), (.int .u32 0), (.int .i64 0), (.int .u32 0), (.int .i64 0)] 59) fun v1_1 =>
    bindV (buildA [(0, 1), (1, 1)] [(.int .u32 0), (.int .i64 0)] []) fun v7_2 =>
    bindV (newA [(.int .u32 0), (.int .i64 0)] 58) fun v2_3 =>
    bindV (storeA 2 v2_3 v7_2) fun _ =>
    bindV (call 34 []) fun v8_7 =>
    bindV (lenA v8_7) fun v9_8 =>
    bindV (ret (.int .i64 0)) fun v10_9 =>
    loop1 (R30.b_54 call k v0_0 v1_1 v2_3 v8_7 v9_8) k v10_9

theorem R30.eq (call : FuncId → List Value → AM Value) (k : Nat) : funcA Try.prog call k 30 [] = R30.top call k := by kernel_rfl

/-! ### 31: aqueduct/aqueductref03.rows (0 arguments) -/
noncomputable def R31.top (call : FuncId → List Value → AM Value) (k : Nat) : AM Value :=
  bindV (ret (.slice none 0 0)) fun v0_0 =>
    bindV (buildSliceA 3 1 10 [(.int .i64 0)] [(0, (.int .i64 48)), (1, (.int .i64 49)), (2, (.int .i64 50)), (3, (.int .i64 97)), (4, (.int .i64 99)), (5, (.int .i64 101)), (6, (.int .i64 105)), (7, (.int .i64 111)), (8, (.int .i64 115)), (9, (.int .i64 116))]) fun v1_1 =>
    bindV (buildA [(0, 1), (1, 1)] [(.int .i64 0), (.slice none 0 0)] [(0, (.int .i64 5)), (1, v1_1)]) fun v2_2 =>
    bindV (buildSliceA 3 1 26 [(.int .i64 0)] [(0, (.int .i64 32)), (1, (.int .i64 37)), (2, (.int .i64 45)), (3, (.int .i64 46)), (4, (.int .i64 47)), (5, (.int .i64 51)), (6, (.int .i64 52)), (7, (.int .i64 53)), (8, (.int .i64 54)), (9, (.int .i64 55)), (10, (.int .i64 56)), (11, (.int .i64 57)), (12, (.int .i64 61)), (13, (.int .i64 65)), (14, (.int .i64 95)), (15, (.int .i64 98)), (16, (.int .i64 100)), (17, (.int .i64 102)), (18, (.int .i64 103)), (19, (.int .i64 104)), (20, (.int .i64 108)), (21, (.int .i64 109)), (22, (.int .i64 110)), (23, (.int .i64 112)), (24, (.int .i64 114)), (25, (.int .i64 117))]) fun v3_3 =>
    bindV (buildA [(0, 1), (1, 1)] [(.int .i64 0), (.slice none 0 0)] [(0, (.int .i64 6)), (1, v3_3)]) fun v4_4 =>
    bindV (buildSliceA 3 1 32 [(.int .i64 0)] [(0, (.int .i64 58)), (1, (.int .i64 66)), (2, (.int .i64 67)), (3, (.int .i64 68)), (4, (.int .i64 69)), (5, (.int .i64 70)), (6, (.int .i64 71)), (7, (.int .i64 72)), (8, (.int .i64 73)), (9, (.int .i64 74)), (10, (.int .i64 75)), (11, (.int .i64 76)), (12, (.int .i64 77)), (13, (.int .i64 78)), (14, (.int .i64 79)), (15, (.int .i64 80)), (16, (.int .i64 81)), (17, (.int .i64 82)), (18, (.int .i64 83)), (19, (.int .i64 84)), (20, (.int .i64 85)), (21, (.int .i64 86)), (22, (.int .i64 87)), (23, (.int .i64 89)), (24, (.int .i64 106)), (25, (.int .i64 107)), (26, (.int .i64 113)), (27, (.int .i64 118)), (28, (.int .i64 119)), (29, (.int .i64 120)), (30, (.int .i64 121)), (31, (.int .i64 122))]) fun v5_5 =>
    bindV (buildA [(0, 1), (1, 1)] [(.int .i64 0), (.slice none 0 0)] [(0, (.int .i64 7)), (1, v5_5)]) fun v6_6 =>
    bindV (buildSliceA 3 1 6 [(.int .i64 0)] [(0, (.int .i64 38)), (1, (.int .i64 42)), (2, (.int .i64 44)), (3, (.int .i64 59)), (4, (.int .i64 88)), (5, (.int .i64 90))]) fun v7_7 =>
    bindV (buildA [(0, 1), (1, 1)] [(.int .i64 0), (.slice none 0 0)] [(0, (.int .i64 8)), (1, v7_7)]) fun v8_8 =>
    bindV (buildSliceA 3 1 5 [(.int .i64 0)] [(0, (.int .i64 33)), (1, (.int .i64 34)), (2, (.int .i64 40)), (3, (.int .i64 41)), (4, (.int .i64 63))]) fun v9_9 =>
    bindV (buildA [(0, 1), (1, 1)] [(.int .i64 0), (.slice none 0 0)] [(0, (.int .i64 10)), (1, v9_9)]) fun v10_10 =>
    bindV (buildSliceA 3 1 3 [(.int .i64 0)] [(0, (.int .i64 39)), (1, (.int .i64 43)), (2, (.int .i64 124))]) fun v11_11 =>
    bindV (buildA [(0, 1), (1, 1)] [(.int .i64 0), (.slice none 0 0)] [(0, (.int .i64 11)), (1, v11_11)]) fun v12_12 =>
    bindV (buildSliceA 3 1 2 [(.int .i64 0)] [(0, (.int .i64 35)), (1, (.int .i64 62))]) fun v13_13 =>
    bindV (buildA [(0, 1), (1, 1)] [(.int .i64 0), (.slice none 0 0)] [(0, (.int .i64 12)), (1, v13_13)]) fun v14_14 =>
    bindV (buildSliceA 3 1 6 [(.int .i64 0)] [(0, (.int .i64 0)), (1, (.int .i64 36)), (2, (.int .i64 64)), (3, (.int .i64 91)), (4, (.int .i64 93)), (5, (.int .i64 126))]) fun v15_15 =>
    bindV (buildA [(0, 1), (1, 1)] [(.int .i64 0), (.slice none 0 0)] [(0, (.int .i64 13)), (1, v15_15)]) fun v16_16 =>
    bindV (buildSliceA 3 1 2 [(.int .i64 0)] [(0, (.int .i64 94)), (1, (.int .i64 125))]) fun v17_17 =>
    bindV (buildA [(0, 1), (1, 1)] [(.int .i64 0), (.slice none 0 0)] [(0, (.int .i64 14)), (1, v17_17)]) fun v18_18 =>
    bindV (buildSliceA 3 1 3 [(.int .i64 0)] [(0, (.int .i64 60)), (1, (.int .i64 96)), (2, (.int .i64 123))]) fun v19_19 =>
    bindV (buildA [(0, 1), (1, 1)] [(.int .i64 0), (.slice none 0 0)] [(0, (.int .i64 15)), (1, v19_19)]) fun v20_20 =>
    bindV (buildSliceA 3 1 3 [(.int .i64 0)] [(0, (.int .i64 92)), (1, (.int .i64 195)), (2, (.int .i64 208))]) fun v21_21 =>
    bindV (buildA [(0, 1), (1, 1)] [(.int .i64 0), (.slice none 0 0)] [(0, (.int .i64 19)), (1, v21_21)]) fun v22_22 =>
    bindV (buildSliceA 3 1 8 [(.int .i64 0)] [(0, (.int .i64 128)), (1, (.int .i64 130)), (2, (.int .i64 131)), (3, (.int .i64 162)), (4, (.int .i64 184)), (5, (.int .i64 194)), (6, (.int .i64 224)), (7, (.int .i64 226))]) fun v23_23 =>
    bindV (buildA [(0, 1), (1, 1)] [(.int .i64 0), (.slice none 0 0)] [(0, (.int .i64 20)), (1, v23_23)]) fun v24_24 =>
    bindV (buildSliceA 3 1 13 [(.int .i64 0)] [(0, (.int .i64 153)), (1, (.int .i64 161)), (2, (.int .i64 167)), (3, (.int .i64 172)), (4, (.int .i64 176)), (5, (.int .i64 177)), (6, (.int .i64 179)), (7, (.int .i64 209)), (8, (.int .i64 216)), (9, (.int .i64 217)), (10, (.int .i64 227)), (11, (.int .i64 229)), (12, (.int .i64 230))]) fun v25_25 =>
    bindV (buildA [(0, 1), (1, 1)] [(.int .i64 0), (.slice none 0 0)] [(0, (.int .i64 21)), (1, v25_25)]) fun v26_26 =>
    bindV (buildSliceA 3 1 26 [(.int .i64 0)] [(0, (.int .i64 129)), (1, (.int .i64 132)), (2, (.int .i64 133)), (3, (.int .i64 134)), (4, (.int .i64 136)), (5, (.int .i64 146)), (6, (.int .i64 154)), (7, (.int .i64 156)), (8, (.int .i64 160)), (9, (.int .i64 163)), (10, (.int .i64 164)), (11, (.int .i64 169)), (12, (.int .i64 170)), (13, (.int .i64 173)), (14, (.int .i64 178)), (15, (.int .i64 181)), (16, (.int .i64 185)), (17, (.int .i64 186)), (18, (.int .i64 187)), (19, (.int .i64 189)), (20, (.int .i64 190)), (21, (.int .i64 196)), (22, (.int .i64 198)), (23, (.int .i64 228)), (24, (.int .i64 232)), (25, (.int .i64 233))]) fun v27_27 =>
    bindV (buildA [(0, 1), (1, 1)] [(.int .i64 0), (.slice none 0 0)] [(0, (.int .i64 22)), (1, v27_27)]) fun v28_28 =>
    bindV (buildSliceA 3 1 29 [(.int .i64 0)] [(0, (.int .i64 1)), (1, (.int .i64 135)), (2, (.int .i64 137)), (3, (.int .i64 138)), (4, (.int .i64 139)), (5, (.int .i64 140)), (6, (.int .i64 141)), (7, (.int .i64 143)), (8, (.int .i64 147)), (9, (.int .i64 149)), (10, (.int .i64 150)), (11, (.int .i64 151)), (12, (.int .i64 152)), (13, (.int .i64 155)), (14, (.int .i64 157)), (15, (.int .i64 158)), (16, (.int .i64 165)), (17, (.int .i64 166)), (18, (.int .i64 168)), (19, (.int .i64 174)), (20, (.int .i64 175)), (21, (.int .i64 180)), (22, (.int .i64 182)), (23, (.int .i64 183)), (24, (.int .i64 188)), (25, (.int .i64 191)), (26, (.int .i64 197)), (27, (.int .i64 231)), (28, (.int .i64 239))]) fun v29_29 =>
    bindV (buildA [(0, 1), (1, 1)] [(.int .i64 0), (.slice none 0 0)] [(0, (.int .i64 23)), (1, v29_29)]) fun v30_30 =>
    bindV (buildSliceA 3 1 12 [(.int .i64 0)] [(0, (.int .i64 9)), (1, (.int .i64 142)), (2, (.int .i64 144)), (3, (.int .i64 145)), (4, (.int .i64 148)), (5, (.int .i64 159)), (6, (.int .i64 171)), (7, (.int .i64 206)), (8, (.int .i64 215)), (9, (.int .i64 225)), (10, (.int .i64 236)), (11, (.int .i64 237))]) fun v31_31 =>
    bindV (buildA [(0, 1), (1, 1)] [(.int .i64 0), (.slice none 0 0)] [(0, (.int .i64 24)), (1, v31_31)]) fun v32_32 =>
    bindV (buildSliceA 3 1 4 [(.int .i64 0)] [(0, (.int .i64 199)), (1, (.int .i64 207)), (2, (.int .i64 234)), (3, (.int .i64 235))]) fun v33_33 =>
    bindV (buildA [(0, 1), (1, 1)] [(.int .i64 0), (.slice none 0 0)] [(0, (.int .i64 25)), (1, v33_33)]) fun v34_34 =>
    bindV (buildSliceA 3 1 15 [(.int .i64 0)] [(0, (.int .i64 192)), (1, (.int .i64 193)), (2, (.int .i64 200)), (3, (.int .i64 201)), (4, (.int .i64 202)), (5, (.int .i64 205)), (6, (.int .i64 210)), (7, (.int .i64 213)), (8, (.int .i64 218)), (9, (.int .i64 219)), (10, (.int .i64 238)), (11, (.int .i64 240)), (12, (.int .i64 242)), (13, (.int .i64 243)), (14, (.int .i64 255))]) fun v35_35 =>
    bindV (buildA [(0, 1), (1, 1)] [(.int .i64 0), (.slice none 0 0)] [(0, (.int .i64 26)), (1, v35_35)]) fun v36_36 =>
    bindV (buildSliceA 3 1 19 [(.int .i64 0)] [(0, (.int .i64 203)), (1, (.int .i64 204)), (2, (.int .i64 211)), (3, (.int .i64 212)), (4, (.int .i64 214)), (5, (.int .i64 221)), (6, (.int .i64 222)), (7, (.int .i64 223)), (8, (.int .i64 241)), (9, (.int .i64 244)), (10, (.int .i64 245)), (11, (.int .i64 246)), (12, (.int .i64 247)), (13, (.int .i64 248)), (14, (.int .i64 250)), (15, (.int .i64 251)), (16, (.int .i64 252)), (17, (.int .i64 253)), (18, (.int .i64 254))]) fun v37_37 =>
    bindV (buildA [(0, 1), (1, 1)] [(.int .i64 0), (.slice none 0 0)] [(0, (.int .i64 27)), (1, v37_37)]) fun v38_38 =>
    bindV (buildSliceA 3 1 29 [(.int .i64 0)] [(0, (.int .i64 2)), (1, (.int .i64 3)), (2, (.int .i64 4)), (3, (.int .i64 5)), (4, (.int .i64 6)), (5, (.int .i64 7)), (6, (.int .i64 8)), (7, (.int .i64 11)), (8, (.int .i64 12)), (9, (.int .i64 14)), (10, (.int .i64 15)), (11, (.int .i64 16)), (12, (.int .i64 17)), (13, (.int .i64 18)), (14, (.int .i64 19)), (15, (.int .i64 20)), (16, (.int .i64 21)), (17, (.int .i64 23)), (18, (.int .i64 24)), (19, (.int .i64 25)), (20, (.int .i64 26)), (21, (.int .i64 27)), (22, (.int .i64 28)), (23, (.int .i64 29)), (24, (.int .i64 30)), (25, (.int .i64 31)), (26, (.int .i64 127)), (27, (.int .i64 220)), (28, (.int .i64 249))]) fun v39_39 =>
    bindV (buildA [(0, 1), (1, 1)] [(.int .i64 0), (.slice none 0 0)] [(0, (.int .i64 28)), (1, v39_39)]) fun v40_40 =>
    bindV (buildSliceA 3 1 4 [(.int .i64 0)] [(0, (.int .i64 10)), (1, (.int .i64 13)), (2, (.int .i64 22)), (3, (.int .i64 256))]) fun v41_41 =>
    bindV (buildA [(0, 1), (1, 1)] [(.int .i64 0), (.slice none 0 0)] [(0, (.int .i64 30)), (1, v41_41)]) fun v42_42 =>
    bindV (buildSliceA 66 2 21 [(.int .i64 0), (.slice none 0 0)] [(0, v2_2), (1, v4_4), (2, v6_6), (3, v8_8), (4, v10_10), (5, v12_12), (6, v14_14), (7, v16_16), (8, v18_18), (9, v20_20), (10, v22_22), (11, v24_24), (12, v26_26), (13, v28_28), (14, v30_30), (15, v32_32), (16, v34_34), (17, v36_36), (18, v38_38), (19, v40_40), (20, v42_42)]) fun v43_43 =>
    bindV (ret v43_43) fun v0_44 =>
    ret v0_44

theorem R31.eq (call : FuncId → List Value → AM Value) (k : Nat) : funcA Try.prog call k 31 [] = R31.top call k := by kernel_rfl

/-! ### 32: aqueduct/huff.Encode$1 (4 arguments) -/
noncomputable def R32.b_33 (call : FuncId → List Value → AM Value) (k : Nat) (v1_in : Value) (v2_in : Value) (v3_in : Value) (rec_0_15 : AM Value) : AM Value :=
  bindV (loadA none v2_in) fun v17_31 =>
    bindV (binA Try.prog .geq 3 v17_31 (.int .i64 8)) fun v18_32 =>
    condA v18_32 (bindV (loadA none v3_in) fun v21_19 =>
    bindV (loadA none v1_in) fun v22_20 =>
    bindV (loadA none v2_in) fun v23_21 =>
    bindV (binA Try.prog .sub 3 v23_21 (.int .i64 8)) fun v24_22 =>
    bindV (binA Try.prog .shr 61 v22_20 v24_22) fun v25_23 =>
    bindV (convIntA .u8 v25_23) fun v26_24 =>
    bindV (buildSliceA 5 1 1 [(.int .u8 0)] [(0, v26_24)]) fun v27_26 =>
    hereV [((loadA none v3_in : AM Value), (v21_19 : Value))] (
    bindV (appendA 5 1 1 v21_19 v27_26) fun v28_28 =>
    bindV (storeA 1 v3_in v28_28) fun _ =>
    bindV (loadA none v2_in) fun v19_16 =>
    bindV (binA Try.prog .sub 3 v19_16 (.int .i64 8)) fun v20_17 =>
    bindV (storeA 1 v2_in v20_17) fun _ =>
    rec_0_15))
    (ret (.tuple #[]))

noncomputable def R32.top (call : FuncId → List Value → AM Value) (k : Nat) (v0_in : Value) (v1_in : Value) (v2_in : Value) (v3_in : Value) : AM Value :=
  bindV (boxA 58 v0_in) fun v4_0 =>
    bindV (loadA none v1_in) fun v5_1 =>
    bindV (fieldAddrA 1 v4_0) fun v6_2 =>
    bindV (loadA none v6_2) fun v7_3 =>
    bindV (binA Try.prog .shl 61 v5_1 v7_3) fun v8_4 =>
    bindV (fieldAddrA 0 v4_0) fun v9_5 =>
    bindV (loadA none v9_5) fun v10_6 =>
    bindV (convIntA .u64 v10_6) fun v11_7 =>
    bindV (binA Try.prog .or 61 v8_4 v11_7) fun v12_8 =>
    bindV (loadA none v2_in) fun v13_9 =>
    bindV (fieldAddrA 1 v4_0) fun v14_10 =>
    bindV (loadA none v14_10) fun v15_11 =>
    bindV (binA Try.prog .add 3 v13_9 v15_11) fun v16_12 =>
    bindV (storeA 1 v1_in v12_8) fun _ =>
    hereV [((loadA none v14_10 : AM Value), (v15_11 : Value)), ((loadA none v2_in : AM Value), (v13_9 : Value))] (
    bindV (storeA 1 v2_in v16_12) fun _ =>
    loop0 (R32.b_33 call k v1_in v2_in v3_in) k)

theorem R32.eq (call : FuncId → List Value → AM Value) (k : Nat) (v0_in : Value) (v1_in : Value) (v2_in : Value) (v3_in : Value) : funcA Try.prog call k 32 [v0_in, v1_in, v2_in, v3_in] = R32.top call k v0_in v1_in v2_in v3_in := by kernel_rfl

/-! ### 33: aqueduct/aqueductref03.bits (1 arguments) -/
noncomputable def R33.b_20 (call : FuncId → List Value → AM Value) (k : Nat) (rec_1_9 : Value → AM Value) (v5_10 : Value) : AM Value :=
  bindV (ret v5_10) fun v53_16 =>
    bindV (lenA v53_16) fun v54_17 =>
    bindV (binA Try.prog .rem 3 v54_17 (.int .i64 8)) fun v55_18 =>
    bindV (binA Try.prog .neq 3 v55_18 (.int .i64 0)) fun v56_19 =>
    condA v56_19 (bindV (ret v5_10) fun v57_11 =>
    bindV (buildSliceA 5 1 1 [(.int .u8 0)] [(0, (.int .u8 1))]) fun v58_12 =>
    bindV (appendA 5 1 1 v57_11 v58_12) fun v59_13 =>
    bindV (ret v59_13) fun v5_14 =>
    rec_1_9 v5_14)
    (bindV (ret v5_10) fun v60_6 =>
    bindV (ret v60_6) fun v2_7 =>
    ret v2_7)

noncomputable def R33.b_64 (call : FuncId → List Value → AM Value) (k : Nat) (rec_2_23 : Value → Value → AM Value) (v3_1 : Value) (v6_25 : Value) (v7_35 : Value) (rec_2_41 : Value → Value → AM Value) (v5_42 : Value) (v8_43 : Value) : AM Value :=
  bindV (ret v8_43) fun v38_62 =>
    bindV (binA Try.prog .geq 3 v38_62 (.int .i64 0)) fun v39_63 =>
    condA v39_63 (bindV (ret v5_42) fun v42_49 =>
    bindV (ret v7_35) fun v43_50 =>
    bindV (indexArrAddrA 256 1 v3_1 v43_50) fun v44_51 =>
    bindV (loadA none v44_51) fun v45_52 =>
    bindV (ret v8_43) fun v46_53 =>
    bindV (convIntA .u64 v46_53) fun v47_54 =>
    bindV (binA Try.prog .shr 22 v45_52 v47_54) fun v48_55 =>
    bindV (binA Try.prog .rem 22 v48_55 (.int .u32 2)) fun v49_56 =>
    bindV (convIntA .u8 v49_56) fun v50_57 =>
    bindV (buildSliceA 5 1 1 [(.int .u8 0)] [(0, v50_57)]) fun v51_58 =>
    bindV (appendA 5 1 1 v42_49 v51_58) fun v52_59 =>
    bindV (ret v52_59) fun v5_60 =>
    bindV (ret v8_43) fun v40_45 =>
    bindV (binA Try.prog .sub 3 v40_45 (.int .i64 1)) fun v41_46 =>
    bindV (ret v41_46) fun v8_47 =>
    rec_2_41 v5_60 v8_47)
    (bindV (ret v6_25) fun v13_27 =>
    bindV (binA Try.prog .add 3 v13_27 (.int .i64 1)) fun v14_28 =>
    bindV (ret v14_28) fun v6_29 =>
    rec_2_23 v5_42 v6_29)

noncomputable def R33.j_65 (call : FuncId → List Value → AM Value) (k : Nat) (rec_2_23 : Value → Value → AM Value) (v3_1 : Value) (v4_2 : Value) (v5_24 : Value) (v6_25 : Value) (v7_35 : Value) : AM Value :=
  bindV (ret v7_35) fun v34_36 =>
    bindV (indexArrAddrA 256 1 v4_2 v34_36) fun v35_37 =>
    bindV (loadA none v35_37) fun v36_38 =>
    bindV (binA Try.prog .sub 3 v36_38 (.int .i64 1)) fun v37_39 =>
    bindV (ret v37_39) fun v8_40 =>
    loop2 (R33.b_64 call k rec_2_23 v3_1 v6_25 v7_35) k v5_24 v8_40

noncomputable def R33.b_86 (call : FuncId → List Value → AM Value) (k : Nat) (v0_in : Value) (v3_1 : Value) (v4_2 : Value) (rec_2_23 : Value → Value → AM Value) (v5_24 : Value) (v6_25 : Value) : AM Value :=
  bindV (ret v6_25) fun v9_82 =>
    bindV (ret v0_in) fun v10_83 =>
    bindV (lenA v10_83) fun v11_84 =>
    bindV (binA Try.prog .lss 3 v9_82 v11_84) fun v12_85 =>
    condA v12_85 (bindV (ret v0_in) fun v15_31 =>
    bindV (ret v6_25) fun v16_32 =>
    bindV (indexAddrA 1 v15_31 v16_32) fun v17_33 =>
    bindV (loadA none v17_33) fun v18_34 =>
    bindV (ret v18_34) fun v7_35 =>
    bindV (ret v7_35) fun v19_66 =>
    bindV (indexArrAddrA 256 1 v4_2 v19_66) fun v20_67 =>
    bindV (loadA none v20_67) fun v21_68 =>
    bindV (binA Try.prog .eql 3 v21_68 (.int .i64 0)) fun v22_69 =>
    condA v22_69 (bindV (ret v7_35) fun v24_70 =>
    bindV (ret v7_35) fun v25_71 =>
    bindV (ret v7_35) fun v26_72 =>
    bindV (convIntA .i64 v26_72) fun v27_73 =>
    bindV (call 15 [v27_73]) fun v28_74 =>
    bindV (ret v28_74) fun v23_75 =>
    bindV (extractA v23_75 0) fun v29_76 =>
    bindV (extractA v23_75 1) fun v30_77 =>
    bindV (extractA v23_75 2) fun v31_78 =>
    bindV (indexArrAddrA 256 1 v3_1 v24_70) fun v32_79 =>
    bindV (storeA 1 v32_79 v29_76) fun _ =>
    bindV (indexArrAddrA 256 1 v4_2 v25_71) fun v33_80 =>
    bindV (storeA 1 v33_80 v30_77) fun _ =>
    R33.j_65 call k rec_2_23 v3_1 v4_2 v5_24 v6_25 v7_35)
    (R33.j_65 call k rec_2_23 v3_1 v4_2 v5_24 v6_25 v7_35))
    (loop1 (R33.b_20 call k) k v5_24)

noncomputable def R33.top (call : FuncId → List Value → AM Value) (k : Nat) (v0_in : Value) : AM Value :=
  bindV (ret (.slice none 0 0)) fun v2_0 =>
    bindV (newA [(.int .u32 0), (.int .u32 0), (.int .u32 0), (.int .u32 0), (.int .u32 0), (.int .u32 0), (.int .u32 0), (.int .u32 0), (.int .u32 0), (.int .u32 0), (.int .u32 0), (.int .u32 0), (.int .u32 0), (.int .u32 0), (.int .u32 0), (.int .u32 0), (.int .u32 0), (.int .u32 0), (.int .u32 0), (.int .u32 0), (.int .u32 0), (.int .u32 0), (.int .u32 0), (.int .u32 0), (.int .u32 0), (.int .u32 0), (.int .u32 0), (.int .u32 0), (.int .u32 0), (.int .u32 0), (.int .u32 0), (.int .u32 0), (.int .u32 0), (.int .u32 0), (.int .u32 0), (.int .u32 0), (.int .u32 0), (.int .u32 0), (.int .u32 0), (.int .u32 0), (.int .u32 0), (.int .u32 0), (.int .u32 0), (.int .u32 0), (.int .u32 0), (.int .u32 0), (.int .u32 0), (.int .u32 0), (.int .u32 0), (.int .u32 0), (.int .u32 0), (.int .u32 0), (.int .u32 0), (.int .u32 0), (.int .u32 0), (.int .u32 0), (.int .u32 0), (.int .u32 0), (.int .u32 0), (.int .u32 0), (.int .u32 0), (.int .u32 0), (.int .u32 0), (.int .u32 0), (.int .u32 0), (.int .u32 0), (.int .u32 0), (.int .u32 0), (.int .u32 0), (.int .u32 0), (.int .u32 0), (.int .u32 0), (.int .u32 0), (.int .u32 0), (.int .u32 0), (.int .u32 0), (.int .u32 0), (.int .u32 0), (.int .u32 0), (.int .u32 0), (.int .u32 0), (.int .u32 0), (.int .u32 0), (.int .u32 0), (.int .u32 0), (.int .u32 0), (.int .u32 0), (.int .u32 0), (.int .u32 0), (.int .u32 0), (.int .u32 0), (.int .u32 0), (.int .u32 0), (.int .u32 0), (.int .u32 0), (.int .u32 0), (.int .u32 0), (.int .u32 0), (.int .u32 0), (.int .u32 0), (.int .u32 0), (.int .u32 0), (.int .u32 0), (.int .u32 0), (.int .u32 0), (.int .u32 0), (.int .u32 0), (.int .u32 0), (.int .u32 0), (.int .u32 0), (.int .u32 0), (.int .u32 0), (.int .u32 0), (.int .u32 0), (.int .u32 0), (.int .u32 0), (.int .u32 0), (.int .u32 0), (.int .u32 0), (.int .u32 0), (.int .u32 0), (.int .u32 0), (.int .u32 0), (.int .u32 0), (.int .u32 0), (.int .u32 0), (.int .u32 0), (.int .u32 0), (.int .u32 0), (.int .u32 0), (.int .u32 0), (.int .u32 0), (.int .u32 0), (.int .u32 0), (.int .u32 0), (.int .u32 0), (.int .u32 0), (.int .u32 0), (.int .u32 0), (.int .u32 0), (.int .u32 0), (.int .u32 0), (.int .u32 0), (.int .u32 0), (.int .u32 0), (.int .u32 0), (.int .u32 0), (.int .u32 0), (.int .u32 0), (.int .u32 0), (.int .u32 0), (.int .u32 0), (.int .u32 0), (.int .u32 0), (.int .u32 0), (.int .u32 0), (.int .u32 0), (.int .u32 0), (.int .u32 0), (.int .u32 0), (.int .u32 0), (.int .u32 0), (.int .u32 0), (.int .u32 0), (.int .u32 0), (.int .u32 0), (.int .u32 0), (.int .u32 0), (.int .u32 0), (.int .u32 0), (.int .u32 0), (.int .u32 0), (.int .u32 0), (.int .u32 0), (.int .u32 0), (.int .u32 0), (.int .u32 0), (.int .u32 0), (.int .u32 0), (.int .u32 0), (.int .u32 0), (.int .u32 0), (.int .u32 0), (.int .u32 0), (.int .u32 0), (.int .u32 0), (.int .u32 0), (.int .u32 0), (.int .u32 0), (.int .u32 0), (.int .u32 0), (.int .u32 0), (.int .u32 0), (.int .u32 0), (.int .u32 0), (.int .u32 0), (.int .u32 0), (.int .u32 0), (.int .u32 0), (.int .u32 0), (.int .u32 0), (.int .u32 0), (.int .u32 0), (.int .u32 0), (.int .u32 0), (.int .u32 0), (.int .u32 0), (.int .u32 0), (.int .u32 0), (.int .u32 0), (.int .u32 0), (.int .u32 0), (.int .u32 0), (.int .u32 0), (.int .u32 0), (.int .u32 0), (.int .u32 0), (.int .u32 0), (.int .u32 0), (.int .u32 0), (.int .u32 0), (.int .u32 0), (.int .u32 0), (.int .u32 0), (.int .u32 0), (.int .u32 0), (.int .u32 0), (.int .u32 0), (.int .u32 0), (.int .u32 0), (.int .u32 0), (.int .u32 0), (.int .u32 0), (.int .u32 0), (.int .u32 0), (.int .u32 0), (.int .u32 0), (.int .u32 0), (.int .u32 0), (.int .u32 0), (.int .u32 0), (.int .u32 0), (.int .u32 0), (.int .u32 0), (.int .u32 0), (.int .u32 0), (.int .u32 0), (.int .u32 0), (.int .u32 0), (.int .u32 0), (.int .u32 0), (.int .u32 0), (.int .u32 0), (.int .u32 0), (.int .u32 0), (.int .u32 0)] 76) fun v3_1 =>
    bindV (newA [(.int .i64 0), (.int .i64 0), (.int .i64 0), (.int .i64 0), (.int .i64 0), (.int .i64 0), (.int .i64 0), (.int .i64 0), (.int .i64 0), (.int .i64 0), (.int .i64 0), (.int .i64 0), (.int .i64 0), (.int .i64 0), (.int .i64 0), (.int .i64 0), (.int .i64 0), (.int .i64 0), (.int .i64 0), (.int .i64 0), (.int .i64 0), (.int .i64 0), (.int .i64 0), (.int .i64 0), (.int .i64 0), (.int .i64 0), (.int .i64 0), (.int .i64 0), (.int .i64 0), (.int .i64 0), (.int .i64 0), (.int .i64 0), (.int .i64 0), (.int .i64 0), (.int .i64 0), (.int .i64 0), (.int .i64 0), (.int .i64 0), (.int .i64 0), (.int .i64 0), (.int .i64 0), (.int .i64 0), (.int .i64 0), (.int .i64 0), (.int .i64 0), (.int .i64 0), (.int .i64 0), (.int .i64 0), (.int .i64 0), (.int .i64 0), (.int .i64 0), (.int .i64 0), (.int .i64 0), (.int .i64 0), (.int .i64 0), (.int .i64 0), (.int .i64 0), (.int .i64 0), (.int .i64 0), (.int .i64 0), (.int .i64 0), (.int .i64 0), (.int .i64 0), (.int .i64 0), (.int .i64 0), (.int .i64 0), (.int .i64 0), (.int .i64 0), (.int .i64 0), (.int .i64 0), (.int .i64 0), (.int .i64 0), (.int .i64 0), (.int .i64 0), (.int .i64 0), (.int .i64 0), (.int .i64 0), (.int .i64 0), (.int .i64 0), (.int .i64 0), (.int .i64 0), (.int .i64 0), (.int .i64 0), (.int .i64 0), (.int .i64 0), (.int .i64 0), (.int .i64 0), (.int .i64 0), (.int .i64 0), (.int .i64 0), (.int .i64 0), (.int .i64 0), (.int .i64 0), (.int .i64 0), (.int .i64 0), (.int .i64 0), (.int .i64 0), (.int .i64 0), (.int .i64 0), (.int .i64 0), (.int .i64 0), (.int .i64 0), (.int .i64 0), (.int .i64 0), (.int .i64 0), (.int .i64 0), (.int .i64 0), (.int .i64 0), (.int .i64 0), (.int .i64 0), (.int .i64 0), (.int .i64 0), (.int .i64 0), (.int .i64 0), (.int .i64 0), (.int .i64 0), (.int .i64 0), (.int .i64 0), (.int .i64 0), (.int .i64 0), (.int .i64 0), (.int .i64 0), (.int .i64 0), (.int .i64 0), (.int .i64 0), (.int .i64 0), (.int .i64 0), (.int .i64 0), (.int .i64 0), (.int .i64 0), (.int .i64 0), (.int .i64 0), (.int .i64 0), (.int .i64 0), (.int .i64 0), (.int .i64 0), (.int .i64 0), (.int .i64 0), (.int .i64 0), (.int .i64 0), (.int .i64 0), (.int .i64 0), (.int .i64 0), (.int .i64 0), (.int .i64 0), (.int .i64 0), (.int .i64 0), (.int .i64 0), (.int .i64 0), (.int .i64 0), (.int .i64 0), (.int .i64 0), (.int .i64 0), (.int .i64 0), (.int .i64 0), (.int .i64 0), (.int .i64 0), (.int .i64 0), (.int .i64 0), (.int .i64 0), (.int .i64 0), (.int .i64 0), (.int .i64 0), (.int .i64 0), (.int .i64 0), (.int .i64 0), (.int .i64 0), (.int .i64 0), (.int .i64 0), (.int .i64 0), (.int .i64 0), (.int .i64 0), (.int .i64 0), (.int .i64 0), (.int .i64 0), (.int .i64 0), (.int .i64 0), (.int .i64 0), (.int .i64 0), (.int .i64 0), (.int .i64 0), (.int .i64 0), (.int .i64 0), (.int .i64 0), (.int .i64 0), (.int .i64 0), (.int .i64 0), (.int .i64 0), (.int .i64 0), (.int .i64 0), (.int .i64 0), (.int .i64 0), (.int .i64 0), (.int .i64 0), (.int .i64 0), (.int .i64 0), (.int .i64 0), (.int .i64 0), (.int .i64 0), (.int .i64 0), (.int .i64 0), (.int .i64 0), (.int .i64 0), (.int .i64 0), (.int .i64 0), (.int .i64 0), (.int .i64 0), (.int .i64 0), (.int .i64 0), (.int .i64 0), (.int .i64 0), (.int .i64 0), (.int .i64 0), (.int .i64 0), (.int .i64 0), (.int .i64 0), (.int .i64 0), (.int .i64 0), (.int .i64 0), (.int .i64 0), (.int .i64 0), (.int .i64 0), (.int .i64 0), (.int .i64 0), (.int .i64 0), (.int .i64 0), (.int .i64 0), (.int .i64 0), (.int .i64 0), (.int .i64 0), (.int .i64 0), (.int .i64 0), (.int .i64 0), (.int .i64 0), (.int .i64 0), (.int .i64 0), (.int .i64 0), (.int .i64 0), (.int .i64 0), (.int .i64 0), (.int .i64 0), (.int .i64 0), (.int .i64 0), (.int .i64 0), (.int .i64 0), (.int .i64 0), (.int .i64 0), (.int .i64 0), (.int .i64 0), (.int .i64 0), (.int .i64 0), (.int .i64 0), (.int .i64 0), (.int .i64 0), (.int .i64 0), (.int .i64 0)] 77) fun v4_2 =>
    bindV (ret (.slice none 0 0)) fun v5_3 =>
    bindV (ret (.int .i64 0)) fun v6_22 =>
    loop2 (R33.b_86 call k v0_in v3_1 v4_2) k v5_3 v6_22

theorem R33.eq (call : FuncId → List Value → AM Value) (k : Nat) (v0_in : Value) : funcA Try.prog call k 33 [v0_in] = R33.top call k v0_in := by kernel_rfl

/-! ### 34: aqueduct/huff.groups (0 arguments) -/
noncomputable def R34.top (call : FuncId → List Value → AM Value) (k : Nat) : AM Value :=
  bindV (ret (.slice none 0 0)) fun v0_0 =>
    bindV (buildSliceA 30 1 10 [(.int .u16 0)] [(0, (.int .u16 48)), (1, (.int .u16 49)), (2, (.int .u16 50)), (3, (.int .u16 97)), (4, (.int .u16 99)), (5, (.int .u16 101)), (6, (.int .u16 105)), (7, (.int .u16 111)), (8, (.int .u16 115)), (9, (.int .u16 116))]) fun v1_1 =>
    bindV (buildA [(0, 1), (1, 1)] [(.int .i64 0), (.slice none 0 0)] [(0, (.int .i64 5)), (1, v1_1)]) fun v2_2 =>
    bindV (buildSliceA 30 1 26 [(.int .u16 0)] [(0, (.int .u16 32)), (1, (.int .u16 37)), (2, (.int .u16 45)), (3, (.int .u16 46)), (4, (.int .u16 47)), (5, (.int .u16 51)), (6, (.int .u16 52)), (7, (.int .u16 53)), (8, (.int .u16 54)), (9, (.int .u16 55)), (10, (.int .u16 56)), (11, (.int .u16 57)), (12, (.int .u16 61)), (13, (.int .u16 65)), (14, (.int .u16 95)), (15, (.int .u16 98)), (16, (.int .u16 100)), (17, (.int .u16 102)), (18, (.int .u16 103)), (19, (.int .u16 104)), (20, (.int .u16 108)), (21, (.int .u16 109)), (22, (.int .u16 110)), (23, (.int .u16 112)), (24, (.int .u16 114)), (25, (.int .u16 117))]) fun v3_3 =>
    bindV (buildA [(0, 1), (1, 1)] [(.int .i64 0), (.slice none 0 0)] [(0, (.int .i64 6)), (1, v3_3)]) fun v4_4 =>
    bindV (buildSliceA 30 1 32 [(.int .u16 0)] [(0, (.int .u16 58)), (1, (.int .u16 66)), (2, (.int .u16 67)), (3, (.int .u16 68)), (4, (.int .u16 69)), (5, (.int .u16 70)), (6, (.int .u16 71)), (7, (.int .u16 72)), (8, (.int .u16 73)), (9, (.int .u16 74)), (10, (.int .u16 75)), (11, (.int .u16 76)), (12, (.int .u16 77)), (13, (.int .u16 78)), (14, (.int .u16 79)), (15, (.int .u16 80)), (16, (.int .u16 81)), (17, (.int .u16 82)), (18, (.int .u16 83)), (19, (.int .u16 84)), (20, (.int .u16 85)), (21, (.int .u16 86)), (22, (.int .u16 87)), (23, (.int .u16 89)), (24, (.int .u16 106)), (25, (.int .u16 107)), (26, (.int .u16 113)), (27, (.int .u16 118)), (28, (.int .u16 119)), (29, (.int .u16 120)), (30, (.int .u16 121)), (31, (.int .u16 122))]) fun v5_5 =>
    bindV (buildA [(0, 1), (1, 1)] [(.int .i64 0), (.slice none 0 0)] [(0, (.int .i64 7)), (1, v5_5)]) fun v6_6 =>
    bindV (buildSliceA 30 1 6 [(.int .u16 0)] [(0, (.int .u16 38)), (1, (.int .u16 42)), (2, (.int .u16 44)), (3, (.int .u16 59)), (4, (.int .u16 88)), (5, (.int .u16 90))]) fun v7_7 =>
    bindV (buildA [(0, 1), (1, 1)] [(.int .i64 0), (.slice none 0 0)] [(0, (.int .i64 8)), (1, v7_7)]) fun v8_8 =>
    bindV (buildSliceA 30 1 5 [(.int .u16 0)] [(0, (.int .u16 33)), (1, (.int .u16 34)), (2, (.int .u16 40)), (3, (.int .u16 41)), (4, (.int .u16 63))]) fun v9_9 =>
    bindV (buildA [(0, 1), (1, 1)] [(.int .i64 0), (.slice none 0 0)] [(0, (.int .i64 10)), (1, v9_9)]) fun v10_10 =>
    bindV (buildSliceA 30 1 3 [(.int .u16 0)] [(0, (.int .u16 39)), (1, (.int .u16 43)), (2, (.int .u16 124))]) fun v11_11 =>
    bindV (buildA [(0, 1), (1, 1)] [(.int .i64 0), (.slice none 0 0)] [(0, (.int .i64 11)), (1, v11_11)]) fun v12_12 =>
    bindV (buildSliceA 30 1 2 [(.int .u16 0)] [(0, (.int .u16 35)), (1, (.int .u16 62))]) fun v13_13 =>
    bindV (buildA [(0, 1), (1, 1)] [(.int .i64 0), (.slice none 0 0)] [(0, (.int .i64 12)), (1, v13_13)]) fun v14_14 =>
    bindV (buildSliceA 30 1 6 [(.int .u16 0)] [(0, (.int .u16 0)), (1, (.int .u16 36)), (2, (.int .u16 64)), (3, (.int .u16 91)), (4, (.int .u16 93)), (5, (.int .u16 126))]) fun v15_15 =>
    bindV (buildA [(0, 1), (1, 1)] [(.int .i64 0), (.slice none 0 0)] [(0, (.int .i64 13)), (1, v15_15)]) fun v16_16 =>
    bindV (buildSliceA 30 1 2 [(.int .u16 0)] [(0, (.int .u16 94)), (1, (.int .u16 125))]) fun v17_17 =>
    bindV (buildA [(0, 1), (1, 1)] [(.int .i64 0), (.slice none 0 0)] [(0, (.int .i64 14)), (1, v17_17)]) fun v18_18 =>
    bindV (buildSliceA 30 1 3 [(.int .u16 0)] [(0, (.int .u16 60)), (1, (.int .u16 96)), (2, (.int .u16 123))]) fun v19_19 =>
    bindV (buildA [(0, 1), (1, 1)] [(.int .i64 0), (.slice none 0 0)] [(0, (.int .i64 15)), (1, v19_19)]) fun v20_20 =>
    bindV (buildSliceA 30 1 3 [(.int .u16 0)] [(0, (.int .u16 92)), (1, (.int .u16 195)), (2, (.int .u16 208))]) fun v21_21 =>
    bindV (buildA [(0, 1), (1, 1)] [(.int .i64 0), (.slice none 0 0)] [(0, (.int .i64 19)), (1, v21_21)]) fun v22_22 =>
    bindV (buildSliceA 30 1 8 [(.int .u16 0)] [(0, (.int .u16 128)), (1, (.int .u16 130)), (2, (.int .u16 131)), (3, (.int .u16 162)), (4, (.int .u16 184)), (5, (.int .u16 194)), (6, (.int .u16 224)), (7, (.int .u16 226))]) fun v23_23 =>
    bindV (buildA [(0, 1), (1, 1)] [(.int .i64 0), (.slice none 0 0)] [(0, (.int .i64 20)), (1, v23_23)]) fun v24_24 =>
    bindV (buildSliceA 30 1 13 [(.int .u16 0)] [(0, (.int .u16 153)), (1, (.int .u16 161)), (2, (.int .u16 167)), (3, (.int .u16 172)), (4, (.int .u16 176)), (5, (.int .u16 177)), (6, (.int .u16 179)), (7, (.int .u16 209)), (8, (.int .u16 216)), (9, (.int .u16 217)), (10, (.int .u16 227)), (11, (.int .u16 229)), (12, (.int .u16 230))]) fun v25_25 =>
    bindV (buildA [(0, 1), (1, 1)] [(.int .i64 0), (.slice none 0 0)] [(0, (.int .i64 21)), (1, v25_25)]) fun v26_26 =>
    bindV (buildSliceA 30 1 26 [(.int .u16 0)] [(0, (.int .u16 129)), (1, (.int .u16 132)), (2, (.int .u16 133)), (3, (.int .u16 134)), (4, (.int .u16 136)), (5, (.int .u16 146)), (6, (.int .u16 154)), (7, (.int .u16 156)), (8, (.int .u16 160)), (9, (.int .u16 163)), (10, (.int .u16 164)), (11, (.int .u16 169)), (12, (.int .u16 170)), (13, (.int .u16 173)), (14, (.int .u16 178)), (15, (.int .u16 181)), (16, (.int .u16 185)), (17, (.int .u16 186)), (18, (.int .u16 187)), (19, (.int .u16 189)), (20, (.int .u16 190)), (21, (.int .u16 196)), (22, (.int .u16 198)), (23, (.int .u16 228)), (24, (.int .u16 232)), (25, (.int .u16 233))]) fun v27_27 =>
    bindV (buildA [(0, 1), (1, 1)] [(.int .i64 0), (.slice none 0 0)] [(0, (.int .i64 22)), (1, v27_27)]) fun v28_28 =>
    bindV (buildSliceA 30 1 29 [(.int .u16 0)] [(0, (.int .u16 1)), (1, (.int .u16 135)), (2, (.int .u16 137)), (3, (.int .u16 138)), (4, (.int .u16 139)), (5, (.int .u16 140)), (6, (.int .u16 141)), (7, (.int .u16 143)), (8, (.int .u16 147)), (9, (.int .u16 149)), (10, (.int .u16 150)), (11, (.int .u16 151)), (12, (.int .u16 152)), (13, (.int .u16 155)), (14, (.int .u16 157)), (15, (.int .u16 158)), (16, (.int .u16 165)), (17, (.int .u16 166)), (18, (.int .u16 168)), (19, (.int .u16 174)), (20, (.int .u16 175)), (21, (.int .u16 180)), (22, (.int .u16 182)), (23, (.int .u16 183)), (24, (.int .u16 188)), (25, (.int .u16 191)), (26, (.int .u16 197)), (27, (.int .u16 231)), (28, (.int .u16 239))]) fun v29_29 =>
    bindV (buildA [(0, 1), (1, 1)] [(.int .i64 0), (.slice none 0 0)] [(0, (.int .i64 23)), (1, v29_29)]) fun v30_30 =>
    bindV (buildSliceA 30 1 12 [(.int .u16 0)] [(0, (.int .u16 9)), (1, (.int .u16 142)), (2, (.int .u16 144)), (3, (.int .u16 145)), (4, (.int .u16 148)), (5, (.int .u16 159)), (6, (.int .u16 171)), (7, (.int .u16 206)), (8, (.int .u16 215)), (9, (.int .u16 225)), (10, (.int .u16 236)), (11, (.int .u16 237))]) fun v31_31 =>
    bindV (buildA [(0, 1), (1, 1)] [(.int .i64 0), (.slice none 0 0)] [(0, (.int .i64 24)), (1, v31_31)]) fun v32_32 =>
    bindV (buildSliceA 30 1 4 [(.int .u16 0)] [(0, (.int .u16 199)), (1, (.int .u16 207)), (2, (.int .u16 234)), (3, (.int .u16 235))]) fun v33_33 =>
    bindV (buildA [(0, 1), (1, 1)] [(.int .i64 0), (.slice none 0 0)] [(0, (.int .i64 25)), (1, v33_33)]) fun v34_34 =>
    bindV (buildSliceA 30 1 15 [(.int .u16 0)] [(0, (.int .u16 192)), (1, (.int .u16 193)), (2, (.int .u16 200)), (3, (.int .u16 201)), (4, (.int .u16 202)), (5, (.int .u16 205)), (6, (.int .u16 210)), (7, (.int .u16 213)), (8, (.int .u16 218)), (9, (.int .u16 219)), (10, (.int .u16 238)), (11, (.int .u16 240)), (12, (.int .u16 242)), (13, (.int .u16 243)), (14, (.int .u16 255))]) fun v35_35 =>
    bindV (buildA [(0, 1), (1, 1)] [(.int .i64 0), (.slice none 0 0)] [(0, (.int .i64 26)), (1, v35_35)]) fun v36_36 =>
    bindV (buildSliceA 30 1 19 [(.int .u16 0)] [(0, (.int .u16 203)), (1, (.int .u16 204)), (2, (.int .u16 211)), (3, (.int .u16 212)), (4, (.int .u16 214)), (5, (.int .u16 221)), (6, (.int .u16 222)), (7, (.int .u16 223)), (8, (.int .u16 241)), (9, (.int .u16 244)), (10, (.int .u16 245)), (11, (.int .u16 246)), (12, (.int .u16 247)), (13, (.int .u16 248)), (14, (.int .u16 250)), (15, (.int .u16 251)), (16, (.int .u16 252)), (17, (.int .u16 253)), (18, (.int .u16 254))]) fun v37_37 =>
    bindV (buildA [(0, 1), (1, 1)] [(.int .i64 0), (.slice none 0 0)] [(0, (.int .i64 27)), (1, v37_37)]) fun v38_38 =>
    bindV (buildSliceA 30 1 29 [(.int .u16 0)] [(0, (.int .u16 2)), (1, (.int .u16 3)), (2, (.int .u16 4)), (3, (.int .u16 5)), (4, (.int .u16 6)), (5, (.int .u16 7)), (6, (.int .u16 8)), (7, (.int .u16 11)), (8, (.int .u16 12)), (9, (.int .u16 14)), (10, (.int .u16 15)), (11, (.int .u16 16)), (12, (.int .u16 17)), (13, (.int .u16 18)), (14, (.int .u16 19)), (15, (.int .u16 20)), (16, (.int .u16 21)), (17, (.int .u16 23)), (18, (.int .u16 24)), (19, (.int .u16 25)), (20, (.int .u16 26)), (21, (.int .u16 27)), (22, (.int .u16 28)), (23, (.int .u16 29)), (24, (.int .u16 30)), (25, (.int .u16 31)), (26, (.int .u16 127)), (27, (.int .u16 220)), (28, (.int .u16 249))]) fun v39_39 =>
    bindV (buildA [(0, 1), (1, 1)] [(.int .i64 0), (.slice none 0 0)] [(0, (.int .i64 28)), (1, v39_39)]) fun v40_40 =>
    bindV (buildSliceA 30 1 4 [(.int .u16 0)] [(0, (.int .u16 10)), (1, (.int .u16 13)), (2, (.int .u16 22)), (3, (.int .u16 256))]) fun v41_41 =>
    bindV (buildA [(0, 1), (1, 1)] [(.int .i64 0), (.slice none 0 0)] [(0, (.int .i64 30)), (1, v41_41)]) fun v42_42 =>
    bindV (buildSliceA 72 2 21 [(.int .i64 0), (.slice none 0 0)] [(0, v2_2), (1, v4_4), (2, v6_6), (3, v8_8), (4, v10_10), (5, v12_12), (6, v14_14), (7, v16_16), (8, v18_18), (9, v20_20), (10, v22_22), (11, v24_24), (12, v26_26), (13, v28_28), (14, v30_30), (15, v32_32), (16, v34_34), (17, v36_36), (18, v38_38), (19, v40_40), (20, v42_42)]) fun v43_43 =>
    bindV (ret v43_43) fun v0_44 =>
    ret v0_44

theorem R34.eq (call : FuncId → List Value → AM Value) (k : Nat) : funcA Try.prog call k 34 [] = R34.top call k := by kernel_rfl

/-! ### 35: aqueduct/huff.Decode$1 (3 arguments) -/
noncomputable def R35.top (call : FuncId → List Value → AM Value) (k : Nat) (v0_in : Value) (v1_in : Value) (v2_in : Value) : AM Value :=
  bindV (storeA 1 v0_in (.int .u32 0)) fun _ =>
    bindV (storeA 1 v1_in (.int .i64 0)) fun _ =>
    bindV (storeA 1 v2_in (.bool true)) fun _ =>
    ret (.tuple #[])

theorem R35.eq (call : FuncId → List Value → AM Value) (k : Nat) (v0_in : Value) (v1_in : Value) (v2_in : Value) : funcA Try.prog call k 35 [v0_in, v1_in, v2_in] = R35.top call k v0_in v1_in v2_in := by kernel_rfl

/-! ### 36: aqueduct/aqueductref03.spans (0 arguments) -/
noncomputable def R36.b_65 (call : FuncId → List Value → AM Value) (k : Nat) (rec_4_11 : Value → Value → Value → Value → AM Value) (v1_12 : Value) (v4_5 : Value) (v5_15 : Value) (rec_2_48 : Value → Value → AM Value) (v2_49 : Value) (v3_50 : Value) : AM Value :=
  bindV (ret v3_50) fun v13_58 =>
    bindV (ret v4_5) fun v14_59 =>
    bindV (ret v5_15) fun v15_60 =>
    bindV (indexAddrA 2 v14_59 v15_60) fun v16_61 =>
    bindV (fieldAddrA 0 v16_61) fun v17_62 =>
    bindV (loadA none v17_62) fun v18_63 =>
    bindV (binA Try.prog .lss 3 v13_58 v18_63) fun v19_64 =>
    condA v19_64 (bindV (ret v2_49) fun v20_51 =>
    bindV (binA Try.prog .mul 61 v20_51 (.int .u64 2)) fun v21_52 =>
    bindV (ret v21_52) fun v2_53 =>
    bindV (ret v3_50) fun v22_54 =>
    bindV (binA Try.prog .add 3 v22_54 (.int .i64 1)) fun v23_55 =>
    bindV (ret v23_55) fun v3_56 =>
    rec_2_48 v2_53 v3_56)
    (bindV (ret v1_12) fun v24_25 =>
    bindV (ret v3_50) fun v25_26 =>
    bindV (ret v2_49) fun v26_27 =>
    bindV (ret v4_5) fun v27_28 =>
    bindV (ret v5_15) fun v28_29 =>
    bindV (indexAddrA 2 v27_28 v28_29) fun v29_30 =>
    bindV (fieldAddrA 1 v29_30) fun v30_31 =>
    bindV (loadA none v30_31) fun v31_32 =>
    bindV (buildA [(0, 1), (1, 1), (2, 1)] [(.int .i64 0), (.int .u64 0), (.slice none 0 0)] [(0, v25_26), (1, v26_27), (2, v31_32)]) fun v32_33 =>
    bindV (buildSliceA 79 3 1 [(.int .i64 0), (.int .u64 0), (.slice none 0 0)] [(0, v32_33)]) fun v33_34 =>
    bindV (appendA 79 3 40 v24_25 v33_34) fun v34_35 =>
    bindV (ret v34_35) fun v1_36 =>
    bindV (ret v2_49) fun v35_37 =>
    bindV (ret v4_5) fun v36_38 =>
    bindV (ret v5_15) fun v37_39 =>
    bindV (indexAddrA 2 v36_38 v37_39) fun v38_40 =>
    bindV (fieldAddrA 1 v38_40) fun v39_41 =>
    bindV (loadA none v39_41) fun v40_42 =>
    bindV (lenA v40_42) fun v41_43 =>
    bindV (convIntA .u64 v41_43) fun v42_44 =>
    bindV (binA Try.prog .add 61 v35_37 v42_44) fun v43_45 =>
    bindV (ret v43_45) fun v2_46 =>
    bindV (ret v5_15) fun v11_19 =>
    bindV (binA Try.prog .add 3 v11_19 (.int .i64 1)) fun v12_20 =>
    bindV (ret v12_20) fun v5_21 =>
    rec_4_11 v1_36 v2_46 v3_50 v5_21)

noncomputable def R36.b_71 (call : FuncId → List Value → AM Value) (k : Nat) (v4_5 : Value) (rec_4_11 : Value → Value → Value → Value → AM Value) (v1_12 : Value) (v2_13 : Value) (v3_14 : Value) (v5_15 : Value) : AM Value :=
  bindV (ret v5_15) fun v7_67 =>
    bindV (ret v4_5) fun v8_68 =>
    bindV (lenA v8_68) fun v9_69 =>
    bindV (binA Try.prog .lss 3 v7_67 v9_69) fun v10_70 =>
    condA v10_70 (loop2 (R36.b_65 call k rec_4_11 v1_12 v4_5 v5_15) k v2_13 v3_14)
    (bindV (ret v1_12) fun v44_7 =>
    bindV (ret v44_7) fun v0_8 =>
    ret v0_8)

noncomputable def R36.top (call : FuncId → List Value → AM Value) (k : Nat) : AM Value :=
  bindV (ret (.slice none 0 0)) fun v0_0 =>
    bindV (ret (.slice none 0 0)) fun v1_1 =>
    bindV (ret (.int .u64 0)) fun v2_2 =>
    bindV (ret (.int .i64 0)) fun v3_3 =>
    bindV (call 31 []) fun v6_4 =>
    bindV (ret v6_4) fun v4_5 =>
    bindV (ret (.int .i64 0)) fun v5_10 =>
    loop4 (R36.b_71 call k v4_5) k v1_1 v2_2 v3_3 v5_10

theorem R36.eq (call : FuncId → List Value → AM Value) (k : Nat) : funcA Try.prog call k 36 [] = R36.top call k := by kernel_rfl

/-! ### 37: aqueduct/aqueductref03.symbol (3 arguments) -/
noncomputable def R37.d_28 (call : FuncId → List Value → AM Value) (k : Nat) (rec_1_4 : Value → AM Value) (v0_in : Value) (v1_in : Value) (v7_5 : Value) (v46_27 : Value) : AM Value :=
  condA v46_27 (bindV (ret v0_in) fun v47_11 =>
    bindV (ret v7_5) fun v48_12 =>
    bindV (indexAddrA 3 v47_11 v48_12) fun v49_13 =>
    bindV (fieldAddrA 2 v49_13) fun v50_14 =>
    bindV (loadA none v50_14) fun v51_15 =>
    bindV (ret v1_in) fun v52_16 =>
    bindV (ret v0_in) fun v53_17 =>
    bindV (ret v7_5) fun v54_18 =>
    bindV (indexAddrA 3 v53_17 v54_18) fun v55_19 =>
    bindV (fieldAddrA 1 v55_19) fun v56_20 =>
    bindV (loadA none v56_20) fun v57_21 =>
    bindV (binA Try.prog .sub 61 v52_16 v57_21) fun v58_22 =>
    bindV (indexAddrA 1 v51_15 v58_22) fun v59_23 =>
    bindV (loadA none v59_23) fun v60_24 =>
    bindV (ret v60_24) fun v6_25 =>
    ret v6_25)
    (bindV (ret v7_5) fun v12_6 =>
    bindV (binA Try.prog .add 3 v12_6 (.int .i64 1)) fun v13_7 =>
    bindV (ret v13_7) fun v7_8 =>
    rec_1_4 v7_8)

noncomputable def R37.b_87 (call : FuncId → List Value → AM Value) (k : Nat) (v0_in : Value) (v1_in : Value) (v2_in : Value) (rec_1_4 : Value → AM Value) (v7_5 : Value) : AM Value :=
  bindV (ret v7_5) fun v8_83 =>
    bindV (ret v0_in) fun v9_84 =>
    bindV (lenA v9_84) fun v10_85 =>
    bindV (binA Try.prog .lss 3 v8_83 v10_85) fun v11_86 =>
    condA v11_86 (bindV (ret v0_in) fun v14_29 =>
    bindV (ret v7_5) fun v15_30 =>
    bindV (indexAddrA 3 v14_29 v15_30) fun v16_31 =>
    bindV (fieldAddrA 0 v16_31) fun v17_32 =>
    bindV (loadA none v17_32) fun v18_33 =>
    bindV (ret v2_in) fun v19_34 =>
    bindV (binA Try.prog .eql 3 v18_33 v19_34) fun v20_35 =>
    bindV (ret v20_35) fun v21_36 =>
    guardA true v21_36 (bindV (ret v1_in) fun v22_37 =>
    bindV (ret v0_in) fun v23_38 =>
    bindV (ret v7_5) fun v24_39 =>
    bindV (indexAddrA 3 v23_38 v24_39) fun v25_40 =>
    bindV (fieldAddrA 1 v25_40) fun v26_41 =>
    bindV (loadA none v26_41) fun v27_42 =>
    bindV (binA Try.prog .geq 61 v22_37 v27_42) fun v28_43 =>
    bindV (pickA v21_36 v28_43 (.bool false)) fun v29_44 =>
    bindV (ret v29_44) fun v30_45 =>
    guardA true v30_45 (bindV (ret v1_in) fun v31_46 =>
    bindV (ret v0_in) fun v32_47 =>
    bindV (ret v7_5) fun v33_48 =>
    bindV (indexAddrA 3 v32_47 v33_48) fun v34_49 =>
    bindV (fieldAddrA 1 v34_49) fun v35_50 =>
    bindV (loadA none v35_50) fun v36_51 =>
    bindV (ret v0_in) fun v37_52 =>
    bindV (ret v7_5) fun v38_53 =>
    bindV (indexAddrA 3 v37_52 v38_53) fun v39_54 =>
    bindV (fieldAddrA 2 v39_54) fun v40_55 =>
    bindV (loadA none v40_55) fun v41_56 =>
    bindV (lenA v41_56) fun v42_57 =>
    bindV (convIntA .u64 v42_57) fun v43_58 =>
    bindV (binA Try.prog .add 61 v36_51 v43_58) fun v44_59 =>
    bindV (binA Try.prog .lss 61 v31_46 v44_59) fun v45_60 =>
    bindV (pickA v30_45 v45_60 (.bool false)) fun v46_61 =>
    R37.d_28 call k rec_1_4 v0_in v1_in v7_5 v46_61)
    (bindV (pickA v30_45 (.tuple #[]) (.bool false)) fun v46_62 =>
    R37.d_28 call k rec_1_4 v0_in v1_in v7_5 v46_62))
    (bindV (pickA v21_36 (.tuple #[]) (.bool false)) fun v29_63 =>
    bindV (ret v29_63) fun v30_64 =>
    guardA true v30_64 (bindV (ret v1_in) fun v31_65 =>
    bindV (ret v0_in) fun v32_66 =>
    bindV (ret v7_5) fun v33_67 =>
    bindV (indexAddrA 3 v32_66 v33_67) fun v34_68 =>
    bindV (fieldAddrA 1 v34_68) fun v35_69 =>
    bindV (loadA none v35_69) fun v36_70 =>
    bindV (ret v0_in) fun v37_71 =>
    bindV (ret v7_5) fun v38_72 =>
    bindV (indexAddrA 3 v37_71 v38_72) fun v39_73 =>
    bindV (fieldAddrA 2 v39_73) fun v40_74 =>
    bindV (loadA none v40_74) fun v41_75 =>
    bindV (lenA v41_75) fun v42_76 =>
    bindV (convIntA .u64 v42_76) fun v43_77 =>
    bindV (binA Try.prog .add 61 v36_70 v43_77) fun v44_78 =>
    bindV (binA Try.prog .lss 61 v31_65 v44_78) fun v45_79 =>
    bindV (pickA v30_64 v45_79 (.bool false)) fun v46_80 =>
    R37.d_28 call k rec_1_4 v0_in v1_in v7_5 v46_80)
    (bindV (pickA v30_64 (.tuple #[]) (.bool false)) fun v46_81 =>
    R37.d_28 call k rec_1_4 v0_in v1_in v7_5 v46_81)))
    (bindV (ret (.int .i64 (-1))) fun v6_1 =>
    ret v6_1)

noncomputable def R37.top (call : FuncId → List Value → AM Value) (k : Nat) (v0_in : Value) (v1_in : Value) (v2_in : Value) : AM Value :=
  bindV (ret (.int .i64 0)) fun v6_0 =>
    bindV (ret (.int .i64 0)) fun v7_3 =>
    loop1 (R37.b_87 call k v0_in v1_in v2_in) k v7_3

theorem R37.eq (call : FuncId → List Value → AM Value) (k : Nat) (v0_in : Value) (v1_in : Value) (v2_in : Value) : funcA Try.prog call k 37 [v0_in, v1_in, v2_in] = R37.top call k v0_in v1_in v2_in := by kernel_rfl

end Go.Proofs.Ytgpddhoidlpcaaa
