/- What the functions that these laws reach compute, printed by a program of ours and tied to the model by the kernel. -/
import Derived.Test.YtjmafbiklebjcaaEngQ
import Derived.Test.YtjmafbiklebjcaaRows
set_option linter.unusedVariables false
set_option linter.unusedSimpArgs false
namespace Go.Proofs.Ytjmafbiklebjcaa
open Go.Proofs.Ytjmafbiklebjcaa.Eng
/-! ### 34: aqueduct/aqueductref04.Put (3 arguments) -/
noncomputable def R34.b_44 (call : FuncId → List Value → AM Value) (k : Nat) (rec_2_27 : Value → Value → AM Value) (v2_28 : Value) (v9_29 : Value) : AM Value :=
  bindV (ret v2_28) fun v50_42 =>
    bindV (binA Try.prog .geq 3 v50_42 (.int .i64 128)) fun v51_43 =>
    condA v51_43 (bindV (ret v9_29) fun v52_30 =>
    bindV (ret v2_28) fun v53_31 =>
    bindV (binA Try.prog .rem 3 v53_31 (.int .i64 128)) fun v54_32 =>
    bindV (binA Try.prog .add 3 (.int .i64 128) v54_32) fun v55_33 =>
    bindV (convIntA .u8 v55_33) fun v56_34 =>
    bindV (buildSliceA 5 1 1 [(.int .u8 0)] [(0, v56_34)]) fun v57_35 =>
    bindV (appendA 5 1 1 v52_30 v57_35) fun v58_36 =>
    bindV (ret v58_36) fun v9_37 =>
    bindV (ret v2_28) fun v59_38 =>
    bindV (binA Try.prog .quo 3 v59_38 (.int .i64 128)) fun v60_39 =>
    bindV (ret v60_39) fun v2_40 =>
    rec_2_27 v2_40 v9_37)
    (bindV (ret v9_29) fun v61_19 =>
    bindV (ret v2_28) fun v62_20 =>
    bindV (convIntA .u8 v62_20) fun v63_21 =>
    bindV (buildSliceA 5 1 1 [(.int .u8 0)] [(0, v63_21)]) fun v64_22 =>
    bindV (appendA 5 1 1 v61_19 v64_22) fun v65_23 =>
    bindV (ret v65_23) fun v6_24 =>
    bindV (ret (.int .i64 0)) fun v7_25 =>
    ret (.tuple #[v6_24, v7_25]))

noncomputable def R34.g_81 (call : FuncId → List Value → AM Value) (k : Nat) (v0_in : Value) (v1_in : Value) (v20_78 : Value) (v2_in : Value) (v22_79 : Value) : AM Value :=
  bindV (pickA v20_78 (.bool true) v22_79) fun v23_80 =>
    condA v23_80 (bindV (ret (.slice none 0 0)) fun v6_67 =>
    bindV (ret (.int .i64 1)) fun v7_68 =>
    ret (.tuple #[v6_67, v7_68]))
    (bindV (ret v1_in) fun v24_2 =>
    bindV (convIntA .u64 v24_2) fun v25_3 =>
    bindV (binA Try.prog .shl 3 (.int .i64 1) v25_3) fun v26_4 =>
    bindV (binA Try.prog .sub 3 v26_4 (.int .i64 1)) fun v27_5 =>
    bindV (ret v27_5) fun v8_6 =>
    bindV (ret v0_in) fun v28_57 =>
    bindV (convIntA .i64 v28_57) fun v29_58 =>
    bindV (ret v8_6) fun v30_59 =>
    bindV (binA Try.prog .add 3 v30_59 (.int .i64 1)) fun v31_60 =>
    bindV (binA Try.prog .rem 3 v29_58 v31_60) fun v32_61 =>
    bindV (binA Try.prog .neq 3 v32_61 (.int .i64 0)) fun v33_62 =>
    condA v33_62 (bindV (ret (.slice none 0 0)) fun v6_63 =>
    bindV (ret (.int .i64 1)) fun v7_64 =>
    ret (.tuple #[v6_63, v7_64]))
    (bindV (ret v2_in) fun v34_46 =>
    bindV (ret v8_6) fun v35_47 =>
    bindV (binA Try.prog .lss 3 v34_46 v35_47) fun v36_48 =>
    condA v36_48 (bindV (ret v0_in) fun v37_49 =>
    bindV (ret v2_in) fun v38_50 =>
    bindV (convIntA .u8 v38_50) fun v39_51 =>
    bindV (binA Try.prog .add 5 v37_49 v39_51) fun v40_52 =>
    bindV (buildSliceA 5 1 1 [(.int .u8 0)] [(0, v40_52)]) fun v41_53 =>
    bindV (ret v41_53) fun v6_54 =>
    bindV (ret (.int .i64 0)) fun v7_55 =>
    ret (.tuple #[v6_54, v7_55]))
    (bindV (ret v0_in) fun v42_7 =>
    bindV (ret v8_6) fun v43_8 =>
    bindV (convIntA .u8 v43_8) fun v44_9 =>
    bindV (binA Try.prog .add 5 v42_7 v44_9) fun v45_10 =>
    bindV (buildSliceA 5 1 1 [(.int .u8 0)] [(0, v45_10)]) fun v46_11 =>
    bindV (ret v46_11) fun v9_12 =>
    bindV (ret v2_in) fun v47_13 =>
    bindV (ret v8_6) fun v48_14 =>
    bindV (binA Try.prog .sub 3 v47_13 v48_14) fun v49_15 =>
    bindV (ret v49_15) fun v2_16 =>
    loop2 (R34.b_44 call k) k v2_16 v9_12)))

noncomputable def R34.g_84 (call : FuncId → List Value → AM Value) (k : Nat) (v0_in : Value) (v16_75 : Value) (v1_in : Value) (v2_in : Value) (v18_76 : Value) : AM Value :=
  bindV (pickA v16_75 (.bool true) v18_76) fun v19_77 =>
    bindV (ret v19_77) fun v20_78 =>
    guardA false v20_78 (bindV (ret v2_in) fun v21_82 =>
    bindV (binA Try.prog .gtr 3 v21_82 (.int .i64 2147483647)) fun v22_83 =>
    R34.g_81 call k v0_in v1_in v20_78 v2_in v22_83)
    (R34.g_81 call k v0_in v1_in v20_78 v2_in (.tuple #[]))

noncomputable def R34.g_87 (call : FuncId → List Value → AM Value) (k : Nat) (v0_in : Value) (v12_72 : Value) (v1_in : Value) (v2_in : Value) (v14_73 : Value) : AM Value :=
  bindV (pickA v12_72 (.bool true) v14_73) fun v15_74 =>
    bindV (ret v15_74) fun v16_75 =>
    guardA false v16_75 (bindV (ret v2_in) fun v17_85 =>
    bindV (binA Try.prog .lss 3 v17_85 (.int .i64 0)) fun v18_86 =>
    R34.g_84 call k v0_in v16_75 v1_in v2_in v18_86)
    (R34.g_84 call k v0_in v16_75 v1_in v2_in (.tuple #[]))

noncomputable def R34.top (call : FuncId → List Value → AM Value) (k : Nat) (v0_in : Value) (v1_in : Value) (v2_in : Value) : AM Value :=
  bindV (ret (.slice none 0 0)) fun v6_0 =>
    bindV (ret (.int .i64 0)) fun v7_1 =>
    bindV (ret v1_in) fun v10_70 =>
    bindV (binA Try.prog .lss 3 v10_70 (.int .i64 1)) fun v11_71 =>
    bindV (ret v11_71) fun v12_72 =>
    guardA false v12_72 (bindV (ret v1_in) fun v13_88 =>
    bindV (binA Try.prog .gtr 3 v13_88 (.int .i64 8)) fun v14_89 =>
    R34.g_87 call k v0_in v12_72 v1_in v2_in v14_89)
    (R34.g_87 call k v0_in v12_72 v1_in v2_in (.tuple #[]))

theorem R34.eq (call : FuncId → List Value → AM Value) (k : Nat) (v0_in : Value) (v1_in : Value) (v2_in : Value) : funcA Try.prog call k 34 [v0_in, v1_in, v2_in] = R34.top call k v0_in v1_in v2_in := by kernel_rfl

/-! ### 39: aqueduct/prefix.Put (3 arguments) -/
noncomputable def R39.b_44 (call : FuncId → List Value → AM Value) (k : Nat) (rec_2_26 : Value → Value → AM Value) (v2_27 : Value) (v9_28 : Value) : AM Value :=
  bindV (ret v2_27) fun v51_42 =>
    bindV (binA Try.prog .geq 3 v51_42 (.int .i64 128)) fun v52_43 =>
    condA v52_43 (bindV (ret v9_28) fun v55_34 =>
    bindV (ret v2_27) fun v56_35 =>
    bindV (convIntA .u8 v56_35) fun v57_36 =>
    bindV (binA Try.prog .or 5 v57_36 (.int .u8 128)) fun v58_37 =>
    bindV (buildSliceA 5 1 1 [(.int .u8 0)] [(0, v58_37)]) fun v59_38 =>
    bindV (appendA 5 1 1 v55_34 v59_38) fun v60_39 =>
    bindV (ret v60_39) fun v9_40 =>
    bindV (ret v2_27) fun v53_30 =>
    bindV (binA Try.prog .shr 3 v53_30 (.int .u64 7)) fun v54_31 =>
    bindV (ret v54_31) fun v2_32 =>
    rec_2_26 v2_32 v9_40)
    (bindV (ret v9_28) fun v61_14 =>
    bindV (ret v2_27) fun v62_15 =>
    bindV (convIntA .u8 v62_15) fun v63_16 =>
    bindV (buildSliceA 5 1 1 [(.int .u8 0)] [(0, v63_16)]) fun v64_17 =>
    bindV (appendA 5 1 1 v61_14 v64_17) fun v65_18 =>
    bindV (ret v65_18) fun v6_19 =>
    bindV (ret (.int .i64 0)) fun v7_20 =>
    ret (.tuple #[v6_19, v7_20]))

noncomputable def R39.g_75 (call : FuncId → List Value → AM Value) (k : Nat) (v0_in : Value) (v1_in : Value) (v24_72 : Value) (v2_in : Value) (v30_73 : Value) : AM Value :=
  bindV (pickA v24_72 (.bool true) v30_73) fun v31_74 =>
    condA v31_74 (bindV (ret (.slice none 0 0)) fun v6_58 =>
    bindV (ret (.int .i64 1)) fun v7_59 =>
    ret (.tuple #[v6_58, v7_59]))
    (bindV (ret v1_in) fun v32_2 =>
    bindV (binA Try.prog .shl 3 (.int .i64 1) v32_2) fun v33_3 =>
    bindV (binA Try.prog .sub 3 v33_3 (.int .i64 1)) fun v34_4 =>
    bindV (ret v34_4) fun v8_5 =>
    bindV (ret v2_in) fun v35_46 =>
    bindV (ret v8_5) fun v36_47 =>
    bindV (binA Try.prog .lss 3 v35_46 v36_47) fun v37_48 =>
    condA v37_48 (bindV (ret v0_in) fun v38_49 =>
    bindV (ret v2_in) fun v39_50 =>
    bindV (convIntA .u8 v39_50) fun v40_51 =>
    bindV (binA Try.prog .or 5 v38_49 v40_51) fun v41_52 =>
    bindV (buildSliceA 5 1 1 [(.int .u8 0)] [(0, v41_52)]) fun v42_53 =>
    bindV (ret v42_53) fun v6_54 =>
    bindV (ret (.int .i64 0)) fun v7_55 =>
    ret (.tuple #[v6_54, v7_55]))
    (bindV (ret v0_in) fun v43_6 =>
    bindV (ret v8_5) fun v44_7 =>
    bindV (convIntA .u8 v44_7) fun v45_8 =>
    bindV (binA Try.prog .or 5 v43_6 v45_8) fun v46_9 =>
    bindV (buildSliceA 5 1 1 [(.int .u8 0)] [(0, v46_9)]) fun v47_10 =>
    bindV (ret v47_10) fun v9_11 =>
    bindV (ret v2_in) fun v48_22 =>
    bindV (ret v8_5) fun v49_23 =>
    bindV (binA Try.prog .sub 3 v48_22 v49_23) fun v50_24 =>
    bindV (ret v50_24) fun v2_25 =>
    loop2 (R39.b_44 call k) k v2_25 v9_11))

noncomputable def R39.g_82 (call : FuncId → List Value → AM Value) (k : Nat) (v0_in : Value) (v1_in : Value) (v20_69 : Value) (v2_in : Value) (v22_70 : Value) : AM Value :=
  bindV (pickA v20_69 (.bool true) v22_70) fun v23_71 =>
    bindV (ret v23_71) fun v24_72 =>
    guardA false v24_72 (bindV (ret v0_in) fun v25_76 =>
    bindV (ret v1_in) fun v26_77 =>
    bindV (binA Try.prog .shl 5 (.int .u8 1) v26_77) fun v27_78 =>
    bindV (binA Try.prog .sub 5 v27_78 (.int .u8 1)) fun v28_79 =>
    bindV (binA Try.prog .and 5 v25_76 v28_79) fun v29_80 =>
    bindV (binA Try.prog .neq 5 v29_80 (.int .u8 0)) fun v30_81 =>
    R39.g_75 call k v0_in v1_in v24_72 v2_in v30_81)
    (R39.g_75 call k v0_in v1_in v24_72 v2_in (.tuple #[]))

noncomputable def R39.g_85 (call : FuncId → List Value → AM Value) (k : Nat) (v0_in : Value) (v16_66 : Value) (v1_in : Value) (v2_in : Value) (v18_67 : Value) : AM Value :=
  bindV (pickA v16_66 (.bool true) v18_67) fun v19_68 =>
    bindV (ret v19_68) fun v20_69 =>
    guardA false v20_69 (bindV (ret v2_in) fun v21_83 =>
    bindV (binA Try.prog .gtr 3 v21_83 (.int .i64 2147483647)) fun v22_84 =>
    R39.g_82 call k v0_in v1_in v20_69 v2_in v22_84)
    (R39.g_82 call k v0_in v1_in v20_69 v2_in (.tuple #[]))

noncomputable def R39.g_88 (call : FuncId → List Value → AM Value) (k : Nat) (v0_in : Value) (v12_63 : Value) (v1_in : Value) (v2_in : Value) (v14_64 : Value) : AM Value :=
  bindV (pickA v12_63 (.bool true) v14_64) fun v15_65 =>
    bindV (ret v15_65) fun v16_66 =>
    guardA false v16_66 (bindV (ret v2_in) fun v17_86 =>
    bindV (binA Try.prog .lss 3 v17_86 (.int .i64 0)) fun v18_87 =>
    R39.g_85 call k v0_in v16_66 v1_in v2_in v18_87)
    (R39.g_85 call k v0_in v16_66 v1_in v2_in (.tuple #[]))

noncomputable def R39.top (call : FuncId → List Value → AM Value) (k : Nat) (v0_in : Value) (v1_in : Value) (v2_in : Value) : AM Value :=
  bindV (ret (.slice none 0 0)) fun v6_0 =>
    bindV (ret (.int .i64 0)) fun v7_1 =>
    bindV (ret v1_in) fun v10_61 =>
    bindV (binA Try.prog .lss 3 v10_61 (.int .i64 1)) fun v11_62 =>
    bindV (ret v11_62) fun v12_63 =>
    guardA false v12_63 (bindV (ret v1_in) fun v13_89 =>
    bindV (binA Try.prog .gtr 3 v13_89 (.int .i64 8)) fun v14_90 =>
    R39.g_88 call k v0_in v12_63 v1_in v2_in v14_90)
    (R39.g_88 call k v0_in v12_63 v1_in v2_in (.tuple #[]))

theorem R39.eq (call : FuncId → List Value → AM Value) (k : Nat) (v0_in : Value) (v1_in : Value) (v2_in : Value) : funcA Try.prog call k 39 [v0_in, v1_in, v2_in] = R39.top call k v0_in v1_in v2_in := by kernel_rfl

/-! ### 42: aqueduct/prefix.PutText (2 arguments) -/
noncomputable def R42.j_22 (call : FuncId → List Value → AM Value) (k : Nat) (v6_6 : Value) (v7_7 : Value) : AM Value :=
  bindV (ret v6_6) fun v26_8 =>
    bindV (ret v7_7) fun v27_9 =>
    bindV (lenA v27_9) fun v28_10 =>
    bindV (call 39 [v26_8, (.int .i64 7), v28_10]) fun v29_11 =>
    bindV (ret v29_11) fun v25_12 =>
    bindV (extractA v25_12 0) fun v30_13 =>
    bindV (extractA v25_12 1) fun v31_14 =>
    bindV (ret v30_13) fun v8_15 =>
    bindV (ret v31_14) fun v9_16 =>
    bindV (ret v8_15) fun v32_17 =>
    bindV (ret v7_7) fun v33_18 =>
    bindV (appendA 5 1 1 v32_17 v33_18) fun v34_19 =>
    bindV (ret v34_19) fun v4_20 =>
    bindV (ret (.int .i64 0)) fun v5_21 =>
    ret (.tuple #[v4_20, v5_21])

noncomputable def R42.g_33 (call : FuncId → List Value → AM Value) (k : Nat) (v16_30 : Value) (v6_4 : Value) (v7_5 : Value) (v21_31 : Value) : AM Value :=
  bindV (pickA v16_30 v21_31 (.bool false)) fun v22_32 =>
    condA v22_32 (bindV (ret v7_5) fun v23_24 =>
    bindV (call 48 [v23_24]) fun v24_25 =>
    bindV (ret (.int .u8 128)) fun v6_26 =>
    bindV (ret v24_25) fun v7_27 =>
    R42.j_22 call k v6_26 v7_27)
    (R42.j_22 call k v6_4 v7_5)

noncomputable def R42.top (call : FuncId → List Value → AM Value) (k : Nat) (v0_in : Value) (v1_in : Value) : AM Value :=
  bindV (ret (.slice none 0 0)) fun v4_0 =>
    bindV (ret (.int .i64 0)) fun v5_1 =>
    bindV (ret v0_in) fun v10_40 =>
    bindV (lenStrA v10_40) fun v11_41 =>
    bindV (binA Try.prog .gtr 3 v11_41 (.int .i64 16384)) fun v12_42 =>
    condA v12_42 (bindV (ret (.slice none 0 0)) fun v4_43 =>
    bindV (ret (.int .i64 2)) fun v5_44 =>
    ret (.tuple #[v4_43, v5_44]))
    (bindV (ret v0_in) fun v13_2 =>
    bindV (toBytesA 5 v13_2) fun v14_3 =>
    bindV (ret (.int .u8 0)) fun v6_4 =>
    bindV (ret v14_3) fun v7_5 =>
    bindV (ret v1_in) fun v15_29 =>
    bindV (ret v15_29) fun v16_30 =>
    guardA true v16_30 (bindV (ret v7_5) fun v17_34 =>
    bindV (call 47 [v17_34]) fun v18_35 =>
    bindV (ret v0_in) fun v19_36 =>
    bindV (lenStrA v19_36) fun v20_37 =>
    bindV (binA Try.prog .lss 3 v18_35 v20_37) fun v21_38 =>
    R42.g_33 call k v16_30 v6_4 v7_5 v21_38)
    (R42.g_33 call k v16_30 v6_4 v7_5 (.tuple #[])))

theorem R42.eq (call : FuncId → List Value → AM Value) (k : Nat) (v0_in : Value) (v1_in : Value) : funcA Try.prog call k 42 [v0_in, v1_in] = R42.top call k v0_in v1_in := by kernel_rfl

/-! ### 45: aqueduct/aqueductref04.PutText (2 arguments) -/
noncomputable def R45.j_15 (call : FuncId → List Value → AM Value) (k : Nat) (v0_in : Value) : AM Value :=
  bindV (ret v0_in) fun v33_2 =>
    bindV (lenStrA v33_2) fun v34_3 =>
    bindV (call 34 [(.int .u8 0), (.int .i64 7), v34_3]) fun v35_4 =>
    bindV (ret v35_4) fun v32_5 =>
    bindV (extractA v32_5 0) fun v36_6 =>
    bindV (extractA v32_5 1) fun v37_7 =>
    bindV (ret v36_6) fun v9_8 =>
    bindV (ret v37_7) fun v10_9 =>
    bindV (ret v9_8) fun v38_10 =>
    bindV (ret v0_in) fun v39_11 =>
    bindV (appendA 5 1 1 v38_10 v39_11) fun v40_12 =>
    bindV (ret v40_12) fun v4_13 =>
    bindV (ret (.int .i64 0)) fun v5_14 =>
    ret (.tuple #[v4_13, v5_14])

noncomputable def R45.top (call : FuncId → List Value → AM Value) (k : Nat) (v0_in : Value) (v1_in : Value) : AM Value :=
  bindV (ret (.slice none 0 0)) fun v4_0 =>
    bindV (ret (.int .i64 0)) fun v5_1 =>
    bindV (ret v0_in) fun v11_40 =>
    bindV (lenStrA v11_40) fun v12_41 =>
    bindV (binA Try.prog .gtr 3 v12_41 (.int .i64 16384)) fun v13_42 =>
    condA v13_42 (bindV (ret (.slice none 0 0)) fun v4_43 =>
    bindV (ret (.int .i64 2)) fun v5_44 =>
    ret (.tuple #[v4_43, v5_44]))
    (bindV (ret v1_in) fun v14_16 =>
    condA v14_16 (bindV (ret v0_in) fun v15_17 =>
    bindV (toBytesA 5 v15_17) fun v16_18 =>
    bindV (call 51 [v16_18]) fun v17_19 =>
    bindV (ret v17_19) fun v6_20 =>
    bindV (ret v6_20) fun v18_21 =>
    bindV (lenA v18_21) fun v19_22 =>
    bindV (ret v0_in) fun v20_23 =>
    bindV (lenStrA v20_23) fun v21_24 =>
    bindV (binA Try.prog .lss 3 v19_22 v21_24) fun v22_25 =>
    condA v22_25 (bindV (ret v6_20) fun v24_26 =>
    bindV (lenA v24_26) fun v25_27 =>
    bindV (call 34 [(.int .u8 128), (.int .i64 7), v25_27]) fun v26_28 =>
    bindV (ret v26_28) fun v23_29 =>
    bindV (extractA v23_29 0) fun v27_30 =>
    bindV (extractA v23_29 1) fun v28_31 =>
    bindV (ret v27_30) fun v7_32 =>
    bindV (ret v28_31) fun v8_33 =>
    bindV (ret v7_32) fun v29_34 =>
    bindV (ret v6_20) fun v30_35 =>
    bindV (appendA 5 1 1 v29_34 v30_35) fun v31_36 =>
    bindV (ret v31_36) fun v4_37 =>
    bindV (ret (.int .i64 0)) fun v5_38 =>
    ret (.tuple #[v4_37, v5_38]))
    (R45.j_15 call k v0_in))
    (R45.j_15 call k v0_in))

theorem R45.eq (call : FuncId → List Value → AM Value) (k : Nat) (v0_in : Value) (v1_in : Value) : funcA Try.prog call k 45 [v0_in, v1_in] = R45.top call k v0_in v1_in := by kernel_rfl

end Go.Proofs.Ytjmafbiklebjcaa
