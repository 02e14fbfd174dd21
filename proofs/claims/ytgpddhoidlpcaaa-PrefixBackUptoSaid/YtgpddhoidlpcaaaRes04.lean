/- What the functions that these laws reach compute, printed by a program of ours and tied to the model by the kernel. -/
import Derived.Test.YtgpddhoidlpcaaaEngQ
import Derived.Test.YtgpddhoidlpcaaaRes03
import Derived.Test.YtgpddhoidlpcaaaRows
set_option linter.unusedVariables false
set_option linter.unusedSimpArgs false
namespace Go.Proofs.Ytgpddhoidlpcaaa
open Go.Proofs.Ytgpddhoidlpcaaa.Eng
/-! ### 10: aqueduct/aqueductlaw04.PrefixPuts (3 arguments) -/
noncomputable def R10.g_33 (call : FuncId → List Value → AM Value) (k : Nat) (v35_29 : Value) (v36_30 : Value) : AM Value :=
  bindV (pickA v35_29 v36_30 (.bool false)) fun v37_31 =>
    bindV (ret v37_31) fun v6_32 =>
    ret v6_32

noncomputable def R10.g_35 (call : FuncId → List Value → AM Value) (k : Nat) (v30_26 : Value) (v33_27 : Value) : AM Value :=
  bindV (pickA v30_26 v33_27 (.bool false)) fun v34_28 =>
    bindV (ret v34_28) fun v35_29 =>
    guardA true v35_29 (bindV (call 25 []) fun v36_34 =>
    R10.g_33 call k v35_29 v36_34)
    (R10.g_33 call k v35_29 (.tuple #[]))

noncomputable def R10.top (call : FuncId → List Value → AM Value) (k : Nat) (v0_in : Value) (v1_in : Value) (v2_in : Value) : AM Value :=
  bindV (ret (.bool false)) fun v6_0 =>
    bindV (ret v0_in) fun v12_1 =>
    bindV (ret v1_in) fun v13_2 =>
    bindV (ret v2_in) fun v14_3 =>
    bindV (call 23 [v12_1, v13_2, v14_3]) fun v15_4 =>
    bindV (ret v15_4) fun v11_5 =>
    bindV (extractA v11_5 0) fun v16_6 =>
    bindV (extractA v11_5 1) fun v17_7 =>
    bindV (ret v16_6) fun v7_8 =>
    bindV (ret v17_7) fun v8_9 =>
    bindV (ret v0_in) fun v19_10 =>
    bindV (ret v1_in) fun v20_11 =>
    bindV (ret v2_in) fun v21_12 =>
    bindV (call 24 [v19_10, v20_11, v21_12]) fun v22_13 =>
    bindV (ret v22_13) fun v18_14 =>
    bindV (extractA v18_14 0) fun v23_15 =>
    bindV (extractA v18_14 1) fun v24_16 =>
    bindV (ret v23_15) fun v9_17 =>
    bindV (ret v24_16) fun v10_18 =>
    bindV (ret v7_8) fun v25_21 =>
    bindV (toStrA v25_21) fun v26_22 =>
    bindV (ret v9_17) fun v27_23 =>
    bindV (toStrA v27_23) fun v28_24 =>
    bindV (binA Try.prog .eql 9 v26_22 v28_24) fun v29_25 =>
    bindV (ret v29_25) fun v30_26 =>
    guardA true v30_26 (bindV (ret v8_9) fun v31_36 =>
    bindV (ret v10_18) fun v32_37 =>
    bindV (binA Try.prog .eql 3 v31_36 v32_37) fun v33_38 =>
    R10.g_35 call k v30_26 v33_38)
    (R10.g_35 call k v30_26 (.tuple #[]))

theorem R10.eq (call : FuncId → List Value → AM Value) (k : Nat) (v0_in : Value) (v1_in : Value) (v2_in : Value) : funcA Try.prog call k 10 [v0_in, v1_in, v2_in] = R10.top call k v0_in v1_in v2_in := by kernel_rfl

/-! ### 11: aqueduct/aqueductlaw04.PrefixTexts (2 arguments) -/
noncomputable def R11.g_31 (call : FuncId → List Value → AM Value) (k : Nat) (v31_27 : Value) (v32_28 : Value) : AM Value :=
  bindV (pickA v31_27 v32_28 (.bool false)) fun v33_29 =>
    bindV (ret v33_29) fun v4_30 =>
    ret v4_30

noncomputable def R11.g_33 (call : FuncId → List Value → AM Value) (k : Nat) (v26_24 : Value) (v29_25 : Value) : AM Value :=
  bindV (pickA v26_24 v29_25 (.bool false)) fun v30_26 =>
    bindV (ret v30_26) fun v31_27 =>
    guardA true v31_27 (bindV (call 25 []) fun v32_32 =>
    R11.g_31 call k v31_27 v32_32)
    (R11.g_31 call k v31_27 (.tuple #[]))

noncomputable def R11.top (call : FuncId → List Value → AM Value) (k : Nat) (v0_in : Value) (v1_in : Value) : AM Value :=
  bindV (ret (.bool false)) fun v4_0 =>
    bindV (ret v0_in) fun v10_1 =>
    bindV (ret v1_in) fun v11_2 =>
    bindV (call 26 [v10_1, v11_2]) fun v12_3 =>
    bindV (ret v12_3) fun v9_4 =>
    bindV (extractA v9_4 0) fun v13_5 =>
    bindV (extractA v9_4 1) fun v14_6 =>
    bindV (ret v13_5) fun v5_7 =>
    bindV (ret v14_6) fun v6_8 =>
    bindV (ret v0_in) fun v16_9 =>
    bindV (ret v1_in) fun v17_10 =>
    bindV (call 27 [v16_9, v17_10]) fun v18_11 =>
    bindV (ret v18_11) fun v15_12 =>
    bindV (extractA v15_12 0) fun v19_13 =>
    bindV (extractA v15_12 1) fun v20_14 =>
    bindV (ret v19_13) fun v7_15 =>
    bindV (ret v20_14) fun v8_16 =>
    bindV (ret v5_7) fun v21_19 =>
    bindV (toStrA v21_19) fun v22_20 =>
    bindV (ret v7_15) fun v23_21 =>
    bindV (toStrA v23_21) fun v24_22 =>
    bindV (binA Try.prog .eql 9 v22_20 v24_22) fun v25_23 =>
    bindV (ret v25_23) fun v26_24 =>
    guardA true v26_24 (bindV (ret v6_8) fun v27_34 =>
    bindV (ret v8_16) fun v28_35 =>
    bindV (binA Try.prog .eql 3 v27_34 v28_35) fun v29_36 =>
    R11.g_33 call k v26_24 v29_36)
    (R11.g_33 call k v26_24 (.tuple #[]))

theorem R11.eq (call : FuncId → List Value → AM Value) (k : Nat) (v0_in : Value) (v1_in : Value) : funcA Try.prog call k 11 [v0_in, v1_in] = R11.top call k v0_in v1_in := by kernel_rfl

/-! ### 12: aqueduct/aqueductlaw04.PrefixLeast (3 arguments) -/
noncomputable def R12.g_56 (call : FuncId → List Value → AM Value) (k : Nat) (v74_52 : Value) (v75_53 : Value) : AM Value :=
  bindV (pickA v74_52 v75_53 (.bool false)) fun v76_54 =>
    bindV (ret v76_54) fun v6_55 =>
    ret v6_55

noncomputable def R12.g_58 (call : FuncId → List Value → AM Value) (k : Nat) (v67_49 : Value) (v72_50 : Value) : AM Value :=
  bindV (pickA v67_49 v72_50 (.bool false)) fun v73_51 =>
    bindV (ret v73_51) fun v74_52 =>
    guardA true v74_52 (bindV (call 25 []) fun v75_57 =>
    R12.g_56 call k v74_52 v75_57)
    (R12.g_56 call k v74_52 (.tuple #[]))

noncomputable def R12.g_73 (call : FuncId → List Value → AM Value) (k : Nat) (v2_in : Value) (v47_70 : Value) (v52_71 : Value) : AM Value :=
  bindV (pickA v47_70 (.bool true) v52_71) fun v53_72 =>
    condA v53_72 (bindV (ret (.bool false)) fun v6_66 =>
    ret v6_66)
    (bindV (ret v2_in) fun v55_30 =>
    bindV (call 26 [v55_30, (.bool true)]) fun v56_31 =>
    bindV (ret v56_31) fun v54_32 =>
    bindV (extractA v54_32 0) fun v57_33 =>
    bindV (extractA v54_32 1) fun v58_34 =>
    bindV (ret v57_33) fun v13_35 =>
    bindV (ret v58_34) fun v9_36 =>
    bindV (ret v2_in) fun v60_37 =>
    bindV (call 26 [v60_37, (.bool false)]) fun v61_38 =>
    bindV (ret v61_38) fun v59_39 =>
    bindV (extractA v59_39 0) fun v62_40 =>
    bindV (extractA v59_39 1) fun v63_41 =>
    bindV (ret v62_40) fun v14_42 =>
    bindV (ret v63_41) fun v12_43 =>
    bindV (ret v9_36) fun v64_46 =>
    bindV (ret v12_43) fun v65_47 =>
    bindV (binA Try.prog .eql 23 v64_46 v65_47) fun v66_48 =>
    bindV (ret v66_48) fun v67_49 =>
    guardA true v67_49 (bindV (ret v13_35) fun v68_59 =>
    bindV (lenA v68_59) fun v69_60 =>
    bindV (ret v14_42) fun v70_61 =>
    bindV (lenA v70_61) fun v71_62 =>
    bindV (binA Try.prog .leq 3 v69_60 v71_62) fun v72_63 =>
    R12.g_58 call k v67_49 v72_63)
    (R12.g_58 call k v67_49 (.tuple #[])))

noncomputable def R12.g_88 (call : FuncId → List Value → AM Value) (k : Nat) (v29_85 : Value) (v2_in : Value) (v7_5 : Value) (v8_14 : Value) (v32_86 : Value) : AM Value :=
  bindV (pickA v29_85 (.bool true) v32_86) fun v33_87 =>
    condA v33_87 (bindV (ret (.bool false)) fun v6_81 =>
    ret v6_81)
    (bindV (ret v8_14) fun v35_16 =>
    bindV (ret v8_14) fun v36_17 =>
    bindV (lenA v36_17) fun v37_18 =>
    bindV (binA Try.prog .sub 3 v37_18 (.int .i64 1)) fun v38_19 =>
    bindV (sliceA 1 v35_16 none (some v38_19)) fun v39_20 =>
    bindV (ret v7_5) fun v40_21 =>
    bindV (call 28 [v39_20, (.int .i64 0), v40_21]) fun v41_22 =>
    bindV (ret v41_22) fun v34_23 =>
    bindV (extractA v34_23 0) fun v42_24 =>
    bindV (extractA v34_23 1) fun v43_25 =>
    bindV (extractA v34_23 2) fun v44_26 =>
    bindV (ret v42_24) fun v10_27 =>
    bindV (ret v43_25) fun v11_28 =>
    bindV (ret v44_26) fun v12_29 =>
    bindV (ret v12_29) fun v45_68 =>
    bindV (binA Try.prog .neq 23 v45_68 (.int .i64 3)) fun v46_69 =>
    bindV (ret v46_69) fun v47_70 =>
    guardA false v47_70 (bindV (ret v11_28) fun v48_74 =>
    bindV (ret v8_14) fun v49_75 =>
    bindV (lenA v49_75) fun v50_76 =>
    bindV (binA Try.prog .sub 3 v50_76 (.int .i64 1)) fun v51_77 =>
    bindV (binA Try.prog .neq 3 v48_74 v51_77) fun v52_78 =>
    R12.g_73 call k v2_in v47_70 v52_78)
    (R12.g_73 call k v2_in v47_70 (.tuple #[])))

noncomputable def R12.top (call : FuncId → List Value → AM Value) (k : Nat) (v0_in : Value) (v1_in : Value) (v2_in : Value) : AM Value :=
  bindV (ret (.bool false)) fun v6_0 =>
    bindV (ret v0_in) fun v15_1 =>
    bindV (binA Try.prog .rem 5 v15_1 (.int .u8 8)) fun v16_2 =>
    bindV (convIntA .i64 v16_2) fun v17_3 =>
    bindV (binA Try.prog .add 3 (.int .i64 1) v17_3) fun v18_4 =>
    bindV (ret v18_4) fun v7_5 =>
    bindV (ret v7_5) fun v20_6 =>
    bindV (ret v1_in) fun v21_7 =>
    bindV (binA Try.prog .rem 22 v21_7 (.int .u32 2147483648)) fun v22_8 =>
    bindV (convIntA .i64 v22_8) fun v23_9 =>
    bindV (call 23 [(.int .u8 0), v20_6, v23_9]) fun v24_10 =>
    bindV (ret v24_10) fun v19_11 =>
    bindV (extractA v19_11 0) fun v25_12 =>
    bindV (extractA v19_11 1) fun v26_13 =>
    bindV (ret v25_12) fun v8_14 =>
    bindV (ret v26_13) fun v9_15 =>
    bindV (ret v9_15) fun v27_83 =>
    bindV (binA Try.prog .neq 23 v27_83 (.int .i64 0)) fun v28_84 =>
    bindV (ret v28_84) fun v29_85 =>
    guardA false v29_85 (bindV (ret v8_14) fun v30_89 =>
    bindV (lenA v30_89) fun v31_90 =>
    bindV (binA Try.prog .lss 3 v31_90 (.int .i64 1)) fun v32_91 =>
    R12.g_88 call k v29_85 v2_in v7_5 v8_14 v32_91)
    (R12.g_88 call k v29_85 v2_in v7_5 v8_14 (.tuple #[]))

theorem R12.eq (call : FuncId → List Value → AM Value) (k : Nat) (v0_in : Value) (v1_in : Value) (v2_in : Value) : funcA Try.prog call k 12 [v0_in, v1_in, v2_in] = R12.top call k v0_in v1_in v2_in := by kernel_rfl

/-! ### 13: aqueduct/aqueductlaw04.PrefixBack (6 arguments) -/
noncomputable def R13.g_82 (call : FuncId → List Value → AM Value) (k : Nat) (v136_78 : Value) (v137_79 : Value) : AM Value :=
  bindV (pickA v136_78 v137_79 (.bool false)) fun v138_80 =>
    bindV (ret v138_80) fun v12_81 =>
    ret v12_81

noncomputable def R13.g_84 (call : FuncId → List Value → AM Value) (k : Nat) (v127_75 : Value) (v134_76 : Value) : AM Value :=
  bindV (pickA v127_75 v134_76 (.bool false)) fun v135_77 =>
    bindV (ret v135_77) fun v136_78 =>
    guardA true v136_78 (bindV (call 25 []) fun v137_83 =>
    R13.g_82 call k v136_78 v137_83)
    (R13.g_82 call k v136_78 (.tuple #[]))

noncomputable def R13.g_92 (call : FuncId → List Value → AM Value) (k : Nat) (v0_in : Value) (v122_72 : Value) (v17_49 : Value) (v20_66 : Value) (v125_73 : Value) : AM Value :=
  bindV (pickA v122_72 v125_73 (.bool false)) fun v126_74 =>
    bindV (ret v126_74) fun v127_75 =>
    guardA true v127_75 (bindV (ret v20_66) fun v128_85 =>
    bindV (ret v0_in) fun v129_86 =>
    bindV (lenA v129_86) fun v130_87 =>
    bindV (ret v17_49) fun v131_88 =>
    bindV (lenA v131_88) fun v132_89 =>
    bindV (binA Try.prog .add 3 v130_87 v132_89) fun v133_90 =>
    bindV (binA Try.prog .eql 3 v128_85 v133_90) fun v134_91 =>
    R13.g_84 call k v127_75 v134_91)
    (R13.g_84 call k v127_75 (.tuple #[]))

noncomputable def R13.g_111 (call : FuncId → List Value → AM Value) (k : Nat) (v103_107 : Value) (v104_108 : Value) : AM Value :=
  bindV (pickA v103_107 v104_108 (.bool false)) fun v105_109 =>
    bindV (ret v105_109) fun v12_110 =>
    ret v12_110

noncomputable def R13.g_113 (call : FuncId → List Value → AM Value) (k : Nat) (v99_104 : Value) (v101_105 : Value) : AM Value :=
  bindV (pickA v99_104 v101_105 (.bool false)) fun v102_106 =>
    bindV (ret v102_106) fun v103_107 =>
    guardA true v103_107 (bindV (call 25 []) fun v104_112 =>
    R13.g_111 call k v103_107 v104_112)
    (R13.g_111 call k v103_107 (.tuple #[]))

noncomputable def R13.g_128 (call : FuncId → List Value → AM Value) (k : Nat) (v0_in : Value) (v13_4 : Value) (v1_in : Value) (v5_in : Value) (v79_125 : Value) (v86_126 : Value) : AM Value :=
  bindV (pickA v79_125 (.bool true) v86_126) fun v87_127 =>
    condA v87_127 (bindV (ret (.bool false)) fun v12_118 =>
    ret v12_118)
    (bindV (ret v5_in) fun v89_43 =>
    bindV (ret v13_4) fun v90_44 =>
    bindV (call 26 [v89_43, v90_44]) fun v91_45 =>
    bindV (ret v91_45) fun v88_46 =>
    bindV (extractA v88_46 0) fun v92_47 =>
    bindV (extractA v88_46 1) fun v93_48 =>
    bindV (ret v92_47) fun v17_49 =>
    bindV (ret v93_48) fun v18_50 =>
    bindV (ret v18_50) fun v94_97 =>
    bindV (binA Try.prog .neq 23 v94_97 (.int .i64 0)) fun v95_98 =>
    condA v95_98 (bindV (ret v5_in) fun v96_101 =>
    bindV (lenStrA v96_101) fun v97_102 =>
    bindV (binA Try.prog .gtr 3 v97_102 (.int .i64 16384)) fun v98_103 =>
    bindV (ret v98_103) fun v99_104 =>
    guardA true v99_104 (bindV (ret v18_50) fun v100_114 =>
    bindV (binA Try.prog .eql 23 v100_114 (.int .i64 2)) fun v101_115 =>
    R13.g_113 call k v99_104 v101_115)
    (R13.g_113 call k v99_104 (.tuple #[])))
    (bindV (buildSliceA 5 1 0 [(.int .u8 0)] []) fun v107_51 =>
    bindV (ret v0_in) fun v108_52 =>
    bindV (appendA 5 1 1 v107_51 v108_52) fun v109_53 =>
    bindV (ret v17_49) fun v110_54 =>
    bindV (appendA 5 1 1 v109_53 v110_54) fun v111_55 =>
    bindV (ret v1_in) fun v112_56 =>
    bindV (appendA 5 1 1 v111_55 v112_56) fun v113_57 =>
    bindV (ret v0_in) fun v114_58 =>
    bindV (lenA v114_58) fun v115_59 =>
    bindV (call 29 [v113_57, v115_59, (.int .i64 16384)]) fun v116_60 =>
    bindV (ret v116_60) fun v106_61 =>
    bindV (extractA v106_61 0) fun v117_62 =>
    bindV (extractA v106_61 1) fun v118_63 =>
    bindV (extractA v106_61 2) fun v119_64 =>
    bindV (ret v117_62) fun v21_65 =>
    bindV (ret v118_63) fun v20_66 =>
    bindV (ret v119_64) fun v18_67 =>
    bindV (ret v18_67) fun v120_70 =>
    bindV (binA Try.prog .eql 23 v120_70 (.int .i64 0)) fun v121_71 =>
    bindV (ret v121_71) fun v122_72 =>
    guardA true v122_72 (bindV (ret v21_65) fun v123_93 =>
    bindV (ret v5_in) fun v124_94 =>
    bindV (binA Try.prog .eql 9 v123_93 v124_94) fun v125_95 =>
    R13.g_92 call k v0_in v122_72 v17_49 v20_66 v125_95)
    (R13.g_92 call k v0_in v122_72 v17_49 v20_66 (.tuple #[]))))

noncomputable def R13.g_136 (call : FuncId → List Value → AM Value) (k : Nat) (v0_in : Value) (v13_4 : Value) (v17_23 : Value) (v1_in : Value) (v20_41 : Value) (v5_in : Value) (v74_122 : Value) (v77_123 : Value) : AM Value :=
  bindV (pickA v74_122 (.bool true) v77_123) fun v78_124 =>
    bindV (ret v78_124) fun v79_125 =>
    guardA false v79_125 (bindV (ret v20_41) fun v80_129 =>
    bindV (ret v0_in) fun v81_130 =>
    bindV (lenA v81_130) fun v82_131 =>
    bindV (ret v17_23) fun v83_132 =>
    bindV (lenA v83_132) fun v84_133 =>
    bindV (binA Try.prog .add 3 v82_131 v84_133) fun v85_134 =>
    bindV (binA Try.prog .neq 3 v80_129 v85_134) fun v86_135 =>
    R13.g_128 call k v0_in v13_4 v1_in v5_in v79_125 v86_135)
    (R13.g_128 call k v0_in v13_4 v1_in v5_in v79_125 (.tuple #[]))

noncomputable def R13.g_149 (call : FuncId → List Value → AM Value) (k : Nat) (v0_in : Value) (v13_4 : Value) (v14_9 : Value) (v16_15 : Value) (v17_23 : Value) (v1_in : Value) (v52_146 : Value) (v5_in : Value) (v55_147 : Value) : AM Value :=
  bindV (pickA v52_146 (.bool true) v55_147) fun v56_148 =>
    condA v56_148 (bindV (ret (.bool false)) fun v12_142 =>
    ret v12_142)
    (bindV (buildSliceA 5 1 0 [(.int .u8 0)] []) fun v58_25 =>
    bindV (ret v0_in) fun v59_26 =>
    bindV (appendA 5 1 1 v58_25 v59_26) fun v60_27 =>
    bindV (ret v17_23) fun v61_28 =>
    bindV (appendA 5 1 1 v60_27 v61_28) fun v62_29 =>
    bindV (ret v1_in) fun v63_30 =>
    bindV (appendA 5 1 1 v62_29 v63_30) fun v64_31 =>
    bindV (ret v0_in) fun v65_32 =>
    bindV (lenA v65_32) fun v66_33 =>
    bindV (ret v14_9) fun v67_34 =>
    bindV (call 28 [v64_31, v66_33, v67_34]) fun v68_35 =>
    bindV (ret v68_35) fun v57_36 =>
    bindV (extractA v57_36 0) fun v69_37 =>
    bindV (extractA v57_36 1) fun v70_38 =>
    bindV (extractA v57_36 2) fun v71_39 =>
    bindV (ret v69_37) fun v19_40 =>
    bindV (ret v70_38) fun v20_41 =>
    bindV (ret v71_39) fun v18_42 =>
    bindV (ret v18_42) fun v72_120 =>
    bindV (binA Try.prog .neq 23 v72_120 (.int .i64 0)) fun v73_121 =>
    bindV (ret v73_121) fun v74_122 =>
    guardA false v74_122 (bindV (ret v19_40) fun v75_137 =>
    bindV (ret v16_15) fun v76_138 =>
    bindV (binA Try.prog .neq 3 v75_137 v76_138) fun v77_139 =>
    R13.g_136 call k v0_in v13_4 v17_23 v1_in v20_41 v5_in v74_122 v77_139)
    (R13.g_136 call k v0_in v13_4 v17_23 v1_in v20_41 v5_in v74_122 (.tuple #[])))

noncomputable def R13.j_153 (call : FuncId → List Value → AM Value) (k : Nat) (v0_in : Value) (v13_4 : Value) (v14_9 : Value) (v1_in : Value) (v4_in : Value) (v5_in : Value) (v15_11 : Value) : AM Value :=
  bindV (ret v4_in) fun v40_12 =>
    bindV (binA Try.prog .rem 22 v40_12 (.int .u32 2147483648)) fun v41_13 =>
    bindV (convIntA .i64 v41_13) fun v42_14 =>
    bindV (ret v42_14) fun v16_15 =>
    bindV (ret v15_11) fun v44_16 =>
    bindV (ret v14_9) fun v45_17 =>
    bindV (ret v16_15) fun v46_18 =>
    bindV (call 23 [v44_16, v45_17, v46_18]) fun v47_19 =>
    bindV (ret v47_19) fun v43_20 =>
    bindV (extractA v43_20 0) fun v48_21 =>
    bindV (extractA v43_20 1) fun v49_22 =>
    bindV (ret v48_21) fun v17_23 =>
    bindV (ret v49_22) fun v18_24 =>
    bindV (ret v18_24) fun v50_144 =>
    bindV (binA Try.prog .neq 23 v50_144 (.int .i64 0)) fun v51_145 =>
    bindV (ret v51_145) fun v52_146 =>
    guardA false v52_146 (bindV (ret v17_23) fun v53_150 =>
    bindV (lenA v53_150) fun v54_151 =>
    bindV (binA Try.prog .eql 3 v54_151 (.int .i64 0)) fun v55_152 =>
    R13.g_149 call k v0_in v13_4 v14_9 v16_15 v17_23 v1_in v52_146 v5_in v55_152)
    (R13.g_149 call k v0_in v13_4 v14_9 v16_15 v17_23 v1_in v52_146 v5_in (.tuple #[]))

noncomputable def R13.top (call : FuncId → List Value → AM Value) (k : Nat) (v0_in : Value) (v1_in : Value) (v2_in : Value) (v3_in : Value) (v4_in : Value) (v5_in : Value) : AM Value :=
  bindV (ret (.bool false)) fun v12_0 =>
    bindV (ret v4_in) fun v22_1 =>
    bindV (binA Try.prog .rem 22 v22_1 (.int .u32 2)) fun v23_2 =>
    bindV (binA Try.prog .eql 22 v23_2 (.int .u32 0)) fun v24_3 =>
    bindV (ret v24_3) fun v13_4 =>
    bindV (ret v2_in) fun v25_5 =>
    bindV (binA Try.prog .rem 5 v25_5 (.int .u8 8)) fun v26_6 =>
    bindV (convIntA .i64 v26_6) fun v27_7 =>
    bindV (binA Try.prog .add 3 (.int .i64 1) v27_7) fun v28_8 =>
    bindV (ret v28_8) fun v14_9 =>
    bindV (ret (.int .u8 0)) fun v15_10 =>
    bindV (ret v14_9) fun v29_154 =>
    bindV (binA Try.prog .lss 3 v29_154 (.int .i64 8)) fun v30_155 =>
    condA v30_155 (bindV (ret v3_in) fun v31_156 =>
    bindV (ret v14_9) fun v32_157 =>
    bindV (convIntA .u64 v32_157) fun v33_158 =>
    bindV (binA Try.prog .shl 5 (.int .u8 1) v33_158) fun v34_159 =>
    bindV (binA Try.prog .quo 5 v31_156 v34_159) fun v35_160 =>
    bindV (ret v14_9) fun v36_161 =>
    bindV (convIntA .u64 v36_161) fun v37_162 =>
    bindV (binA Try.prog .shl 5 (.int .u8 1) v37_162) fun v38_163 =>
    bindV (binA Try.prog .mul 5 v35_160 v38_163) fun v39_164 =>
    bindV (ret v39_164) fun v15_165 =>
    R13.j_153 call k v0_in v13_4 v14_9 v1_in v4_in v5_in v15_165)
    (R13.j_153 call k v0_in v13_4 v14_9 v1_in v4_in v5_in v15_10)

theorem R13.eq (call : FuncId → List Value → AM Value) (k : Nat) (v0_in : Value) (v1_in : Value) (v2_in : Value) (v3_in : Value) (v4_in : Value) (v5_in : Value) : funcA Try.prog call k 13 [v0_in, v1_in, v2_in, v3_in, v4_in, v5_in] = R13.top call k v0_in v1_in v2_in v3_in v4_in v5_in := by kernel_rfl

/-! ### 23: aqueduct/prefix.Put (3 arguments) -/
noncomputable def R23.b_44 (call : FuncId → List Value → AM Value) (k : Nat) (rec_2_26 : Value → Value → AM Value) (v2_27 : Value) (v9_28 : Value) : AM Value :=
  bindV (ret v2_27) fun v51_42 =>
    bindV (binA Try.prog .geq 3 v51_42 (.int .i64 128)) fun v52_43 =>
    condA v52_43 (bindV (ret v9_28) fun v55_34 =>
    bindV (ret v2_27) fun v56_35 =>
    bindV (convIntA .u8 v56_35) fun v57_36 =>
    bindV (binA Try.prog .or 5 v57_36 (.int .u8 128)) fun v58_37 =>
    bindV (buildSliceA 5 1 1 [(.int .u8 0)] [(0, v58_37)]) fun v59_38 =>
    bindV (appendA 5 1 1 v55_34 v59_38) fun v60_39 =>
    bindV (ret v60_39) fun v9_40 =>
    bindV (ret v2_27) fun v53_30 =>
    bindV (binA Try.prog .shr 3 v53_30 (.int .u64 7)) fun v54_31 =>
    bindV (ret v54_31) fun v2_32 =>
    rec_2_26 v2_32 v9_40)
    (bindV (ret v9_28) fun v61_14 =>
    bindV (ret v2_27) fun v62_15 =>
    bindV (convIntA .u8 v62_15) fun v63_16 =>
    bindV (buildSliceA 5 1 1 [(.int .u8 0)] [(0, v63_16)]) fun v64_17 =>
    bindV (appendA 5 1 1 v61_14 v64_17) fun v65_18 =>
    bindV (ret v65_18) fun v6_19 =>
    bindV (ret (.int .i64 0)) fun v7_20 =>
    ret (.tuple #[v6_19, v7_20]))

noncomputable def R23.g_75 (call : FuncId → List Value → AM Value) (k : Nat) (v0_in : Value) (v1_in : Value) (v24_72 : Value) (v2_in : Value) (v30_73 : Value) : AM Value :=
  bindV (pickA v24_72 (.bool true) v30_73) fun v31_74 =>
    condA v31_74 (bindV (ret (.slice none 0 0)) fun v6_58 =>
    bindV (ret (.int .i64 1)) fun v7_59 =>
    ret (.tuple #[v6_58, v7_59]))
    (bindV (ret v1_in) fun v32_2 =>
    bindV (binA Try.prog .shl 3 (.int .i64 1) v32_2) fun v33_3 =>
    bindV (binA Try.prog .sub 3 v33_3 (.int .i64 1)) fun v34_4 =>
    bindV (ret v34_4) fun v8_5 =>
    bindV (ret v2_in) fun v35_46 =>
    bindV (ret v8_5) fun v36_47 =>
    bindV (binA Try.prog .lss 3 v35_46 v36_47) fun v37_48 =>
    condA v37_48 (bindV (ret v0_in) fun v38_49 =>
    bindV (ret v2_in) fun v39_50 =>
    bindV (convIntA .u8 v39_50) fun v40_51 =>
    bindV (binA Try.prog .or 5 v38_49 v40_51) fun v41_52 =>
    bindV (buildSliceA 5 1 1 [(.int .u8 0)] [(0, v41_52)]) fun v42_53 =>
    bindV (ret v42_53) fun v6_54 =>
    bindV (ret (.int .i64 0)) fun v7_55 =>
    ret (.tuple #[v6_54, v7_55]))
    (bindV (ret v0_in) fun v43_6 =>
    bindV (ret v8_5) fun v44_7 =>
    bindV (convIntA .u8 v44_7) fun v45_8 =>
    bindV (binA Try.prog .or 5 v43_6 v45_8) fun v46_9 =>
    bindV (buildSliceA 5 1 1 [(.int .u8 0)] [(0, v46_9)]) fun v47_10 =>
    bindV (ret v47_10) fun v9_11 =>
    bindV (ret v2_in) fun v48_22 =>
    bindV (ret v8_5) fun v49_23 =>
    bindV (binA Try.prog .sub 3 v48_22 v49_23) fun v50_24 =>
    bindV (ret v50_24) fun v2_25 =>
    loop2 (R23.b_44 call k) k v2_25 v9_11))

noncomputable def R23.g_82 (call : FuncId → List Value → AM Value) (k : Nat) (v0_in : Value) (v1_in : Value) (v20_69 : Value) (v2_in : Value) (v22_70 : Value) : AM Value :=
  bindV (pickA v20_69 (.bool true) v22_70) fun v23_71 =>
    bindV (ret v23_71) fun v24_72 =>
    guardA false v24_72 (bindV (ret v0_in) fun v25_76 =>
    bindV (ret v1_in) fun v26_77 =>
    bindV (binA Try.prog .shl 5 (.int .u8 1) v26_77) fun v27_78 =>
    bindV (binA Try.prog .sub 5 v27_78 (.int .u8 1)) fun v28_79 =>
    bindV (binA Try.prog .and 5 v25_76 v28_79) fun v29_80 =>
    bindV (binA Try.prog .neq 5 v29_80 (.int .u8 0)) fun v30_81 =>
    R23.g_75 call k v0_in v1_in v24_72 v2_in v30_81)
    (R23.g_75 call k v0_in v1_in v24_72 v2_in (.tuple #[]))

noncomputable def R23.g_85 (call : FuncId → List Value → AM Value) (k : Nat) (v0_in : Value) (v16_66 : Value) (v1_in : Value) (v2_in : Value) (v18_67 : Value) : AM Value :=
  bindV (pickA v16_66 (.bool true) v18_67) fun v19_68 =>
    bindV (ret v19_68) fun v20_69 =>
    guardA false v20_69 (bindV (ret v2_in) fun v21_83 =>
    bindV (binA Try.prog .gtr 3 v21_83 (.int .i64 2147483647)) fun v22_84 =>
    R23.g_82 call k v0_in v1_in v20_69 v2_in v22_84)
    (R23.g_82 call k v0_in v1_in v20_69 v2_in (.tuple #[]))

noncomputable def R23.g_88 (call : FuncId → List Value → AM Value) (k : Nat) (v0_in : Value) (v12_63 : Value) (v1_in : Value) (v2_in : Value) (v14_64 : Value) : AM Value :=
  bindV (pickA v12_63 (.bool true) v14_64) fun v15_65 =>
    bindV (ret v15_65) fun v16_66 =>
    guardA false v16_66 (bindV (ret v2_in) fun v17_86 =>
    bindV (binA Try.prog .lss 3 v17_86 (.int .i64 0)) fun v18_87 =>
    R23.g_85 call k v0_in v16_66 v1_in v2_in v18_87)
    (R23.g_85 call k v0_in v16_66 v1_in v2_in (.tuple #[]))

noncomputable def R23.top (call : FuncId → List Value → AM Value) (k : Nat) (v0_in : Value) (v1_in : Value) (v2_in : Value) : AM Value :=
  bindV (ret (.slice none 0 0)) fun v6_0 =>
    bindV (ret (.int .i64 0)) fun v7_1 =>
    bindV (ret v1_in) fun v10_61 =>
    bindV (binA Try.prog .lss 3 v10_61 (.int .i64 1)) fun v11_62 =>
    bindV (ret v11_62) fun v12_63 =>
    guardA false v12_63 (bindV (ret v1_in) fun v13_89 =>
    bindV (binA Try.prog .gtr 3 v13_89 (.int .i64 8)) fun v14_90 =>
    R23.g_88 call k v0_in v12_63 v1_in v2_in v14_90)
    (R23.g_88 call k v0_in v12_63 v1_in v2_in (.tuple #[]))

theorem R23.eq (call : FuncId → List Value → AM Value) (k : Nat) (v0_in : Value) (v1_in : Value) (v2_in : Value) : funcA Try.prog call k 23 [v0_in, v1_in, v2_in] = R23.top call k v0_in v1_in v2_in := by kernel_rfl

/-! ### 24: aqueduct/aqueductref04.Put (3 arguments) -/
noncomputable def R24.b_44 (call : FuncId → List Value → AM Value) (k : Nat) (rec_2_27 : Value → Value → AM Value) (v2_28 : Value) (v9_29 : Value) : AM Value :=
  bindV (ret v2_28) fun v50_42 =>
    bindV (binA Try.prog .geq 3 v50_42 (.int .i64 128)) fun v51_43 =>
    condA v51_43 (bindV (ret v9_29) fun v52_30 =>
    bindV (ret v2_28) fun v53_31 =>
    bindV (binA Try.prog .rem 3 v53_31 (.int .i64 128)) fun v54_32 =>
    bindV (binA Try.prog .add 3 (.int .i64 128) v54_32) fun v55_33 =>
    bindV (convIntA .u8 v55_33) fun v56_34 =>
    bindV (buildSliceA 5 1 1 [(.int .u8 0)] [(0, v56_34)]) fun v57_35 =>
    bindV (appendA 5 1 1 v52_30 v57_35) fun v58_36 =>
    bindV (ret v58_36) fun v9_37 =>
    bindV (ret v2_28) fun v59_38 =>
    bindV (binA Try.prog .quo 3 v59_38 (.int .i64 128)) fun v60_39 =>
    bindV (ret v60_39) fun v2_40 =>
    rec_2_27 v2_40 v9_37)
    (bindV (ret v9_29) fun v61_19 =>
    bindV (ret v2_28) fun v62_20 =>
    bindV (convIntA .u8 v62_20) fun v63_21 =>
    bindV (buildSliceA 5 1 1 [(.int .u8 0)] [(0, v63_21)]) fun v64_22 =>
    bindV (appendA 5 1 1 v61_19 v64_22) fun v65_23 =>
    bindV (ret v65_23) fun v6_24 =>
    bindV (ret (.int .i64 0)) fun v7_25 =>
    ret (.tuple #[v6_24, v7_25]))

noncomputable def R24.g_81 (call : FuncId → List Value → AM Value) (k : Nat) (v0_in : Value) (v1_in : Value) (v20_78 : Value) (v2_in : Value) (v22_79 : Value) : AM Value :=
  bindV (pickA v20_78 (.bool true) v22_79) fun v23_80 =>
    condA v23_80 (bindV (ret (.slice none 0 0)) fun v6_67 =>
    bindV (ret (.int .i64 1)) fun v7_68 =>
    ret (.tuple #[v6_67, v7_68]))
    (bindV (ret v1_in) fun v24_2 =>
    bindV (convIntA .u64 v24_2) fun v25_3 =>
    bindV (binA Try.prog .shl 3 (.int .i64 1) v25_3) fun v26_4 =>
    bindV (binA Try.prog .sub 3 v26_4 (.int .i64 1)) fun v27_5 =>
    bindV (ret v27_5) fun v8_6 =>
    bindV (ret v0_in) fun v28_57 =>
    bindV (convIntA .i64 v28_57) fun v29_58 =>
    bindV (ret v8_6) fun v30_59 =>
    bindV (binA Try.prog .add 3 v30_59 (.int .i64 1)) fun v31_60 =>
    bindV (binA Try.prog .rem 3 v29_58 v31_60) fun v32_61 =>
    bindV (binA Try.prog .neq 3 v32_61 (.int .i64 0)) fun v33_62 =>
    condA v33_62 (bindV (ret (.slice none 0 0)) fun v6_63 =>
    bindV (ret (.int .i64 1)) fun v7_64 =>
    ret (.tuple #[v6_63, v7_64]))
    (bindV (ret v2_in) fun v34_46 =>
    bindV (ret v8_6) fun v35_47 =>
    bindV (binA Try.prog .lss 3 v34_46 v35_47) fun v36_48 =>
    condA v36_48 (bindV (ret v0_in) fun v37_49 =>
    bindV (ret v2_in) fun v38_50 =>
    bindV (convIntA .u8 v38_50) fun v39_51 =>
    bindV (binA Try.prog .add 5 v37_49 v39_51) fun v40_52 =>
    bindV (buildSliceA 5 1 1 [(.int .u8 0)] [(0, v40_52)]) fun v41_53 =>
    bindV (ret v41_53) fun v6_54 =>
    bindV (ret (.int .i64 0)) fun v7_55 =>
    ret (.tuple #[v6_54, v7_55]))
    (bindV (ret v0_in) fun v42_7 =>
    bindV (ret v8_6) fun v43_8 =>
    bindV (convIntA .u8 v43_8) fun v44_9 =>
    bindV (binA Try.prog .add 5 v42_7 v44_9) fun v45_10 =>
    bindV (buildSliceA 5 1 1 [(.int .u8 0)] [(0, v45_10)]) fun v46_11 =>
    bindV (ret v46_11) fun v9_12 =>
    bindV (ret v2_in) fun v47_13 =>
    bindV (ret v8_6) fun v48_14 =>
    bindV (binA Try.prog .sub 3 v47_13 v48_14) fun v49_15 =>
    bindV (ret v49_15) fun v2_16 =>
    loop2 (R24.b_44 call k) k v2_16 v9_12)))

noncomputable def R24.g_84 (call : FuncId → List Value → AM Value) (k : Nat) (v0_in : Value) (v16_75 : Value) (v1_in : Value) (v2_in : Value) (v18_76 : Value) : AM Value :=
  bindV (pickA v16_75 (.bool true) v18_76) fun v19_77 =>
    bindV (ret v19_77) fun v20_78 =>
    guardA false v20_78 (bindV (ret v2_in) fun v21_82 =>
    bindV (binA Try.prog .gtr 3 v21_82 (.int .i64 2147483647)) fun v22_83 =>
    R24.g_81 call k v0_in v1_in v20_78 v2_in v22_83)
    (R24.g_81 call k v0_in v1_in v20_78 v2_in (.tuple #[]))

noncomputable def R24.g_87 (call : FuncId → List Value → AM Value) (k : Nat) (v0_in : Value) (v12_72 : Value) (v1_in : Value) (v2_in : Value) (v14_73 : Value) : AM Value :=
  bindV (pickA v12_72 (.bool true) v14_73) fun v15_74 =>
    bindV (ret v15_74) fun v16_75 =>
    guardA false v16_75 (bindV (ret v2_in) fun v17_85 =>
    bindV (binA Try.prog .lss 3 v17_85 (.int .i64 0)) fun v18_86 =>
    R24.g_84 call k v0_in v16_75 v1_in v2_in v18_86)
    (R24.g_84 call k v0_in v16_75 v1_in v2_in (.tuple #[]))

noncomputable def R24.top (call : FuncId → List Value → AM Value) (k : Nat) (v0_in : Value) (v1_in : Value) (v2_in : Value) : AM Value :=
  bindV (ret (.slice none 0 0)) fun v6_0 =>
    bindV (ret (.int .i64 0)) fun v7_1 =>
    bindV (ret v1_in) fun v10_70 =>
    bindV (binA Try.prog .lss 3 v10_70 (.int .i64 1)) fun v11_71 =>
    bindV (ret v11_71) fun v12_72 =>
    guardA false v12_72 (bindV (ret v1_in) fun v13_88 =>
    bindV (binA Try.prog .gtr 3 v13_88 (.int .i64 8)) fun v14_89 =>
    R24.g_87 call k v0_in v12_72 v1_in v2_in v14_89)
    (R24.g_87 call k v0_in v12_72 v1_in v2_in (.tuple #[]))

theorem R24.eq (call : FuncId → List Value → AM Value) (k : Nat) (v0_in : Value) (v1_in : Value) (v2_in : Value) : funcA Try.prog call k 24 [v0_in, v1_in, v2_in] = R24.top call k v0_in v1_in v2_in := by kernel_rfl

/-! ### 25: aqueduct/aqueductlaw04.awake (0 arguments) -/
noncomputable def R25.g_24 (call : FuncId → List Value → AM Value) (k : Nat) (v26_20 : Value) (v30_21 : Value) : AM Value :=
  bindV (pickA v26_20 v30_21 (.bool false)) fun v31_22 =>
    bindV (ret v31_22) fun v0_23 =>
    ret v0_23

noncomputable def R25.g_29 (call : FuncId → List Value → AM Value) (k : Nat) (v1_5 : Value) (v20_17 : Value) (v24_18 : Value) : AM Value :=
  bindV (pickA v20_17 v24_18 (.bool false)) fun v25_19 =>
    bindV (ret v25_19) fun v26_20 =>
    guardA true v26_20 (bindV (ret v1_5) fun v27_25 =>
    bindV (indexAddrA 1 v27_25 (.int .i64 2)) fun v28_26 =>
    bindV (loadA none v28_26) fun v29_27 =>
    bindV (binA Try.prog .eql 5 v29_27 (.int .u8 10)) fun v30_28 =>
    R25.g_24 call k v26_20 v30_28)
    (R25.g_24 call k v26_20 (.tuple #[]))

noncomputable def R25.g_34 (call : FuncId → List Value → AM Value) (k : Nat) (v14_14 : Value) (v1_5 : Value) (v18_15 : Value) : AM Value :=
  bindV (pickA v14_14 v18_15 (.bool false)) fun v19_16 =>
    bindV (ret v19_16) fun v20_17 =>
    guardA true v20_17 (bindV (ret v1_5) fun v21_30 =>
    bindV (indexAddrA 1 v21_30 (.int .i64 1)) fun v22_31 =>
    bindV (loadA none v22_31) fun v23_32 =>
    bindV (binA Try.prog .eql 5 v23_32 (.int .u8 154)) fun v24_33 =>
    R25.g_29 call k v1_5 v20_17 v24_33)
    (R25.g_29 call k v1_5 v20_17 (.tuple #[]))

noncomputable def R25.g_39 (call : FuncId → List Value → AM Value) (k : Nat) (v1_5 : Value) (v9_11 : Value) (v12_12 : Value) : AM Value :=
  bindV (pickA v9_11 v12_12 (.bool false)) fun v13_13 =>
    bindV (ret v13_13) fun v14_14 =>
    guardA true v14_14 (bindV (ret v1_5) fun v15_35 =>
    bindV (indexAddrA 1 v15_35 (.int .i64 0)) fun v16_36 =>
    bindV (loadA none v16_36) fun v17_37 =>
    bindV (binA Try.prog .eql 5 v17_37 (.int .u8 31)) fun v18_38 =>
    R25.g_34 call k v14_14 v1_5 v18_38)
    (R25.g_34 call k v14_14 v1_5 (.tuple #[]))

noncomputable def R25.top (call : FuncId → List Value → AM Value) (k : Nat) : AM Value :=
  bindV (ret (.bool false)) fun v0_0 =>
    bindV (call 23 [(.int .u8 0), (.int .i64 5), (.int .i64 1337)]) fun v4_1 =>
    bindV (ret v4_1) fun v3_2 =>
    bindV (extractA v3_2 0) fun v5_3 =>
    bindV (extractA v3_2 1) fun v6_4 =>
    bindV (ret v5_3) fun v1_5 =>
    bindV (ret v6_4) fun v2_6 =>
    bindV (ret v2_6) fun v7_9 =>
    bindV (binA Try.prog .eql 23 v7_9 (.int .i64 0)) fun v8_10 =>
    bindV (ret v8_10) fun v9_11 =>
    guardA true v9_11 (bindV (ret v1_5) fun v10_40 =>
    bindV (lenA v10_40) fun v11_41 =>
    bindV (binA Try.prog .eql 3 v11_41 (.int .i64 3)) fun v12_42 =>
    R25.g_39 call k v1_5 v9_11 v12_42)
    (R25.g_39 call k v1_5 v9_11 (.tuple #[]))

theorem R25.eq (call : FuncId → List Value → AM Value) (k : Nat) : funcA Try.prog call k 25 [] = R25.top call k := by kernel_rfl

/-! ### 26: aqueduct/prefix.PutText (2 arguments) -/
noncomputable def R26.j_22 (call : FuncId → List Value → AM Value) (k : Nat) (v6_6 : Value) (v7_7 : Value) : AM Value :=
  bindV (ret v6_6) fun v26_8 =>
    bindV (ret v7_7) fun v27_9 =>
    bindV (lenA v27_9) fun v28_10 =>
    bindV (call 23 [v26_8, (.int .i64 7), v28_10]) fun v29_11 =>
    bindV (ret v29_11) fun v25_12 =>
    bindV (extractA v25_12 0) fun v30_13 =>
    bindV (extractA v25_12 1) fun v31_14 =>
    bindV (ret v30_13) fun v8_15 =>
    bindV (ret v31_14) fun v9_16 =>
    bindV (ret v8_15) fun v32_17 =>
    bindV (ret v7_7) fun v33_18 =>
    bindV (appendA 5 1 1 v32_17 v33_18) fun v34_19 =>
    bindV (ret v34_19) fun v4_20 =>
    bindV (ret (.int .i64 0)) fun v5_21 =>
    ret (.tuple #[v4_20, v5_21])

noncomputable def R26.g_33 (call : FuncId → List Value → AM Value) (k : Nat) (v16_30 : Value) (v6_4 : Value) (v7_5 : Value) (v21_31 : Value) : AM Value :=
  bindV (pickA v16_30 v21_31 (.bool false)) fun v22_32 =>
    condA v22_32 (bindV (ret v7_5) fun v23_24 =>
    bindV (call 18 [v23_24]) fun v24_25 =>
    bindV (ret (.int .u8 128)) fun v6_26 =>
    bindV (ret v24_25) fun v7_27 =>
    R26.j_22 call k v6_26 v7_27)
    (R26.j_22 call k v6_4 v7_5)

noncomputable def R26.top (call : FuncId → List Value → AM Value) (k : Nat) (v0_in : Value) (v1_in : Value) : AM Value :=
  bindV (ret (.slice none 0 0)) fun v4_0 =>
    bindV (ret (.int .i64 0)) fun v5_1 =>
    bindV (ret v0_in) fun v10_40 =>
    bindV (lenStrA v10_40) fun v11_41 =>
    bindV (binA Try.prog .gtr 3 v11_41 (.int .i64 16384)) fun v12_42 =>
    condA v12_42 (bindV (ret (.slice none 0 0)) fun v4_43 =>
    bindV (ret (.int .i64 2)) fun v5_44 =>
    ret (.tuple #[v4_43, v5_44]))
    (bindV (ret v0_in) fun v13_2 =>
    bindV (toBytesA 5 v13_2) fun v14_3 =>
    bindV (ret (.int .u8 0)) fun v6_4 =>
    bindV (ret v14_3) fun v7_5 =>
    bindV (ret v1_in) fun v15_29 =>
    bindV (ret v15_29) fun v16_30 =>
    guardA true v16_30 (bindV (ret v7_5) fun v17_34 =>
    bindV (call 17 [v17_34]) fun v18_35 =>
    bindV (ret v0_in) fun v19_36 =>
    bindV (lenStrA v19_36) fun v20_37 =>
    bindV (binA Try.prog .lss 3 v18_35 v20_37) fun v21_38 =>
    R26.g_33 call k v16_30 v6_4 v7_5 v21_38)
    (R26.g_33 call k v16_30 v6_4 v7_5 (.tuple #[])))

theorem R26.eq (call : FuncId → List Value → AM Value) (k : Nat) (v0_in : Value) (v1_in : Value) : funcA Try.prog call k 26 [v0_in, v1_in] = R26.top call k v0_in v1_in := by kernel_rfl

/-! ### 27: aqueduct/aqueductref04.PutText (2 arguments) -/
noncomputable def R27.j_15 (call : FuncId → List Value → AM Value) (k : Nat) (v0_in : Value) : AM Value :=
  bindV (ret v0_in) fun v33_2 =>
    bindV (lenStrA v33_2) fun v34_3 =>
    bindV (call 24 [(.int .u8 0), (.int .i64 7), v34_3]) fun v35_4 =>
    bindV (ret v35_4) fun v32_5 =>
    bindV (extractA v32_5 0) fun v36_6 =>
    bindV (extractA v32_5 1) fun v37_7 =>
    bindV (ret v36_6) fun v9_8 =>
    bindV (ret v37_7) fun v10_9 =>
    bindV (ret v9_8) fun v38_10 =>
    bindV (ret v0_in) fun v39_11 =>
    bindV (appendA 5 1 1 v38_10 v39_11) fun v40_12 =>
    bindV (ret v40_12) fun v4_13 =>
    bindV (ret (.int .i64 0)) fun v5_14 =>
    ret (.tuple #[v4_13, v5_14])

noncomputable def R27.top (call : FuncId → List Value → AM Value) (k : Nat) (v0_in : Value) (v1_in : Value) : AM Value :=
  bindV (ret (.slice none 0 0)) fun v4_0 =>
    bindV (ret (.int .i64 0)) fun v5_1 =>
    bindV (ret v0_in) fun v11_40 =>
    bindV (lenStrA v11_40) fun v12_41 =>
    bindV (binA Try.prog .gtr 3 v12_41 (.int .i64 16384)) fun v13_42 =>
    condA v13_42 (bindV (ret (.slice none 0 0)) fun v4_43 =>
    bindV (ret (.int .i64 2)) fun v5_44 =>
    ret (.tuple #[v4_43, v5_44]))
    (bindV (ret v1_in) fun v14_16 =>
    condA v14_16 (bindV (ret v0_in) fun v15_17 =>
    bindV (toBytesA 5 v15_17) fun v16_18 =>
    bindV (call 19 [v16_18]) fun v17_19 =>
    bindV (ret v17_19) fun v6_20 =>
    bindV (ret v6_20) fun v18_21 =>
    bindV (lenA v18_21) fun v19_22 =>
    bindV (ret v0_in) fun v20_23 =>
    bindV (lenStrA v20_23) fun v21_24 =>
    bindV (binA Try.prog .lss 3 v19_22 v21_24) fun v22_25 =>
    condA v22_25 (bindV (ret v6_20) fun v24_26 =>
    bindV (lenA v24_26) fun v25_27 =>
    bindV (call 24 [(.int .u8 128), (.int .i64 7), v25_27]) fun v26_28 =>
    bindV (ret v26_28) fun v23_29 =>
    bindV (extractA v23_29 0) fun v27_30 =>
    bindV (extractA v23_29 1) fun v28_31 =>
    bindV (ret v27_30) fun v7_32 =>
    bindV (ret v28_31) fun v8_33 =>
    bindV (ret v7_32) fun v29_34 =>
    bindV (ret v6_20) fun v30_35 =>
    bindV (appendA 5 1 1 v29_34 v30_35) fun v31_36 =>
    bindV (ret v31_36) fun v4_37 =>
    bindV (ret (.int .i64 0)) fun v5_38 =>
    ret (.tuple #[v4_37, v5_38]))
    (R27.j_15 call k v0_in))
    (R27.j_15 call k v0_in))

theorem R27.eq (call : FuncId → List Value → AM Value) (k : Nat) (v0_in : Value) (v1_in : Value) : funcA Try.prog call k 27 [v0_in, v1_in] = R27.top call k v0_in v1_in := by kernel_rfl

/-! ### 28: aqueduct/prefix.Get (3 arguments) -/
noncomputable def R28.s_10 (call : FuncId → List Value → AM Value) (k : Nat) (v1_3 : Value) (v8_4 : Value) : AM Value :=
  bindV (ret v1_3) fun v81_5 =>
    bindV (ret v8_4) fun v82_6 =>
    bindV (ret (.int .i64 0)) fun v6_7 =>
    bindV (ret v81_5) fun v7_8 =>
    bindV (ret v82_6) fun v8_9 =>
    ret (.tuple #[v6_7, v7_8, v8_9])

noncomputable def R28.b_95 (call : FuncId → List Value → AM Value) (k : Nat) (v0_in : Value) (rec_4_39 : Value → Value → Value → Value → AM Value) (v1_40 : Value) (v6_41 : Value) (v8_42 : Value) (v48_43 : Value) : AM Value :=
  bindV (binA Try.prog .lss 3 v48_43 (.int .i64 6)) fun v49_44 =>
    condA v49_44 (bindV (ret v48_43) fun v50_51 =>
    bindV (ret v50_51) fun v10_52 =>
    bindV (ret (.int .i64 3)) fun v8_89 =>
    bindV (ret v1_40) fun v51_90 =>
    bindV (ret v0_in) fun v52_91 =>
    bindV (lenA v52_91) fun v53_92 =>
    bindV (binA Try.prog .eql 3 v51_90 v53_92) fun v54_93 =>
    condA v54_93 (R28.s_10 call k v1_40 v8_89)
    (bindV (ret (.int .i64 2)) fun v8_85 =>
    bindV (ret v10_52) fun v55_86 =>
    bindV (binA Try.prog .eql 3 v55_86 (.int .i64 5)) fun v56_87 =>
    condA v56_87 (R28.s_10 call k v1_40 v8_85)
    (bindV (ret v6_41) fun v57_70 =>
    bindV (ret v0_in) fun v58_71 =>
    bindV (ret v1_40) fun v59_72 =>
    bindV (indexAddrA 1 v58_71 v59_72) fun v60_73 =>
    bindV (loadA none v60_73) fun v61_74 =>
    bindV (binA Try.prog .and 5 v61_74 (.int .u8 127)) fun v62_75 =>
    bindV (convIntA .i64 v62_75) fun v63_76 =>
    bindV (ret v10_52) fun v64_77 =>
    bindV (binA Try.prog .mul 3 (.int .i64 7) v64_77) fun v65_78 =>
    bindV (binA Try.prog .shl 3 v63_76 v65_78) fun v66_79 =>
    bindV (binA Try.prog .add 3 v57_70 v66_79) fun v67_80 =>
    bindV (ret v67_80) fun v6_81 =>
    bindV (ret v6_81) fun v68_82 =>
    bindV (binA Try.prog .gtr 3 v68_82 (.int .i64 2147483647)) fun v69_83 =>
    condA v69_83 (R28.s_10 call k v1_40 v8_85)
    (bindV (ret v1_40) fun v70_55 =>
    bindV (binA Try.prog .add 3 v70_55 (.int .i64 1)) fun v71_56 =>
    bindV (ret v71_56) fun v1_57 =>
    bindV (ret v0_in) fun v72_58 =>
    bindV (ret v1_57) fun v73_59 =>
    bindV (binA Try.prog .sub 3 v73_59 (.int .i64 1)) fun v74_60 =>
    bindV (indexAddrA 1 v72_58 v74_60) fun v75_61 =>
    bindV (loadA none v75_61) fun v76_62 =>
    bindV (binA Try.prog .lss 5 v76_62 (.int .u8 128)) fun v77_63 =>
    condA v77_63 (bindV (ret v6_81) fun v78_64 =>
    bindV (ret v1_57) fun v79_65 =>
    bindV (ret v78_64) fun v6_66 =>
    bindV (ret v79_65) fun v7_67 =>
    bindV (ret (.int .i64 0)) fun v8_68 =>
    ret (.tuple #[v6_66, v7_67, v8_68]))
    (bindV (binA Try.prog .add 3 v48_43 (.int .i64 1)) fun v80_48 =>
    bindV (ret v80_48) fun v48_49 =>
    rec_4_39 v1_57 v6_81 v8_85 v48_49)))))
    (bindV (ret v1_40) fun v81_32 =>
    bindV (ret v8_42) fun v82_33 =>
    bindV (ret (.int .i64 0)) fun v6_34 =>
    bindV (ret v81_32) fun v7_35 =>
    bindV (ret v82_33) fun v8_36 =>
    ret (.tuple #[v6_34, v7_35, v8_36]))

noncomputable def R28.g_128 (call : FuncId → List Value → AM Value) (k : Nat) (v0_in : Value) (v1_in : Value) (v21_125 : Value) (v2_in : Value) (v25_126 : Value) : AM Value :=
  bindV (pickA v21_125 (.bool true) v25_126) fun v26_127 =>
    condA v26_127 (bindV (ret (.int .i64 0)) fun v6_113 =>
    bindV (ret (.int .i64 0)) fun v7_114 =>
    bindV (ret (.int .i64 1)) fun v8_115 =>
    ret (.tuple #[v6_113, v7_114, v8_115]))
    (bindV (ret (.int .i64 0)) fun v9_11 =>
    bindV (ret (.int .i64 3)) fun v8_106 =>
    bindV (ret v1_in) fun v27_107 =>
    bindV (ret v0_in) fun v28_108 =>
    bindV (lenA v28_108) fun v29_109 =>
    bindV (binA Try.prog .eql 3 v27_107 v29_109) fun v30_110 =>
    condA v30_110 (R28.s_10 call k v1_in v8_106)
    (bindV (ret v2_in) fun v31_13 =>
    bindV (binA Try.prog .shl 3 (.int .i64 1) v31_13) fun v32_14 =>
    bindV (binA Try.prog .sub 3 v32_14 (.int .i64 1)) fun v33_15 =>
    bindV (ret v33_15) fun v9_16 =>
    bindV (ret v0_in) fun v34_17 =>
    bindV (ret v1_in) fun v35_18 =>
    bindV (indexAddrA 1 v34_17 v35_18) fun v36_19 =>
    bindV (loadA none v36_19) fun v37_20 =>
    bindV (convIntA .i64 v37_20) fun v38_21 =>
    bindV (ret v9_16) fun v39_22 =>
    bindV (binA Try.prog .and 3 v38_21 v39_22) fun v40_23 =>
    bindV (ret v40_23) fun v6_24 =>
    bindV (ret v1_in) fun v41_25 =>
    bindV (binA Try.prog .add 3 v41_25 (.int .i64 1)) fun v42_26 =>
    bindV (ret v42_26) fun v1_27 =>
    bindV (ret v6_24) fun v43_97 =>
    bindV (ret v9_16) fun v44_98 =>
    bindV (binA Try.prog .lss 3 v43_97 v44_98) fun v45_99 =>
    condA v45_99 (bindV (ret v6_24) fun v46_100 =>
    bindV (ret v1_27) fun v47_101 =>
    bindV (ret v46_100) fun v6_102 =>
    bindV (ret v47_101) fun v7_103 =>
    bindV (ret (.int .i64 0)) fun v8_104 =>
    ret (.tuple #[v6_102, v7_103, v8_104]))
    (bindV (ret (.int .i64 0)) fun v48_38 =>
    loop4 (R28.b_95 call k v0_in) k v1_27 v6_24 v8_106 v48_38)))

noncomputable def R28.g_133 (call : FuncId → List Value → AM Value) (k : Nat) (v0_in : Value) (v17_122 : Value) (v1_in : Value) (v2_in : Value) (v19_123 : Value) : AM Value :=
  bindV (pickA v17_122 (.bool true) v19_123) fun v20_124 =>
    bindV (ret v20_124) fun v21_125 =>
    guardA false v21_125 (bindV (ret v1_in) fun v22_129 =>
    bindV (ret v0_in) fun v23_130 =>
    bindV (lenA v23_130) fun v24_131 =>
    bindV (binA Try.prog .gtr 3 v22_129 v24_131) fun v25_132 =>
    R28.g_128 call k v0_in v1_in v21_125 v2_in v25_132)
    (R28.g_128 call k v0_in v1_in v21_125 v2_in (.tuple #[]))

noncomputable def R28.g_136 (call : FuncId → List Value → AM Value) (k : Nat) (v0_in : Value) (v13_119 : Value) (v1_in : Value) (v2_in : Value) (v15_120 : Value) : AM Value :=
  bindV (pickA v13_119 (.bool true) v15_120) fun v16_121 =>
    bindV (ret v16_121) fun v17_122 =>
    guardA false v17_122 (bindV (ret v1_in) fun v18_134 =>
    bindV (binA Try.prog .lss 3 v18_134 (.int .i64 0)) fun v19_135 =>
    R28.g_133 call k v0_in v17_122 v1_in v2_in v19_135)
    (R28.g_133 call k v0_in v17_122 v1_in v2_in (.tuple #[]))

noncomputable def R28.top (call : FuncId → List Value → AM Value) (k : Nat) (v0_in : Value) (v1_in : Value) (v2_in : Value) : AM Value :=
  bindV (ret (.int .i64 0)) fun v6_0 =>
    bindV (ret (.int .i64 0)) fun v7_1 =>
    bindV (ret (.int .i64 0)) fun v8_2 =>
    bindV (ret v2_in) fun v11_117 =>
    bindV (binA Try.prog .lss 3 v11_117 (.int .i64 1)) fun v12_118 =>
    bindV (ret v12_118) fun v13_119 =>
    guardA false v13_119 (bindV (ret v2_in) fun v14_137 =>
    bindV (binA Try.prog .gtr 3 v14_137 (.int .i64 8)) fun v15_138 =>
    R28.g_136 call k v0_in v13_119 v1_in v2_in v15_138)
    (R28.g_136 call k v0_in v13_119 v1_in v2_in (.tuple #[]))

theorem R28.eq (call : FuncId → List Value → AM Value) (k : Nat) (v0_in : Value) (v1_in : Value) (v2_in : Value) : funcA Try.prog call k 28 [v0_in, v1_in, v2_in] = R28.top call k v0_in v1_in v2_in := by kernel_rfl

/-! ### 29: aqueduct/prefix.GetText (3 arguments) -/
noncomputable def R29.j_29 (call : FuncId → List Value → AM Value) (k : Nat) (v10_11 : Value) (v9_10 : Value) (v12_20 : Value) : AM Value :=
  bindV (ret v12_20) fun v90_21 =>
    bindV (toStrA v90_21) fun v91_22 =>
    bindV (ret v10_11) fun v92_23 =>
    bindV (ret v9_10) fun v93_24 =>
    bindV (binA Try.prog .add 3 v92_23 v93_24) fun v94_25 =>
    bindV (ret v91_22) fun v6_26 =>
    bindV (ret v94_25) fun v7_27 =>
    bindV (ret (.int .i64 0)) fun v8_28 =>
    ret (.tuple #[v6_26, v7_27, v8_28])

noncomputable def R29.g_113 (call : FuncId → List Value → AM Value) (k : Nat) (v0_in : Value) (v1_in : Value) (v26_110 : Value) (v2_in : Value) (v30_111 : Value) : AM Value :=
  bindV (pickA v26_110 (.bool true) v30_111) fun v31_112 =>
    condA v31_112 (bindV (ret (.string ⟨#[]⟩)) fun v6_98 =>
    bindV (ret (.int .i64 0)) fun v7_99 =>
    bindV (ret (.int .i64 1)) fun v8_100 =>
    ret (.tuple #[v6_98, v7_99, v8_100]))
    (bindV (ret v0_in) fun v33_3 =>
    bindV (ret v1_in) fun v34_4 =>
    bindV (call 28 [v33_3, v34_4, (.int .i64 7)]) fun v35_5 =>
    bindV (ret v35_5) fun v32_6 =>
    bindV (extractA v32_6 0) fun v36_7 =>
    bindV (extractA v32_6 1) fun v37_8 =>
    bindV (extractA v32_6 2) fun v38_9 =>
    bindV (ret v36_7) fun v9_10 =>
    bindV (ret v37_8) fun v10_11 =>
    bindV (ret v38_9) fun v11_12 =>
    bindV (ret v11_12) fun v40_68 =>
    bindV (binA Try.prog .neq 23 v40_68 (.int .i64 0)) fun v41_69 =>
    bindV (ret v41_69) fun v39_70 =>
    condA v39_70 (bindV (ret v10_11) fun v42_71 =>
    bindV (ret v11_12) fun v43_72 =>
    bindV (ret (.string ⟨#[]⟩)) fun v6_73 =>
    bindV (ret v42_71) fun v7_74 =>
    bindV (ret v43_72) fun v8_75 =>
    ret (.tuple #[v6_73, v7_74, v8_75]))
    (bindV (ret v9_10) fun v45_76 =>
    bindV (ret v2_in) fun v46_77 =>
    bindV (binA Try.prog .gtr 3 v45_76 v46_77) fun v47_78 =>
    bindV (ret v47_78) fun v44_79 =>
    condA v44_79 (bindV (ret v1_in) fun v48_80 =>
    bindV (ret (.string ⟨#[]⟩)) fun v6_81 =>
    bindV (ret v48_80) fun v7_82 =>
    bindV (ret (.int .i64 2)) fun v8_83 =>
    ret (.tuple #[v6_81, v7_82, v8_83]))
    (bindV (ret v9_10) fun v50_84 =>
    bindV (ret v0_in) fun v51_85 =>
    bindV (lenA v51_85) fun v52_86 =>
    bindV (ret v10_11) fun v53_87 =>
    bindV (binA Try.prog .sub 3 v52_86 v53_87) fun v54_88 =>
    bindV (binA Try.prog .gtr 3 v50_84 v54_88) fun v55_89 =>
    bindV (ret v55_89) fun v49_90 =>
    condA v49_90 (bindV (ret v0_in) fun v56_91 =>
    bindV (lenA v56_91) fun v57_92 =>
    bindV (ret (.string ⟨#[]⟩)) fun v6_93 =>
    bindV (ret v57_92) fun v7_94 =>
    bindV (ret (.int .i64 3)) fun v8_95 =>
    ret (.tuple #[v6_93, v7_94, v8_95]))
    (bindV (ret v0_in) fun v58_13 =>
    bindV (ret v10_11) fun v59_14 =>
    bindV (ret v10_11) fun v60_15 =>
    bindV (ret v9_10) fun v61_16 =>
    bindV (binA Try.prog .add 3 v60_15 v61_16) fun v62_17 =>
    bindV (sliceA 1 v58_13 (some v59_14) (some v62_17)) fun v63_18 =>
    bindV (ret v63_18) fun v12_19 =>
    bindV (ret v0_in) fun v64_30 =>
    bindV (ret v1_in) fun v65_31 =>
    bindV (indexAddrA 1 v64_30 v65_31) fun v66_32 =>
    bindV (loadA none v66_32) fun v67_33 =>
    bindV (binA Try.prog .and 5 v67_33 (.int .u8 128)) fun v68_34 =>
    bindV (binA Try.prog .neq 5 v68_34 (.int .u8 0)) fun v69_35 =>
    condA v69_35 (bindV (ret v12_19) fun v71_36 =>
    bindV (call 20 [v71_36]) fun v72_37 =>
    bindV (ret v72_37) fun v70_38 =>
    bindV (extractA v70_38 0) fun v73_39 =>
    bindV (extractA v70_38 1) fun v74_40 =>
    bindV (extractA v70_38 2) fun v75_41 =>
    bindV (ret v73_39) fun v13_42 =>
    bindV (ret v74_40) fun v14_43 =>
    bindV (ret v75_41) fun v15_44 =>
    bindV (ret v15_44) fun v77_48 =>
    bindV (binA Try.prog .neq 23 v77_48 (.int .i64 0)) fun v78_49 =>
    bindV (ret v78_49) fun v76_50 =>
    condA v76_50 (bindV (ret v10_11) fun v79_51 =>
    bindV (ret v14_43) fun v80_52 =>
    bindV (binA Try.prog .add 3 v79_51 v80_52) fun v81_53 =>
    bindV (ret v15_44) fun v82_54 =>
    bindV (ret (.string ⟨#[]⟩)) fun v6_55 =>
    bindV (ret v81_53) fun v7_56 =>
    bindV (ret v82_54) fun v8_57 =>
    ret (.tuple #[v6_55, v7_56, v8_57]))
    (bindV (ret v13_42) fun v84_58 =>
    bindV (lenA v84_58) fun v85_59 =>
    bindV (ret v2_in) fun v86_60 =>
    bindV (binA Try.prog .gtr 3 v85_59 v86_60) fun v87_61 =>
    bindV (ret v87_61) fun v83_62 =>
    condA v83_62 (bindV (ret v1_in) fun v88_63 =>
    bindV (ret (.string ⟨#[]⟩)) fun v6_64 =>
    bindV (ret v88_63) fun v7_65 =>
    bindV (ret (.int .i64 2)) fun v8_66 =>
    ret (.tuple #[v6_64, v7_65, v8_66]))
    (bindV (ret v13_42) fun v89_45 =>
    bindV (ret v89_45) fun v12_46 =>
    R29.j_29 call k v10_11 v9_10 v12_46)))
    (R29.j_29 call k v10_11 v9_10 v12_19)))))

noncomputable def R29.g_118 (call : FuncId → List Value → AM Value) (k : Nat) (v0_in : Value) (v1_in : Value) (v22_107 : Value) (v2_in : Value) (v24_108 : Value) : AM Value :=
  bindV (pickA v22_107 (.bool true) v24_108) fun v25_109 =>
    bindV (ret v25_109) fun v26_110 =>
    guardA false v26_110 (bindV (ret v1_in) fun v27_114 =>
    bindV (ret v0_in) fun v28_115 =>
    bindV (lenA v28_115) fun v29_116 =>
    bindV (binA Try.prog .gtr 3 v27_114 v29_116) fun v30_117 =>
    R29.g_113 call k v0_in v1_in v26_110 v2_in v30_117)
    (R29.g_113 call k v0_in v1_in v26_110 v2_in (.tuple #[]))

noncomputable def R29.g_121 (call : FuncId → List Value → AM Value) (k : Nat) (v0_in : Value) (v18_104 : Value) (v1_in : Value) (v2_in : Value) (v20_105 : Value) : AM Value :=
  bindV (pickA v18_104 (.bool true) v20_105) fun v21_106 =>
    bindV (ret v21_106) fun v22_107 =>
    guardA false v22_107 (bindV (ret v1_in) fun v23_119 =>
    bindV (binA Try.prog .lss 3 v23_119 (.int .i64 0)) fun v24_120 =>
    R29.g_118 call k v0_in v1_in v22_107 v2_in v24_120)
    (R29.g_118 call k v0_in v1_in v22_107 v2_in (.tuple #[]))

noncomputable def R29.top (call : FuncId → List Value → AM Value) (k : Nat) (v0_in : Value) (v1_in : Value) (v2_in : Value) : AM Value :=
  bindV (ret (.string ⟨#[]⟩)) fun v6_0 =>
    bindV (ret (.int .i64 0)) fun v7_1 =>
    bindV (ret (.int .i64 0)) fun v8_2 =>
    bindV (ret v2_in) fun v16_102 =>
    bindV (binA Try.prog .lss 3 v16_102 (.int .i64 0)) fun v17_103 =>
    bindV (ret v17_103) fun v18_104 =>
    guardA false v18_104 (bindV (ret v2_in) fun v19_122 =>
    bindV (binA Try.prog .gtr 3 v19_122 (.int .i64 16384)) fun v20_123 =>
    R29.g_121 call k v0_in v18_104 v1_in v2_in v20_123)
    (R29.g_121 call k v0_in v18_104 v1_in v2_in (.tuple #[]))

theorem R29.eq (call : FuncId → List Value → AM Value) (k : Nat) (v0_in : Value) (v1_in : Value) (v2_in : Value) : funcA Try.prog call k 29 [v0_in, v1_in, v2_in] = R29.top call k v0_in v1_in v2_in := by kernel_rfl

end Go.Proofs.Ytgpddhoidlpcaaa
