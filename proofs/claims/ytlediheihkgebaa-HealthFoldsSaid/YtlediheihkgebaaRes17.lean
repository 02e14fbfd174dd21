/- What the functions that these laws reach compute, printed by a program of ours and tied to the model by the kernel. -/
import Derived.Test.YtlediheihkgebaaEngQ
import Derived.Test.YtlediheihkgebaaRows
set_option linter.unusedVariables false
set_option linter.unusedSimpArgs false
namespace Go.Proofs.Ytlediheihkgebaa
open Go.Proofs.Ytlediheihkgebaa.Eng
/-! ### 8: aqueduct/aqueductlaw17.HealthTurns (2 arguments) -/
noncomputable def R8.j_24 (call : FuncId → List Value → AM Value) (k : Nat) (rec_3_15 : Value → Value → Value → AM Value) (v9_18 : Value) (v7_19 : Value) (v8_20 : Value) : AM Value :=
  bindV (ret v9_18) fun v30_21 =>
    bindV (binA Try.prog .add 3 v30_21 (.int .i64 1)) fun v31_22 =>
    bindV (ret v31_22) fun v9_23 =>
    rec_3_15 v7_19 v8_20 v9_23

noncomputable def R8.g_56 (call : FuncId → List Value → AM Value) (k : Nat) (rec_3_15 : Value → Value → Value → AM Value) (v77_45 : Value) (v7_31 : Value) (v8_32 : Value) (v9_18 : Value) (v100_54 : Value) : AM Value :=
  bindV (pickA v77_45 (.bool true) v100_54) fun v101_55 =>
    condA v101_55 (bindV (ret (.bool false)) fun v4_34 =>
    ret v4_34)
    (R8.j_24 call k rec_3_15 v9_18 v7_31 v8_32)

noncomputable def R8.g_58 (call : FuncId → List Value → AM Value) (k : Nat) (rec_3_15 : Value → Value → Value → AM Value) (v77_45 : Value) (v7_31 : Value) (v84_48 : Value) (v8_32 : Value) (v9_18 : Value) (v99_53 : Value) : AM Value :=
  guardA false v77_45 (bindV (pickA v84_48 v99_53 (.bool false)) fun v100_57 =>
    R8.g_56 call k rec_3_15 v77_45 v7_31 v8_32 v9_18 v100_57)
    (R8.g_56 call k rec_3_15 v77_45 v7_31 v8_32 v9_18 (.tuple #[]))

noncomputable def R8.g_60 (call : FuncId → List Value → AM Value) (k : Nat) (rec_3_15 : Value → Value → Value → AM Value) (v77_45 : Value) (v7_31 : Value) (v84_48 : Value) (v8_32 : Value) (v96_51 : Value) (v9_18 : Value) (v98_52 : Value) : AM Value :=
  guardA true v84_48 (bindV (pickA v96_51 (.bool true) v98_52) fun v99_59 =>
    R8.g_58 call k rec_3_15 v77_45 v7_31 v84_48 v8_32 v9_18 v99_59)
    (R8.g_58 call k rec_3_15 v77_45 v7_31 v84_48 v8_32 v9_18 (.tuple #[]))

noncomputable def R8.g_63 (call : FuncId → List Value → AM Value) (k : Nat) (rec_3_15 : Value → Value → Value → AM Value) (v11_30 : Value) (v77_45 : Value) (v7_31 : Value) (v84_48 : Value) (v8_32 : Value) (v9_18 : Value) (v96_51 : Value) : AM Value :=
  guardA false v96_51 (bindV (ret v11_30) fun v97_61 =>
    bindV (binA Try.prog .neq 3 v97_61 (.int .i64 0)) fun v98_62 =>
    R8.g_60 call k rec_3_15 v77_45 v7_31 v84_48 v8_32 v96_51 v9_18 v98_62)
    (R8.g_60 call k rec_3_15 v77_45 v7_31 v84_48 v8_32 v96_51 v9_18 (.tuple #[]))

noncomputable def R8.g_66 (call : FuncId → List Value → AM Value) (k : Nat) (rec_3_15 : Value → Value → Value → AM Value) (v11_30 : Value) (v77_45 : Value) (v7_31 : Value) (v84_48 : Value) (v8_32 : Value) (v90_49 : Value) (v9_18 : Value) (v94_50 : Value) : AM Value :=
  guardA true v84_48 (bindV (pickA v90_49 (.bool true) v94_50) fun v95_64 =>
    bindV (ret v95_64) fun v96_65 =>
    R8.g_63 call k rec_3_15 v11_30 v77_45 v7_31 v84_48 v8_32 v9_18 v96_65)
    (R8.g_63 call k rec_3_15 v11_30 v77_45 v7_31 v84_48 v8_32 v9_18 (.tuple #[]))

noncomputable def R8.g_71 (call : FuncId → List Value → AM Value) (k : Nat) (rec_3_15 : Value → Value → Value → AM Value) (v11_30 : Value) (v2_0 : Value) (v77_45 : Value) (v7_31 : Value) (v84_48 : Value) (v8_32 : Value) (v9_18 : Value) (v90_49 : Value) : AM Value :=
  guardA false v90_49 (bindV (ret v8_32) fun v91_67 =>
    bindV (fieldAddrA 1 v2_0) fun v92_68 =>
    bindV (loadA none v92_68) fun v93_69 =>
    bindV (binA Try.prog .lss 3 v91_67 v93_69) fun v94_70 =>
    R8.g_66 call k rec_3_15 v11_30 v77_45 v7_31 v84_48 v8_32 v90_49 v9_18 v94_70)
    (R8.g_66 call k rec_3_15 v11_30 v77_45 v7_31 v84_48 v8_32 v90_49 v9_18 (.tuple #[]))

noncomputable def R8.g_78 (call : FuncId → List Value → AM Value) (k : Nat) (rec_3_15 : Value → Value → Value → AM Value) (v11_30 : Value) (v1_in : Value) (v2_0 : Value) (v77_45 : Value) (v7_31 : Value) (v8_32 : Value) (v9_18 : Value) (v84_48 : Value) : AM Value :=
  guardA true v84_48 (bindV (ret v1_in) fun v85_72 =>
    bindV (ret v9_18) fun v86_73 =>
    bindV (indexAddrA 1 v85_72 v86_73) fun v87_74 =>
    bindV (loadA none v87_74) fun v88_75 =>
    bindV (binA Try.prog .neq 3 v88_75 (.int .i64 1)) fun v89_76 =>
    bindV (ret v89_76) fun v90_77 =>
    R8.g_71 call k rec_3_15 v11_30 v2_0 v77_45 v7_31 v84_48 v8_32 v9_18 v90_77)
    (R8.g_71 call k rec_3_15 v11_30 v2_0 v77_45 v7_31 v84_48 v8_32 v9_18 (.tuple #[]))

noncomputable def R8.g_81 (call : FuncId → List Value → AM Value) (k : Nat) (rec_3_15 : Value → Value → Value → AM Value) (v11_30 : Value) (v1_in : Value) (v2_0 : Value) (v77_45 : Value) (v7_31 : Value) (v80_46 : Value) (v8_32 : Value) (v9_18 : Value) (v82_47 : Value) : AM Value :=
  guardA false v77_45 (bindV (pickA v80_46 v82_47 (.bool false)) fun v83_79 =>
    bindV (ret v83_79) fun v84_80 =>
    R8.g_78 call k rec_3_15 v11_30 v1_in v2_0 v77_45 v7_31 v8_32 v9_18 v84_80)
    (R8.g_78 call k rec_3_15 v11_30 v1_in v2_0 v77_45 v7_31 v8_32 v9_18 (.tuple #[]))

noncomputable def R8.g_84 (call : FuncId → List Value → AM Value) (k : Nat) (rec_3_15 : Value → Value → Value → AM Value) (v11_30 : Value) (v1_in : Value) (v2_0 : Value) (v5_7 : Value) (v77_45 : Value) (v7_31 : Value) (v8_32 : Value) (v9_18 : Value) (v80_46 : Value) : AM Value :=
  guardA true v80_46 (bindV (ret v5_7) fun v81_82 =>
    bindV (call 23 [v81_82]) fun v82_83 =>
    R8.g_81 call k rec_3_15 v11_30 v1_in v2_0 v77_45 v7_31 v80_46 v8_32 v9_18 v82_83)
    (R8.g_81 call k rec_3_15 v11_30 v1_in v2_0 v77_45 v7_31 v80_46 v8_32 v9_18 (.tuple #[]))

noncomputable def R8.g_88 (call : FuncId → List Value → AM Value) (k : Nat) (rec_3_15 : Value → Value → Value → AM Value) (v10_27 : Value) (v11_30 : Value) (v1_in : Value) (v2_0 : Value) (v5_7 : Value) (v64_40 : Value) (v7_31 : Value) (v8_32 : Value) (v9_18 : Value) (v75_43 : Value) : AM Value :=
  bindV (pickA v64_40 v75_43 (.bool false)) fun v76_44 =>
    bindV (ret v76_44) fun v77_45 =>
    guardA false v77_45 (bindV (ret v10_27) fun v78_85 =>
    bindV (unA .not v78_85) fun v79_86 =>
    bindV (ret v79_86) fun v80_87 =>
    R8.g_84 call k rec_3_15 v11_30 v1_in v2_0 v5_7 v77_45 v7_31 v8_32 v9_18 v80_87)
    (R8.g_84 call k rec_3_15 v11_30 v1_in v2_0 v5_7 v77_45 v7_31 v8_32 v9_18 (.tuple #[]))

noncomputable def R8.g_90 (call : FuncId → List Value → AM Value) (k : Nat) (rec_3_15 : Value → Value → Value → AM Value) (v10_27 : Value) (v11_30 : Value) (v1_in : Value) (v2_0 : Value) (v5_7 : Value) (v64_40 : Value) (v70_41 : Value) (v7_31 : Value) (v8_32 : Value) (v9_18 : Value) (v74_42 : Value) : AM Value :=
  guardA true v64_40 (bindV (pickA v70_41 (.bool true) v74_42) fun v75_89 =>
    R8.g_88 call k rec_3_15 v10_27 v11_30 v1_in v2_0 v5_7 v64_40 v7_31 v8_32 v9_18 v75_89)
    (R8.g_88 call k rec_3_15 v10_27 v11_30 v1_in v2_0 v5_7 v64_40 v7_31 v8_32 v9_18 (.tuple #[]))

noncomputable def R8.g_95 (call : FuncId → List Value → AM Value) (k : Nat) (rec_3_15 : Value → Value → Value → AM Value) (v10_27 : Value) (v11_30 : Value) (v1_in : Value) (v2_0 : Value) (v5_7 : Value) (v64_40 : Value) (v7_31 : Value) (v8_32 : Value) (v9_18 : Value) (v70_41 : Value) : AM Value :=
  guardA false v70_41 (bindV (ret v7_31) fun v71_91 =>
    bindV (fieldAddrA 0 v2_0) fun v72_92 =>
    bindV (loadA none v72_92) fun v73_93 =>
    bindV (binA Try.prog .lss 3 v71_91 v73_93) fun v74_94 =>
    R8.g_90 call k rec_3_15 v10_27 v11_30 v1_in v2_0 v5_7 v64_40 v70_41 v7_31 v8_32 v9_18 v74_94)
    (R8.g_90 call k rec_3_15 v10_27 v11_30 v1_in v2_0 v5_7 v64_40 v70_41 v7_31 v8_32 v9_18 (.tuple #[]))

noncomputable def R8.g_102 (call : FuncId → List Value → AM Value) (k : Nat) (rec_3_15 : Value → Value → Value → AM Value) (v10_27 : Value) (v11_30 : Value) (v1_in : Value) (v2_0 : Value) (v59_37 : Value) (v5_7 : Value) (v7_31 : Value) (v8_32 : Value) (v9_18 : Value) (v62_38 : Value) : AM Value :=
  bindV (pickA v59_37 v62_38 (.bool false)) fun v63_39 =>
    bindV (ret v63_39) fun v64_40 =>
    guardA true v64_40 (bindV (ret v1_in) fun v65_96 =>
    bindV (ret v9_18) fun v66_97 =>
    bindV (indexAddrA 1 v65_96 v66_97) fun v67_98 =>
    bindV (loadA none v67_98) fun v68_99 =>
    bindV (binA Try.prog .eql 3 v68_99 (.int .i64 1)) fun v69_100 =>
    bindV (ret v69_100) fun v70_101 =>
    R8.g_95 call k rec_3_15 v10_27 v11_30 v1_in v2_0 v5_7 v64_40 v7_31 v8_32 v9_18 v70_101)
    (R8.g_95 call k rec_3_15 v10_27 v11_30 v1_in v2_0 v5_7 v64_40 v7_31 v8_32 v9_18 (.tuple #[]))

noncomputable def R8.j_106 (call : FuncId → List Value → AM Value) (k : Nat) (rec_3_15 : Value → Value → Value → AM Value) (v10_27 : Value) (v11_30 : Value) (v1_in : Value) (v2_0 : Value) (v5_7 : Value) (v9_18 : Value) (v7_31 : Value) (v8_32 : Value) : AM Value :=
  bindV (ret v10_27) fun v58_36 =>
    bindV (ret v58_36) fun v59_37 =>
    guardA true v59_37 (bindV (ret v5_7) fun v60_103 =>
    bindV (call 23 [v60_103]) fun v61_104 =>
    bindV (unA .not v61_104) fun v62_105 =>
    R8.g_102 call k rec_3_15 v10_27 v11_30 v1_in v2_0 v59_37 v5_7 v7_31 v8_32 v9_18 v62_105)
    (R8.g_102 call k rec_3_15 v10_27 v11_30 v1_in v2_0 v59_37 v5_7 v7_31 v8_32 v9_18 (.tuple #[]))

noncomputable def R8.b_140 (call : FuncId → List Value → AM Value) (k : Nat) (v1_in : Value) (v2_0 : Value) (v5_7 : Value) (rec_3_15 : Value → Value → Value → AM Value) (v7_16 : Value) (v8_17 : Value) (v9_18 : Value) : AM Value :=
  bindV (ret v9_18) fun v26_136 =>
    bindV (ret v1_in) fun v27_137 =>
    bindV (lenA v27_137) fun v28_138 =>
    bindV (binA Try.prog .lss 3 v26_136 v28_138) fun v29_139 =>
    condA v29_139 (bindV (ret v5_7) fun v32_25 =>
    bindV (call 23 [v32_25]) fun v33_26 =>
    bindV (ret v33_26) fun v10_27 =>
    bindV (ret v5_7) fun v34_28 =>
    bindV (call 24 [v34_28]) fun v35_29 =>
    bindV (ret v35_29) fun v11_30 =>
    bindV (ret v1_in) fun v36_107 =>
    bindV (ret v9_18) fun v37_108 =>
    bindV (indexAddrA 1 v36_107 v37_108) fun v38_109 =>
    bindV (loadA none v38_109) fun v39_110 =>
    bindV (binA Try.prog .eql 3 v39_110 (.int .i64 2)) fun v45_111 =>
    bindV (ret v45_111) fun v44_112 =>
    condA v44_112 (bindV (ret v5_7) fun v46_113 =>
    bindV (call 25 [v46_113]) fun v47_114 =>
    bindV (ret v5_7) fun v48_116 =>
    bindV (call 23 [v48_116]) fun v49_117 =>
    bindV (ret v10_27) fun v50_118 =>
    bindV (binA Try.prog .neq 4 v49_117 v50_118) fun v51_119 =>
    condA v51_119 (bindV (ret (.bool false)) fun v4_120 =>
    ret v4_120)
    (R8.j_24 call k rec_3_15 v9_18 v7_16 v8_17))
    (bindV (binA Try.prog .eql 3 v39_110 (.int .i64 1)) fun v53_121 =>
    bindV (ret v53_121) fun v52_122 =>
    condA v52_122 (bindV (ret v5_7) fun v54_123 =>
    bindV (call 26 [v54_123, (.bool true)]) fun v55_124 =>
    bindV (ret v8_17) fun v56_125 =>
    bindV (binA Try.prog .add 3 v56_125 (.int .i64 1)) fun v57_126 =>
    bindV (ret v57_126) fun v8_127 =>
    bindV (ret (.int .i64 0)) fun v7_128 =>
    R8.j_106 call k rec_3_15 v10_27 v11_30 v1_in v2_0 v5_7 v9_18 v7_128 v8_127)
    (bindV (ret v5_7) fun v40_129 =>
    bindV (call 26 [v40_129, (.bool false)]) fun v41_130 =>
    bindV (ret v7_16) fun v42_131 =>
    bindV (binA Try.prog .add 3 v42_131 (.int .i64 1)) fun v43_132 =>
    bindV (ret v43_132) fun v7_133 =>
    bindV (ret (.int .i64 0)) fun v8_134 =>
    R8.j_106 call k rec_3_15 v10_27 v11_30 v1_in v2_0 v5_7 v9_18 v7_133 v8_134)))
    (bindV (call 22 []) fun v102_11 =>
    bindV (ret v102_11) fun v4_12 =>
    ret v4_12)

noncomputable def R8.g_156 (call : FuncId → List Value → AM Value) (k : Nat) (v21_152 : Value) (v22_153 : Value) : AM Value :=
  bindV (pickA v21_152 v22_153 (.bool false)) fun v23_154 =>
    bindV (ret v23_154) fun v4_155 =>
    ret v4_155

noncomputable def R8.top (call : FuncId → List Value → AM Value) (k : Nat) (v0_in : Value) (v1_in : Value) : AM Value :=
  bindV (boxA 37 v0_in) fun v2_0 =>
    bindV (ret (.bool false)) fun v4_1 =>
    bindV (loadA (some 3) v2_0) fun v13_2 =>
    bindV (call 21 [v13_2]) fun v14_3 =>
    bindV (ret v14_3) fun v12_4 =>
    bindV (extractA v12_4 0) fun v15_5 =>
    bindV (extractA v12_4 1) fun v16_6 =>
    bindV (ret v15_5) fun v5_7 =>
    bindV (ret v16_6) fun v6_8 =>
    bindV (ret v6_8) fun v17_146 =>
    bindV (binA Try.prog .neq 28 v17_146 (.int .i64 0)) fun v18_147 =>
    condA v18_147 (bindV (ret v5_7) fun v19_150 =>
    bindV (binA Try.prog .eql 38 v19_150 (.pointer none)) fun v20_151 =>
    bindV (ret v20_151) fun v21_152 =>
    guardA true v21_152 (bindV (call 22 []) fun v22_157 =>
    R8.g_156 call k v21_152 v22_157)
    (R8.g_156 call k v21_152 (.tuple #[])))
    (bindV (ret v5_7) fun v24_142 =>
    bindV (binA Try.prog .eql 38 v24_142 (.pointer none)) fun v25_143 =>
    condA v25_143 (bindV (ret (.bool false)) fun v4_144 =>
    ret v4_144)
    (bindV (ret (.int .i64 0)) fun v7_9 =>
    bindV (ret (.int .i64 0)) fun v8_10 =>
    bindV (ret (.int .i64 0)) fun v9_14 =>
    loop3 (R8.b_140 call k v1_in v2_0 v5_7) k v7_9 v8_10 v9_14))

theorem R8.eq (call : FuncId → List Value → AM Value) (k : Nat) (v0_in : Value) (v1_in : Value) : funcA Try.prog call k 8 [v0_in, v1_in] = R8.top call k v0_in v1_in := by kernel_rfl

/-! ### 9: aqueduct/aqueductlaw17.HealthZero (1 arguments) -/
noncomputable def R9.g_28 (call : FuncId → List Value → AM Value) (k : Nat) (v32_24 : Value) (v34_25 : Value) : AM Value :=
  bindV (pickA v32_24 v34_25 (.bool false)) fun v35_26 =>
    bindV (ret v35_26) fun v2_27 =>
    ret v2_27

noncomputable def R9.g_31 (call : FuncId → List Value → AM Value) (k : Nat) (v27_21 : Value) (v4_2 : Value) (v30_22 : Value) : AM Value :=
  bindV (pickA v27_21 v30_22 (.bool false)) fun v31_23 =>
    bindV (ret v31_23) fun v32_24 =>
    guardA true v32_24 (bindV (call 24 [v4_2]) fun v33_29 =>
    bindV (binA Try.prog .eql 3 v33_29 (.int .i64 0)) fun v34_30 =>
    R9.g_28 call k v32_24 v34_30)
    (R9.g_28 call k v32_24 (.tuple #[]))

noncomputable def R9.g_35 (call : FuncId → List Value → AM Value) (k : Nat) (v23_18 : Value) (v3_1 : Value) (v4_2 : Value) (v25_19 : Value) : AM Value :=
  bindV (pickA v23_18 v25_19 (.bool false)) fun v26_20 =>
    bindV (ret v26_20) fun v27_21 =>
    guardA true v27_21 (bindV (ret v3_1) fun v28_32 =>
    bindV (call 27 [v28_32]) fun v29_33 =>
    bindV (binA Try.prog .eql 3 v29_33 (.int .i64 0)) fun v30_34 =>
    R9.g_31 call k v27_21 v4_2 v30_34)
    (R9.g_31 call k v27_21 v4_2 (.tuple #[]))

noncomputable def R9.g_38 (call : FuncId → List Value → AM Value) (k : Nat) (v18_15 : Value) (v3_1 : Value) (v4_2 : Value) (v21_16 : Value) : AM Value :=
  bindV (pickA v18_15 v21_16 (.bool false)) fun v22_17 =>
    bindV (ret v22_17) fun v23_18 =>
    guardA true v23_18 (bindV (call 23 [v4_2]) fun v24_36 =>
    bindV (unA .not v24_36) fun v25_37 =>
    R9.g_35 call k v23_18 v3_1 v4_2 v25_37)
    (R9.g_35 call k v23_18 v3_1 v4_2 (.tuple #[]))

noncomputable def R9.g_42 (call : FuncId → List Value → AM Value) (k : Nat) (v13_12 : Value) (v3_1 : Value) (v4_2 : Value) (v16_13 : Value) : AM Value :=
  bindV (pickA v13_12 v16_13 (.bool false)) fun v17_14 =>
    bindV (ret v17_14) fun v18_15 =>
    guardA true v18_15 (bindV (ret v3_1) fun v19_39 =>
    bindV (call 23 [v19_39]) fun v20_40 =>
    bindV (unA .not v20_40) fun v21_41 =>
    R9.g_38 call k v18_15 v3_1 v4_2 v21_41)
    (R9.g_38 call k v18_15 v3_1 v4_2 (.tuple #[]))

noncomputable def R9.g_46 (call : FuncId → List Value → AM Value) (k : Nat) (v0_in : Value) (v3_1 : Value) (v4_2 : Value) (v9_9 : Value) (v11_10 : Value) : AM Value :=
  bindV (pickA v9_9 v11_10 (.bool false)) fun v12_11 =>
    bindV (ret v12_11) fun v13_12 =>
    guardA true v13_12 (bindV (ret v0_in) fun v14_43 =>
    bindV (call 26 [v4_2, v14_43]) fun v15_44 =>
    bindV (binA Try.prog .eql 28 v15_44 (.int .i64 7)) fun v16_45 =>
    R9.g_42 call k v13_12 v3_1 v4_2 v16_45)
    (R9.g_42 call k v13_12 v3_1 v4_2 (.tuple #[]))

noncomputable def R9.top (call : FuncId → List Value → AM Value) (k : Nat) (v0_in : Value) : AM Value :=
  bindV (ret (.bool false)) fun v2_0 =>
    bindV (ret (.pointer none)) fun v3_1 =>
    bindV (newA [(.int .i64 0), (.int .i64 0), (.int .i64 0), (.int .i64 0), (.int .i64 0), (.int .i64 0)] 46) fun v4_2 =>
    bindV (ret v3_1) fun v5_5 =>
    bindV (ret v0_in) fun v6_6 =>
    bindV (call 26 [v5_5, v6_6]) fun v7_7 =>
    bindV (binA Try.prog .eql 28 v7_7 (.int .i64 7)) fun v8_8 =>
    bindV (ret v8_8) fun v9_9 =>
    guardA true v9_9 (bindV (call 25 [v4_2]) fun v10_47 =>
    bindV (binA Try.prog .eql 28 v10_47 (.int .i64 7)) fun v11_48 =>
    R9.g_46 call k v0_in v3_1 v4_2 v9_9 v11_48)
    (R9.g_46 call k v0_in v3_1 v4_2 v9_9 (.tuple #[]))

theorem R9.eq (call : FuncId → List Value → AM Value) (k : Nat) (v0_in : Value) : funcA Try.prog call k 9 [v0_in] = R9.top call k v0_in := by kernel_rfl

/-! ### 10: aqueduct/aqueductlaw17.HealthHolds (4 arguments) -/
noncomputable def R10.g_31 (call : FuncId → List Value → AM Value) (k : Nat) (v103_27 : Value) (v104_28 : Value) : AM Value :=
  bindV (pickA v103_27 v104_28 (.bool false)) fun v105_29 =>
    bindV (ret v105_29) fun v8_30 =>
    ret v8_30

noncomputable def R10.g_59 (call : FuncId → List Value → AM Value) (k : Nat) (rec_1_34 : Value → AM Value) (v10_19 : Value) (v13_35 : Value) (v86_56 : Value) (v9_13 : Value) (v88_57 : Value) : AM Value :=
  bindV (pickA v86_56 v88_57 (.bool false)) fun v89_58 =>
    condA v89_58 (bindV (ret v10_19) fun v90_36 =>
    bindV (call 26 [v90_36, (.bool true)]) fun v91_37 =>
    bindV (ret v13_35) fun v92_38 =>
    bindV (binA Try.prog .add 3 v92_38 (.int .i64 1)) fun v93_39 =>
    bindV (ret v93_39) fun v13_40 =>
    bindV (ret v10_19) fun v94_41 =>
    bindS fun s_42 =>
    bindV (call 23 [v94_41]) fun v95_43 =>
    bindV (ret v13_40) fun v96_44 =>
    bindV (fieldAddrA 1 v9_13) fun v97_45 =>
    bindV (loadA none v97_45) fun v98_46 =>
    thereV [s_42] (loadA none v97_45) v98_46 (
    bindV (binA Try.prog .geq 3 v96_44 v98_46) fun v99_47 =>
    bindV (binA Try.prog .neq 4 v95_43 v99_47) fun v100_48 =>
    condA v100_48 (bindV (ret (.bool false)) fun v8_49 =>
    ret v8_49)
    (rec_1_34 v13_40)))
    (bindV (ret v10_19) fun v101_25 =>
    bindV (call 23 [v101_25]) fun v102_26 =>
    bindV (ret v102_26) fun v103_27 =>
    guardA true v103_27 (bindV (call 22 []) fun v104_32 =>
    R10.g_31 call k v103_27 v104_32)
    (R10.g_31 call k v103_27 (.tuple #[])))

noncomputable def R10.b_62 (call : FuncId → List Value → AM Value) (k : Nat) (v10_19 : Value) (v9_13 : Value) (rec_1_34 : Value → AM Value) (v13_35 : Value) : AM Value :=
  bindV (ret v10_19) fun v83_53 =>
    bindV (call 23 [v83_53]) fun v84_54 =>
    bindV (unA .not v84_54) fun v85_55 =>
    bindV (ret v85_55) fun v86_56 =>
    guardA true v86_56 (bindV (ret v13_35) fun v87_60 =>
    bindV (binA Try.prog .lss 3 v87_60 (.int .i64 100)) fun v88_61 =>
    R10.g_59 call k rec_1_34 v10_19 v13_35 v86_56 v9_13 v88_61)
    (R10.g_59 call k rec_1_34 v10_19 v13_35 v86_56 v9_13 (.tuple #[]))

noncomputable def R10.b_100 (call : FuncId → List Value → AM Value) (k : Nat) (rec_2_65 : Value → Value → AM Value) (v10_19 : Value) (v14_67 : Value) (v3_in : Value) (rec_2_78 : Value → Value → AM Value) (v13_79 : Value) (v15_80 : Value) : AM Value :=
  bindV (ret v15_80) fun v68_95 =>
    bindV (ret v3_in) fun v69_96 =>
    bindV (binA Try.prog .rem 5 v69_96 (.int .u8 3)) fun v70_97 =>
    bindV (convIntA .i64 v70_97) fun v71_98 =>
    bindV (binA Try.prog .lss 3 v68_95 v71_98) fun v72_99 =>
    condA v72_99 (bindV (ret v10_19) fun v75_86 =>
    bindV (call 26 [v75_86, (.bool true)]) fun v76_87 =>
    bindV (ret v13_79) fun v77_88 =>
    bindV (binA Try.prog .add 3 v77_88 (.int .i64 1)) fun v78_89 =>
    bindV (ret v78_89) fun v13_90 =>
    bindV (ret v10_19) fun v79_91 =>
    bindV (call 23 [v79_91]) fun v80_92 =>
    condA v80_92 (bindV (ret (.bool false)) fun v8_93 =>
    ret v8_93)
    (bindV (ret v15_80) fun v73_82 =>
    bindV (binA Try.prog .add 3 v73_82 (.int .i64 1)) fun v74_83 =>
    bindV (ret v74_83) fun v15_84 =>
    rec_2_78 v13_90 v15_84))
    (bindV (ret v10_19) fun v81_74 =>
    bindV (call 25 [v81_74]) fun v82_75 =>
    bindV (ret v14_67) fun v66_69 =>
    bindV (binA Try.prog .add 3 v66_69 (.int .i64 1)) fun v67_70 =>
    bindV (ret v67_70) fun v14_71 =>
    rec_2_65 v13_79 v14_71)

noncomputable def R10.b_106 (call : FuncId → List Value → AM Value) (k : Nat) (v10_19 : Value) (v3_in : Value) (v9_13 : Value) (rec_2_65 : Value → Value → AM Value) (v13_66 : Value) (v14_67 : Value) : AM Value :=
  bindV (ret v14_67) fun v62_102 =>
    bindV (fieldAddrA 2 v9_13) fun v63_103 =>
    bindV (loadA none v63_103) fun v64_104 =>
    bindV (binA Try.prog .lss 3 v62_102 v64_104) fun v65_105 =>
    condA v65_105 (bindV (ret (.int .i64 0)) fun v15_77 =>
    loop2 (R10.b_100 call k rec_2_65 v10_19 v14_67 v3_in) k v13_66 v15_77)
    (loop1 (R10.b_62 call k v10_19 v9_13) k v13_66)

noncomputable def R10.d_112 (call : FuncId → List Value → AM Value) (k : Nat) (v10_19 : Value) (v3_in : Value) (v9_13 : Value) (v61_111 : Value) : AM Value :=
  condA v61_111 (bindV (ret (.bool false)) fun v8_109 =>
    ret v8_109)
    (bindV (ret (.int .i64 0)) fun v13_21 =>
    bindV (ret (.int .i64 0)) fun v14_64 =>
    loop2 (R10.b_106 call k v10_19 v3_in v9_13) k v13_21 v14_64)

noncomputable def R10.g_142 (call : FuncId → List Value → AM Value) (k : Nat) (rec_1_127 : Value → AM Value) (v12_128 : Value) (v48_139 : Value) (v51_140 : Value) : AM Value :=
  bindV (pickA v48_139 (.bool true) v51_140) fun v52_141 =>
    condA v52_141 (bindV (ret (.bool false)) fun v8_134 =>
    ret v8_134)
    (bindV (ret v12_128) fun v43_129 =>
    bindV (binA Try.prog .add 3 v43_129 (.int .i64 1)) fun v44_130 =>
    bindV (ret v44_130) fun v12_131 =>
    rec_1_127 v12_131)

noncomputable def R10.b_151 (call : FuncId → List Value → AM Value) (k : Nat) (v10_19 : Value) (v3_in : Value) (v9_13 : Value) (rec_1_127 : Value → AM Value) (v12_128 : Value) : AM Value :=
  bindV (ret v12_128) fun v39_147 =>
    bindV (fieldAddrA 0 v9_13) fun v40_148 =>
    bindV (loadA none v40_148) fun v41_149 =>
    bindV (binA Try.prog .lss 3 v39_147 v41_149) fun v42_150 =>
    condA v42_150 (bindV (ret v10_19) fun v45_136 =>
    bindV (call 23 [v45_136]) fun v46_137 =>
    bindV (unA .not v46_137) fun v47_138 =>
    bindV (ret v47_138) fun v48_139 =>
    guardA false v48_139 (bindV (ret v10_19) fun v49_143 =>
    bindV (call 26 [v49_143, (.bool false)]) fun v50_144 =>
    bindV (binA Try.prog .neq 28 v50_144 (.int .i64 0)) fun v51_145 =>
    R10.g_142 call k rec_1_127 v12_128 v48_139 v51_145)
    (R10.g_142 call k rec_1_127 v12_128 v48_139 (.tuple #[])))
    (bindV (ret v10_19) fun v53_113 =>
    bindV (call 23 [v53_113]) fun v54_115 =>
    bindV (ret v54_115) fun v55_116 =>
    guardA false v55_116 (bindV (ret v10_19) fun v56_117 =>
    bindS fun s_118 =>
    bindV (call 24 [v56_117]) fun v57_119 =>
    bindV (fieldAddrA 2 v9_13) fun v58_120 =>
    bindV (loadA none v58_120) fun v59_121 =>
    thereV [s_118] (loadA none v58_120) v59_121 (
    bindV (binA Try.prog .neq 3 v57_119 v59_121) fun v60_122 =>
    bindV (pickA v55_116 (.bool true) v60_122) fun v61_123 =>
    R10.d_112 call k v10_19 v3_in v9_13 v61_123))
    (bindV (pickA v55_116 (.bool true) (.tuple #[])) fun v61_124 =>
    R10.d_112 call k v10_19 v3_in v9_13 v61_124))

noncomputable def R10.g_161 (call : FuncId → List Value → AM Value) (k : Nat) (v10_19 : Value) (v35_158 : Value) (v3_in : Value) (v9_13 : Value) (v37_159 : Value) : AM Value :=
  bindV (pickA v35_158 (.bool true) v37_159) fun v38_160 =>
    condA v38_160 (bindV (ret (.bool false)) fun v8_154 =>
    ret v8_154)
    (bindV (ret (.int .i64 0)) fun v12_126 =>
    loop1 (R10.b_151 call k v10_19 v3_in v9_13) k v12_126)

noncomputable def R10.top (call : FuncId → List Value → AM Value) (k : Nat) (v0_in : Value) (v1_in : Value) (v2_in : Value) (v3_in : Value) : AM Value :=
  bindV (ret (.bool false)) fun v8_0 =>
    bindV (ret v0_in) fun v16_1 =>
    bindV (binA Try.prog .rem 5 v16_1 (.int .u8 5)) fun v17_2 =>
    bindV (convIntA .i64 v17_2) fun v18_3 =>
    bindV (binA Try.prog .add 3 (.int .i64 1) v18_3) fun v19_4 =>
    bindV (ret v1_in) fun v20_5 =>
    bindV (binA Try.prog .rem 5 v20_5 (.int .u8 5)) fun v21_6 =>
    bindV (convIntA .i64 v21_6) fun v22_7 =>
    bindV (binA Try.prog .add 3 (.int .i64 1) v22_7) fun v23_8 =>
    bindV (ret v2_in) fun v24_9 =>
    bindV (binA Try.prog .rem 5 v24_9 (.int .u8 20)) fun v25_10 =>
    bindV (convIntA .i64 v25_10) fun v26_11 =>
    bindV (buildA [(0, 1), (1, 1), (2, 1)] [(.int .i64 0), (.int .i64 0), (.int .i64 0)] [(0, v19_4), (1, v23_8), (2, v26_11)]) fun v27_12 =>
    bindV (newA [(.int .i64 0), (.int .i64 0), (.int .i64 0)] 37) fun v9_13 =>
    bindV (storeA 3 v9_13 v27_12) fun _ =>
    bindV (loadA (some 3) v9_13) fun v29_14 =>
    bindV (call 21 [v29_14]) fun v30_15 =>
    bindV (ret v30_15) fun v28_16 =>
    bindV (extractA v28_16 0) fun v31_17 =>
    bindV (extractA v28_16 1) fun v32_18 =>
    bindV (ret v31_17) fun v10_19 =>
    bindV (ret v32_18) fun v11_20 =>
    bindV (ret v10_19) fun v33_156 =>
    bindV (binA Try.prog .eql 38 v33_156 (.pointer none)) fun v34_157 =>
    bindV (ret v34_157) fun v35_158 =>
    guardA false v35_158 (bindV (ret v11_20) fun v36_162 =>
    bindV (binA Try.prog .neq 28 v36_162 (.int .i64 0)) fun v37_163 =>
    R10.g_161 call k v10_19 v35_158 v3_in v9_13 v37_163)
    (R10.g_161 call k v10_19 v35_158 v3_in v9_13 (.tuple #[]))

theorem R10.eq (call : FuncId → List Value → AM Value) (k : Nat) (v0_in : Value) (v1_in : Value) (v2_in : Value) (v3_in : Value) : funcA Try.prog call k 10 [v0_in, v1_in, v2_in, v3_in] = R10.top call k v0_in v1_in v2_in v3_in := by kernel_rfl

/-! ### 11: aqueduct/aqueductlaw17.HealthPlays (2 arguments) -/
noncomputable def R11.d_30 (call : FuncId → List Value → AM Value) (k : Nat) (rec_1_20 : Value → AM Value) (v9_21 : Value) (v89_29 : Value) : AM Value :=
  condA v89_29 (bindV (ret (.bool false)) fun v4_27 =>
    ret v4_27)
    (bindV (ret v9_21) fun v38_22 =>
    bindV (binA Try.prog .add 3 v38_22 (.int .i64 1)) fun v39_23 =>
    bindV (ret v39_23) fun v9_24 =>
    rec_1_20 v9_24)

noncomputable def R11.j_72 (call : FuncId → List Value → AM Value) (k : Nat) (rec_1_20 : Value → AM Value) (v5_7 : Value) (v7_14 : Value) (v9_21 : Value) : AM Value :=
  bindV (ret v5_7) fun v65_31 =>
    bindS fun s_32 =>
    bindV (call 23 [v65_31]) fun v66_33 =>
    bindV (ret v7_14) fun v67_34 =>
    bindV (nilCheckA v67_34) fun v68_35 =>
    bindV (fieldAddrA 3 v68_35) fun v69_36 =>
    bindV (loadA none v69_36) fun v70_37 =>
    thereV [s_32] (loadA none v69_36) v70_37 (
    bindV (binA Try.prog .eql 4 v66_33 v70_37) fun v71_38 =>
    bindV (ret v71_38) fun v72_39 =>
    guardA false v72_39 (bindV (ret v5_7) fun v73_40 =>
    bindS fun s_41 =>
    bindV (call 27 [v73_40]) fun v74_42 =>
    bindV (ret v7_14) fun v75_43 =>
    bindV (nilCheckA v75_43) fun v76_44 =>
    bindV (fieldAddrA 4 v76_44) fun v77_45 =>
    bindV (loadA none v77_45) fun v78_46 =>
    thereV [s_41] (loadA none v77_45) v78_46 (
    bindV (binA Try.prog .neq 3 v74_42 v78_46) fun v79_47 =>
    bindV (pickA v72_39 (.bool true) v79_47) fun v80_48 =>
    bindV (ret v80_48) fun v81_49 =>
    guardA false v81_49 (bindV (ret v5_7) fun v82_50 =>
    bindS fun s_51 =>
    bindV (call 24 [v82_50]) fun v83_52 =>
    bindV (ret v7_14) fun v84_53 =>
    bindV (nilCheckA v84_53) fun v85_54 =>
    bindV (fieldAddrA 5 v85_54) fun v86_55 =>
    bindV (loadA none v86_55) fun v87_56 =>
    thereV [s_51] (loadA none v86_55) v87_56 (
    bindV (binA Try.prog .neq 3 v83_52 v87_56) fun v88_57 =>
    bindV (pickA v81_49 (.bool true) v88_57) fun v89_58 =>
    R11.d_30 call k rec_1_20 v9_21 v89_58))
    (bindV (pickA v81_49 (.bool true) (.tuple #[])) fun v89_59 =>
    R11.d_30 call k rec_1_20 v9_21 v89_59)))
    (bindV (pickA v72_39 (.bool true) (.tuple #[])) fun v80_60 =>
    bindV (ret v80_60) fun v81_61 =>
    guardA false v81_61 (bindV (ret v5_7) fun v82_62 =>
    bindS fun s_63 =>
    bindV (call 24 [v82_62]) fun v83_64 =>
    bindV (ret v7_14) fun v84_65 =>
    bindV (nilCheckA v84_65) fun v85_66 =>
    bindV (fieldAddrA 5 v85_66) fun v86_67 =>
    bindV (loadA none v86_67) fun v87_68 =>
    thereV [s_63] (loadA none v86_67) v87_68 (
    bindV (binA Try.prog .neq 3 v83_64 v87_68) fun v88_69 =>
    bindV (pickA v81_61 (.bool true) v88_69) fun v89_70 =>
    R11.d_30 call k rec_1_20 v9_21 v89_70))
    (bindV (pickA v81_61 (.bool true) (.tuple #[])) fun v89_71 =>
    R11.d_30 call k rec_1_20 v9_21 v89_71)))

noncomputable def R11.g_108 (call : FuncId → List Value → AM Value) (k : Nat) (rec_1_20 : Value → AM Value) (v1_in : Value) (v32_105 : Value) (v5_7 : Value) (v7_14 : Value) (v9_21 : Value) (v36_106 : Value) : AM Value :=
  bindV (pickA v32_105 v36_106 (.bool false)) fun v37_107 =>
    condA v37_107 (bindV (ret v1_in) fun v40_73 =>
    bindV (ret v9_21) fun v41_74 =>
    bindV (indexAddrA 1 v40_73 v41_74) fun v42_75 =>
    bindV (loadA none v42_75) fun v43_76 =>
    bindV (binA Try.prog .eql 3 v43_76 (.int .i64 2)) fun v44_77 =>
    condA v44_77 (bindV (ret v7_14) fun v45_78 =>
    bindV (call 29 [v45_78]) fun v46_79 =>
    bindV (ret v5_7) fun v47_80 =>
    bindV (call 25 [v47_80]) fun v48_81 =>
    bindV (binA Try.prog .neq 28 v48_81 (.int .i64 0)) fun v49_82 =>
    condA v49_82 (bindV (ret (.bool false)) fun v4_83 =>
    ret v4_83)
    (R11.j_72 call k rec_1_20 v5_7 v7_14 v9_21))
    (bindV (ret v7_14) fun v50_84 =>
    bindV (ret v1_in) fun v51_85 =>
    bindV (ret v9_21) fun v52_86 =>
    bindV (indexAddrA 1 v51_85 v52_86) fun v53_87 =>
    bindV (loadA none v53_87) fun v54_88 =>
    bindV (binA Try.prog .eql 3 v54_88 (.int .i64 1)) fun v55_89 =>
    bindV (call 30 [v50_84, v55_89]) fun v56_90 =>
    bindV (ret v5_7) fun v57_91 =>
    bindV (ret v1_in) fun v58_92 =>
    bindV (ret v9_21) fun v59_93 =>
    bindV (indexAddrA 1 v58_92 v59_93) fun v60_94 =>
    bindV (loadA none v60_94) fun v61_95 =>
    bindV (binA Try.prog .eql 3 v61_95 (.int .i64 1)) fun v62_96 =>
    bindV (call 26 [v57_91, v62_96]) fun v63_97 =>
    bindV (binA Try.prog .neq 28 v63_97 (.int .i64 0)) fun v64_98 =>
    condA v64_98 (bindV (ret (.bool false)) fun v4_99 =>
    ret v4_99)
    (R11.j_72 call k rec_1_20 v5_7 v7_14 v9_21)))
    (bindV (call 22 []) fun v90_16 =>
    bindV (ret v90_16) fun v4_17 =>
    ret v4_17)

noncomputable def R11.b_113 (call : FuncId → List Value → AM Value) (k : Nat) (v1_in : Value) (v5_7 : Value) (v7_14 : Value) (rec_1_20 : Value → AM Value) (v9_21 : Value) : AM Value :=
  bindV (ret v7_14) fun v30_103 =>
    bindV (binA Try.prog .neq 49 v30_103 (.pointer none)) fun v31_104 =>
    bindV (ret v31_104) fun v32_105 =>
    guardA true v32_105 (bindV (ret v9_21) fun v33_109 =>
    bindV (ret v1_in) fun v34_110 =>
    bindV (lenA v34_110) fun v35_111 =>
    bindV (binA Try.prog .lss 3 v33_109 v35_111) fun v36_112 =>
    R11.g_108 call k rec_1_20 v1_in v32_105 v5_7 v7_14 v9_21 v36_112)
    (R11.g_108 call k rec_1_20 v1_in v32_105 v5_7 v7_14 v9_21 (.tuple #[]))

noncomputable def R11.g_124 (call : FuncId → List Value → AM Value) (k : Nat) (v1_in : Value) (v23_121 : Value) (v5_7 : Value) (v7_14 : Value) (v28_122 : Value) : AM Value :=
  bindV (pickA v23_121 (.bool true) v28_122) fun v29_123 =>
    condA v29_123 (bindV (ret (.bool false)) fun v4_116 =>
    ret v4_116)
    (bindV (ret (.int .i64 0)) fun v9_19 =>
    loop1 (R11.b_113 call k v1_in v5_7 v7_14) k v9_19)

noncomputable def R11.top (call : FuncId → List Value → AM Value) (k : Nat) (v0_in : Value) (v1_in : Value) : AM Value :=
  bindV (boxA 37 v0_in) fun v2_0 =>
    bindV (ret (.bool false)) fun v4_1 =>
    bindV (loadA (some 3) v2_0) fun v11_2 =>
    bindV (call 21 [v11_2]) fun v12_3 =>
    bindV (ret v12_3) fun v10_4 =>
    bindV (extractA v10_4 0) fun v13_5 =>
    bindV (extractA v10_4 1) fun v14_6 =>
    bindV (ret v13_5) fun v5_7 =>
    bindV (ret v14_6) fun v6_8 =>
    bindV (loadA (some 3) v2_0) fun v16_9 =>
    bindV (call 28 [v16_9]) fun v17_10 =>
    bindV (ret v17_10) fun v15_11 =>
    bindV (extractA v15_11 0) fun v18_12 =>
    bindV (extractA v15_11 1) fun v19_13 =>
    bindV (ret v18_12) fun v7_14 =>
    bindV (ret v19_13) fun v8_15 =>
    bindV (ret v6_8) fun v20_118 =>
    bindV (ret v8_15) fun v21_119 =>
    bindV (binA Try.prog .neq 3 v20_118 v21_119) fun v22_120 =>
    bindV (ret v22_120) fun v23_121 =>
    guardA false v23_121 (bindV (ret v5_7) fun v24_125 =>
    bindV (binA Try.prog .eql 38 v24_125 (.pointer none)) fun v25_126 =>
    bindV (ret v7_14) fun v26_127 =>
    bindV (binA Try.prog .eql 49 v26_127 (.pointer none)) fun v27_128 =>
    bindV (binA Try.prog .neq 4 v25_126 v27_128) fun v28_129 =>
    R11.g_124 call k v1_in v23_121 v5_7 v7_14 v28_129)
    (R11.g_124 call k v1_in v23_121 v5_7 v7_14 (.tuple #[]))

theorem R11.eq (call : FuncId → List Value → AM Value) (k : Nat) (v0_in : Value) (v1_in : Value) : funcA Try.prog call k 11 [v0_in, v1_in] = R11.top call k v0_in v1_in := by kernel_rfl

/-! ### 12: aqueduct/aqueductlaw17.HealthFolds (2 arguments) -/
noncomputable def R12.g_30 (call : FuncId → List Value → AM Value) (k : Nat) (v29_26 : Value) (v30_27 : Value) : AM Value :=
  bindV (pickA v29_26 v30_27 (.bool false)) fun v31_28 =>
    bindV (ret v31_28) fun v4_29 =>
    ret v4_29

noncomputable def R12.g_32 (call : FuncId → List Value → AM Value) (k : Nat) (v24_23 : Value) (v27_24 : Value) : AM Value :=
  bindV (pickA v24_23 v27_24 (.bool false)) fun v28_25 =>
    bindV (ret v28_25) fun v29_26 =>
    guardA true v29_26 (bindV (call 22 []) fun v30_31 =>
    R12.g_30 call k v29_26 v30_31)
    (R12.g_30 call k v29_26 (.tuple #[]))

noncomputable def R12.top (call : FuncId → List Value → AM Value) (k : Nat) (v0_in : Value) (v1_in : Value) : AM Value :=
  bindV (boxA 37 v0_in) fun v2_0 =>
    bindV (ret (.bool false)) fun v4_1 =>
    bindV (loadA (some 3) v2_0) fun v10_2 =>
    bindV (ret v1_in) fun v11_3 =>
    bindV (call 31 [v10_2, v11_3]) fun v12_4 =>
    bindV (ret v12_4) fun v9_5 =>
    bindV (extractA v9_5 0) fun v13_6 =>
    bindV (extractA v9_5 1) fun v14_7 =>
    bindV (ret v13_6) fun v5_8 =>
    bindV (ret v14_7) fun v6_9 =>
    bindV (loadA (some 3) v2_0) fun v16_10 =>
    bindV (ret v1_in) fun v17_11 =>
    bindV (call 32 [v16_10, v17_11]) fun v18_12 =>
    bindV (ret v18_12) fun v15_13 =>
    bindV (extractA v15_13 0) fun v19_14 =>
    bindV (extractA v15_13 1) fun v20_15 =>
    bindV (ret v19_14) fun v7_16 =>
    bindV (ret v20_15) fun v8_17 =>
    bindV (ret v5_8) fun v21_20 =>
    bindV (ret v7_16) fun v22_21 =>
    bindV (binA Try.prog .eql 3 v21_20 v22_21) fun v23_22 =>
    bindV (ret v23_22) fun v24_23 =>
    guardA true v24_23 (bindV (ret v6_9) fun v25_33 =>
    bindV (ret v8_17) fun v26_34 =>
    bindV (binA Try.prog .eql 3 v25_33 v26_34) fun v27_35 =>
    R12.g_32 call k v24_23 v27_35)
    (R12.g_32 call k v24_23 (.tuple #[]))

theorem R12.eq (call : FuncId → List Value → AM Value) (k : Nat) (v0_in : Value) (v1_in : Value) : funcA Try.prog call k 12 [v0_in, v1_in] = R12.top call k v0_in v1_in := by kernel_rfl

/-! ### 21: aqueduct/health.New (1 arguments) -/
noncomputable def R21.g_31 (call : FuncId → List Value → AM Value) (k : Nat) (v1_0 : Value) (v27_28 : Value) (v30_29 : Value) : AM Value :=
  bindV (pickA v27_28 (.bool true) v30_29) fun v31_30 =>
    condA v31_30 (bindV (ret (.pointer none)) fun v2_10 =>
    bindV (ret (.int .i64 1)) fun v3_11 =>
    ret (.tuple #[v2_10, v3_11]))
    (bindV (loadA (some 3) v1_0) fun v32_3 =>
    bindV (buildA [(0, 3), (3, 1), (4, 1), (5, 1)] [(.int .i64 0), (.int .i64 0), (.int .i64 0), (.int .i64 0), (.int .i64 0), (.int .i64 0)] [(0, v32_3), (1, (.int .i64 0))]) fun v33_4 =>
    bindV (boxA 46 v33_4) fun v34_5 =>
    bindV (ret v34_5) fun v2_6 =>
    bindV (ret (.int .i64 0)) fun v3_7 =>
    ret (.tuple #[v2_6, v3_7]))

noncomputable def R21.g_35 (call : FuncId → List Value → AM Value) (k : Nat) (v1_0 : Value) (v22_25 : Value) (v25_26 : Value) : AM Value :=
  bindV (pickA v22_25 (.bool true) v25_26) fun v26_27 =>
    bindV (ret v26_27) fun v27_28 =>
    guardA false v27_28 (bindV (fieldAddrA 2 v1_0) fun v28_32 =>
    bindV (loadA none v28_32) fun v29_33 =>
    bindV (binA Try.prog .gtr 3 v29_33 (.int .i64 1073741824)) fun v30_34 =>
    R21.g_31 call k v1_0 v27_28 v30_34)
    (R21.g_31 call k v1_0 v27_28 (.tuple #[]))

noncomputable def R21.g_39 (call : FuncId → List Value → AM Value) (k : Nat) (v17_22 : Value) (v1_0 : Value) (v20_23 : Value) : AM Value :=
  bindV (pickA v17_22 (.bool true) v20_23) fun v21_24 =>
    bindV (ret v21_24) fun v22_25 =>
    guardA false v22_25 (bindV (fieldAddrA 2 v1_0) fun v23_36 =>
    bindV (loadA none v23_36) fun v24_37 =>
    bindV (binA Try.prog .lss 3 v24_37 (.int .i64 0)) fun v25_38 =>
    R21.g_35 call k v1_0 v22_25 v25_38)
    (R21.g_35 call k v1_0 v22_25 (.tuple #[]))

noncomputable def R21.g_43 (call : FuncId → List Value → AM Value) (k : Nat) (v12_19 : Value) (v1_0 : Value) (v15_20 : Value) : AM Value :=
  bindV (pickA v12_19 (.bool true) v15_20) fun v16_21 =>
    bindV (ret v16_21) fun v17_22 =>
    guardA false v17_22 (bindV (fieldAddrA 1 v1_0) fun v18_40 =>
    bindV (loadA none v18_40) fun v19_41 =>
    bindV (binA Try.prog .gtr 3 v19_41 (.int .i64 1000)) fun v20_42 =>
    R21.g_39 call k v17_22 v1_0 v20_42)
    (R21.g_39 call k v17_22 v1_0 (.tuple #[]))

noncomputable def R21.g_47 (call : FuncId → List Value → AM Value) (k : Nat) (v1_0 : Value) (v7_16 : Value) (v10_17 : Value) : AM Value :=
  bindV (pickA v7_16 (.bool true) v10_17) fun v11_18 =>
    bindV (ret v11_18) fun v12_19 =>
    guardA false v12_19 (bindV (fieldAddrA 1 v1_0) fun v13_44 =>
    bindV (loadA none v13_44) fun v14_45 =>
    bindV (binA Try.prog .lss 3 v14_45 (.int .i64 1)) fun v15_46 =>
    R21.g_43 call k v12_19 v1_0 v15_46)
    (R21.g_43 call k v12_19 v1_0 (.tuple #[]))

noncomputable def R21.top (call : FuncId → List Value → AM Value) (k : Nat) (v0_in : Value) : AM Value :=
  bindV (boxA 37 v0_in) fun v1_0 =>
    bindV (ret (.pointer none)) fun v2_1 =>
    bindV (ret (.int .i64 0)) fun v3_2 =>
    bindV (fieldAddrA 0 v1_0) fun v4_13 =>
    bindV (loadA none v4_13) fun v5_14 =>
    bindV (binA Try.prog .lss 3 v5_14 (.int .i64 1)) fun v6_15 =>
    bindV (ret v6_15) fun v7_16 =>
    guardA false v7_16 (bindV (fieldAddrA 0 v1_0) fun v8_48 =>
    bindV (loadA none v8_48) fun v9_49 =>
    bindV (binA Try.prog .gtr 3 v9_49 (.int .i64 1000)) fun v10_50 =>
    R21.g_47 call k v1_0 v7_16 v10_50)
    (R21.g_47 call k v1_0 v7_16 (.tuple #[]))

theorem R21.eq (call : FuncId → List Value → AM Value) (k : Nat) (v0_in : Value) : funcA Try.prog call k 21 [v0_in] = R21.top call k v0_in := by kernel_rfl

/-! ### 22: aqueduct/aqueductlaw17.awake (0 arguments) -/
noncomputable def R22.g_19 (call : FuncId → List Value → AM Value) (k : Nat) (v14_15 : Value) (v16_16 : Value) : AM Value :=
  bindV (pickA v14_15 v16_16 (.bool false)) fun v17_17 =>
    bindV (ret v17_17) fun v0_18 =>
    ret v0_18

noncomputable def R22.g_22 (call : FuncId → List Value → AM Value) (k : Nat) (v10_12 : Value) (v1_6 : Value) (v12_13 : Value) : AM Value :=
  bindV (pickA v10_12 v12_13 (.bool false)) fun v13_14 =>
    bindV (ret v13_14) fun v14_15 =>
    guardA true v14_15 (bindV (ret v1_6) fun v15_20 =>
    bindV (call 23 [v15_20]) fun v16_21 =>
    R22.g_19 call k v14_15 v16_21)
    (R22.g_19 call k v14_15 (.tuple #[]))

noncomputable def R22.top (call : FuncId → List Value → AM Value) (k : Nat) : AM Value :=
  bindV (ret (.bool false)) fun v0_0 =>
    bindV (buildA [(0, 1), (1, 1), (2, 1)] [(.int .i64 0), (.int .i64 0), (.int .i64 0)] [(0, (.int .i64 1)), (1, (.int .i64 1))]) fun v4_1 =>
    bindV (call 21 [v4_1]) fun v5_2 =>
    bindV (ret v5_2) fun v3_3 =>
    bindV (extractA v3_3 0) fun v6_4 =>
    bindV (extractA v3_3 1) fun v7_5 =>
    bindV (ret v6_4) fun v1_6 =>
    bindV (ret v7_5) fun v2_7 =>
    bindV (ret v1_6) fun v8_10 =>
    bindV (binA Try.prog .neq 38 v8_10 (.pointer none)) fun v9_11 =>
    bindV (ret v9_11) fun v10_12 =>
    guardA true v10_12 (bindV (ret v2_7) fun v11_23 =>
    bindV (binA Try.prog .eql 28 v11_23 (.int .i64 0)) fun v12_24 =>
    R22.g_22 call k v10_12 v1_6 v12_24)
    (R22.g_22 call k v10_12 v1_6 (.tuple #[]))

theorem R22.eq (call : FuncId → List Value → AM Value) (k : Nat) : funcA Try.prog call k 22 [] = R22.top call k := by kernel_rfl

/-! ### 23: (*aqueduct/health.Model).Up (1 arguments) -/
noncomputable def R23.g_10 (call : FuncId → List Value → AM Value) (k : Nat) (v6_6 : Value) (v11_7 : Value) : AM Value :=
  bindV (pickA v6_6 v11_7 (.bool false)) fun v12_8 =>
    bindV (ret v12_8) fun v2_9 =>
    ret v2_9

noncomputable def R23.top (call : FuncId → List Value → AM Value) (k : Nat) (v0_in : Value) : AM Value :=
  bindV (ret (.bool false)) fun v2_0 =>
    bindV (ret v0_in) fun v3_3 =>
    bindV (call 36 [v3_3]) fun v4_4 =>
    bindV (unA .not v4_4) fun v5_5 =>
    bindV (ret v5_5) fun v6_6 =>
    guardA true v6_6 (bindV (ret v0_in) fun v7_11 =>
    bindV (nilCheckA v7_11) fun v8_12 =>
    bindV (fieldAddrA 3 v8_12) fun v9_13 =>
    bindV (loadA none v9_13) fun v10_14 =>
    bindV (binA Try.prog .eql 3 v10_14 (.int .i64 0)) fun v11_15 =>
    R23.g_10 call k v6_6 v11_15)
    (R23.g_10 call k v6_6 (.tuple #[]))

theorem R23.eq (call : FuncId → List Value → AM Value) (k : Nat) (v0_in : Value) : funcA Try.prog call k 23 [v0_in] = R23.top call k v0_in := by kernel_rfl

/-! ### 24: (*aqueduct/health.Model).Hold (1 arguments) -/
noncomputable def R24.top (call : FuncId → List Value → AM Value) (k : Nat) (v0_in : Value) : AM Value :=
  bindV (ret (.int .i64 0)) fun v2_0 =>
    bindV (ret v0_in) fun v3_7 =>
    bindV (call 36 [v3_7]) fun v4_8 =>
    condA v4_8 (bindV (ret (.int .i64 0)) fun v2_9 =>
    ret v2_9)
    (bindV (ret v0_in) fun v5_1 =>
    bindV (nilCheckA v5_1) fun v6_2 =>
    bindV (fieldAddrA 5 v6_2) fun v7_3 =>
    bindV (loadA none v7_3) fun v8_4 =>
    bindV (ret v8_4) fun v2_5 =>
    ret v2_5)

theorem R24.eq (call : FuncId → List Value → AM Value) (k : Nat) (v0_in : Value) : funcA Try.prog call k 24 [v0_in] = R24.top call k v0_in := by kernel_rfl

/-! ### 25: (*aqueduct/health.Model).Tick (1 arguments) -/
noncomputable def R25.top (call : FuncId → List Value → AM Value) (k : Nat) (v0_in : Value) : AM Value :=
  bindV (ret (.int .i64 0)) fun v2_0 =>
    bindV (ret v0_in) fun v3_12 =>
    bindV (call 36 [v3_12]) fun v4_13 =>
    condA v4_13 (bindV (ret (.int .i64 7)) fun v2_14 =>
    ret v2_14)
    (bindV (ret v0_in) fun v5_1 =>
    bindV (ret v0_in) fun v6_2 =>
    bindV (nilCheckA v6_2) fun v7_3 =>
    bindV (fieldAddrA 5 v7_3) fun v8_4 =>
    bindV (loadA none v8_4) fun v9_5 =>
    bindV (binA Try.prog .sub 3 v9_5 (.int .i64 1)) fun v10_6 =>
    bindV (max2A (.int .i64 0) v10_6) fun v11_7 =>
    bindV (nilCheckA v5_1) fun v12_8 =>
    bindV (fieldAddrA 5 v12_8) fun v13_9 =>
    bindV (storeA 1 v13_9 v11_7) fun _ =>
    bindV (ret (.int .i64 0)) fun v2_10 =>
    ret v2_10)

theorem R25.eq (call : FuncId → List Value → AM Value) (k : Nat) (v0_in : Value) : funcA Try.prog call k 25 [v0_in] = R25.top call k v0_in := by kernel_rfl

/-! ### 26: (*aqueduct/health.Model).Probe (2 arguments) -/
noncomputable def R26.j_17 (call : FuncId → List Value → AM Value) (k : Nat) : AM Value :=
  bindV (ret (.int .i64 0)) fun v4_16 =>
    ret v4_16

noncomputable def R26.d_36 (call : FuncId → List Value → AM Value) (k : Nat) (v0_in : Value) (v5_8 : Value) (v53_35 : Value) : AM Value :=
  condA v53_35 (bindV (ret v0_in) fun v81_27 =>
    bindV (call 37 [v81_27, (.int .i64 0), (.int .i64 0)]) fun v82_28 =>
    R26.j_17 call k)
    (bindV (ret v5_8) fun v84_29 =>
    bindV (ret v84_29) fun v83_30 =>
    condA v83_30 (R26.j_17 call k)
    (bindV (ret v0_in) fun v22_31 =>
    bindV (nilCheckA v22_31) fun v23_32 =>
    bindV (fieldAddrA 4 v23_32) fun v24_33 =>
    bindV (storeA 1 v24_33 (.int .i64 0)) fun _ =>
    R26.j_17 call k))

noncomputable def R26.d_114 (call : FuncId → List Value → AM Value) (k : Nat) (v0_in : Value) (v5_8 : Value) (v25_113 : Value) : AM Value :=
  condA v25_113 (bindV (ret v0_in) fun v46_19 =>
    bindV (ret v0_in) fun v47_20 =>
    bindV (nilCheckA v47_20) fun v48_21 =>
    bindV (fieldAddrA 0 v48_21) fun v49_22 =>
    bindV (fieldAddrA 2 v49_22) fun v50_23 =>
    bindV (loadA none v50_23) fun v51_24 =>
    bindV (call 37 [v46_19, (.int .i64 1), v51_24]) fun v52_25 =>
    R26.j_17 call k)
    (bindV (ret v5_8) fun v54_37 =>
    bindV (ret v54_37) fun v55_38 =>
    guardA true v55_38 (bindV (ret v0_in) fun v56_39 =>
    bindV (nilCheckA v56_39) fun v57_40 =>
    bindV (fieldAddrA 3 v57_40) fun v58_41 =>
    bindV (loadA none v58_41) fun v59_42 =>
    bindV (binA Try.prog .eql 3 v59_42 (.int .i64 1)) fun v60_43 =>
    bindV (pickA v55_38 v60_43 (.bool false)) fun v61_44 =>
    bindV (ret v61_44) fun v62_45 =>
    guardA true v62_45 (bindV (ret v0_in) fun v63_46 =>
    bindV (nilCheckA v63_46) fun v64_47 =>
    bindV (fieldAddrA 4 v64_47) fun v65_48 =>
    bindV (loadA none v65_48) fun v66_49 =>
    bindV (ret v0_in) fun v67_50 =>
    bindV (nilCheckA v67_50) fun v68_51 =>
    bindV (fieldAddrA 0 v68_51) fun v69_52 =>
    bindV (fieldAddrA 1 v69_52) fun v70_53 =>
    bindV (loadA none v70_53) fun v71_54 =>
    bindV (binA Try.prog .geq 3 v66_49 v71_54) fun v72_55 =>
    bindV (pickA v62_45 v72_55 (.bool false)) fun v73_56 =>
    bindV (ret v73_56) fun v74_57 =>
    guardA true v74_57 (bindV (ret v0_in) fun v75_58 =>
    bindV (nilCheckA v75_58) fun v76_59 =>
    bindV (fieldAddrA 5 v76_59) fun v77_60 =>
    bindV (loadA none v77_60) fun v78_61 =>
    bindV (binA Try.prog .eql 3 v78_61 (.int .i64 0)) fun v79_62 =>
    bindV (pickA v74_57 v79_62 (.bool false)) fun v80_63 =>
    bindV (ret v80_63) fun v53_64 =>
    R26.d_36 call k v0_in v5_8 v53_64)
    (bindV (pickA v74_57 (.tuple #[]) (.bool false)) fun v80_65 =>
    bindV (ret v80_65) fun v53_66 =>
    R26.d_36 call k v0_in v5_8 v53_66))
    (bindV (pickA v62_45 (.tuple #[]) (.bool false)) fun v73_67 =>
    bindV (ret v73_67) fun v74_68 =>
    guardA true v74_68 (bindV (ret v0_in) fun v75_69 =>
    bindV (nilCheckA v75_69) fun v76_70 =>
    bindV (fieldAddrA 5 v76_70) fun v77_71 =>
    bindV (loadA none v77_71) fun v78_72 =>
    bindV (binA Try.prog .eql 3 v78_72 (.int .i64 0)) fun v79_73 =>
    bindV (pickA v74_68 v79_73 (.bool false)) fun v80_74 =>
    bindV (ret v80_74) fun v53_75 =>
    R26.d_36 call k v0_in v5_8 v53_75)
    (bindV (pickA v74_68 (.tuple #[]) (.bool false)) fun v80_76 =>
    bindV (ret v80_76) fun v53_77 =>
    R26.d_36 call k v0_in v5_8 v53_77)))
    (bindV (pickA v55_38 (.tuple #[]) (.bool false)) fun v61_78 =>
    bindV (ret v61_78) fun v62_79 =>
    guardA true v62_79 (bindV (ret v0_in) fun v63_80 =>
    bindV (nilCheckA v63_80) fun v64_81 =>
    bindV (fieldAddrA 4 v64_81) fun v65_82 =>
    bindV (loadA none v65_82) fun v66_83 =>
    bindV (ret v0_in) fun v67_84 =>
    bindV (nilCheckA v67_84) fun v68_85 =>
    bindV (fieldAddrA 0 v68_85) fun v69_86 =>
    bindV (fieldAddrA 1 v69_86) fun v70_87 =>
    bindV (loadA none v70_87) fun v71_88 =>
    bindV (binA Try.prog .geq 3 v66_83 v71_88) fun v72_89 =>
    bindV (pickA v62_79 v72_89 (.bool false)) fun v73_90 =>
    bindV (ret v73_90) fun v74_91 =>
    guardA true v74_91 (bindV (ret v0_in) fun v75_92 =>
    bindV (nilCheckA v75_92) fun v76_93 =>
    bindV (fieldAddrA 5 v76_93) fun v77_94 =>
    bindV (loadA none v77_94) fun v78_95 =>
    bindV (binA Try.prog .eql 3 v78_95 (.int .i64 0)) fun v79_96 =>
    bindV (pickA v74_91 v79_96 (.bool false)) fun v80_97 =>
    bindV (ret v80_97) fun v53_98 =>
    R26.d_36 call k v0_in v5_8 v53_98)
    (bindV (pickA v74_91 (.tuple #[]) (.bool false)) fun v80_99 =>
    bindV (ret v80_99) fun v53_100 =>
    R26.d_36 call k v0_in v5_8 v53_100))
    (bindV (pickA v62_79 (.tuple #[]) (.bool false)) fun v73_101 =>
    bindV (ret v73_101) fun v74_102 =>
    guardA true v74_102 (bindV (ret v0_in) fun v75_103 =>
    bindV (nilCheckA v75_103) fun v76_104 =>
    bindV (fieldAddrA 5 v76_104) fun v77_105 =>
    bindV (loadA none v77_105) fun v78_106 =>
    bindV (binA Try.prog .eql 3 v78_106 (.int .i64 0)) fun v79_107 =>
    bindV (pickA v74_102 v79_107 (.bool false)) fun v80_108 =>
    bindV (ret v80_108) fun v53_109 =>
    R26.d_36 call k v0_in v5_8 v53_109)
    (bindV (pickA v74_102 (.tuple #[]) (.bool false)) fun v80_110 =>
    bindV (ret v80_110) fun v53_111 =>
    R26.d_36 call k v0_in v5_8 v53_111))))

noncomputable def R26.top (call : FuncId → List Value → AM Value) (k : Nat) (v0_in : Value) (v1_in : Value) : AM Value :=
  bindV (ret (.int .i64 0)) fun v4_0 =>
    bindV (ret v0_in) fun v6_155 =>
    bindV (call 36 [v6_155]) fun v7_156 =>
    condA v7_156 (bindV (ret (.int .i64 7)) fun v4_157 =>
    ret v4_157)
    (bindV (ret v1_in) fun v8_1 =>
    bindV (ret v0_in) fun v9_2 =>
    bindV (nilCheckA v9_2) fun v10_3 =>
    bindV (fieldAddrA 3 v10_3) fun v11_4 =>
    bindV (loadA none v11_4) fun v12_5 =>
    bindV (binA Try.prog .eql 3 v12_5 (.int .i64 1)) fun v13_6 =>
    bindV (binA Try.prog .eql 4 v8_1 v13_6) fun v14_7 =>
    bindV (ret v14_7) fun v5_8 =>
    bindV (ret v0_in) fun v15_9 =>
    bindV (nilCheckA v15_9) fun v16_10 =>
    bindV (fieldAddrA 4 v16_10) fun v17_11 =>
    bindV (loadA none v17_11) fun v18_12 =>
    bindV (binA Try.prog .add 3 v18_12 (.int .i64 1)) fun v19_13 =>
    bindV (nilCheckA v15_9) fun v20_14 =>
    bindV (fieldAddrA 4 v20_14) fun v21_15 =>
    bindV (storeA 1 v21_15 v19_13) fun _ =>
    bindV (ret v5_8) fun v26_115 =>
    bindV (ret v26_115) fun v27_116 =>
    guardA true v27_116 (bindV (ret v0_in) fun v28_117 =>
    bindV (nilCheckA v28_117) fun v29_118 =>
    bindV (fieldAddrA 3 v29_118) fun v30_119 =>
    bindV (loadA none v30_119) fun v31_120 =>
    bindV (binA Try.prog .eql 3 v31_120 (.int .i64 0)) fun v32_121 =>
    bindV (pickA v27_116 v32_121 (.bool false)) fun v33_122 =>
    bindV (ret v33_122) fun v34_123 =>
    guardA true v34_123 (bindV (ret v0_in) fun v35_124 =>
    bindV (nilCheckA v35_124) fun v36_125 =>
    bindV (fieldAddrA 4 v36_125) fun v37_126 =>
    bindV (loadA none v37_126) fun v38_127 =>
    bindV (ret v0_in) fun v39_128 =>
    bindV (nilCheckA v39_128) fun v40_129 =>
    bindV (fieldAddrA 0 v40_129) fun v41_130 =>
    bindV (fieldAddrA 0 v41_130) fun v42_131 =>
    bindV (loadA none v42_131) fun v43_132 =>
    bindV (binA Try.prog .eql 3 v38_127 v43_132) fun v44_133 =>
    bindV (pickA v34_123 v44_133 (.bool false)) fun v45_134 =>
    bindV (ret v45_134) fun v25_135 =>
    R26.d_114 call k v0_in v5_8 v25_135)
    (bindV (pickA v34_123 (.tuple #[]) (.bool false)) fun v45_136 =>
    bindV (ret v45_136) fun v25_137 =>
    R26.d_114 call k v0_in v5_8 v25_137))
    (bindV (pickA v27_116 (.tuple #[]) (.bool false)) fun v33_138 =>
    bindV (ret v33_138) fun v34_139 =>
    guardA true v34_139 (bindV (ret v0_in) fun v35_140 =>
    bindV (nilCheckA v35_140) fun v36_141 =>
    bindV (fieldAddrA 4 v36_141) fun v37_142 =>
    bindV (loadA none v37_142) fun v38_143 =>
    bindV (ret v0_in) fun v39_144 =>
    bindV (nilCheckA v39_144) fun v40_145 =>
    bindV (fieldAddrA 0 v40_145) fun v41_146 =>
    bindV (fieldAddrA 0 v41_146) fun v42_147 =>
    bindV (loadA none v42_147) fun v43_148 =>
    bindV (binA Try.prog .eql 3 v38_143 v43_148) fun v44_149 =>
    bindV (pickA v34_139 v44_149 (.bool false)) fun v45_150 =>
    bindV (ret v45_150) fun v25_151 =>
    R26.d_114 call k v0_in v5_8 v25_151)
    (bindV (pickA v34_139 (.tuple #[]) (.bool false)) fun v45_152 =>
    bindV (ret v45_152) fun v25_153 =>
    R26.d_114 call k v0_in v5_8 v25_153)))

theorem R26.eq (call : FuncId → List Value → AM Value) (k : Nat) (v0_in : Value) (v1_in : Value) : funcA Try.prog call k 26 [v0_in, v1_in] = R26.top call k v0_in v1_in := by kernel_rfl

/-! ### 27: (*aqueduct/health.Model).Run (1 arguments) -/
noncomputable def R27.top (call : FuncId → List Value → AM Value) (k : Nat) (v0_in : Value) : AM Value :=
  bindV (ret (.int .i64 0)) fun v2_0 =>
    bindV (ret v0_in) fun v3_7 =>
    bindV (call 36 [v3_7]) fun v4_8 =>
    condA v4_8 (bindV (ret (.int .i64 0)) fun v2_9 =>
    ret v2_9)
    (bindV (ret v0_in) fun v5_1 =>
    bindV (nilCheckA v5_1) fun v6_2 =>
    bindV (fieldAddrA 4 v6_2) fun v7_3 =>
    bindV (loadA none v7_3) fun v8_4 =>
    bindV (ret v8_4) fun v2_5 =>
    ret v2_5)

theorem R27.eq (call : FuncId → List Value → AM Value) (k : Nat) (v0_in : Value) : funcA Try.prog call k 27 [v0_in] = R27.top call k v0_in := by kernel_rfl

/-! ### 28: aqueduct/aqueductref17.New (1 arguments) -/
noncomputable def R28.g_31 (call : FuncId → List Value → AM Value) (k : Nat) (v1_0 : Value) (v27_28 : Value) (v30_29 : Value) : AM Value :=
  bindV (pickA v27_28 (.bool true) v30_29) fun v31_30 =>
    condA v31_30 (bindV (ret (.pointer none)) fun v2_10 =>
    bindV (ret (.int .i64 1)) fun v3_11 =>
    ret (.tuple #[v2_10, v3_11]))
    (bindV (loadA (some 3) v1_0) fun v32_3 =>
    bindV (buildA [(0, 3), (3, 1), (4, 1), (5, 1)] [(.int .i64 0), (.int .i64 0), (.int .i64 0), (.bool false), (.int .i64 0), (.int .i64 0)] [(0, v32_3)]) fun v33_4 =>
    bindV (boxA 54 v33_4) fun v34_5 =>
    bindV (ret v34_5) fun v2_6 =>
    bindV (ret (.int .i64 0)) fun v3_7 =>
    ret (.tuple #[v2_6, v3_7]))

noncomputable def R28.g_35 (call : FuncId → List Value → AM Value) (k : Nat) (v1_0 : Value) (v22_25 : Value) (v25_26 : Value) : AM Value :=
  bindV (pickA v22_25 (.bool true) v25_26) fun v26_27 =>
    bindV (ret v26_27) fun v27_28 =>
    guardA false v27_28 (bindV (fieldAddrA 2 v1_0) fun v28_32 =>
    bindV (loadA none v28_32) fun v29_33 =>
    bindV (binA Try.prog .gtr 3 v29_33 (.int .i64 1073741824)) fun v30_34 =>
    R28.g_31 call k v1_0 v27_28 v30_34)
    (R28.g_31 call k v1_0 v27_28 (.tuple #[]))

noncomputable def R28.g_39 (call : FuncId → List Value → AM Value) (k : Nat) (v17_22 : Value) (v1_0 : Value) (v20_23 : Value) : AM Value :=
  bindV (pickA v17_22 (.bool true) v20_23) fun v21_24 =>
    bindV (ret v21_24) fun v22_25 =>
    guardA false v22_25 (bindV (fieldAddrA 2 v1_0) fun v23_36 =>
    bindV (loadA none v23_36) fun v24_37 =>
    bindV (binA Try.prog .lss 3 v24_37 (.int .i64 0)) fun v25_38 =>
    R28.g_35 call k v1_0 v22_25 v25_38)
    (R28.g_35 call k v1_0 v22_25 (.tuple #[]))

noncomputable def R28.g_43 (call : FuncId → List Value → AM Value) (k : Nat) (v12_19 : Value) (v1_0 : Value) (v15_20 : Value) : AM Value :=
  bindV (pickA v12_19 (.bool true) v15_20) fun v16_21 =>
    bindV (ret v16_21) fun v17_22 =>
    guardA false v17_22 (bindV (fieldAddrA 1 v1_0) fun v18_40 =>
    bindV (loadA none v18_40) fun v19_41 =>
    bindV (binA Try.prog .gtr 3 v19_41 (.int .i64 1000)) fun v20_42 =>
    R28.g_39 call k v17_22 v1_0 v20_42)
    (R28.g_39 call k v17_22 v1_0 (.tuple #[]))

noncomputable def R28.g_47 (call : FuncId → List Value → AM Value) (k : Nat) (v1_0 : Value) (v7_16 : Value) (v10_17 : Value) : AM Value :=
  bindV (pickA v7_16 (.bool true) v10_17) fun v11_18 =>
    bindV (ret v11_18) fun v12_19 =>
    guardA false v12_19 (bindV (fieldAddrA 1 v1_0) fun v13_44 =>
    bindV (loadA none v13_44) fun v14_45 =>
    bindV (binA Try.prog .lss 3 v14_45 (.int .i64 1)) fun v15_46 =>
    R28.g_43 call k v12_19 v1_0 v15_46)
    (R28.g_43 call k v12_19 v1_0 (.tuple #[]))

noncomputable def R28.top (call : FuncId → List Value → AM Value) (k : Nat) (v0_in : Value) : AM Value :=
  bindV (boxA 37 v0_in) fun v1_0 =>
    bindV (ret (.pointer none)) fun v2_1 =>
    bindV (ret (.int .i64 0)) fun v3_2 =>
    bindV (fieldAddrA 0 v1_0) fun v4_13 =>
    bindV (loadA none v4_13) fun v5_14 =>
    bindV (binA Try.prog .lss 3 v5_14 (.int .i64 1)) fun v6_15 =>
    bindV (ret v6_15) fun v7_16 =>
    guardA false v7_16 (bindV (fieldAddrA 0 v1_0) fun v8_48 =>
    bindV (loadA none v8_48) fun v9_49 =>
    bindV (binA Try.prog .gtr 3 v9_49 (.int .i64 1000)) fun v10_50 =>
    R28.g_47 call k v1_0 v7_16 v10_50)
    (R28.g_47 call k v1_0 v7_16 (.tuple #[]))

theorem R28.eq (call : FuncId → List Value → AM Value) (k : Nat) (v0_in : Value) : funcA Try.prog call k 28 [v0_in] = R28.top call k v0_in := by kernel_rfl

/-! ### 29: (*aqueduct/aqueductref17.Model).Tick (1 arguments) -/
noncomputable def R29.top (call : FuncId → List Value → AM Value) (k : Nat) (v0_in : Value) : AM Value :=
  bindV (ret v0_in) fun v2_0 =>
    bindV (nilCheckA v2_0) fun v3_1 =>
    bindV (fieldAddrA 5 v3_1) fun v4_2 =>
    bindV (loadA none v4_2) fun v5_3 =>
    bindV (binA Try.prog .gtr 3 v5_3 (.int .i64 0)) fun v6_4 =>
    condA v6_4 (bindV (ret v0_in) fun v7_5 =>
    bindV (nilCheckA v7_5) fun v8_6 =>
    bindV (fieldAddrA 5 v8_6) fun v9_7 =>
    bindV (loadA none v9_7) fun v10_8 =>
    bindV (binA Try.prog .sub 3 v10_8 (.int .i64 1)) fun v11_9 =>
    bindV (nilCheckA v7_5) fun v12_10 =>
    bindV (fieldAddrA 5 v12_10) fun v13_11 =>
    bindV (storeA 1 v13_11 v11_9) fun _ =>
    ret (.tuple #[]))
    (ret (.tuple #[]))

theorem R29.eq (call : FuncId → List Value → AM Value) (k : Nat) (v0_in : Value) : funcA Try.prog call k 29 [v0_in] = R29.top call k v0_in := by kernel_rfl

/-! ### 30: (*aqueduct/aqueductref17.Model).Probe (2 arguments) -/
noncomputable def R30.d_16 (call : FuncId → List Value → AM Value) (k : Nat) (v0_in : Value) (v73_15 : Value) : AM Value :=
  condA v73_15 (bindV (ret v0_in) fun v74_8 =>
    bindV (nilCheckA v74_8) fun v75_9 =>
    bindV (fieldAddrA 3 v75_9) fun v76_10 =>
    bindV (storeA 1 v76_10 (.bool false)) fun _ =>
    bindV (ret v0_in) fun v77_11 =>
    bindV (nilCheckA v77_11) fun v78_12 =>
    bindV (fieldAddrA 4 v78_12) fun v79_13 =>
    bindV (storeA 1 v79_13 (.int .i64 0)) fun _ =>
    ret (.tuple #[]))
    (ret (.tuple #[]))

noncomputable def R30.d_68 (call : FuncId → List Value → AM Value) (k : Nat) (v0_in : Value) (v36_67 : Value) : AM Value :=
  condA v36_67 (bindV (ret v0_in) fun v37_52 =>
    bindV (nilCheckA v37_52) fun v38_53 =>
    bindV (fieldAddrA 3 v38_53) fun v39_54 =>
    bindV (storeA 1 v39_54 (.bool true)) fun _ =>
    bindV (ret v0_in) fun v40_55 =>
    bindV (nilCheckA v40_55) fun v41_56 =>
    bindV (fieldAddrA 4 v41_56) fun v42_57 =>
    bindV (storeA 1 v42_57 (.int .i64 0)) fun _ =>
    bindV (ret v0_in) fun v43_58 =>
    bindV (ret v0_in) fun v44_59 =>
    bindV (nilCheckA v44_59) fun v45_60 =>
    bindV (fieldAddrA 0 v45_60) fun v46_61 =>
    bindV (fieldAddrA 2 v46_61) fun v47_62 =>
    bindV (loadA none v47_62) fun v48_63 =>
    bindV (nilCheckA v43_58) fun v49_64 =>
    bindV (fieldAddrA 5 v49_64) fun v50_65 =>
    bindV (storeA 1 v50_65 v48_63) fun _ =>
    ret (.tuple #[]))
    (bindV (ret v0_in) fun v51_17 =>
    bindV (nilCheckA v51_17) fun v52_18 =>
    bindV (fieldAddrA 3 v52_18) fun v53_19 =>
    bindV (loadA none v53_19) fun v54_20 =>
    bindV (ret v54_20) fun v55_21 =>
    guardA true v55_21 (bindV (ret v0_in) fun v56_22 =>
    bindV (nilCheckA v56_22) fun v57_23 =>
    bindV (fieldAddrA 4 v57_23) fun v58_24 =>
    bindV (loadA none v58_24) fun v59_25 =>
    bindV (ret v0_in) fun v60_26 =>
    bindV (nilCheckA v60_26) fun v61_27 =>
    bindV (fieldAddrA 0 v61_27) fun v62_28 =>
    bindV (fieldAddrA 1 v62_28) fun v63_29 =>
    bindV (loadA none v63_29) fun v64_30 =>
    bindV (binA Try.prog .geq 3 v59_25 v64_30) fun v65_31 =>
    bindV (pickA v55_21 v65_31 (.bool false)) fun v66_32 =>
    bindV (ret v66_32) fun v67_33 =>
    guardA true v67_33 (bindV (ret v0_in) fun v68_34 =>
    bindV (nilCheckA v68_34) fun v69_35 =>
    bindV (fieldAddrA 5 v69_35) fun v70_36 =>
    bindV (loadA none v70_36) fun v71_37 =>
    bindV (binA Try.prog .eql 3 v71_37 (.int .i64 0)) fun v72_38 =>
    bindV (pickA v67_33 v72_38 (.bool false)) fun v73_39 =>
    R30.d_16 call k v0_in v73_39)
    (bindV (pickA v67_33 (.tuple #[]) (.bool false)) fun v73_40 =>
    R30.d_16 call k v0_in v73_40))
    (bindV (pickA v55_21 (.tuple #[]) (.bool false)) fun v66_41 =>
    bindV (ret v66_41) fun v67_42 =>
    guardA true v67_42 (bindV (ret v0_in) fun v68_43 =>
    bindV (nilCheckA v68_43) fun v69_44 =>
    bindV (fieldAddrA 5 v69_44) fun v70_45 =>
    bindV (loadA none v70_45) fun v71_46 =>
    bindV (binA Try.prog .eql 3 v71_46 (.int .i64 0)) fun v72_47 =>
    bindV (pickA v67_42 v72_47 (.bool false)) fun v73_48 =>
    R30.d_16 call k v0_in v73_48)
    (bindV (pickA v67_42 (.tuple #[]) (.bool false)) fun v73_49 =>
    R30.d_16 call k v0_in v73_49)))

noncomputable def R30.top (call : FuncId → List Value → AM Value) (k : Nat) (v0_in : Value) (v1_in : Value) : AM Value :=
  bindV (ret v1_in) fun v4_88 =>
    bindV (ret v0_in) fun v5_89 =>
    bindV (nilCheckA v5_89) fun v6_90 =>
    bindV (fieldAddrA 3 v6_90) fun v7_91 =>
    bindV (loadA none v7_91) fun v8_92 =>
    bindV (binA Try.prog .neq 4 v4_88 v8_92) fun v9_93 =>
    condA v9_93 (bindV (ret v0_in) fun v10_94 =>
    bindV (nilCheckA v10_94) fun v11_95 =>
    bindV (fieldAddrA 4 v11_95) fun v12_96 =>
    bindV (storeA 1 v12_96 (.int .i64 0)) fun _ =>
    ret (.tuple #[]))
    (bindV (ret v0_in) fun v13_0 =>
    bindV (nilCheckA v13_0) fun v14_1 =>
    bindV (fieldAddrA 4 v14_1) fun v15_2 =>
    bindV (loadA none v15_2) fun v16_3 =>
    bindV (binA Try.prog .add 3 v16_3 (.int .i64 1)) fun v17_4 =>
    bindV (nilCheckA v13_0) fun v18_5 =>
    bindV (fieldAddrA 4 v18_5) fun v19_6 =>
    bindV (storeA 1 v19_6 v17_4) fun _ =>
    bindV (ret v0_in) fun v20_69 =>
    bindV (nilCheckA v20_69) fun v21_70 =>
    bindV (fieldAddrA 3 v21_70) fun v22_71 =>
    bindV (loadA none v22_71) fun v23_72 =>
    bindV (unA .not v23_72) fun v24_73 =>
    bindV (ret v24_73) fun v25_74 =>
    guardA true v25_74 (bindV (ret v0_in) fun v26_75 =>
    bindV (nilCheckA v26_75) fun v27_76 =>
    bindV (fieldAddrA 4 v27_76) fun v28_77 =>
    bindV (loadA none v28_77) fun v29_78 =>
    bindV (ret v0_in) fun v30_79 =>
    bindV (nilCheckA v30_79) fun v31_80 =>
    bindV (fieldAddrA 0 v31_80) fun v32_81 =>
    bindV (fieldAddrA 0 v32_81) fun v33_82 =>
    bindV (loadA none v33_82) fun v34_83 =>
    bindV (binA Try.prog .eql 3 v29_78 v34_83) fun v35_84 =>
    bindV (pickA v25_74 v35_84 (.bool false)) fun v36_85 =>
    R30.d_68 call k v0_in v36_85)
    (bindV (pickA v25_74 (.tuple #[]) (.bool false)) fun v36_86 =>
    R30.d_68 call k v0_in v36_86))

theorem R30.eq (call : FuncId → List Value → AM Value) (k : Nat) (v0_in : Value) (v1_in : Value) : funcA Try.prog call k 30 [v0_in, v1_in] = R30.top call k v0_in v1_in := by kernel_rfl

/-! ### 31: aqueduct/health.Fold (2 arguments) -/
noncomputable def R31.j_27 (call : FuncId → List Value → AM Value) (k : Nat) (rec_1_22 : Value → AM Value) (v22_23 : Value) : AM Value :=
  bindV (binA Try.prog .add 3 v22_23 (.int .i64 1)) fun v37_25 =>
    bindV (ret v37_25) fun v22_26 =>
    rec_1_22 v22_26

noncomputable def R31.j_37 (call : FuncId → List Value → AM Value) (k : Nat) (rec_1_22 : Value → AM Value) (v10_30 : Value) (v22_23 : Value) (v6_8 : Value) (v8_11 : Value) : AM Value :=
  bindV (ret v10_30) fun v32_32 =>
    bindV (indexArrAddrA 3 1 v8_11 v32_32) fun v33_33 =>
    bindV (loadA none v33_33) fun v34_34 =>
    bindV (ret v6_8) fun v35_35 =>
    bindV (callA call v34_34 [v35_35]) fun v36_36 =>
    R31.j_27 call k rec_1_22 v22_23

noncomputable def R31.j_40 (call : FuncId → List Value → AM Value) (k : Nat) (rec_1_22 : Value → AM Value) (v10_30 : Value) (v22_23 : Value) (v6_8 : Value) (v8_11 : Value) (v29_39 : Value) : AM Value :=
  condA v29_39 (R31.j_37 call k rec_1_22 v10_30 v22_23 v6_8 v8_11)
    (R31.j_27 call k rec_1_22 v22_23)

noncomputable def R31.b_49 (call : FuncId → List Value → AM Value) (k : Nat) (v20_19 : Value) (v21_20 : Value) (v6_8 : Value) (v8_11 : Value) (rec_1_22 : Value → AM Value) (v22_23 : Value) : AM Value :=
  bindV (binA Try.prog .lss 3 v22_23 v21_20) fun v23_24 =>
    condA v23_24 (bindV (indexAddrA 1 v20_19 v22_23) fun v24_28 =>
    bindV (loadA none v24_28) fun v25_29 =>
    bindV (ret v25_29) fun v10_30 =>
    bindV (ret v10_30) fun v26_31 =>
    bindV (binA Try.prog .eql 3 v26_31 (.int .i64 0)) fun v28_46 =>
    bindV (ret v28_46) fun v27_47 =>
    condA v27_47 (R31.j_37 call k rec_1_22 v10_30 v22_23 v6_8 v8_11)
    (bindV (binA Try.prog .eql 3 v26_31 (.int .i64 1)) fun v30_41 =>
    bindV (ret v30_41) fun v29_42 =>
    condA v29_42 (R31.j_40 call k rec_1_22 v10_30 v22_23 v6_8 v8_11 v29_42)
    (bindV (binA Try.prog .eql 3 v26_31 (.int .i64 2)) fun v31_43 =>
    bindV (ret v31_43) fun v29_44 =>
    R31.j_40 call k rec_1_22 v10_30 v22_23 v6_8 v8_11 v29_44)))
    (bindV (ret v6_8) fun v38_12 =>
    bindV (nilCheckA v38_12) fun v39_13 =>
    bindV (fieldAddrA 3 v39_13) fun v40_14 =>
    bindV (loadA none v40_14) fun v41_15 =>
    bindV (ret v41_15) fun v4_16 =>
    bindV (ret (.int .i64 0)) fun v5_17 =>
    ret (.tuple #[v4_16, v5_17]))

noncomputable def R31.top (call : FuncId → List Value → AM Value) (k : Nat) (v0_in : Value) (v1_in : Value) : AM Value :=
  bindV (boxA 37 v0_in) fun v2_0 =>
    bindV (ret (.int .i64 0)) fun v4_1 =>
    bindV (ret (.int .i64 0)) fun v5_2 =>
    bindV (loadA (some 3) v2_0) fun v12_3 =>
    bindV (call 21 [v12_3]) fun v13_4 =>
    bindV (ret v13_4) fun v11_5 =>
    bindV (extractA v11_5 0) fun v14_6 =>
    bindV (extractA v11_5 1) fun v15_7 =>
    bindV (ret v14_6) fun v6_8 =>
    bindV (ret v15_7) fun v7_9 =>
    bindV (ret v7_9) fun v16_51 =>
    bindV (binA Try.prog .neq 28 v16_51 (.int .i64 0)) fun v17_52 =>
    condA v17_52 (bindV (ret v7_9) fun v18_53 =>
    bindV (ret (.int .i64 0)) fun v4_54 =>
    bindV (ret v18_53) fun v5_55 =>
    ret (.tuple #[v4_54, v5_55]))
    (bindV (buildArrA 1 [.nilFunc, .nilFunc, .nilFunc] [(0, (.func (.func 38) #[] #[])), (1, (.func (.func 39) #[] #[])), (2, (.func (.func 25) #[] #[]))]) fun v19_10 =>
    bindV (newA [.nilFunc, .nilFunc, .nilFunc] 61) fun v8_11 =>
    bindV (storeA 3 v8_11 v19_10) fun _ =>
    bindV (ret v1_in) fun v20_19 =>
    bindV (lenA v20_19) fun v21_20 =>
    bindV (ret (.int .i64 0)) fun v22_21 =>
    loop1 (R31.b_49 call k v20_19 v21_20 v6_8 v8_11) k v22_21)

theorem R31.eq (call : FuncId → List Value → AM Value) (k : Nat) (v0_in : Value) (v1_in : Value) : funcA Try.prog call k 31 [v0_in, v1_in] = R31.top call k v0_in v1_in := by kernel_rfl

/-! ### 32: aqueduct/aqueductref17.Fold (2 arguments) -/
noncomputable def R32.j_26 (call : FuncId → List Value → AM Value) (k : Nat) (rec_1_21 : Value → AM Value) (v8_22 : Value) : AM Value :=
  bindV (ret v8_22) fun v21_23 =>
    bindV (binA Try.prog .add 3 v21_23 (.int .i64 1)) fun v22_24 =>
    bindV (ret v22_24) fun v8_25 =>
    rec_1_21 v8_25

noncomputable def R32.b_48 (call : FuncId → List Value → AM Value) (k : Nat) (v1_in : Value) (v6_8 : Value) (rec_1_21 : Value → AM Value) (v8_22 : Value) : AM Value :=
  bindV (ret v8_22) fun v17_44 =>
    bindV (ret v1_in) fun v18_45 =>
    bindV (lenA v18_45) fun v19_46 =>
    bindV (binA Try.prog .lss 3 v17_44 v19_46) fun v20_47 =>
    condA v20_47 (bindV (ret v1_in) fun v23_27 =>
    bindV (ret v8_22) fun v24_28 =>
    bindV (indexAddrA 1 v23_27 v24_28) fun v25_29 =>
    bindV (loadA none v25_29) fun v26_30 =>
    bindV (binA Try.prog .eql 3 v26_30 (.int .i64 0)) fun v28_31 =>
    bindV (ret v28_31) fun v27_32 =>
    condA v27_32 (bindV (ret v6_8) fun v29_33 =>
    bindV (call 30 [v29_33, (.bool false)]) fun v30_34 =>
    R32.j_26 call k rec_1_21 v8_22)
    (bindV (binA Try.prog .eql 3 v26_30 (.int .i64 1)) fun v32_35 =>
    bindV (ret v32_35) fun v31_36 =>
    condA v31_36 (bindV (ret v6_8) fun v33_37 =>
    bindV (call 30 [v33_37, (.bool true)]) fun v34_38 =>
    R32.j_26 call k rec_1_21 v8_22)
    (bindV (binA Try.prog .eql 3 v26_30 (.int .i64 2)) fun v36_39 =>
    bindV (ret v36_39) fun v35_40 =>
    condA v35_40 (bindV (ret v6_8) fun v37_41 =>
    bindV (call 29 [v37_41]) fun v38_42 =>
    R32.j_26 call k rec_1_21 v8_22)
    (R32.j_26 call k rec_1_21 v8_22))))
    (bindV (ret v6_8) fun v39_13 =>
    bindV (nilCheckA v39_13) fun v40_14 =>
    bindV (fieldAddrA 3 v40_14) fun v41_15 =>
    bindV (loadA none v41_15) fun v42_16 =>
    condA v42_16 (bindV (ret (.int .i64 1)) fun v4_17 =>
    bindV (ret (.int .i64 0)) fun v5_18 =>
    ret (.tuple #[v4_17, v5_18]))
    (bindV (ret (.int .i64 0)) fun v4_10 =>
    bindV (ret (.int .i64 0)) fun v5_11 =>
    ret (.tuple #[v4_10, v5_11])))

noncomputable def R32.top (call : FuncId → List Value → AM Value) (k : Nat) (v0_in : Value) (v1_in : Value) : AM Value :=
  bindV (boxA 37 v0_in) fun v2_0 =>
    bindV (ret (.int .i64 0)) fun v4_1 =>
    bindV (ret (.int .i64 0)) fun v5_2 =>
    bindV (loadA (some 3) v2_0) fun v10_3 =>
    bindV (call 28 [v10_3]) fun v11_4 =>
    bindV (ret v11_4) fun v9_5 =>
    bindV (extractA v9_5 0) fun v12_6 =>
    bindV (extractA v9_5 1) fun v13_7 =>
    bindV (ret v12_6) fun v6_8 =>
    bindV (ret v13_7) fun v7_9 =>
    bindV (ret v7_9) fun v14_50 =>
    bindV (binA Try.prog .neq 3 v14_50 (.int .i64 0)) fun v15_51 =>
    condA v15_51 (bindV (ret v7_9) fun v16_52 =>
    bindV (ret (.int .i64 0)) fun v4_53 =>
    bindV (ret v16_52) fun v5_54 =>
    ret (.tuple #[v4_53, v5_54]))
    (bindV (ret (.int .i64 0)) fun v8_20 =>
    loop1 (R32.b_48 call k v1_in v6_8) k v8_20)

theorem R32.eq (call : FuncId → List Value → AM Value) (k : Nat) (v0_in : Value) (v1_in : Value) : funcA Try.prog call k 32 [v0_in, v1_in] = R32.top call k v0_in v1_in := by kernel_rfl

/-! ### 36: (*aqueduct/health.Model).none (1 arguments) -/
noncomputable def R36.g_9 (call : FuncId → List Value → AM Value) (k : Nat) (v5_5 : Value) (v11_6 : Value) : AM Value :=
  bindV (pickA v5_5 (.bool true) v11_6) fun v12_7 =>
    bindV (ret v12_7) fun v2_8 =>
    ret v2_8

noncomputable def R36.top (call : FuncId → List Value → AM Value) (k : Nat) (v0_in : Value) : AM Value :=
  bindV (ret (.bool false)) fun v2_0 =>
    bindV (ret v0_in) fun v3_3 =>
    bindV (binA Try.prog .eql 38 v3_3 (.pointer none)) fun v4_4 =>
    bindV (ret v4_4) fun v5_5 =>
    guardA false v5_5 (bindV (ret v0_in) fun v6_10 =>
    bindV (nilCheckA v6_10) fun v7_11 =>
    bindV (fieldAddrA 0 v7_11) fun v8_12 =>
    bindV (fieldAddrA 0 v8_12) fun v9_13 =>
    bindV (loadA none v9_13) fun v10_14 =>
    bindV (binA Try.prog .eql 3 v10_14 (.int .i64 0)) fun v11_15 =>
    R36.g_9 call k v5_5 v11_15)
    (R36.g_9 call k v5_5 (.tuple #[]))

theorem R36.eq (call : FuncId → List Value → AM Value) (k : Nat) (v0_in : Value) : funcA Try.prog call k 36 [v0_in] = R36.top call k v0_in := by kernel_rfl

/-! ### 37: (*aqueduct/health.Model).turn (3 arguments) -/
noncomputable def R37.top (call : FuncId → List Value → AM Value) (k : Nat) (v0_in : Value) (v1_in : Value) (v2_in : Value) : AM Value :=
  bindV (ret v0_in) fun v6_0 =>
    bindV (ret v0_in) fun v7_1 =>
    bindV (ret v0_in) fun v8_2 =>
    bindV (ret v1_in) fun v9_3 =>
    bindV (ret v2_in) fun v10_4 =>
    bindV (nilCheckA v6_0) fun v11_5 =>
    bindV (fieldAddrA 3 v11_5) fun v12_6 =>
    bindV (storeA 1 v12_6 v9_3) fun _ =>
    bindV (nilCheckA v7_1) fun v13_7 =>
    bindV (fieldAddrA 4 v13_7) fun v14_8 =>
    bindV (storeA 1 v14_8 (.int .i64 0)) fun _ =>
    bindV (nilCheckA v8_2) fun v15_9 =>
    bindV (fieldAddrA 5 v15_9) fun v16_10 =>
    bindV (storeA 1 v16_10 v10_4) fun _ =>
    ret (.tuple #[])

theorem R37.eq (call : FuncId → List Value → AM Value) (k : Nat) (v0_in : Value) (v1_in : Value) (v2_in : Value) : funcA Try.prog call k 37 [v0_in, v1_in, v2_in] = R37.top call k v0_in v1_in v2_in := by kernel_rfl

/-! ### 38: (*aqueduct/health.Model).bad (1 arguments) -/
noncomputable def R38.top (call : FuncId → List Value → AM Value) (k : Nat) (v0_in : Value) : AM Value :=
  bindV (ret (.int .i64 0)) fun v2_0 =>
    bindV (ret v0_in) fun v3_1 =>
    bindV (call 26 [v3_1, (.bool false)]) fun v4_2 =>
    bindV (ret v4_2) fun v2_3 =>
    ret v2_3

theorem R38.eq (call : FuncId → List Value → AM Value) (k : Nat) (v0_in : Value) : funcA Try.prog call k 38 [v0_in] = R38.top call k v0_in := by kernel_rfl

/-! ### 39: (*aqueduct/health.Model).good (1 arguments) -/
noncomputable def R39.top (call : FuncId → List Value → AM Value) (k : Nat) (v0_in : Value) : AM Value :=
  bindV (ret (.int .i64 0)) fun v2_0 =>
    bindV (ret v0_in) fun v3_1 =>
    bindV (call 26 [v3_1, (.bool true)]) fun v4_2 =>
    bindV (ret v4_2) fun v2_3 =>
    ret v2_3

theorem R39.eq (call : FuncId → List Value → AM Value) (k : Nat) (v0_in : Value) : funcA Try.prog call k 39 [v0_in] = R39.top call k v0_in := by kernel_rfl

end Go.Proofs.Ytlediheihkgebaa
