/- What the functions that these laws reach compute, printed by a program of ours and tied to the model by the kernel. -/
import Derived.Test.YtedoaofmdlcjeaaEngQ
import Derived.Test.YtedoaofmdlcjeaaRows
set_option linter.unusedVariables false
set_option linter.unusedSimpArgs false
namespace Go.Proofs.Ytedoaofmdlcjeaa
open Go.Proofs.Ytedoaofmdlcjeaa.Eng
/-! ### 3: aqueduct/aqueductlaw05.TableStatics (1 arguments) -/
noncomputable def R3.g_27 (call : FuncId → List Value → AM Value) (k : Nat) (v25_23 : Value) (v26_24 : Value) : AM Value :=
  bindV (pickA v25_23 v26_24 (.bool false)) fun v27_25 =>
    bindV (ret v27_25) fun v2_26 =>
    ret v2_26

noncomputable def R3.g_29 (call : FuncId → List Value → AM Value) (k : Nat) (v20_20 : Value) (v23_21 : Value) : AM Value :=
  bindV (pickA v20_20 v23_21 (.bool false)) fun v24_22 =>
    bindV (ret v24_22) fun v25_23 =>
    guardA true v25_23 (bindV (call 11 []) fun v26_28 =>
    R3.g_27 call k v25_23 v26_28)
    (R3.g_27 call k v25_23 (.tuple #[]))

noncomputable def R3.top (call : FuncId → List Value → AM Value) (k : Nat) (v0_in : Value) : AM Value :=
  bindV (ret (.bool false)) fun v2_0 =>
    bindV (ret v0_in) fun v8_1 =>
    bindV (call 9 [v8_1]) fun v9_2 =>
    bindV (ret v9_2) fun v7_3 =>
    bindV (extractA v7_3 0) fun v10_4 =>
    bindV (extractA v7_3 1) fun v11_5 =>
    bindV (newA [(.string ⟨#[]⟩), (.string ⟨#[]⟩), (.bool false)] 23) fun v3_6 =>
    bindV (storeA 3 v3_6 v10_4) fun _ =>
    bindV (ret v11_5) fun v4_7 =>
    bindV (ret v0_in) fun v13_8 =>
    bindV (call 10 [v13_8]) fun v14_9 =>
    bindV (ret v14_9) fun v12_10 =>
    bindV (extractA v12_10 0) fun v15_11 =>
    bindV (extractA v12_10 1) fun v16_12 =>
    bindV (newA [(.string ⟨#[]⟩), (.string ⟨#[]⟩), (.bool false)] 23) fun v5_13 =>
    bindV (storeA 3 v5_13 v15_11) fun _ =>
    bindV (ret v16_12) fun v6_14 =>
    bindV (loadA (some 3) v3_6) fun v17_17 =>
    bindV (loadA (some 3) v5_13) fun v18_18 =>
    bindV (binA Try.prog .eql 23 v17_17 v18_18) fun v19_19 =>
    bindV (ret v19_19) fun v20_20 =>
    guardA true v20_20 (bindV (ret v4_7) fun v21_30 =>
    bindV (ret v6_14) fun v22_31 =>
    bindV (binA Try.prog .eql 3 v21_30 v22_31) fun v23_32 =>
    R3.g_29 call k v20_20 v23_32)
    (R3.g_29 call k v20_20 (.tuple #[]))

theorem R3.eq (call : FuncId → List Value → AM Value) (k : Nat) (v0_in : Value) : funcA Try.prog call k 3 [v0_in] = R3.top call k v0_in := by kernel_rfl

/-! ### 4: aqueduct/aqueductlaw05.TableSizes (1 arguments) -/
noncomputable def R4.d_5 (call : FuncId → List Value → AM Value) (k : Nat) (v2_4 : Value) : AM Value :=
  ret v2_4

noncomputable def R4.top (call : FuncId → List Value → AM Value) (k : Nat) (v0_in : Value) : AM Value :=
  bindV (boxA 23 v0_in) fun v1_0 =>
    bindV (ret (.bool false)) fun v2_1 =>
    bindV (loadA (some 3) v1_0) fun v3_6 =>
    bindS fun s_7 =>
    bindV (call 12 [v3_6]) fun v4_8 =>
    bindV (loadA (some 3) v1_0) fun v5_9 =>
    thereV [s_7] (loadA (some 3) v1_0) v5_9 (
    bindV (call 13 [v5_9]) fun v6_11 =>
    bindV (binA Try.prog .eql 3 v4_8 v6_11) fun v7_12 =>
    bindV (ret v7_12) fun v8_13 =>
    guardA true v8_13 (bindV (call 11 []) fun v9_15 =>
    bindV (pickA v8_13 v9_15 (.bool false)) fun v10_16 =>
    bindV (ret v10_16) fun v2_17 =>
    R4.d_5 call k v2_17)
    (bindV (pickA v8_13 (.tuple #[]) (.bool false)) fun v10_18 =>
    bindV (ret v10_18) fun v2_19 =>
    R4.d_5 call k v2_19))

theorem R4.eq (call : FuncId → List Value → AM Value) (k : Nat) (v0_in : Value) : funcA Try.prog call k 4 [v0_in] = R4.top call k v0_in := by kernel_rfl

/-! ### 5: aqueduct/aqueductlaw05.TableFalls (2 arguments) -/
noncomputable def R5.g_29 (call : FuncId → List Value → AM Value) (k : Nat) (v107_25 : Value) (v108_26 : Value) : AM Value :=
  bindV (pickA v107_25 v108_26 (.bool false)) fun v109_27 =>
    bindV (ret v109_27) fun v4_28 =>
    ret v4_28

noncomputable def R5.g_31 (call : FuncId → List Value → AM Value) (k : Nat) (v98_22 : Value) (v105_23 : Value) : AM Value :=
  bindV (pickA v98_22 v105_23 (.bool false)) fun v106_24 =>
    bindV (ret v106_24) fun v107_25 =>
    guardA true v107_25 (bindV (call 11 []) fun v108_30 =>
    R5.g_29 call k v107_25 v108_30)
    (R5.g_29 call k v107_25 (.tuple #[]))

noncomputable def R5.d_79 (call : FuncId → List Value → AM Value) (k : Nat) (rec_3_44 : Value → Value → Value → AM Value) (v10_47 : Value) (v8_61 : Value) (v9_46 : Value) (v91_78 : Value) : AM Value :=
  condA v91_78 (bindV (ret (.bool false)) fun v4_76 =>
    ret v4_76)
    (bindV (ret v9_46) fun v92_71 =>
    bindV (binA Try.prog .add 3 v92_71 (.int .i64 1)) fun v93_72 =>
    bindV (ret v93_72) fun v9_73 =>
    bindV (ret v10_47) fun v54_50 =>
    bindV (binA Try.prog .sub 3 v54_50 (.int .i64 1)) fun v55_51 =>
    bindV (ret v55_51) fun v10_52 =>
    rec_3_44 v8_61 v9_73 v10_52)

noncomputable def R5.g_123 (call : FuncId → List Value → AM Value) (k : Nat) (rec_3_44 : Value → Value → Value → AM Value) (v0_in : Value) (v10_47 : Value) (v1_9 : Value) (v45_120 : Value) (v5_7 : Value) (v8_45 : Value) (v9_46 : Value) (v52_121 : Value) : AM Value :=
  bindV (pickA v45_120 v52_121 (.bool false)) fun v53_122 =>
    condA v53_122 (bindV (ret v8_45) fun v56_54 =>
    bindV (ret v1_9) fun v57_55 =>
    bindV (ret v10_47) fun v58_56 =>
    bindV (indexAddrA 3 v57_55 v58_56) fun v59_57 =>
    bindV (loadA (some 3) v59_57) fun v60_58 =>
    bindV (call 12 [v60_58]) fun v61_59 =>
    bindV (binA Try.prog .sub 3 v56_54 v61_59) fun v62_60 =>
    bindV (ret v62_60) fun v8_61 =>
    bindV (ret v5_7) fun v64_62 =>
    bindV (ret v9_46) fun v65_63 =>
    bindV (binA Try.prog .add 3 (.int .i64 62) v65_63) fun v66_64 =>
    bindV (call 16 [v64_62, v66_64]) fun v67_65 =>
    bindV (ret v67_65) fun v63_66 =>
    bindV (extractA v63_66 0) fun v68_67 =>
    bindV (extractA v63_66 1) fun v69_68 =>
    bindV (newA [(.string ⟨#[]⟩), (.string ⟨#[]⟩), (.bool false)] 23) fun v11_69 =>
    bindV (storeA 3 v11_69 v68_67) fun _ =>
    bindV (ret v69_68) fun v12_70 =>
    bindV (ret v12_70) fun v70_80 =>
    bindV (binA Try.prog .neq 24 v70_80 (.int .i64 0)) fun v71_81 =>
    bindV (ret v71_81) fun v72_82 =>
    guardA false v72_82 (bindV (fieldAddrA 0 v11_69) fun v73_83 =>
    bindV (loadA none v73_83) fun v74_84 =>
    bindV (ret v1_9) fun v75_85 =>
    bindV (ret v10_47) fun v76_86 =>
    bindV (indexAddrA 3 v75_85 v76_86) fun v77_87 =>
    bindV (fieldAddrA 0 v77_87) fun v78_88 =>
    bindV (loadA none v78_88) fun v79_89 =>
    bindV (binA Try.prog .neq 9 v74_84 v79_89) fun v80_90 =>
    bindV (pickA v72_82 (.bool true) v80_90) fun v81_91 =>
    bindV (ret v81_91) fun v82_92 =>
    guardA false v82_92 (bindV (fieldAddrA 1 v11_69) fun v83_93 =>
    bindV (loadA none v83_93) fun v84_94 =>
    bindV (ret v1_9) fun v85_95 =>
    bindV (ret v10_47) fun v86_96 =>
    bindV (indexAddrA 3 v85_95 v86_96) fun v87_97 =>
    bindV (fieldAddrA 1 v87_97) fun v88_98 =>
    bindV (loadA none v88_98) fun v89_99 =>
    bindV (binA Try.prog .neq 9 v84_94 v89_99) fun v90_100 =>
    bindV (pickA v82_92 (.bool true) v90_100) fun v91_101 =>
    R5.d_79 call k rec_3_44 v10_47 v8_61 v9_46 v91_101)
    (bindV (pickA v82_92 (.bool true) (.tuple #[])) fun v91_102 =>
    R5.d_79 call k rec_3_44 v10_47 v8_61 v9_46 v91_102))
    (bindV (pickA v72_82 (.bool true) (.tuple #[])) fun v81_103 =>
    bindV (ret v81_103) fun v82_104 =>
    guardA false v82_104 (bindV (fieldAddrA 1 v11_69) fun v83_105 =>
    bindV (loadA none v83_105) fun v84_106 =>
    bindV (ret v1_9) fun v85_107 =>
    bindV (ret v10_47) fun v86_108 =>
    bindV (indexAddrA 3 v85_107 v86_108) fun v87_109 =>
    bindV (fieldAddrA 1 v87_109) fun v88_110 =>
    bindV (loadA none v88_110) fun v89_111 =>
    bindV (binA Try.prog .neq 9 v84_106 v89_111) fun v90_112 =>
    bindV (pickA v82_104 (.bool true) v90_112) fun v91_113 =>
    R5.d_79 call k rec_3_44 v10_47 v8_61 v9_46 v91_113)
    (bindV (pickA v82_104 (.bool true) (.tuple #[])) fun v91_114 =>
    R5.d_79 call k rec_3_44 v10_47 v8_61 v9_46 v91_114)))
    (bindV (ret v5_7) fun v94_18 =>
    bindV (call 17 [v94_18]) fun v95_19 =>
    bindV (ret v9_46) fun v96_20 =>
    bindV (binA Try.prog .eql 3 v95_19 v96_20) fun v97_21 =>
    bindV (ret v97_21) fun v98_22 =>
    guardA true v98_22 (bindV (ret v5_7) fun v99_32 =>
    bindV (call 18 [v99_32]) fun v100_33 =>
    bindV (ret v0_in) fun v101_34 =>
    bindV (convIntA .i64 v101_34) fun v102_35 =>
    bindV (ret v8_45) fun v103_36 =>
    bindV (binA Try.prog .sub 3 v102_35 v103_36) fun v104_37 =>
    bindV (binA Try.prog .eql 3 v100_33 v104_37) fun v105_38 =>
    R5.g_31 call k v98_22 v105_38)
    (R5.g_31 call k v98_22 (.tuple #[])))

noncomputable def R5.b_131 (call : FuncId → List Value → AM Value) (k : Nat) (v0_in : Value) (v1_9 : Value) (v5_7 : Value) (rec_3_44 : Value → Value → Value → AM Value) (v8_45 : Value) (v9_46 : Value) (v10_47 : Value) : AM Value :=
  bindV (ret v10_47) fun v43_118 =>
    bindV (binA Try.prog .geq 3 v43_118 (.int .i64 0)) fun v44_119 =>
    bindV (ret v44_119) fun v45_120 =>
    guardA true v45_120 (bindV (ret v1_9) fun v46_124 =>
    bindV (ret v10_47) fun v47_125 =>
    bindV (indexAddrA 3 v46_124 v47_125) fun v48_126 =>
    bindV (loadA (some 3) v48_126) fun v49_127 =>
    bindV (call 12 [v49_127]) fun v50_128 =>
    bindV (ret v8_45) fun v51_129 =>
    bindV (binA Try.prog .leq 3 v50_128 v51_129) fun v52_130 =>
    R5.g_123 call k rec_3_44 v0_in v10_47 v1_9 v45_120 v5_7 v8_45 v9_46 v52_130)
    (R5.g_123 call k rec_3_44 v0_in v10_47 v1_9 v45_120 v5_7 v8_45 v9_46 (.tuple #[]))

noncomputable def R5.b_151 (call : FuncId → List Value → AM Value) (k : Nat) (v0_in : Value) (v1_9 : Value) (v5_7 : Value) (rec_1_134 : Value → AM Value) (v7_135 : Value) : AM Value :=
  bindV (ret v7_135) fun v26_147 =>
    bindV (ret v1_9) fun v27_148 =>
    bindV (lenA v27_148) fun v28_149 =>
    bindV (binA Try.prog .lss 3 v26_147 v28_149) fun v29_150 =>
    condA v29_150 (bindV (ret v5_7) fun v32_140 =>
    bindV (ret v1_9) fun v33_141 =>
    bindV (ret v7_135) fun v34_142 =>
    bindV (indexAddrA 3 v33_141 v34_142) fun v35_143 =>
    bindV (loadA (some 3) v35_143) fun v36_144 =>
    bindV (call 15 [v32_140, v36_144]) fun v37_145 =>
    bindV (ret v7_135) fun v30_136 =>
    bindV (binA Try.prog .add 3 v30_136 (.int .i64 1)) fun v31_137 =>
    bindV (ret v31_137) fun v7_138 =>
    rec_1_134 v7_138)
    (bindV (ret v0_in) fun v38_10 =>
    bindV (convIntA .i64 v38_10) fun v39_11 =>
    bindV (ret v39_11) fun v8_12 =>
    bindV (ret (.int .i64 0)) fun v9_13 =>
    bindV (ret v1_9) fun v40_40 =>
    bindV (lenA v40_40) fun v41_41 =>
    bindV (binA Try.prog .sub 3 v41_41 (.int .i64 1)) fun v42_42 =>
    bindV (ret v42_42) fun v10_43 =>
    loop3 (R5.b_131 call k v0_in v1_9 v5_7) k v8_12 v9_13 v10_43)

noncomputable def R5.j_152 (call : FuncId → List Value → AM Value) (k : Nat) (v0_in : Value) (v5_7 : Value) (v1_9 : Value) : AM Value :=
  bindV (ret (.int .i64 0)) fun v7_133 =>
    loop1 (R5.b_151 call k v0_in v1_9 v5_7) k v7_133

noncomputable def R5.top (call : FuncId → List Value → AM Value) (k : Nat) (v0_in : Value) (v1_in : Value) : AM Value :=
  bindV (ret (.bool false)) fun v4_0 =>
    bindV (ret v0_in) fun v14_1 =>
    bindV (convIntA .i64 v14_1) fun v15_2 =>
    bindV (call 14 [v15_2]) fun v16_3 =>
    bindV (ret v16_3) fun v13_4 =>
    bindV (extractA v13_4 0) fun v17_5 =>
    bindV (extractA v13_4 1) fun v18_6 =>
    bindV (ret v17_5) fun v5_7 =>
    bindV (ret v18_6) fun v6_8 =>
    bindV (ret v5_7) fun v19_160 =>
    bindV (binA Try.prog .eql 35 v19_160 (.pointer none)) fun v20_161 =>
    condA v20_161 (bindV (ret (.bool false)) fun v4_162 =>
    ret v4_162)
    (bindV (ret v1_in) fun v21_153 =>
    bindV (lenA v21_153) fun v22_154 =>
    bindV (binA Try.prog .gtr 3 v22_154 (.int .i64 300)) fun v23_155 =>
    condA v23_155 (bindV (ret v1_in) fun v24_156 =>
    bindV (sliceA 3 v24_156 none (some (.int .i64 300))) fun v25_157 =>
    bindV (ret v25_157) fun v1_158 =>
    R5.j_152 call k v0_in v5_7 v1_158)
    (R5.j_152 call k v0_in v5_7 v1_in))

theorem R5.eq (call : FuncId → List Value → AM Value) (k : Nat) (v0_in : Value) (v1_in : Value) : funcA Try.prog call k 5 [v0_in, v1_in] = R5.top call k v0_in v1_in := by kernel_rfl

/-! ### 6: aqueduct/aqueductlaw05.TableBound (2 arguments) -/
noncomputable def R6.g_36 (call : FuncId → List Value → AM Value) (k : Nat) (rec_1_13 : Value → AM Value) (v106_33 : Value) (v7_14 : Value) (v110_34 : Value) : AM Value :=
  bindV (pickA v106_33 (.bool true) v110_34) fun v111_35 =>
    condA v111_35 (bindV (ret (.bool false)) fun v4_27 =>
    ret v4_27)
    (bindV (ret v7_14) fun v28_15 =>
    bindV (binA Try.prog .add 3 v28_15 (.int .i64 1)) fun v29_16 =>
    bindV (ret v29_16) fun v7_17 =>
    rec_1_13 v7_17)

noncomputable def R6.b_74 (call : FuncId → List Value → AM Value) (k : Nat) (rec_1_13 : Value → AM Value) (v5_7 : Value) (v7_14 : Value) (rec_2_43 : Value → Value → AM Value) (v12_44 : Value) (v13_45 : Value) : AM Value :=
  bindV (ret v13_45) fun v83_70 =>
    bindV (ret v5_7) fun v84_71 =>
    bindV (call 17 [v84_71]) fun v85_72 =>
    bindV (binA Try.prog .lss 3 v83_70 v85_72) fun v86_73 =>
    condA v86_73 (bindV (ret v5_7) fun v90_51 =>
    bindV (ret v13_45) fun v91_52 =>
    bindV (binA Try.prog .add 3 (.int .i64 62) v91_52) fun v92_53 =>
    bindV (call 16 [v90_51, v92_53]) fun v93_54 =>
    bindV (ret v93_54) fun v89_55 =>
    bindV (extractA v89_55 0) fun v94_56 =>
    bindV (extractA v89_55 1) fun v95_57 =>
    bindV (newA [(.string ⟨#[]⟩), (.string ⟨#[]⟩), (.bool false)] 23) fun v14_58 =>
    bindV (storeA 3 v14_58 v94_56) fun _ =>
    bindV (ret v95_57) fun v15_59 =>
    bindV (ret v15_59) fun v96_66 =>
    bindV (binA Try.prog .neq 24 v96_66 (.int .i64 0)) fun v97_67 =>
    condA v97_67 (bindV (ret (.bool false)) fun v4_68 =>
    ret v4_68)
    (bindV (ret v12_44) fun v98_60 =>
    bindV (loadA (some 3) v14_58) fun v99_61 =>
    bindV (call 12 [v99_61]) fun v100_62 =>
    bindV (binA Try.prog .add 3 v98_60 v100_62) fun v101_63 =>
    bindV (ret v101_63) fun v12_64 =>
    bindV (ret v13_45) fun v87_47 =>
    bindV (binA Try.prog .add 3 v87_47 (.int .i64 1)) fun v88_48 =>
    bindV (ret v88_48) fun v13_49 =>
    rec_2_43 v12_64 v13_49))
    (bindV (ret v12_44) fun v102_29 =>
    bindV (ret v5_7) fun v103_30 =>
    bindV (call 18 [v103_30]) fun v104_31 =>
    bindV (binA Try.prog .neq 3 v102_29 v104_31) fun v105_32 =>
    bindV (ret v105_32) fun v106_33 =>
    guardA false v106_33 (bindV (ret v12_44) fun v107_37 =>
    bindV (ret v5_7) fun v108_38 =>
    bindV (call 19 [v108_38]) fun v109_39 =>
    bindV (binA Try.prog .gtr 3 v107_37 v109_39) fun v110_40 =>
    R6.g_36 call k rec_1_13 v106_33 v7_14 v110_40)
    (R6.g_36 call k rec_1_13 v106_33 v7_14 (.tuple #[])))

noncomputable def R6.j_75 (call : FuncId → List Value → AM Value) (k : Nat) (rec_1_13 : Value → AM Value) (v5_7 : Value) (v7_14 : Value) : AM Value :=
  bindV (ret (.int .i64 0)) fun v12_24 =>
    bindV (ret (.int .i64 0)) fun v13_42 =>
    loop2 (R6.b_74 call k rec_1_13 v5_7 v7_14) k v12_24 v13_42

noncomputable def R6.g_113 (call : FuncId → List Value → AM Value) (k : Nat) (rec_1_13 : Value → AM Value) (v56_104 : Value) (v5_7 : Value) (v7_14 : Value) (v77_111 : Value) : AM Value :=
  bindV (pickA v56_104 (.bool true) v77_111) fun v78_112 =>
    condA v78_112 (bindV (ret (.bool false)) fun v4_98 =>
    ret v4_98)
    (R6.j_75 call k rec_1_13 v5_7 v7_14)

noncomputable def R6.g_115 (call : FuncId → List Value → AM Value) (k : Nat) (rec_1_13 : Value → AM Value) (v56_104 : Value) (v58_105 : Value) (v5_7 : Value) (v7_14 : Value) (v76_110 : Value) : AM Value :=
  guardA false v56_104 (bindV (pickA v58_105 v76_110 (.bool false)) fun v77_114 =>
    R6.g_113 call k rec_1_13 v56_104 v5_7 v7_14 v77_114)
    (R6.g_113 call k rec_1_13 v56_104 v5_7 v7_14 (.tuple #[]))

noncomputable def R6.g_117 (call : FuncId → List Value → AM Value) (k : Nat) (rec_1_13 : Value → AM Value) (v56_104 : Value) (v58_105 : Value) (v5_7 : Value) (v73_108 : Value) (v7_14 : Value) (v75_109 : Value) : AM Value :=
  guardA true v58_105 (bindV (pickA v73_108 (.bool true) v75_109) fun v76_116 =>
    R6.g_115 call k rec_1_13 v56_104 v58_105 v5_7 v7_14 v76_116)
    (R6.g_115 call k rec_1_13 v56_104 v58_105 v5_7 v7_14 (.tuple #[]))

noncomputable def R6.g_120 (call : FuncId → List Value → AM Value) (k : Nat) (rec_1_13 : Value → AM Value) (v56_104 : Value) (v58_105 : Value) (v5_7 : Value) (v7_14 : Value) (v9_88 : Value) (v73_108 : Value) : AM Value :=
  guardA false v73_108 (bindV (fieldAddrA 2 v9_88) fun v74_118 =>
    bindV (loadA none v74_118) fun v75_119 =>
    R6.g_117 call k rec_1_13 v56_104 v58_105 v5_7 v73_108 v7_14 v75_119)
    (R6.g_117 call k rec_1_13 v56_104 v58_105 v5_7 v73_108 v7_14 (.tuple #[]))

noncomputable def R6.g_123 (call : FuncId → List Value → AM Value) (k : Nat) (rec_1_13 : Value → AM Value) (v56_104 : Value) (v58_105 : Value) (v5_7 : Value) (v65_106 : Value) (v7_14 : Value) (v9_88 : Value) (v71_107 : Value) : AM Value :=
  guardA true v58_105 (bindV (pickA v65_106 (.bool true) v71_107) fun v72_121 =>
    bindV (ret v72_121) fun v73_122 =>
    R6.g_120 call k rec_1_13 v56_104 v58_105 v5_7 v7_14 v9_88 v73_122)
    (R6.g_120 call k rec_1_13 v56_104 v58_105 v5_7 v7_14 v9_88 (.tuple #[]))

noncomputable def R6.g_130 (call : FuncId → List Value → AM Value) (k : Nat) (rec_1_13 : Value → AM Value) (v56_104 : Value) (v58_105 : Value) (v5_7 : Value) (v7_14 : Value) (v8_23 : Value) (v9_88 : Value) (v65_106 : Value) : AM Value :=
  guardA false v65_106 (bindV (fieldAddrA 1 v9_88) fun v66_124 =>
    bindV (loadA none v66_124) fun v67_125 =>
    bindV (fieldAddrA 2 v8_23) fun v68_126 =>
    bindV (fieldAddrA 1 v68_126) fun v69_127 =>
    bindV (loadA none v69_127) fun v70_128 =>
    bindV (binA Try.prog .neq 9 v67_125 v70_128) fun v71_129 =>
    R6.g_123 call k rec_1_13 v56_104 v58_105 v5_7 v65_106 v7_14 v9_88 v71_129)
    (R6.g_123 call k rec_1_13 v56_104 v58_105 v5_7 v65_106 v7_14 v9_88 (.tuple #[]))

noncomputable def R6.g_138 (call : FuncId → List Value → AM Value) (k : Nat) (rec_1_13 : Value → AM Value) (v56_104 : Value) (v5_7 : Value) (v7_14 : Value) (v8_23 : Value) (v9_88 : Value) (v58_105 : Value) : AM Value :=
  guardA true v58_105 (bindV (fieldAddrA 0 v9_88) fun v59_131 =>
    bindV (loadA none v59_131) fun v60_132 =>
    bindV (fieldAddrA 2 v8_23) fun v61_133 =>
    bindV (fieldAddrA 0 v61_133) fun v62_134 =>
    bindV (loadA none v62_134) fun v63_135 =>
    bindV (binA Try.prog .neq 9 v60_132 v63_135) fun v64_136 =>
    bindV (ret v64_136) fun v65_137 =>
    R6.g_130 call k rec_1_13 v56_104 v58_105 v5_7 v7_14 v8_23 v9_88 v65_137)
    (R6.g_130 call k rec_1_13 v56_104 v58_105 v5_7 v7_14 v8_23 v9_88 (.tuple #[]))

noncomputable def R6.b_150 (call : FuncId → List Value → AM Value) (k : Nat) (v1_in : Value) (v5_7 : Value) (rec_1_13 : Value → AM Value) (v7_14 : Value) : AM Value :=
  bindV (ret v7_14) fun v24_146 =>
    bindV (ret v1_in) fun v25_147 =>
    bindV (lenA v25_147) fun v26_148 =>
    bindV (binA Try.prog .lss 3 v24_146 v26_148) fun v27_149 =>
    condA v27_149 (bindV (ret v1_in) fun v30_19 =>
    bindV (ret v7_14) fun v31_20 =>
    bindV (indexAddrA 5 v30_19 v31_20) fun v32_21 =>
    bindV (loadA (some 5) v32_21) fun v33_22 =>
    bindV (newA [(.int .i64 0), (.int .i64 0), (.string ⟨#[]⟩), (.string ⟨#[]⟩), (.bool false)] 43) fun v8_23 =>
    bindV (storeA 5 v8_23 v33_22) fun _ =>
    bindV (fieldAddrA 0 v8_23) fun v34_76 =>
    bindV (loadA none v34_76) fun v35_77 =>
    bindV (binA Try.prog .eql 3 v35_77 (.int .i64 0)) fun v36_78 =>
    condA v36_78 (bindV (ret v5_7) fun v37_79 =>
    bindV (fieldAddrA 2 v8_23) fun v38_80 =>
    bindV (loadA (some 3) v38_80) fun v39_81 =>
    bindV (call 15 [v37_79, v39_81]) fun v40_82 =>
    bindV (ret v5_7) fun v42_83 =>
    bindV (call 16 [v42_83, (.int .i64 62)]) fun v43_84 =>
    bindV (ret v43_84) fun v41_85 =>
    bindV (extractA v41_85 0) fun v44_86 =>
    bindV (extractA v41_85 1) fun v45_87 =>
    bindV (newA [(.string ⟨#[]⟩), (.string ⟨#[]⟩), (.bool false)] 23) fun v9_88 =>
    bindV (storeA 3 v9_88 v44_86) fun _ =>
    bindV (ret v45_87) fun v10_89 =>
    bindV (fieldAddrA 2 v8_23) fun v46_90 =>
    bindV (loadA (some 3) v46_90) fun v47_91 =>
    bindV (call 12 [v47_91]) fun v48_92 =>
    bindV (ret v5_7) fun v49_93 =>
    bindV (call 19 [v49_93]) fun v50_94 =>
    bindV (binA Try.prog .leq 3 v48_92 v50_94) fun v51_95 =>
    bindV (ret v51_95) fun v11_96 =>
    bindV (ret v11_96) fun v52_100 =>
    bindV (ret v10_89) fun v53_101 =>
    bindV (binA Try.prog .eql 24 v53_101 (.int .i64 0)) fun v54_102 =>
    bindV (binA Try.prog .neq 4 v52_100 v54_102) fun v55_103 =>
    bindV (ret v55_103) fun v56_104 =>
    guardA false v56_104 (bindV (ret v11_96) fun v57_139 =>
    bindV (ret v57_139) fun v58_140 =>
    R6.g_138 call k rec_1_13 v56_104 v5_7 v7_14 v8_23 v9_88 v58_140)
    (R6.g_138 call k rec_1_13 v56_104 v5_7 v7_14 v8_23 v9_88 (.tuple #[])))
    (bindV (ret v5_7) fun v79_141 =>
    bindV (fieldAddrA 1 v8_23) fun v80_142 =>
    bindV (loadA none v80_142) fun v81_143 =>
    bindV (call 20 [v79_141, v81_143]) fun v82_144 =>
    R6.j_75 call k rec_1_13 v5_7 v7_14))
    (bindV (call 11 []) fun v112_9 =>
    bindV (ret v112_9) fun v4_10 =>
    ret v4_10)

noncomputable def R6.top (call : FuncId → List Value → AM Value) (k : Nat) (v0_in : Value) (v1_in : Value) : AM Value :=
  bindV (ret (.bool false)) fun v4_0 =>
    bindV (ret v0_in) fun v17_1 =>
    bindV (convIntA .i64 v17_1) fun v18_2 =>
    bindV (call 14 [v18_2]) fun v19_3 =>
    bindV (ret v19_3) fun v16_4 =>
    bindV (extractA v16_4 0) fun v20_5 =>
    bindV (extractA v16_4 1) fun v21_6 =>
    bindV (ret v20_5) fun v5_7 =>
    bindV (ret v21_6) fun v6_8 =>
    bindV (ret v5_7) fun v22_152 =>
    bindV (binA Try.prog .eql 35 v22_152 (.pointer none)) fun v23_153 =>
    condA v23_153 (bindV (ret (.bool false)) fun v4_154 =>
    ret v4_154)
    (bindV (ret (.int .i64 0)) fun v7_12 =>
    loop1 (R6.b_150 call k v1_in v5_7) k v7_12)

theorem R6.eq (call : FuncId → List Value → AM Value) (k : Nat) (v0_in : Value) (v1_in : Value) : funcA Try.prog call k 6 [v0_in, v1_in] = R6.top call k v0_in v1_in := by kernel_rfl

/-! ### 7: aqueduct/aqueductlaw05.TableFinds (2 arguments) -/
noncomputable def R7.g_32 (call : FuncId → List Value → AM Value) (k : Nat) (v141_28 : Value) (v142_29 : Value) : AM Value :=
  bindV (pickA v141_28 v142_29 (.bool false)) fun v143_30 =>
    bindV (ret v143_30) fun v4_31 =>
    ret v4_31

noncomputable def R7.g_34 (call : FuncId → List Value → AM Value) (k : Nat) (v133_23 : Value) (v139_26 : Value) : AM Value :=
  bindV (pickA v133_23 v139_26 (.bool false)) fun v140_27 =>
    bindV (ret v140_27) fun v141_28 =>
    guardA true v141_28 (bindV (call 11 []) fun v142_33 =>
    R7.g_32 call k v141_28 v142_33)
    (R7.g_32 call k v141_28 (.tuple #[]))

noncomputable def R7.g_36 (call : FuncId → List Value → AM Value) (k : Nat) (v133_23 : Value) (v136_24 : Value) (v138_25 : Value) : AM Value :=
  guardA true v133_23 (bindV (pickA v136_24 (.bool true) v138_25) fun v139_35 =>
    R7.g_34 call k v133_23 v139_35)
    (R7.g_34 call k v133_23 (.tuple #[]))

noncomputable def R7.g_39 (call : FuncId → List Value → AM Value) (k : Nat) (v133_23 : Value) (v9_15 : Value) (v136_24 : Value) : AM Value :=
  guardA false v136_24 (bindV (ret v9_15) fun v137_37 =>
    bindV (unA .not v137_37) fun v138_38 =>
    R7.g_36 call k v133_23 v136_24 v138_38)
    (R7.g_36 call k v133_23 v136_24 (.tuple #[]))

noncomputable def R7.g_43 (call : FuncId → List Value → AM Value) (k : Nat) (v126_20 : Value) (v8_14 : Value) (v9_15 : Value) (v131_21 : Value) : AM Value :=
  bindV (pickA v126_20 v131_21 (.bool false)) fun v132_22 =>
    bindV (ret v132_22) fun v133_23 =>
    guardA true v133_23 (bindV (ret v8_14) fun v134_40 =>
    bindV (binA Try.prog .gtr 3 v134_40 (.int .i64 0)) fun v135_41 =>
    bindV (ret v135_41) fun v136_42 =>
    R7.g_39 call k v133_23 v9_15 v136_42)
    (R7.g_39 call k v133_23 v9_15 (.tuple #[]))

noncomputable def R7.g_95 (call : FuncId → List Value → AM Value) (k : Nat) (rec_1_51 : Value → AM Value) (v104_86 : Value) (v10_52 : Value) (v122_93 : Value) : AM Value :=
  bindV (pickA v104_86 (.bool true) v122_93) fun v123_94 =>
    condA v123_94 (bindV (ret (.bool false)) fun v4_67 =>
    ret v4_67)
    (bindV (ret v10_52) fun v50_53 =>
    bindV (binA Try.prog .add 3 v50_53 (.int .i64 1)) fun v51_54 =>
    bindV (ret v51_54) fun v10_55 =>
    rec_1_51 v10_55)

noncomputable def R7.g_97 (call : FuncId → List Value → AM Value) (k : Nat) (rec_1_51 : Value → AM Value) (v104_86 : Value) (v10_52 : Value) (v114_89 : Value) (v121_92 : Value) : AM Value :=
  guardA false v104_86 (bindV (pickA v114_89 v121_92 (.bool false)) fun v122_96 =>
    R7.g_95 call k rec_1_51 v104_86 v10_52 v122_96)
    (R7.g_95 call k rec_1_51 v104_86 v10_52 (.tuple #[]))

noncomputable def R7.g_99 (call : FuncId → List Value → AM Value) (k : Nat) (rec_1_51 : Value → AM Value) (v104_86 : Value) (v10_52 : Value) (v114_89 : Value) (v117_90 : Value) (v120_91 : Value) : AM Value :=
  guardA true v114_89 (bindV (pickA v117_90 (.bool true) v120_91) fun v121_98 =>
    R7.g_97 call k rec_1_51 v104_86 v10_52 v114_89 v121_98)
    (R7.g_97 call k rec_1_51 v104_86 v10_52 v114_89 (.tuple #[]))

noncomputable def R7.g_103 (call : FuncId → List Value → AM Value) (k : Nat) (rec_1_51 : Value → AM Value) (v104_86 : Value) (v10_52 : Value) (v114_89 : Value) (v8_14 : Value) (v117_90 : Value) : AM Value :=
  guardA false v117_90 (bindV (ret v10_52) fun v118_100 =>
    bindV (ret v8_14) fun v119_101 =>
    bindV (binA Try.prog .lss 3 v118_100 v119_101) fun v120_102 =>
    R7.g_99 call k rec_1_51 v104_86 v10_52 v114_89 v117_90 v120_102)
    (R7.g_99 call k rec_1_51 v104_86 v10_52 v114_89 v117_90 (.tuple #[]))

noncomputable def R7.g_107 (call : FuncId → List Value → AM Value) (k : Nat) (rec_1_51 : Value → AM Value) (v104_86 : Value) (v10_52 : Value) (v8_14 : Value) (v114_89 : Value) : AM Value :=
  guardA true v114_89 (bindV (ret v8_14) fun v115_104 =>
    bindV (binA Try.prog .eql 3 v115_104 (.int .i64 0)) fun v116_105 =>
    bindV (ret v116_105) fun v117_106 =>
    R7.g_103 call k rec_1_51 v104_86 v10_52 v114_89 v8_14 v117_106)
    (R7.g_103 call k rec_1_51 v104_86 v10_52 v114_89 v8_14 (.tuple #[]))

noncomputable def R7.g_110 (call : FuncId → List Value → AM Value) (k : Nat) (rec_1_51 : Value → AM Value) (v104_86 : Value) (v107_87 : Value) (v10_52 : Value) (v8_14 : Value) (v112_88 : Value) : AM Value :=
  guardA false v104_86 (bindV (pickA v107_87 v112_88 (.bool false)) fun v113_108 =>
    bindV (ret v113_108) fun v114_109 =>
    R7.g_107 call k rec_1_51 v104_86 v10_52 v8_14 v114_109)
    (R7.g_107 call k rec_1_51 v104_86 v10_52 v8_14 (.tuple #[]))

noncomputable def R7.g_116 (call : FuncId → List Value → AM Value) (k : Nat) (rec_1_51 : Value → AM Value) (v104_86 : Value) (v10_52 : Value) (v11_63 : Value) (v3_0 : Value) (v8_14 : Value) (v107_87 : Value) : AM Value :=
  guardA true v107_87 (bindV (fieldAddrA 0 v11_63) fun v108_111 =>
    bindV (loadA none v108_111) fun v109_112 =>
    bindV (fieldAddrA 0 v3_0) fun v110_113 =>
    bindV (loadA none v110_113) fun v111_114 =>
    bindV (binA Try.prog .eql 9 v109_112 v111_114) fun v112_115 =>
    R7.g_110 call k rec_1_51 v104_86 v107_87 v10_52 v8_14 v112_115)
    (R7.g_110 call k rec_1_51 v104_86 v107_87 v10_52 v8_14 (.tuple #[]))

noncomputable def R7.g_120 (call : FuncId → List Value → AM Value) (k : Nat) (rec_1_51 : Value → AM Value) (v10_52 : Value) (v11_63 : Value) (v3_0 : Value) (v8_14 : Value) (v92_81 : Value) (v9_15 : Value) (v102_84 : Value) : AM Value :=
  bindV (pickA v92_81 (.bool true) v102_84) fun v103_85 =>
    bindV (ret v103_85) fun v104_86 =>
    guardA false v104_86 (bindV (ret v9_15) fun v105_117 =>
    bindV (unA .not v105_117) fun v106_118 =>
    bindV (ret v106_118) fun v107_119 =>
    R7.g_116 call k rec_1_51 v104_86 v10_52 v11_63 v3_0 v8_14 v107_119)
    (R7.g_116 call k rec_1_51 v104_86 v10_52 v11_63 v3_0 v8_14 (.tuple #[]))

noncomputable def R7.g_122 (call : FuncId → List Value → AM Value) (k : Nat) (rec_1_51 : Value → AM Value) (v10_52 : Value) (v11_63 : Value) (v3_0 : Value) (v8_14 : Value) (v92_81 : Value) (v96_82 : Value) (v9_15 : Value) (v101_83 : Value) : AM Value :=
  guardA false v92_81 (bindV (pickA v96_82 v101_83 (.bool false)) fun v102_121 =>
    R7.g_120 call k rec_1_51 v10_52 v11_63 v3_0 v8_14 v92_81 v9_15 v102_121)
    (R7.g_120 call k rec_1_51 v10_52 v11_63 v3_0 v8_14 v92_81 v9_15 (.tuple #[]))

noncomputable def R7.g_128 (call : FuncId → List Value → AM Value) (k : Nat) (rec_1_51 : Value → AM Value) (v10_52 : Value) (v11_63 : Value) (v3_0 : Value) (v8_14 : Value) (v92_81 : Value) (v9_15 : Value) (v96_82 : Value) : AM Value :=
  guardA true v96_82 (bindV (fieldAddrA 0 v11_63) fun v97_123 =>
    bindV (loadA none v97_123) fun v98_124 =>
    bindV (fieldAddrA 0 v3_0) fun v99_125 =>
    bindV (loadA none v99_125) fun v100_126 =>
    bindV (binA Try.prog .neq 9 v98_124 v100_126) fun v101_127 =>
    R7.g_122 call k rec_1_51 v10_52 v11_63 v3_0 v8_14 v92_81 v96_82 v9_15 v101_127)
    (R7.g_122 call k rec_1_51 v10_52 v11_63 v3_0 v8_14 v92_81 v96_82 v9_15 (.tuple #[]))

noncomputable def R7.g_133 (call : FuncId → List Value → AM Value) (k : Nat) (rec_1_51 : Value → AM Value) (v10_52 : Value) (v11_63 : Value) (v3_0 : Value) (v85_76 : Value) (v8_14 : Value) (v9_15 : Value) (v90_79 : Value) : AM Value :=
  bindV (pickA v85_76 (.bool true) v90_79) fun v91_80 =>
    bindV (ret v91_80) fun v92_81 =>
    guardA false v92_81 (bindV (ret v10_52) fun v93_129 =>
    bindV (ret v8_14) fun v94_130 =>
    bindV (binA Try.prog .eql 3 v93_129 v94_130) fun v95_131 =>
    bindV (ret v95_131) fun v96_132 =>
    R7.g_128 call k rec_1_51 v10_52 v11_63 v3_0 v8_14 v92_81 v9_15 v96_132)
    (R7.g_128 call k rec_1_51 v10_52 v11_63 v3_0 v8_14 v92_81 v9_15 (.tuple #[]))

noncomputable def R7.g_135 (call : FuncId → List Value → AM Value) (k : Nat) (rec_1_51 : Value → AM Value) (v10_52 : Value) (v11_63 : Value) (v3_0 : Value) (v85_76 : Value) (v88_77 : Value) (v8_14 : Value) (v9_15 : Value) (v89_78 : Value) : AM Value :=
  guardA false v85_76 (bindV (pickA v88_77 v89_78 (.bool false)) fun v90_134 =>
    R7.g_133 call k rec_1_51 v10_52 v11_63 v3_0 v85_76 v8_14 v9_15 v90_134)
    (R7.g_133 call k rec_1_51 v10_52 v11_63 v3_0 v85_76 v8_14 v9_15 (.tuple #[]))

noncomputable def R7.g_137 (call : FuncId → List Value → AM Value) (k : Nat) (rec_1_51 : Value → AM Value) (v10_52 : Value) (v11_63 : Value) (v13_65 : Value) (v3_0 : Value) (v85_76 : Value) (v8_14 : Value) (v9_15 : Value) (v88_77 : Value) : AM Value :=
  guardA true v88_77 (bindV (ret v13_65) fun v89_136 =>
    R7.g_135 call k rec_1_51 v10_52 v11_63 v3_0 v85_76 v88_77 v8_14 v9_15 v89_136)
    (R7.g_135 call k rec_1_51 v10_52 v11_63 v3_0 v85_76 v88_77 v8_14 v9_15 (.tuple #[]))

noncomputable def R7.g_141 (call : FuncId → List Value → AM Value) (k : Nat) (rec_1_51 : Value → AM Value) (v10_52 : Value) (v11_63 : Value) (v13_65 : Value) (v3_0 : Value) (v80_73 : Value) (v8_14 : Value) (v9_15 : Value) (v83_74 : Value) : AM Value :=
  bindV (pickA v80_73 v83_74 (.bool false)) fun v84_75 =>
    bindV (ret v84_75) fun v85_76 =>
    guardA false v85_76 (bindV (ret v9_15) fun v86_138 =>
    bindV (unA .not v86_138) fun v87_139 =>
    bindV (ret v87_139) fun v88_140 =>
    R7.g_137 call k rec_1_51 v10_52 v11_63 v13_65 v3_0 v85_76 v8_14 v9_15 v88_140)
    (R7.g_137 call k rec_1_51 v10_52 v11_63 v13_65 v3_0 v85_76 v8_14 v9_15 (.tuple #[]))

noncomputable def R7.g_145 (call : FuncId → List Value → AM Value) (k : Nat) (rec_1_51 : Value → AM Value) (v10_52 : Value) (v11_63 : Value) (v13_65 : Value) (v3_0 : Value) (v73_70 : Value) (v8_14 : Value) (v9_15 : Value) (v78_71 : Value) : AM Value :=
  bindV (pickA v73_70 v78_71 (.bool false)) fun v79_72 =>
    bindV (ret v79_72) fun v80_73 =>
    guardA true v80_73 (bindV (ret v10_52) fun v81_142 =>
    bindV (ret v8_14) fun v82_143 =>
    bindV (binA Try.prog .leq 3 v81_142 v82_143) fun v83_144 =>
    R7.g_141 call k rec_1_51 v10_52 v11_63 v13_65 v3_0 v80_73 v8_14 v9_15 v83_144)
    (R7.g_141 call k rec_1_51 v10_52 v11_63 v13_65 v3_0 v80_73 v8_14 v9_15 (.tuple #[]))

noncomputable def R7.g_161 (call : FuncId → List Value → AM Value) (k : Nat) (rec_1_51 : Value → AM Value) (v10_52 : Value) (v11_63 : Value) (v3_0 : Value) (v65_157 : Value) (v8_14 : Value) (v9_15 : Value) (v70_158 : Value) : AM Value :=
  bindV (pickA v65_157 v70_158 (.bool false)) fun v71_159 =>
    bindV (ret v71_159) fun v13_160 =>
    bindV (ret v9_15) fun v72_69 =>
    bindV (ret v72_69) fun v73_70 =>
    guardA true v73_70 (bindV (ret v10_52) fun v74_146 =>
    bindV (ret v8_14) fun v75_147 =>
    bindV (binA Try.prog .eql 3 v74_146 v75_147) fun v76_148 =>
    bindV (ret v13_160) fun v77_149 =>
    bindV (binA Try.prog .neq 4 v76_148 v77_149) fun v78_150 =>
    R7.g_145 call k rec_1_51 v10_52 v11_63 v13_160 v3_0 v73_70 v8_14 v9_15 v78_150)
    (R7.g_145 call k rec_1_51 v10_52 v11_63 v13_160 v3_0 v73_70 v8_14 v9_15 (.tuple #[]))

noncomputable def R7.b_177 (call : FuncId → List Value → AM Value) (k : Nat) (v3_0 : Value) (v5_6 : Value) (v8_14 : Value) (v9_15 : Value) (rec_1_51 : Value → AM Value) (v10_52 : Value) : AM Value :=
  bindV (ret v10_52) fun v45_172 =>
    bindV (ret v5_6) fun v46_173 =>
    bindV (call 17 [v46_173]) fun v47_174 =>
    bindV (binA Try.prog .add 3 (.int .i64 61) v47_174) fun v48_175 =>
    bindV (binA Try.prog .leq 3 v45_172 v48_175) fun v49_176 =>
    condA v49_176 (bindV (ret v5_6) fun v53_57 =>
    bindV (ret v10_52) fun v54_58 =>
    bindV (call 16 [v53_57, v54_58]) fun v55_59 =>
    bindV (ret v55_59) fun v52_60 =>
    bindV (extractA v52_60 0) fun v56_61 =>
    bindV (extractA v52_60 1) fun v57_62 =>
    bindV (newA [(.string ⟨#[]⟩), (.string ⟨#[]⟩), (.bool false)] 23) fun v11_63 =>
    bindV (storeA 3 v11_63 v56_61) fun _ =>
    bindV (ret v57_62) fun v12_64 =>
    bindV (ret v12_64) fun v58_168 =>
    bindV (binA Try.prog .neq 24 v58_168 (.int .i64 0)) fun v59_169 =>
    condA v59_169 (bindV (ret (.bool false)) fun v4_170 =>
    ret v4_170)
    (bindV (fieldAddrA 0 v11_63) fun v60_152 =>
    bindV (loadA none v60_152) fun v61_153 =>
    bindV (fieldAddrA 0 v3_0) fun v62_154 =>
    bindV (loadA none v62_154) fun v63_155 =>
    bindV (binA Try.prog .eql 9 v61_153 v63_155) fun v64_156 =>
    bindV (ret v64_156) fun v65_157 =>
    guardA true v65_157 (bindV (fieldAddrA 1 v11_63) fun v66_162 =>
    bindV (loadA none v66_162) fun v67_163 =>
    bindV (fieldAddrA 1 v3_0) fun v68_164 =>
    bindV (loadA none v68_164) fun v69_165 =>
    bindV (binA Try.prog .eql 9 v67_163 v69_165) fun v70_166 =>
    R7.g_161 call k rec_1_51 v10_52 v11_63 v3_0 v65_157 v8_14 v9_15 v70_166)
    (R7.g_161 call k rec_1_51 v10_52 v11_63 v3_0 v65_157 v8_14 v9_15 (.tuple #[]))))
    (bindV (ret v8_14) fun v124_18 =>
    bindV (binA Try.prog .geq 3 v124_18 (.int .i64 0)) fun v125_19 =>
    bindV (ret v125_19) fun v126_20 =>
    guardA true v126_20 (bindV (ret v8_14) fun v127_44 =>
    bindV (ret v5_6) fun v128_45 =>
    bindV (call 17 [v128_45]) fun v129_46 =>
    bindV (binA Try.prog .add 3 (.int .i64 61) v129_46) fun v130_47 =>
    bindV (binA Try.prog .leq 3 v127_44 v130_47) fun v131_48 =>
    R7.g_43 call k v126_20 v8_14 v9_15 v131_48)
    (R7.g_43 call k v126_20 v8_14 v9_15 (.tuple #[])))

noncomputable def R7.j_185 (call : FuncId → List Value → AM Value) (k : Nat) (rec_1_180 : Value → AM Value) (v7_181 : Value) : AM Value :=
  bindV (ret v7_181) fun v24_182 =>
    bindV (binA Try.prog .add 3 v24_182 (.int .i64 1)) fun v25_183 =>
    bindV (ret v25_183) fun v7_184 =>
    rec_1_180 v7_184

noncomputable def R7.b_204 (call : FuncId → List Value → AM Value) (k : Nat) (v0_in : Value) (v3_0 : Value) (v5_6 : Value) (rec_1_180 : Value → AM Value) (v7_181 : Value) : AM Value :=
  bindV (ret v7_181) fun v20_200 =>
    bindV (ret v0_in) fun v21_201 =>
    bindV (lenA v21_201) fun v22_202 =>
    bindV (binA Try.prog .lss 3 v20_200 v22_202) fun v23_203 =>
    condA v23_203 (bindV (ret v0_in) fun v26_186 =>
    bindV (ret v7_181) fun v27_187 =>
    bindV (indexAddrA 5 v26_186 v27_187) fun v28_188 =>
    bindV (fieldAddrA 0 v28_188) fun v29_189 =>
    bindV (loadA none v29_189) fun v30_190 =>
    bindV (binA Try.prog .eql 3 v30_190 (.int .i64 0)) fun v31_191 =>
    condA v31_191 (bindV (ret v5_6) fun v32_192 =>
    bindV (ret v0_in) fun v33_193 =>
    bindV (ret v7_181) fun v34_194 =>
    bindV (indexAddrA 5 v33_193 v34_194) fun v35_195 =>
    bindV (fieldAddrA 2 v35_195) fun v36_196 =>
    bindV (loadA (some 3) v36_196) fun v37_197 =>
    bindV (call 15 [v32_192, v37_197]) fun v38_198 =>
    R7.j_185 call k rec_1_180 v7_181)
    (R7.j_185 call k rec_1_180 v7_181))
    (bindV (ret v5_6) fun v40_8 =>
    bindV (loadA (some 3) v3_0) fun v41_9 =>
    bindV (call 21 [v40_8, v41_9]) fun v42_10 =>
    bindV (ret v42_10) fun v39_11 =>
    bindV (extractA v39_11 0) fun v43_12 =>
    bindV (extractA v39_11 1) fun v44_13 =>
    bindV (ret v43_12) fun v8_14 =>
    bindV (ret v44_13) fun v9_15 =>
    bindV (ret (.int .i64 1)) fun v10_50 =>
    loop1 (R7.b_177 call k v3_0 v5_6 v8_14 v9_15) k v10_50)

noncomputable def R7.top (call : FuncId → List Value → AM Value) (k : Nat) (v0_in : Value) (v1_in : Value) : AM Value :=
  bindV (boxA 23 v1_in) fun v3_0 =>
    bindV (ret (.bool false)) fun v4_1 =>
    bindV (call 14 [(.int .i64 500)]) fun v15_2 =>
    bindV (ret v15_2) fun v14_3 =>
    bindV (extractA v14_3 0) fun v16_4 =>
    bindV (extractA v14_3 1) fun v17_5 =>
    bindV (ret v16_4) fun v5_6 =>
    bindV (ret v17_5) fun v6_7 =>
    bindV (ret v5_6) fun v18_206 =>
    bindV (binA Try.prog .eql 35 v18_206 (.pointer none)) fun v19_207 =>
    condA v19_207 (bindV (ret (.bool false)) fun v4_208 =>
    ret v4_208)
    (bindV (ret (.int .i64 0)) fun v7_179 =>
    loop1 (R7.b_204 call k v0_in v3_0 v5_6) k v7_179)

theorem R7.eq (call : FuncId → List Value → AM Value) (k : Nat) (v0_in : Value) (v1_in : Value) : funcA Try.prog call k 7 [v0_in, v1_in] = R7.top call k v0_in v1_in := by kernel_rfl

/-! ### 8: aqueduct/aqueductlaw05.TablePlays (2 arguments) -/
noncomputable def R8.g_39 (call : FuncId → List Value → AM Value) (k : Nat) (rec_1_19 : Value → AM Value) (v48_36 : Value) (v9_20 : Value) (v52_37 : Value) : AM Value :=
  bindV (pickA v48_36 (.bool true) v52_37) fun v53_38 =>
    condA v53_38 (bindV (ret (.bool false)) fun v4_26 =>
    ret v4_26)
    (bindV (ret v9_20) fun v38_21 =>
    bindV (binA Try.prog .add 3 v38_21 (.int .i64 1)) fun v39_22 =>
    bindV (ret v39_22) fun v9_23 =>
    rec_1_19 v9_23)

noncomputable def R8.g_52 (call : FuncId → List Value → AM Value) (k : Nat) (rec_1_19 : Value → AM Value) (v1_in : Value) (v32_49 : Value) (v5_6 : Value) (v7_13 : Value) (v9_20 : Value) (v36_50 : Value) : AM Value :=
  bindV (pickA v32_49 v36_50 (.bool false)) fun v37_51 =>
    condA v37_51 (bindV (ret v5_6) fun v40_28 =>
    bindV (ret v7_13) fun v41_29 =>
    bindV (ret v1_in) fun v42_30 =>
    bindV (ret v9_20) fun v43_31 =>
    bindV (indexAddrA 5 v42_30 v43_31) fun v44_32 =>
    bindV (loadA (some 5) v44_32) fun v45_33 =>
    bindV (call 23 [v40_28, v41_29, v45_33]) fun v46_34 =>
    bindV (unA .not v46_34) fun v47_35 =>
    bindV (ret v47_35) fun v48_36 =>
    guardA false v48_36 (bindV (ret v5_6) fun v49_40 =>
    bindV (ret v7_13) fun v50_41 =>
    bindV (call 24 [v49_40, v50_41]) fun v51_42 =>
    bindV (unA .not v51_42) fun v52_43 =>
    R8.g_39 call k rec_1_19 v48_36 v9_20 v52_43)
    (R8.g_39 call k rec_1_19 v48_36 v9_20 (.tuple #[])))
    (bindV (call 11 []) fun v54_15 =>
    bindV (ret v54_15) fun v4_16 =>
    ret v4_16)

noncomputable def R8.b_57 (call : FuncId → List Value → AM Value) (k : Nat) (v1_in : Value) (v5_6 : Value) (v7_13 : Value) (rec_1_19 : Value → AM Value) (v9_20 : Value) : AM Value :=
  bindV (ret v7_13) fun v30_47 =>
    bindV (binA Try.prog .neq 49 v30_47 (.pointer none)) fun v31_48 =>
    bindV (ret v31_48) fun v32_49 =>
    guardA true v32_49 (bindV (ret v9_20) fun v33_53 =>
    bindV (ret v1_in) fun v34_54 =>
    bindV (lenA v34_54) fun v35_55 =>
    bindV (binA Try.prog .lss 3 v33_53 v35_55) fun v36_56 =>
    R8.g_52 call k rec_1_19 v1_in v32_49 v5_6 v7_13 v9_20 v36_56)
    (R8.g_52 call k rec_1_19 v1_in v32_49 v5_6 v7_13 v9_20 (.tuple #[]))

noncomputable def R8.g_68 (call : FuncId → List Value → AM Value) (k : Nat) (v1_in : Value) (v23_65 : Value) (v5_6 : Value) (v7_13 : Value) (v28_66 : Value) : AM Value :=
  bindV (pickA v23_65 (.bool true) v28_66) fun v29_67 =>
    condA v29_67 (bindV (ret (.bool false)) fun v4_60 =>
    ret v4_60)
    (bindV (ret (.int .i64 0)) fun v9_18 =>
    loop1 (R8.b_57 call k v1_in v5_6 v7_13) k v9_18)

noncomputable def R8.top (call : FuncId → List Value → AM Value) (k : Nat) (v0_in : Value) (v1_in : Value) : AM Value :=
  bindV (ret (.bool false)) fun v4_0 =>
    bindV (ret v0_in) fun v11_1 =>
    bindV (call 14 [v11_1]) fun v12_2 =>
    bindV (ret v12_2) fun v10_3 =>
    bindV (extractA v10_3 0) fun v13_4 =>
    bindV (extractA v10_3 1) fun v14_5 =>
    bindV (ret v13_4) fun v5_6 =>
    bindV (ret v14_5) fun v6_7 =>
    bindV (ret v0_in) fun v16_8 =>
    bindV (call 22 [v16_8]) fun v17_9 =>
    bindV (ret v17_9) fun v15_10 =>
    bindV (extractA v15_10 0) fun v18_11 =>
    bindV (extractA v15_10 1) fun v19_12 =>
    bindV (ret v18_11) fun v7_13 =>
    bindV (ret v19_12) fun v8_14 =>
    bindV (ret v6_7) fun v20_62 =>
    bindV (ret v8_14) fun v21_63 =>
    bindV (binA Try.prog .neq 3 v20_62 v21_63) fun v22_64 =>
    bindV (ret v22_64) fun v23_65 =>
    guardA false v23_65 (bindV (ret v5_6) fun v24_69 =>
    bindV (binA Try.prog .eql 35 v24_69 (.pointer none)) fun v25_70 =>
    bindV (ret v7_13) fun v26_71 =>
    bindV (binA Try.prog .eql 49 v26_71 (.pointer none)) fun v27_72 =>
    bindV (binA Try.prog .neq 4 v25_70 v27_72) fun v28_73 =>
    R8.g_68 call k v1_in v23_65 v5_6 v7_13 v28_73)
    (R8.g_68 call k v1_in v23_65 v5_6 v7_13 (.tuple #[]))

theorem R8.eq (call : FuncId → List Value → AM Value) (k : Nat) (v0_in : Value) (v1_in : Value) : funcA Try.prog call k 8 [v0_in, v1_in] = R8.top call k v0_in v1_in := by kernel_rfl

/-! ### 9: aqueduct/table.Static (1 arguments) -/
noncomputable def R9.g_20 (call : FuncId → List Value → AM Value) (k : Nat) (v0_in : Value) (v2_0 : Value) (v6_17 : Value) (v8_18 : Value) : AM Value :=
  bindV (pickA v6_17 (.bool true) v8_18) fun v9_19 =>
    condA v9_19 (bindV (buildA [(0, 1), (1, 1), (2, 1)] [(.string ⟨#[]⟩), (.string ⟨#[]⟩), (.bool false)] []) fun v10_11 =>
    bindV (storeA 3 v2_0 v10_11) fun _ =>
    bindV (ret (.int .i64 50)) fun v3_12 =>
    bindV (loadA (some 3) v2_0) fun v2_13 =>
    ret (.tuple #[v2_13, v3_12]))
    (bindV (call 25 []) fun v11_2 =>
    bindV (ret v0_in) fun v12_3 =>
    bindV (binA Try.prog .sub 3 v12_3 (.int .i64 1)) fun v13_4 =>
    bindV (indexAddrA 3 v11_2 v13_4) fun v14_5 =>
    bindV (loadA (some 3) v14_5) fun v15_6 =>
    bindV (storeA 3 v2_0 v15_6) fun _ =>
    bindV (ret (.int .i64 0)) fun v3_7 =>
    bindV (loadA (some 3) v2_0) fun v2_8 =>
    ret (.tuple #[v2_8, v3_7]))

noncomputable def R9.top (call : FuncId → List Value → AM Value) (k : Nat) (v0_in : Value) : AM Value :=
  bindV (newA [(.string ⟨#[]⟩), (.string ⟨#[]⟩), (.bool false)] 23) fun v2_0 =>
    bindV (ret (.int .i64 0)) fun v3_1 =>
    bindV (ret v0_in) fun v4_15 =>
    bindV (binA Try.prog .lss 3 v4_15 (.int .i64 1)) fun v5_16 =>
    bindV (ret v5_16) fun v6_17 =>
    guardA false v6_17 (bindV (ret v0_in) fun v7_21 =>
    bindV (binA Try.prog .gtr 3 v7_21 (.int .i64 61)) fun v8_22 =>
    R9.g_20 call k v0_in v2_0 v6_17 v8_22)
    (R9.g_20 call k v0_in v2_0 v6_17 (.tuple #[]))

theorem R9.eq (call : FuncId → List Value → AM Value) (k : Nat) (v0_in : Value) : funcA Try.prog call k 9 [v0_in] = R9.top call k v0_in := by kernel_rfl

/-! ### 10: aqueduct/aqueductref05.Static (1 arguments) -/
noncomputable def R10.b_34 (call : FuncId → List Value → AM Value) (k : Nat) (v2_0 : Value) (v5_9 : Value) (rec_1_24 : Value → AM Value) (v6_25 : Value) : AM Value :=
  bindV (ret v5_9) fun v22_30 =>
    bindV (ret v6_25) fun v23_31 =>
    bindV (indexStrA v22_30 v23_31) fun v24_32 =>
    bindV (binA Try.prog .neq 5 v24_32 (.int .u8 61)) fun v25_33 =>
    condA v25_33 (bindV (ret v6_25) fun v26_26 =>
    bindV (binA Try.prog .add 3 v26_26 (.int .i64 1)) fun v27_27 =>
    bindV (ret v27_27) fun v6_28 =>
    rec_1_24 v6_28)
    (bindV (ret v5_9) fun v28_12 =>
    bindV (ret v6_25) fun v29_13 =>
    bindV (sliceStrA v28_12 none (some v29_13)) fun v30_14 =>
    bindV (ret v5_9) fun v31_15 =>
    bindV (ret v6_25) fun v32_16 =>
    bindV (binA Try.prog .add 3 v32_16 (.int .i64 1)) fun v33_17 =>
    bindV (sliceStrA v31_15 (some v33_17) none) fun v34_18 =>
    bindV (buildA [(0, 1), (1, 1), (2, 1)] [(.string ⟨#[]⟩), (.string ⟨#[]⟩), (.bool false)] [(0, v30_14), (1, v34_18)]) fun v35_19 =>
    bindV (storeA 3 v2_0 v35_19) fun _ =>
    bindV (ret (.int .i64 0)) fun v3_21 =>
    bindV (loadA (some 3) v2_0) fun v2_22 =>
    ret (.tuple #[v2_22, v3_21]))

noncomputable def R10.g_46 (call : FuncId → List Value → AM Value) (k : Nat) (v0_in : Value) (v10_43 : Value) (v2_0 : Value) (v4_3 : Value) (v14_44 : Value) : AM Value :=
  bindV (pickA v10_43 (.bool true) v14_44) fun v15_45 =>
    condA v15_45 (bindV (buildA [(0, 1), (1, 1), (2, 1)] [(.string ⟨#[]⟩), (.string ⟨#[]⟩), (.bool false)] []) fun v16_37 =>
    bindV (storeA 3 v2_0 v16_37) fun _ =>
    bindV (ret (.int .i64 50)) fun v3_38 =>
    bindV (loadA (some 3) v2_0) fun v2_39 =>
    ret (.tuple #[v2_39, v3_38]))
    (bindV (ret v4_3) fun v17_4 =>
    bindV (ret v0_in) fun v18_5 =>
    bindV (binA Try.prog .sub 3 v18_5 (.int .i64 1)) fun v19_6 =>
    bindV (indexAddrA 1 v17_4 v19_6) fun v20_7 =>
    bindV (loadA none v20_7) fun v21_8 =>
    bindV (ret v21_8) fun v5_9 =>
    bindV (ret (.int .i64 0)) fun v6_10 =>
    loop1 (R10.b_34 call k v2_0 v5_9) k v6_10)

noncomputable def R10.top (call : FuncId → List Value → AM Value) (k : Nat) (v0_in : Value) : AM Value :=
  bindV (newA [(.string ⟨#[]⟩), (.string ⟨#[]⟩), (.bool false)] 23) fun v2_0 =>
    bindV (ret (.int .i64 0)) fun v3_1 =>
    bindV (call 26 []) fun v7_2 =>
    bindV (ret v7_2) fun v4_3 =>
    bindV (ret v0_in) fun v8_41 =>
    bindV (binA Try.prog .lss 3 v8_41 (.int .i64 1)) fun v9_42 =>
    bindV (ret v9_42) fun v10_43 =>
    guardA false v10_43 (bindV (ret v0_in) fun v11_47 =>
    bindV (ret v4_3) fun v12_48 =>
    bindV (lenA v12_48) fun v13_49 =>
    bindV (binA Try.prog .gtr 3 v11_47 v13_49) fun v14_50 =>
    R10.g_46 call k v0_in v10_43 v2_0 v4_3 v14_50)
    (R10.g_46 call k v0_in v10_43 v2_0 v4_3 (.tuple #[]))

theorem R10.eq (call : FuncId → List Value → AM Value) (k : Nat) (v0_in : Value) : funcA Try.prog call k 10 [v0_in] = R10.top call k v0_in := by kernel_rfl

/-! ### 11: aqueduct/aqueductlaw05.awake (0 arguments) -/
noncomputable def R11.g_18 (call : FuncId → List Value → AM Value) (k : Nat) (v14_14 : Value) (v17_15 : Value) : AM Value :=
  bindV (pickA v14_14 v17_15 (.bool false)) fun v18_16 =>
    bindV (ret v18_16) fun v0_17 =>
    ret v0_17

noncomputable def R11.g_22 (call : FuncId → List Value → AM Value) (k : Nat) (v1_5 : Value) (v9_11 : Value) (v12_12 : Value) : AM Value :=
  bindV (pickA v9_11 v12_12 (.bool false)) fun v13_13 =>
    bindV (ret v13_13) fun v14_14 =>
    guardA true v14_14 (bindV (fieldAddrA 1 v1_5) fun v15_19 =>
    bindV (loadA none v15_19) fun v16_20 =>
    bindV (binA Try.prog .eql 9 v16_20 (.string ⟨#[71, 69, 84]⟩)) fun v17_21 =>
    R11.g_18 call k v14_14 v17_21)
    (R11.g_18 call k v14_14 (.tuple #[]))

noncomputable def R11.top (call : FuncId → List Value → AM Value) (k : Nat) : AM Value :=
  bindV (ret (.bool false)) fun v0_0 =>
    bindV (call 9 [(.int .i64 2)]) fun v4_1 =>
    bindV (ret v4_1) fun v3_2 =>
    bindV (extractA v3_2 0) fun v5_3 =>
    bindV (extractA v3_2 1) fun v6_4 =>
    bindV (newA [(.string ⟨#[]⟩), (.string ⟨#[]⟩), (.bool false)] 23) fun v1_5 =>
    bindV (storeA 3 v1_5 v5_3) fun _ =>
    bindV (ret v6_4) fun v2_6 =>
    bindV (ret v2_6) fun v7_9 =>
    bindV (binA Try.prog .eql 24 v7_9 (.int .i64 0)) fun v8_10 =>
    bindV (ret v8_10) fun v9_11 =>
    guardA true v9_11 (bindV (fieldAddrA 0 v1_5) fun v10_23 =>
    bindV (loadA none v10_23) fun v11_24 =>
    bindV (binA Try.prog .eql 9 v11_24 (.string ⟨#[58, 109, 101, 116, 104, 111, 100]⟩)) fun v12_25 =>
    R11.g_22 call k v1_5 v9_11 v12_25)
    (R11.g_22 call k v1_5 v9_11 (.tuple #[]))

theorem R11.eq (call : FuncId → List Value → AM Value) (k : Nat) : funcA Try.prog call k 11 [] = R11.top call k := by kernel_rfl

/-! ### 12: aqueduct/table.Size (1 arguments) -/
noncomputable def R12.top (call : FuncId → List Value → AM Value) (k : Nat) (v0_in : Value) : AM Value :=
  bindV (boxA 23 v0_in) fun v1_0 =>
    bindV (ret (.int .i64 0)) fun v2_1 =>
    bindV (fieldAddrA 0 v1_0) fun v3_2 =>
    bindV (loadA none v3_2) fun v4_3 =>
    bindV (lenStrA v4_3) fun v5_4 =>
    bindV (fieldAddrA 1 v1_0) fun v6_5 =>
    bindV (loadA none v6_5) fun v7_6 =>
    bindV (lenStrA v7_6) fun v8_7 =>
    bindV (binA Try.prog .add 3 v5_4 v8_7) fun v9_8 =>
    bindV (binA Try.prog .add 3 v9_8 (.int .i64 32)) fun v10_9 =>
    bindV (ret v10_9) fun v2_10 =>
    ret v2_10

theorem R12.eq (call : FuncId → List Value → AM Value) (k : Nat) (v0_in : Value) : funcA Try.prog call k 12 [v0_in] = R12.top call k v0_in := by kernel_rfl

/-! ### 13: aqueduct/aqueductref05.Size (1 arguments) -/
noncomputable def R13.top (call : FuncId → List Value → AM Value) (k : Nat) (v0_in : Value) : AM Value :=
  bindV (boxA 23 v0_in) fun v1_0 =>
    bindV (ret (.int .i64 0)) fun v2_1 =>
    bindV (fieldAddrA 0 v1_0) fun v3_2 =>
    bindV (loadA none v3_2) fun v4_3 =>
    bindV (lenStrA v4_3) fun v5_4 =>
    bindV (fieldAddrA 1 v1_0) fun v6_5 =>
    bindV (loadA none v6_5) fun v7_6 =>
    bindV (lenStrA v7_6) fun v8_7 =>
    bindV (binA Try.prog .add 3 v5_4 v8_7) fun v9_8 =>
    bindV (binA Try.prog .add 3 v9_8 (.int .i64 32)) fun v10_9 =>
    bindV (ret v10_9) fun v2_10 =>
    ret v2_10

theorem R13.eq (call : FuncId → List Value → AM Value) (k : Nat) (v0_in : Value) : funcA Try.prog call k 13 [v0_in] = R13.top call k v0_in := by kernel_rfl

/-! ### 14: aqueduct/table.New (1 arguments) -/
noncomputable def R14.top (call : FuncId → List Value → AM Value) (k : Nat) (v0_in : Value) : AM Value :=
  bindV (ret (.pointer none)) fun v2_0 =>
    bindV (ret (.int .i64 0)) fun v3_1 =>
    bindV (ret v0_in) fun v4_8 =>
    bindV (call 27 [v4_8]) fun v5_9 =>
    bindV (unA .not v5_9) fun v6_10 =>
    condA v6_10 (bindV (ret (.pointer none)) fun v2_11 =>
    bindV (ret (.int .i64 1)) fun v3_12 =>
    ret (.tuple #[v2_11, v3_12]))
    (bindV (ret v0_in) fun v7_2 =>
    bindV (buildA [(0, 1), (1, 1), (2, 1), (3, 1)] [(.bool false), (.slice none 0 0), (.int .i64 0), (.int .i64 0)] [(0, (.bool true)), (2, v7_2)]) fun v8_3 =>
    bindV (boxA 59 v8_3) fun v9_4 =>
    bindV (ret v9_4) fun v2_5 =>
    bindV (ret (.int .i64 0)) fun v3_6 =>
    ret (.tuple #[v2_5, v3_6]))

theorem R14.eq (call : FuncId → List Value → AM Value) (k : Nat) (v0_in : Value) : funcA Try.prog call k 14 [v0_in] = R14.top call k v0_in := by kernel_rfl

/-! ### 15: (*aqueduct/table.Table).Add (2 arguments) -/
noncomputable def R15.j_27 (call : FuncId → List Value → AM Value) (k : Nat) : AM Value :=
  bindV (ret (.int .i64 0)) fun v4_26 =>
    ret v4_26

noncomputable def R15.top (call : FuncId → List Value → AM Value) (k : Nat) (v0_in : Value) (v1_in : Value) : AM Value :=
  bindV (boxA 23 v1_in) fun v3_0 =>
    bindV (ret (.int .i64 0)) fun v4_1 =>
    bindV (ret v0_in) fun v6_56 =>
    bindV (call 28 [v6_56]) fun v7_57 =>
    condA v7_57 (bindV (ret (.int .i64 7)) fun v4_58 =>
    ret v4_58)
    (bindV (fieldAddrA 2 v3_0) fun v8_2 =>
    bindV (storeA 1 v8_2 (.bool false)) fun _ =>
    bindV (fieldAddrA 0 v3_0) fun v9_3 =>
    bindV (loadA none v9_3) fun v10_4 =>
    bindS fun s_5 =>
    bindV (call 29 [v10_4]) fun v11_6 =>
    bindV (fieldAddrA 1 v3_0) fun v12_7 =>
    bindV (loadA none v12_7) fun v13_8 =>
    thereV [s_5] (loadA none v12_7) v13_8 (
    bindV (call 29 [v13_8]) fun v14_10 =>
    bindV (fieldAddrA 0 v3_0) fun v15_11 =>
    bindV (storeA 1 v15_11 v11_6) fun _ =>
    bindV (fieldAddrA 1 v3_0) fun v16_13 =>
    bindV (storeA 1 v16_13 v14_10) fun _ =>
    bindV (loadA (some 3) v3_0) fun v17_15 =>
    bindV (call 12 [v17_15]) fun v18_16 =>
    bindV (ret v18_16) fun v5_17 =>
    bindV (ret v0_in) fun v19_18 =>
    bindV (ret v0_in) fun v20_19 =>
    bindV (nilCheckA v20_19) fun v21_20 =>
    bindV (fieldAddrA 2 v21_20) fun v22_21 =>
    bindV (loadA none v22_21) fun v23_22 =>
    bindV (ret v5_17) fun v24_23 =>
    bindV (binA Try.prog .sub 3 v23_22 v24_23) fun v25_24 =>
    bindV (call 30 [v19_18, v25_24]) fun v26_25 =>
    bindV (ret v5_17) fun v27_28 =>
    bindV (ret v0_in) fun v28_29 =>
    bindV (nilCheckA v28_29) fun v29_30 =>
    bindV (fieldAddrA 2 v29_30) fun v30_31 =>
    bindV (loadA none v30_31) fun v31_32 =>
    bindV (binA Try.prog .leq 3 v27_28 v31_32) fun v32_33 =>
    condA v32_33 (bindV (ret v0_in) fun v33_34 =>
    bindV (ret v0_in) fun v34_35 =>
    bindV (nilCheckA v34_35) fun v35_36 =>
    bindV (fieldAddrA 1 v35_36) fun v36_37 =>
    bindV (loadA none v36_37) fun v37_38 =>
    bindV (loadA (some 3) v3_0) fun v38_39 =>
    bindV (buildSliceA 23 3 1 [(.string ⟨#[]⟩), (.string ⟨#[]⟩), (.bool false)] [(0, v38_39)]) fun v39_41 =>
    hereV [((loadA none v36_37 : AM Value), (v37_38 : Value))] (
    bindV (appendA 23 3 40 v37_38 v39_41) fun v40_43 =>
    bindV (nilCheckA v33_34) fun v41_44 =>
    bindV (fieldAddrA 1 v41_44) fun v42_45 =>
    bindV (storeA 1 v42_45 v40_43) fun _ =>
    bindV (ret v0_in) fun v43_47 =>
    bindV (nilCheckA v43_47) fun v44_48 =>
    bindV (fieldAddrA 3 v44_48) fun v45_49 =>
    bindV (loadA none v45_49) fun v46_50 =>
    bindV (ret v5_17) fun v47_51 =>
    bindV (binA Try.prog .add 3 v46_50 v47_51) fun v48_52 =>
    bindV (nilCheckA v43_47) fun v49_53 =>
    bindV (fieldAddrA 3 v49_53) fun v50_54 =>
    bindV (storeA 1 v50_54 v48_52) fun _ =>
    R15.j_27 call k))
    (R15.j_27 call k)))

theorem R15.eq (call : FuncId → List Value → AM Value) (k : Nat) (v0_in : Value) (v1_in : Value) : funcA Try.prog call k 15 [v0_in, v1_in] = R15.top call k v0_in v1_in := by kernel_rfl

/-! ### 16: (*aqueduct/table.Table).Get (2 arguments) -/
noncomputable def R16.top (call : FuncId → List Value → AM Value) (k : Nat) (v0_in : Value) (v1_in : Value) : AM Value :=
  bindV (newA [(.string ⟨#[]⟩), (.string ⟨#[]⟩), (.bool false)] 23) fun v4_0 =>
    bindV (ret (.int .i64 0)) fun v5_1 =>
    bindV (ret v0_in) fun v7_20 =>
    bindV (call 28 [v7_20]) fun v8_21 =>
    bindV (ret v8_21) fun v6_22 =>
    condA v6_22 (bindV (buildA [(0, 1), (1, 1), (2, 1)] [(.string ⟨#[]⟩), (.string ⟨#[]⟩), (.bool false)] []) fun v9_23 =>
    bindV (storeA 3 v4_0 v9_23) fun _ =>
    bindV (ret (.int .i64 7)) fun v5_24 =>
    bindV (loadA (some 3) v4_0) fun v4_25 =>
    ret (.tuple #[v4_25, v5_24]))
    (bindV (ret v1_in) fun v11_26 =>
    bindV (binA Try.prog .leq 3 v11_26 (.int .i64 61)) fun v12_27 =>
    bindV (ret v12_27) fun v10_28 =>
    condA v10_28 (bindV (ret v1_in) fun v13_29 =>
    bindV (call 9 [v13_29]) fun v14_30 =>
    bindV (extractA v14_30 0) fun v15_31 =>
    bindV (extractA v14_30 1) fun v16_32 =>
    bindV (storeA 3 v4_0 v15_31) fun _ =>
    bindV (ret v16_32) fun v5_33 =>
    bindV (loadA (some 3) v4_0) fun v4_34 =>
    ret (.tuple #[v4_34, v5_33]))
    (bindV (ret v1_in) fun v18_35 =>
    bindV (ret v0_in) fun v19_36 =>
    bindV (nilCheckA v19_36) fun v20_37 =>
    bindV (fieldAddrA 1 v20_37) fun v21_38 =>
    bindV (loadA none v21_38) fun v22_39 =>
    bindV (lenA v22_39) fun v23_40 =>
    bindV (binA Try.prog .add 3 (.int .i64 61) v23_40) fun v24_41 =>
    bindV (binA Try.prog .gtr 3 v18_35 v24_41) fun v25_42 =>
    bindV (ret v25_42) fun v17_43 =>
    condA v17_43 (bindV (buildA [(0, 1), (1, 1), (2, 1)] [(.string ⟨#[]⟩), (.string ⟨#[]⟩), (.bool false)] []) fun v26_44 =>
    bindV (storeA 3 v4_0 v26_44) fun _ =>
    bindV (ret (.int .i64 50)) fun v5_45 =>
    bindV (loadA (some 3) v4_0) fun v4_46 =>
    ret (.tuple #[v4_46, v5_45]))
    (bindV (ret v0_in) fun v27_2 =>
    bindV (nilCheckA v27_2) fun v28_3 =>
    bindV (fieldAddrA 1 v28_3) fun v29_4 =>
    bindV (loadA none v29_4) fun v30_5 =>
    bindV (ret v0_in) fun v31_6 =>
    bindV (nilCheckA v31_6) fun v32_7 =>
    bindV (fieldAddrA 1 v32_7) fun v33_8 =>
    bindV (loadA none v33_8) fun v34_9 =>
    bindV (lenA v34_9) fun v35_10 =>
    bindV (binA Try.prog .add 3 (.int .i64 61) v35_10) fun v36_11 =>
    bindV (ret v1_in) fun v37_12 =>
    bindV (binA Try.prog .sub 3 v36_11 v37_12) fun v38_13 =>
    bindV (indexAddrA 3 v30_5 v38_13) fun v39_14 =>
    bindV (loadA (some 3) v39_14) fun v40_15 =>
    bindV (storeA 3 v4_0 v40_15) fun _ =>
    bindV (ret (.int .i64 0)) fun v5_17 =>
    bindV (loadA (some 3) v4_0) fun v4_18 =>
    ret (.tuple #[v4_18, v5_17]))))

theorem R16.eq (call : FuncId → List Value → AM Value) (k : Nat) (v0_in : Value) (v1_in : Value) : funcA Try.prog call k 16 [v0_in, v1_in] = R16.top call k v0_in v1_in := by kernel_rfl

/-! ### 17: (*aqueduct/table.Table).Len (1 arguments) -/
noncomputable def R17.top (call : FuncId → List Value → AM Value) (k : Nat) (v0_in : Value) : AM Value :=
  bindV (ret (.int .i64 0)) fun v2_0 =>
    bindV (ret v0_in) fun v3_8 =>
    bindV (call 28 [v3_8]) fun v4_9 =>
    condA v4_9 (bindV (ret (.int .i64 0)) fun v2_10 =>
    ret v2_10)
    (bindV (ret v0_in) fun v5_1 =>
    bindV (nilCheckA v5_1) fun v6_2 =>
    bindV (fieldAddrA 1 v6_2) fun v7_3 =>
    bindV (loadA none v7_3) fun v8_4 =>
    bindV (lenA v8_4) fun v9_5 =>
    bindV (ret v9_5) fun v2_6 =>
    ret v2_6)

theorem R17.eq (call : FuncId → List Value → AM Value) (k : Nat) (v0_in : Value) : funcA Try.prog call k 17 [v0_in] = R17.top call k v0_in := by kernel_rfl

/-! ### 18: (*aqueduct/table.Table).Bytes (1 arguments) -/
noncomputable def R18.top (call : FuncId → List Value → AM Value) (k : Nat) (v0_in : Value) : AM Value :=
  bindV (ret (.int .i64 0)) fun v2_0 =>
    bindV (ret v0_in) fun v3_7 =>
    bindV (call 28 [v3_7]) fun v4_8 =>
    condA v4_8 (bindV (ret (.int .i64 0)) fun v2_9 =>
    ret v2_9)
    (bindV (ret v0_in) fun v5_1 =>
    bindV (nilCheckA v5_1) fun v6_2 =>
    bindV (fieldAddrA 3 v6_2) fun v7_3 =>
    bindV (loadA none v7_3) fun v8_4 =>
    bindV (ret v8_4) fun v2_5 =>
    ret v2_5)

theorem R18.eq (call : FuncId → List Value → AM Value) (k : Nat) (v0_in : Value) : funcA Try.prog call k 18 [v0_in] = R18.top call k v0_in := by kernel_rfl

/-! ### 19: (*aqueduct/table.Table).Most (1 arguments) -/
noncomputable def R19.top (call : FuncId → List Value → AM Value) (k : Nat) (v0_in : Value) : AM Value :=
  bindV (ret (.int .i64 0)) fun v2_0 =>
    bindV (ret v0_in) fun v3_7 =>
    bindV (call 28 [v3_7]) fun v4_8 =>
    condA v4_8 (bindV (ret (.int .i64 0)) fun v2_9 =>
    ret v2_9)
    (bindV (ret v0_in) fun v5_1 =>
    bindV (nilCheckA v5_1) fun v6_2 =>
    bindV (fieldAddrA 2 v6_2) fun v7_3 =>
    bindV (loadA none v7_3) fun v8_4 =>
    bindV (ret v8_4) fun v2_5 =>
    ret v2_5)

theorem R19.eq (call : FuncId → List Value → AM Value) (k : Nat) (v0_in : Value) : funcA Try.prog call k 19 [v0_in] = R19.top call k v0_in := by kernel_rfl

/-! ### 20: (*aqueduct/table.Table).Resize (2 arguments) -/
noncomputable def R20.top (call : FuncId → List Value → AM Value) (k : Nat) (v0_in : Value) (v1_in : Value) : AM Value :=
  bindV (ret (.int .i64 0)) fun v4_0 =>
    bindV (ret v0_in) fun v6_10 =>
    bindV (call 28 [v6_10]) fun v7_11 =>
    bindV (ret v7_11) fun v5_12 =>
    condA v5_12 (bindV (ret (.int .i64 7)) fun v4_13 =>
    ret v4_13)
    (bindV (ret v1_in) fun v9_14 =>
    bindV (call 27 [v9_14]) fun v10_15 =>
    bindV (unA .not v10_15) fun v11_16 =>
    bindV (ret v11_16) fun v8_17 =>
    condA v8_17 (bindV (ret (.int .i64 1)) fun v4_18 =>
    ret v4_18)
    (bindV (ret v0_in) fun v12_1 =>
    bindV (ret v1_in) fun v13_2 =>
    bindV (nilCheckA v12_1) fun v14_3 =>
    bindV (fieldAddrA 2 v14_3) fun v15_4 =>
    bindV (storeA 1 v15_4 v13_2) fun _ =>
    bindV (ret v0_in) fun v16_5 =>
    bindV (ret v1_in) fun v17_6 =>
    bindV (call 30 [v16_5, v17_6]) fun v18_7 =>
    bindV (ret (.int .i64 0)) fun v4_8 =>
    ret v4_8))

theorem R20.eq (call : FuncId → List Value → AM Value) (k : Nat) (v0_in : Value) (v1_in : Value) : funcA Try.prog call k 20 [v0_in, v1_in] = R20.top call k v0_in v1_in := by kernel_rfl

/-! ### 21: (*aqueduct/table.Table).Find (2 arguments) -/
noncomputable def R21.b_49 (call : FuncId → List Value → AM Value) (k : Nat) (v0_in : Value) (v34_15 : Value) (v6_4 : Value) (v7_6 : Value) (rec_1_17 : Value → AM Value) (v35_18 : Value) : AM Value :=
  bindV (binA Try.prog .lss 3 v35_18 v34_15) fun v36_19 =>
    condA v36_19 (bindV (ret v35_18) fun v37_23 =>
    bindV (ret v37_23) fun v10_24 =>
    bindV (ret v7_6) fun v38_25 =>
    bindV (ret v0_in) fun v39_26 =>
    bindV (nilCheckA v39_26) fun v40_27 =>
    bindV (fieldAddrA 1 v40_27) fun v41_28 =>
    bindV (loadA none v41_28) fun v42_29 =>
    bindV (ret v0_in) fun v43_30 =>
    bindV (nilCheckA v43_30) fun v44_31 =>
    bindV (fieldAddrA 1 v44_31) fun v45_32 =>
    bindV (loadA none v45_32) fun v46_33 =>
    bindV (lenA v46_33) fun v47_34 =>
    bindV (binA Try.prog .sub 3 v47_34 (.int .i64 1)) fun v48_35 =>
    bindV (ret v10_24) fun v49_36 =>
    bindV (binA Try.prog .sub 3 v48_35 v49_36) fun v50_37 =>
    bindV (indexAddrA 3 v42_29 v50_37) fun v51_38 =>
    bindV (loadA (some 3) v51_38) fun v52_39 =>
    bindV (ret v10_24) fun v53_40 =>
    bindV (binA Try.prog .add 3 (.int .i64 62) v53_40) fun v54_41 =>
    bindV (callA call v38_25 [v52_39, v54_41]) fun v55_43 =>
    condA v55_43 (bindV (ret v10_24) fun v56_44 =>
    bindV (binA Try.prog .add 3 (.int .i64 62) v56_44) fun v57_45 =>
    bindV (ret v57_45) fun v4_46 =>
    bindV (ret (.bool true)) fun v5_47 =>
    ret (.tuple #[v4_46, v5_47]))
    (bindV (binA Try.prog .add 3 v35_18 (.int .i64 1)) fun v58_20 =>
    bindV (ret v58_20) fun v35_21 =>
    rec_1_17 v35_21))
    (bindV (loadA none v6_4) fun v59_7 =>
    bindV (ret v59_7) fun v4_8 =>
    bindV (ret (.bool false)) fun v5_9 =>
    ret (.tuple #[v4_8, v5_9]))

noncomputable def R21.b_75 (call : FuncId → List Value → AM Value) (k : Nat) (v0_in : Value) (v15_51 : Value) (v16_52 : Value) (v6_4 : Value) (v7_6 : Value) (rec_1_54 : Value → AM Value) (v17_55 : Value) : AM Value :=
  bindV (binA Try.prog .lss 3 v17_55 v16_52) fun v18_56 =>
    condA v18_56 (bindV (ret v17_55) fun v19_60 =>
    bindV (indexAddrA 3 v15_51 v17_55) fun v20_61 =>
    bindV (loadA (some 3) v20_61) fun v21_62 =>
    bindV (newA [(.string ⟨#[]⟩), (.string ⟨#[]⟩), (.bool false)] 23) fun v9_63 =>
    bindV (ret v19_60) fun v8_64 =>
    bindV (storeA 3 v9_63 v21_62) fun _ =>
    bindV (ret v7_6) fun v22_65 =>
    bindV (loadA (some 3) v9_63) fun v23_66 =>
    bindV (ret v8_64) fun v24_67 =>
    bindV (binA Try.prog .add 3 v24_67 (.int .i64 1)) fun v25_68 =>
    bindV (callA call v22_65 [v23_66, v25_68]) fun v26_69 =>
    condA v26_69 (bindV (ret v8_64) fun v27_70 =>
    bindV (binA Try.prog .add 3 v27_70 (.int .i64 1)) fun v28_71 =>
    bindV (ret v28_71) fun v4_72 =>
    bindV (ret (.bool true)) fun v5_73 =>
    ret (.tuple #[v4_72, v5_73]))
    (bindV (binA Try.prog .add 3 v17_55 (.int .i64 1)) fun v29_57 =>
    bindV (ret v29_57) fun v17_58 =>
    rec_1_54 v17_58))
    (bindV (ret v0_in) fun v30_11 =>
    bindV (nilCheckA v30_11) fun v31_12 =>
    bindV (fieldAddrA 1 v31_12) fun v32_13 =>
    bindV (loadA none v32_13) fun v33_14 =>
    bindV (lenA v33_14) fun v34_15 =>
    bindV (ret (.int .i64 0)) fun v35_16 =>
    loop1 (R21.b_49 call k v0_in v34_15 v6_4 v7_6) k v35_16)

noncomputable def R21.top (call : FuncId → List Value → AM Value) (k : Nat) (v0_in : Value) (v1_in : Value) : AM Value :=
  bindV (boxA 23 v1_in) fun v3_0 =>
    bindV (ret (.int .i64 0)) fun v4_1 =>
    bindV (ret (.bool false)) fun v5_2 =>
    bindV (ret v0_in) fun v11_77 =>
    bindV (call 28 [v11_77]) fun v12_78 =>
    condA v12_78 (bindV (ret (.int .i64 0)) fun v4_79 =>
    bindV (ret (.bool false)) fun v5_80 =>
    ret (.tuple #[v4_79, v5_80]))
    (bindV (fieldAddrA 2 v3_0) fun v13_3 =>
    bindV (storeA 1 v13_3 (.bool false)) fun _ =>
    bindV (newA [(.int .i64 0)] 3) fun v6_4 =>
    bindV (storeA 1 v6_4 (.int .i64 0)) fun _ =>
    bindV (ret (.func (.func 31) #[] #[v6_4, v3_0])) fun v14_5 =>
    bindV (ret v14_5) fun v7_6 =>
    bindV (call 25 []) fun v15_51 =>
    bindV (lenA v15_51) fun v16_52 =>
    bindV (ret (.int .i64 0)) fun v17_53 =>
    loop1 (R21.b_75 call k v0_in v15_51 v16_52 v6_4 v7_6) k v17_53)

theorem R21.eq (call : FuncId → List Value → AM Value) (k : Nat) (v0_in : Value) (v1_in : Value) : funcA Try.prog call k 21 [v0_in, v1_in] = R21.top call k v0_in v1_in := by kernel_rfl

/-! ### 22: aqueduct/aqueductref05.New (1 arguments) -/
noncomputable def R22.g_17 (call : FuncId → List Value → AM Value) (k : Nat) (v0_in : Value) (v6_14 : Value) (v8_15 : Value) : AM Value :=
  bindV (pickA v6_14 (.bool true) v8_15) fun v9_16 =>
    condA v9_16 (bindV (ret (.pointer none)) fun v2_9 =>
    bindV (ret (.int .i64 1)) fun v3_10 =>
    ret (.tuple #[v2_9, v3_10]))
    (bindV (ret v0_in) fun v10_2 =>
    bindV (buildA [(0, 1), (1, 1)] [(.int .i64 0), (.slice none 0 0)] [(0, v10_2)]) fun v11_3 =>
    bindV (boxA 64 v11_3) fun v12_4 =>
    bindV (ret v12_4) fun v2_5 =>
    bindV (ret (.int .i64 0)) fun v3_6 =>
    ret (.tuple #[v2_5, v3_6]))

noncomputable def R22.top (call : FuncId → List Value → AM Value) (k : Nat) (v0_in : Value) : AM Value :=
  bindV (ret (.pointer none)) fun v2_0 =>
    bindV (ret (.int .i64 0)) fun v3_1 =>
    bindV (ret v0_in) fun v4_12 =>
    bindV (binA Try.prog .lss 3 v4_12 (.int .i64 0)) fun v5_13 =>
    bindV (ret v5_13) fun v6_14 =>
    guardA false v6_14 (bindV (ret v0_in) fun v7_18 =>
    bindV (binA Try.prog .gtr 3 v7_18 (.int .i64 65536)) fun v8_19 =>
    R22.g_17 call k v0_in v6_14 v8_19)
    (R22.g_17 call k v0_in v6_14 (.tuple #[]))

theorem R22.eq (call : FuncId → List Value → AM Value) (k : Nat) (v0_in : Value) : funcA Try.prog call k 22 [v0_in] = R22.top call k v0_in := by kernel_rfl

/-! ### 23: aqueduct/aqueductlaw05.play (3 arguments) -/
noncomputable def R23.g_29 (call : FuncId → List Value → AM Value) (k : Nat) (v80_25 : Value) (v83_26 : Value) : AM Value :=
  bindV (pickA v80_25 v83_26 (.bool false)) fun v84_27 =>
    bindV (ret v84_27) fun v6_28 =>
    ret v6_28

noncomputable def R23.g_91 (call : FuncId → List Value → AM Value) (k : Nat) (v58_87 : Value) (v61_88 : Value) : AM Value :=
  bindV (pickA v58_87 v61_88 (.bool false)) fun v62_89 =>
    bindV (ret v62_89) fun v6_90 =>
    ret v6_90

noncomputable def R23.top (call : FuncId → List Value → AM Value) (k : Nat) (v0_in : Value) (v1_in : Value) (v2_in : Value) : AM Value :=
  bindV (boxA 43 v2_in) fun v5_0 =>
    bindV (ret (.bool false)) fun v6_1 =>
    bindV (fieldAddrA 0 v5_0) fun v15_34 =>
    bindV (loadA none v15_34) fun v16_35 =>
    bindV (binA Try.prog .eql 3 v16_35 (.int .i64 0)) fun v18_36 =>
    bindV (ret v18_36) fun v17_37 =>
    condA v17_37 (bindV (ret v1_in) fun v19_38 =>
    bindV (fieldAddrA 2 v5_0) fun v20_39 =>
    bindV (loadA (some 3) v20_39) fun v21_40 =>
    bindV (call 32 [v19_38, v21_40]) fun v22_41 =>
    bindV (ret v0_in) fun v23_42 =>
    bindV (fieldAddrA 2 v5_0) fun v24_43 =>
    bindV (loadA (some 3) v24_43) fun v25_44 =>
    bindV (call 15 [v23_42, v25_44]) fun v26_45 =>
    bindV (binA Try.prog .eql 24 v26_45 (.int .i64 0)) fun v27_46 =>
    bindV (ret v27_46) fun v6_47 =>
    ret v6_47)
    (bindV (binA Try.prog .eql 3 v16_35 (.int .i64 1)) fun v29_48 =>
    bindV (ret v29_48) fun v28_49 =>
    condA v28_49 (bindV (ret v0_in) fun v30_50 =>
    bindV (fieldAddrA 1 v5_0) fun v31_51 =>
    bindV (loadA none v31_51) fun v32_52 =>
    bindS fun s_53 =>
    bindV (call 20 [v30_50, v32_52]) fun v33_54 =>
    bindV (ret v1_in) fun v34_55 =>
    bindV (fieldAddrA 1 v5_0) fun v35_56 =>
    bindV (loadA none v35_56) fun v36_57 =>
    thereV [s_53] (loadA none v35_56) v36_57 (
    bindV (call 33 [v34_55, v36_57]) fun v37_59 =>
    bindV (binA Try.prog .eql 3 v33_54 v37_59) fun v38_60 =>
    bindV (ret v38_60) fun v6_61 =>
    ret v6_61))
    (bindV (binA Try.prog .eql 3 v16_35 (.int .i64 2)) fun v40_62 =>
    bindV (ret v40_62) fun v39_63 =>
    condA v39_63 (bindV (ret v0_in) fun v42_64 =>
    bindV (fieldAddrA 2 v5_0) fun v43_65 =>
    bindV (loadA (some 3) v43_65) fun v44_66 =>
    bindV (call 21 [v42_64, v44_66]) fun v45_67 =>
    bindV (ret v45_67) fun v41_68 =>
    bindV (extractA v41_68 0) fun v46_69 =>
    bindV (extractA v41_68 1) fun v47_70 =>
    bindV (ret v46_69) fun v7_71 =>
    bindV (ret v47_70) fun v8_72 =>
    bindV (ret v1_in) fun v49_73 =>
    bindV (fieldAddrA 2 v5_0) fun v50_74 =>
    bindV (loadA (some 3) v50_74) fun v51_75 =>
    bindV (call 34 [v49_73, v51_75]) fun v52_76 =>
    bindV (ret v52_76) fun v48_77 =>
    bindV (extractA v48_77 0) fun v53_78 =>
    bindV (extractA v48_77 1) fun v54_79 =>
    bindV (ret v53_78) fun v9_80 =>
    bindV (ret v54_79) fun v10_81 =>
    bindV (ret v7_71) fun v55_84 =>
    bindV (ret v9_80) fun v56_85 =>
    bindV (binA Try.prog .eql 3 v55_84 v56_85) fun v57_86 =>
    bindV (ret v57_86) fun v58_87 =>
    guardA true v58_87 (bindV (ret v8_72) fun v59_92 =>
    bindV (ret v10_81) fun v60_93 =>
    bindV (binA Try.prog .eql 4 v59_92 v60_93) fun v61_94 =>
    R23.g_91 call k v58_87 v61_94)
    (R23.g_91 call k v58_87 (.tuple #[])))
    (bindV (ret v0_in) fun v64_2 =>
    bindV (fieldAddrA 1 v5_0) fun v65_3 =>
    bindV (loadA none v65_3) fun v66_4 =>
    bindV (call 16 [v64_2, v66_4]) fun v67_5 =>
    bindV (ret v67_5) fun v63_6 =>
    bindV (extractA v63_6 0) fun v68_7 =>
    bindV (extractA v63_6 1) fun v69_8 =>
    bindV (newA [(.string ⟨#[]⟩), (.string ⟨#[]⟩), (.bool false)] 23) fun v11_9 =>
    bindV (storeA 3 v11_9 v68_7) fun _ =>
    bindV (ret v69_8) fun v12_10 =>
    bindV (ret v1_in) fun v71_11 =>
    bindV (fieldAddrA 1 v5_0) fun v72_12 =>
    bindV (loadA none v72_12) fun v73_13 =>
    bindV (call 35 [v71_11, v73_13]) fun v74_14 =>
    bindV (ret v74_14) fun v70_15 =>
    bindV (extractA v70_15 0) fun v75_16 =>
    bindV (extractA v70_15 1) fun v76_17 =>
    bindV (newA [(.string ⟨#[]⟩), (.string ⟨#[]⟩), (.bool false)] 23) fun v13_18 =>
    bindV (storeA 3 v13_18 v75_16) fun _ =>
    bindV (ret v76_17) fun v14_19 =>
    bindV (loadA (some 3) v11_9) fun v77_22 =>
    bindV (loadA (some 3) v13_18) fun v78_23 =>
    bindV (binA Try.prog .eql 23 v77_22 v78_23) fun v79_24 =>
    bindV (ret v79_24) fun v80_25 =>
    guardA true v80_25 (bindV (ret v12_10) fun v81_30 =>
    bindV (ret v14_19) fun v82_31 =>
    bindV (binA Try.prog .eql 3 v81_30 v82_31) fun v83_32 =>
    R23.g_29 call k v80_25 v83_32)
    (R23.g_29 call k v80_25 (.tuple #[])))))

theorem R23.eq (call : FuncId → List Value → AM Value) (k : Nat) (v0_in : Value) (v1_in : Value) (v2_in : Value) : funcA Try.prog call k 23 [v0_in, v1_in, v2_in] = R23.top call k v0_in v1_in v2_in := by kernel_rfl

/-! ### 24: aqueduct/aqueductlaw05.same (2 arguments) -/
noncomputable def R24.d_4 (call : FuncId → List Value → AM Value) (k : Nat) (v4_3 : Value) : AM Value :=
  ret v4_3

noncomputable def R24.g_85 (call : FuncId → List Value → AM Value) (k : Nat) (rec_1_52 : Value → AM Value) (v36_82 : Value) (v5_53 : Value) (v39_83 : Value) : AM Value :=
  bindV (pickA v36_82 (.bool true) v39_83) fun v40_84 =>
    condA v40_84 (bindV (ret (.bool false)) fun v4_77 =>
    ret v4_77)
    (bindV (ret v5_53) fun v17_54 =>
    bindV (binA Try.prog .add 3 v17_54 (.int .i64 1)) fun v18_55 =>
    bindV (ret v18_55) fun v5_56 =>
    rec_1_52 v5_56)

noncomputable def R24.b_97 (call : FuncId → List Value → AM Value) (k : Nat) (v0_in : Value) (v1_in : Value) (rec_1_52 : Value → AM Value) (v5_53 : Value) : AM Value :=
  bindV (ret v5_53) fun v10_90 =>
    bindV (ret v1_in) fun v11_91 =>
    bindV (nilCheckA v11_91) fun v12_92 =>
    bindV (fieldAddrA 1 v12_92) fun v13_93 =>
    bindV (loadA none v13_93) fun v14_94 =>
    bindV (lenA v14_94) fun v15_95 =>
    bindV (binA Try.prog .leq 3 v10_90 v15_95) fun v16_96 =>
    condA v16_96 (bindV (ret v0_in) fun v20_58 =>
    bindV (ret v5_53) fun v21_59 =>
    bindV (binA Try.prog .add 3 (.int .i64 62) v21_59) fun v22_60 =>
    bindV (call 16 [v20_58, v22_60]) fun v23_61 =>
    bindV (ret v23_61) fun v19_62 =>
    bindV (extractA v19_62 0) fun v24_63 =>
    bindV (extractA v19_62 1) fun v25_64 =>
    bindV (newA [(.string ⟨#[]⟩), (.string ⟨#[]⟩), (.bool false)] 23) fun v6_65 =>
    bindV (storeA 3 v6_65 v24_63) fun _ =>
    bindV (ret v25_64) fun v7_66 =>
    bindV (ret v1_in) fun v27_67 =>
    bindV (ret v5_53) fun v28_68 =>
    bindV (binA Try.prog .add 3 (.int .i64 62) v28_68) fun v29_69 =>
    bindV (call 35 [v27_67, v29_69]) fun v30_70 =>
    bindV (ret v30_70) fun v26_71 =>
    bindV (extractA v26_71 0) fun v31_72 =>
    bindV (extractA v26_71 1) fun v32_73 =>
    bindV (newA [(.string ⟨#[]⟩), (.string ⟨#[]⟩), (.bool false)] 23) fun v8_74 =>
    bindV (storeA 3 v8_74 v31_72) fun _ =>
    bindV (ret v32_73) fun v9_75 =>
    bindV (loadA (some 3) v6_65) fun v33_79 =>
    bindV (loadA (some 3) v8_74) fun v34_80 =>
    bindV (binA Try.prog .neq 23 v33_79 v34_80) fun v35_81 =>
    bindV (ret v35_81) fun v36_82 =>
    guardA false v36_82 (bindV (ret v7_66) fun v37_86 =>
    bindV (ret v9_75) fun v38_87 =>
    bindV (binA Try.prog .neq 3 v37_86 v38_87) fun v39_88 =>
    R24.g_85 call k rec_1_52 v36_82 v5_53 v39_88)
    (R24.g_85 call k rec_1_52 v36_82 v5_53 (.tuple #[])))
    (bindV (ret v0_in) fun v41_5 =>
    bindS fun s_6 =>
    bindV (call 17 [v41_5]) fun v42_7 =>
    bindV (ret v1_in) fun v43_8 =>
    bindV (nilCheckA v43_8) fun v44_9 =>
    bindV (fieldAddrA 1 v44_9) fun v45_10 =>
    bindV (loadA none v45_10) fun v46_11 =>
    thereV [s_6] (loadA none v45_10) v46_11 (
    bindV (lenA v46_11) fun v47_12 =>
    bindV (binA Try.prog .eql 3 v42_7 v47_12) fun v48_13 =>
    bindV (ret v48_13) fun v49_14 =>
    guardA true v49_14 (bindV (ret v0_in) fun v50_15 =>
    bindV (call 18 [v50_15]) fun v51_17 =>
    bindV (ret v1_in) fun v52_18 =>
    bindV (call 36 [v52_18]) fun v53_20 =>
    bindV (binA Try.prog .eql 3 v51_17 v53_20) fun v54_21 =>
    bindV (pickA v49_14 v54_21 (.bool false)) fun v55_22 =>
    bindV (ret v55_22) fun v56_23 =>
    guardA true v56_23 (bindV (ret v0_in) fun v57_24 =>
    bindS fun s_25 =>
    bindV (call 19 [v57_24]) fun v58_26 =>
    bindV (ret v1_in) fun v59_27 =>
    bindV (nilCheckA v59_27) fun v60_28 =>
    bindV (fieldAddrA 0 v60_28) fun v61_29 =>
    bindV (loadA none v61_29) fun v62_30 =>
    thereV [s_25] (loadA none v61_29) v62_30 (
    bindV (binA Try.prog .eql 3 v58_26 v62_30) fun v63_31 =>
    bindV (pickA v56_23 v63_31 (.bool false)) fun v64_32 =>
    bindV (ret v64_32) fun v4_33 =>
    R24.d_4 call k v4_33))
    (bindV (pickA v56_23 (.tuple #[]) (.bool false)) fun v64_34 =>
    bindV (ret v64_34) fun v4_35 =>
    R24.d_4 call k v4_35))
    (bindV (pickA v49_14 (.tuple #[]) (.bool false)) fun v55_36 =>
    bindV (ret v55_36) fun v56_37 =>
    guardA true v56_37 (bindV (ret v0_in) fun v57_38 =>
    bindS fun s_39 =>
    bindV (call 19 [v57_38]) fun v58_40 =>
    bindV (ret v1_in) fun v59_41 =>
    bindV (nilCheckA v59_41) fun v60_42 =>
    bindV (fieldAddrA 0 v60_42) fun v61_43 =>
    bindV (loadA none v61_43) fun v62_44 =>
    thereV [s_39] (loadA none v61_43) v62_44 (
    bindV (binA Try.prog .eql 3 v58_40 v62_44) fun v63_45 =>
    bindV (pickA v56_37 v63_45 (.bool false)) fun v64_46 =>
    bindV (ret v64_46) fun v4_47 =>
    R24.d_4 call k v4_47))
    (bindV (pickA v56_37 (.tuple #[]) (.bool false)) fun v64_48 =>
    bindV (ret v64_48) fun v4_49 =>
    R24.d_4 call k v4_49))))

noncomputable def R24.top (call : FuncId → List Value → AM Value) (k : Nat) (v0_in : Value) (v1_in : Value) : AM Value :=
  bindV (ret (.bool false)) fun v4_0 =>
    bindV (ret (.int .i64 0)) fun v5_51 =>
    loop1 (R24.b_97 call k v0_in v1_in) k v5_51

theorem R24.eq (call : FuncId → List Value → AM Value) (k : Nat) (v0_in : Value) (v1_in : Value) : funcA Try.prog call k 24 [v0_in, v1_in] = R24.top call k v0_in v1_in := by kernel_rfl

/-! ### 25: aqueduct/table.lines (0 arguments) -/
noncomputable def R25.j_16 (call : FuncId → List Value → AM Value) (k : Nat) (rec_2_9 : Value → Value → AM Value) (v8_11 : Value) (v1_13 : Value) : AM Value :=
  bindV (binA Try.prog .add 3 v8_11 (.int .i64 1)) fun v30_14 =>
    bindV (ret v30_14) fun v8_15 =>
    rec_2_9 v1_13 v8_15

noncomputable def R25.b_46 (call : FuncId → List Value → AM Value) (k : Nat) (rec_2_9 : Value → Value → AM Value) (v12_20 : Value) (v3_18 : Value) (v8_11 : Value) (rec_1_21 : Value → AM Value) (v1_22 : Value) : AM Value :=
  bindV (nextA v12_20) fun v13_23 =>
    bindV (extractA v13_23 0) fun v14_24 =>
    condA v14_24 (bindV (extractA v13_23 1) fun v15_25 =>
    bindV (extractA v13_23 2) fun v16_26 =>
    bindV (ret v15_25) fun v4_27 =>
    bindV (ret v16_26) fun v5_28 =>
    bindV (ret v5_28) fun v17_29 =>
    bindV (binA Try.prog .eql 21 v17_29 (.int .i32 61)) fun v18_30 =>
    condA v18_30 (bindV (ret v1_22) fun v19_31 =>
    bindV (ret v3_18) fun v20_32 =>
    bindV (ret v4_27) fun v21_33 =>
    bindV (sliceStrA v20_32 none (some v21_33)) fun v22_34 =>
    bindV (ret v3_18) fun v23_35 =>
    bindV (ret v4_27) fun v24_36 =>
    bindV (binA Try.prog .add 3 v24_36 (.int .i64 1)) fun v25_37 =>
    bindV (sliceStrA v23_35 (some v25_37) none) fun v26_38 =>
    bindV (buildA [(0, 1), (1, 1), (2, 1)] [(.string ⟨#[]⟩), (.string ⟨#[]⟩), (.bool false)] [(0, v22_34), (1, v26_38)]) fun v27_39 =>
    bindV (buildSliceA 23 3 1 [(.string ⟨#[]⟩), (.string ⟨#[]⟩), (.bool false)] [(0, v27_39)]) fun v28_41 =>
    bindV (appendA 23 3 40 v19_31 v28_41) fun v29_43 =>
    bindV (ret v29_43) fun v1_44 =>
    R25.j_16 call k rec_2_9 v8_11 v1_44)
    (rec_1_21 v1_22))
    (R25.j_16 call k rec_2_9 v8_11 v1_22)

noncomputable def R25.b_48 (call : FuncId → List Value → AM Value) (k : Nat) (v7_7 : Value) (rec_2_9 : Value → Value → AM Value) (v1_10 : Value) (v8_11 : Value) : AM Value :=
  bindV (binA Try.prog .lss 3 v8_11 (.int .i64 61)) fun v9_12 =>
    condA v9_12 (bindV (indexA 61 1 none v7_7 v8_11) fun v10_17 =>
    bindV (ret v10_17) fun v3_18 =>
    bindV (ret v3_18) fun v11_19 =>
    bindV (rangeA v11_19) fun v12_20 =>
    loop1 (R25.b_46 call k rec_2_9 v12_20 v3_18 v8_11) k v1_10)
    (bindV (ret v1_10) fun v31_4 =>
    bindV (ret v31_4) fun v0_5 =>
    ret v0_5)

noncomputable def R25.top (call : FuncId → List Value → AM Value) (k : Nat) : AM Value :=
  bindV (ret (.slice none 0 0)) fun v0_0 =>
    bindV (makeSliceA 23 3 40 [(.string ⟨#[]⟩), (.string ⟨#[]⟩), (.bool false)] (.int .i64 0) (.int .i64 61)) fun v6_1 =>
    bindV (ret v6_1) fun v1_2 =>
    bindV (call 37 []) fun v7_7 =>
    bindV (ret (.int .i64 0)) fun v8_8 =>
    loop2 (R25.b_48 call k v7_7) k v1_2 v8_8

theorem R25.eq (call : FuncId → List Value → AM Value) (k : Nat) : funcA Try.prog call k 25 [] = R25.top call k := by kernel_rfl

/-! ### 26: aqueduct/aqueductref05.statics (0 arguments) -/
noncomputable def R26.top (call : FuncId → List Value → AM Value) (k : Nat) : AM Value :=
  bindV (ret (.slice none 0 0)) fun v0_0 =>
    bindV (buildSliceA 9 1 61 [(.string ⟨#[]⟩)] [(0, (.string ⟨#[58, 97, 117, 116, 104, 111, 114, 105, 116, 121, 61]⟩)), (1, (.string ⟨#[58, 109, 101, 116, 104, 111, 100, 61, 71, 69, 84]⟩)), (2, (.string ⟨#[58, 109, 101, 116, 104, 111, 100, 61, 80, 79, 83, 84]⟩)), (3, (.string ⟨#[58, 112, 97, 116, 104, 61, 47]⟩)), (4, (.string ⟨#[58, 112, 97, 116, 104, 61, 47, 105, 110, 100, 101, 120, 46, 104, 116, 109, 108]⟩)), (5, (.string ⟨#[58, 115, 99, 104, 101, 109, 101, 61, 104, 116, 116, 112]⟩)), (6, (.string ⟨#[58, 115, 99, 104, 101, 109, 101, 61, 104, 116, 116, 112, 115]⟩)), (7, (.string ⟨#[58, 115, 116, 97, 116, 117, 115, 61, 50, 48, 48]⟩)), (8, (.string ⟨#[58, 115, 116, 97, 116, 117, 115, 61, 50, 48, 52]⟩)), (9, (.string ⟨#[58, 115, 116, 97, 116, 117, 115, 61, 50, 48, 54]⟩)), (10, (.string ⟨#[58, 115, 116, 97, 116, 117, 115, 61, 51, 48, 52]⟩)), (11, (.string ⟨#[58, 115, 116, 97, 116, 117, 115, 61, 52, 48, 48]⟩)), (12, (.string ⟨#[58, 115, 116, 97, 116, 117, 115, 61, 52, 48, 52]⟩)), (13, (.string ⟨#[58, 115, 116, 97, 116, 117, 115, 61, 53, 48, 48]⟩)), (14, (.string ⟨#[97, 99, 99, 101, 112, 116, 45, 99, 104, 97, 114, 115, 101, 116, 61]⟩)), (15, (.string ⟨#[97, 99, 99, 101, 112, 116, 45, 101, 110, 99, 111, 100, 105, 110, 103, 61, 103, 122, 105, 112, 44, 32, 100, 101, 102, 108, 97, 116, 101]⟩)), (16, (.string ⟨#[97, 99, 99, 101, 112, 116, 45, 108, 97, 110, 103, 117, 97, 103, 101, 61]⟩)), (17, (.string ⟨#[97, 99, 99, 101, 112, 116, 45, 114, 97, 110, 103, 101, 115, 61]⟩)), (18, (.string ⟨#[97, 99, 99, 101, 112, 116, 61]⟩)), (19, (.string ⟨#[97, 99, 99, 101, 115, 115, 45, 99, 111, 110, 116, 114, 111, 108, 45, 97, 108, 108, 111, 119, 45, 111, 114, 105, 103, 105, 110, 61]⟩)), (20, (.string ⟨#[97, 103, 101, 61]⟩)), (21, (.string ⟨#[97, 108, 108, 111, 119, 61]⟩)), (22, (.string ⟨#[97, 117, 116, 104, 111, 114, 105, 122, 97, 116, 105, 111, 110, 61]⟩)), (23, (.string ⟨#[99, 97, 99, 104, 101, 45, 99, 111, 110, 116, 114, 111, 108, 61]⟩)), (24, (.string ⟨#[99, 111, 110, 116, 101, 110, 116, 45, 100, 105, 115, 112, 111, 115, 105, 116, 105, 111, 110, 61]⟩)), (25, (.string ⟨#[99, 111, 110, 116, 101, 110, 116, 45, 101, 110, 99, 111, 100, 105, 110, 103, 61]⟩)), (26, (.string ⟨#[99, 111, 110, 116, 101, 110, 116, 45, 108, 97, 110, 103, 117, 97, 103, 101, 61]⟩)), (27, (.string ⟨#[99, 111, 110, 116, 101, 110, 116, 45, 108, 101, 110, 103, 116, 104, 61]⟩)), (28, (.string ⟨#[99, 111, 110, 116, 101, 110, 116, 45, 108, 111, 99, 97, 116, 105, 111, 110, 61]⟩)), (29, (.string ⟨#[99, 111, 110, 116, 101, 110, 116, 45, 114, 97, 110, 103, 101, 61]⟩)), (30, (.string ⟨#[99, 111, 110, 116, 101, 110, 116, 45, 116, 121, 112, 101, 61]⟩)), (31, (.string ⟨#[99, 111, 111, 107, 105, 101, 61]⟩)), (32, (.string ⟨#[100, 97, 116, 101, 61]⟩)), (33, (.string ⟨#[101, 116, 97, 103, 61]⟩)), (34, (.string ⟨#[101, 120, 112, 101, 99, 116, 61]⟩)), (35, (.string ⟨#[101, 120, 112, 105, 114, 101, 115, 61]⟩)), (36, (.string ⟨#[102, 114, 111, 109, 61]⟩)), (37, (.string ⟨#[104, 111, 115, 116, 61]⟩)), (38, (.string ⟨#[105, 102, 45, 109, 97, 116, 99, 104, 61]⟩)), (39, (.string ⟨#[105, 102, 45, 109, 111, 100, 105, 102, 105, 101, 100, 45, 115, 105, 110, 99, 101, 61]⟩)), (40, (.string ⟨#[105, 102, 45, 110, 111, 110, 101, 45, 109, 97, 116, 99, 104, 61]⟩)), (41, (.string ⟨#[105, 102, 45, 114, 97, 110, 103, 101, 61]⟩)), (42, (.string ⟨#[105, 102, 45, 117, 110, 109, 111, 100, 105, 102, 105, 101, 100, 45, 115, 105, 110, 99, 101, 61]⟩)), (43, (.string ⟨#[108, 97, 115, 116, 45, 109, 111, 100, 105, 102, 105, 101, 100, 61]⟩)), (44, (.string ⟨#[108, 105, 110, 107, 61]⟩)), (45, (.string ⟨#[108, 111, 99, 97, 116, 105, 111, 110, 61]⟩)), (46, (.string ⟨#[109, 97, 120, 45, 102, 111, 114, 119, 97, 114, 100, 115, 61]⟩)), (47, (.string ⟨#[112, 114, 111, 120, 121, 45, 97, 117, 116, 104, 101, 110, 116, 105, 99, 97, 116, 101, 61]⟩)), (48, (.string ⟨#[112, 114, 111, 120, 121, 45, 97, 117, 116, 104, 111, 114, 105, 122, 97, 116, 105, 111, 110, 61]⟩)), (49, (.string ⟨#[114, 97, 110, 103, 101, 61]⟩)), (50, (.string ⟨#[114, 101, 102, 101, 114, 101, 114, 61]⟩)), (51, (.string ⟨#[114, 101, 102, 114, 101, 115, 104, 61]⟩)), (52, (.string ⟨#[114, 101, 116, 114, 121, 45, 97, 102, 116, 101, 114, 61]⟩)), (53, (.string ⟨#[115, 101, 114, 118, 101, 114, 61]⟩)), (54, (.string ⟨#[115, 101, 116, 45, 99, 111, 111, 107, 105, 101, 61]⟩)), (55, (.string ⟨#[115, 116, 114, 105, 99, 116, 45, 116, 114, 97, 110, 115, 112, 111, 114, 116, 45, 115, 101, 99, 117, 114, 105, 116, 121, 61]⟩)), (56, (.string ⟨#[116, 114, 97, 110, 115, 102, 101, 114, 45, 101, 110, 99, 111, 100, 105, 110, 103, 61]⟩)), (57, (.string ⟨#[117, 115, 101, 114, 45, 97, 103, 101, 110, 116, 61]⟩)), (58, (.string ⟨#[118, 97, 114, 121, 61]⟩)), (59, (.string ⟨#[118, 105, 97, 61]⟩)), (60, (.string ⟨#[119, 119, 119, 45, 97, 117, 116, 104, 101, 110, 116, 105, 99, 97, 116, 101, 61]⟩))]) fun v1_1 =>
    bindV (ret v1_1) fun v0_2 =>
    ret v0_2

theorem R26.eq (call : FuncId → List Value → AM Value) (k : Nat) : funcA Try.prog call k 26 [] = R26.top call k := by kernel_rfl

/-! ### 27: aqueduct/table.may (1 arguments) -/
noncomputable def R27.g_9 (call : FuncId → List Value → AM Value) (k : Nat) (v5_5 : Value) (v7_6 : Value) : AM Value :=
  bindV (pickA v5_5 v7_6 (.bool false)) fun v8_7 =>
    bindV (ret v8_7) fun v2_8 =>
    ret v2_8

noncomputable def R27.top (call : FuncId → List Value → AM Value) (k : Nat) (v0_in : Value) : AM Value :=
  bindV (ret (.bool false)) fun v2_0 =>
    bindV (ret v0_in) fun v3_3 =>
    bindV (binA Try.prog .geq 3 v3_3 (.int .i64 0)) fun v4_4 =>
    bindV (ret v4_4) fun v5_5 =>
    guardA true v5_5 (bindV (ret v0_in) fun v6_10 =>
    bindV (binA Try.prog .leq 3 v6_10 (.int .i64 65536)) fun v7_11 =>
    R27.g_9 call k v5_5 v7_11)
    (R27.g_9 call k v5_5 (.tuple #[]))

theorem R27.eq (call : FuncId → List Value → AM Value) (k : Nat) (v0_in : Value) : funcA Try.prog call k 27 [v0_in] = R27.top call k v0_in := by kernel_rfl

/-! ### 28: (*aqueduct/table.Table).none (1 arguments) -/
noncomputable def R28.g_9 (call : FuncId → List Value → AM Value) (k : Nat) (v5_5 : Value) (v10_6 : Value) : AM Value :=
  bindV (pickA v5_5 (.bool true) v10_6) fun v11_7 =>
    bindV (ret v11_7) fun v2_8 =>
    ret v2_8

noncomputable def R28.top (call : FuncId → List Value → AM Value) (k : Nat) (v0_in : Value) : AM Value :=
  bindV (ret (.bool false)) fun v2_0 =>
    bindV (ret v0_in) fun v3_3 =>
    bindV (binA Try.prog .eql 35 v3_3 (.pointer none)) fun v4_4 =>
    bindV (ret v4_4) fun v5_5 =>
    guardA false v5_5 (bindV (ret v0_in) fun v6_10 =>
    bindV (nilCheckA v6_10) fun v7_11 =>
    bindV (fieldAddrA 0 v7_11) fun v8_12 =>
    bindV (loadA none v8_12) fun v9_13 =>
    bindV (unA .not v9_13) fun v10_14 =>
    R28.g_9 call k v5_5 v10_14)
    (R28.g_9 call k v5_5 (.tuple #[]))

theorem R28.eq (call : FuncId → List Value → AM Value) (k : Nat) (v0_in : Value) : funcA Try.prog call k 28 [v0_in] = R28.top call k v0_in := by kernel_rfl

/-! ### 29: strings.Clone (1 arguments) -/
noncomputable def R29.top (call : FuncId → List Value → AM Value) (k : Nat) (v0_in : Value) : AM Value :=
  bindV (ret (.string ⟨#[]⟩)) fun v2_0 =>
    bindV (ret v0_in) fun v3_1 =>
    bindV (call 38 [v3_1]) fun v4_2 =>
    bindV (ret v4_2) fun v2_3 =>
    ret v2_3

theorem R29.eq (call : FuncId → List Value → AM Value) (k : Nat) (v0_in : Value) : funcA Try.prog call k 29 [v0_in] = R29.top call k v0_in := by kernel_rfl

/-! ### 30: (*aqueduct/table.Table).fall (2 arguments) -/
noncomputable def R30.g_59 (call : FuncId → List Value → AM Value) (k : Nat) (rec_1_24 : Value → AM Value) (v0_in : Value) (v12_56 : Value) (v4_25 : Value) (v18_57 : Value) : AM Value :=
  bindV (pickA v12_56 v18_57 (.bool false)) fun v19_58 =>
    condA v19_58 (bindV (ret v0_in) fun v20_26 =>
    bindV (nilCheckA v20_26) fun v21_27 =>
    bindV (fieldAddrA 3 v21_27) fun v22_28 =>
    bindV (loadA none v22_28) fun v23_29 =>
    bindV (ret v0_in) fun v24_30 =>
    bindV (nilCheckA v24_30) fun v25_31 =>
    bindV (fieldAddrA 1 v25_31) fun v26_32 =>
    bindV (loadA none v26_32) fun v27_33 =>
    bindV (ret v4_25) fun v28_34 =>
    bindV (indexAddrA 3 v27_33 v28_34) fun v29_35 =>
    bindV (loadA (some 3) v29_35) fun v30_36 =>
    bindV (call 12 [v30_36]) fun v31_38 =>
    hereV [((loadA none v22_28 : AM Value), (v23_29 : Value))] (
    bindV (binA Try.prog .sub 3 v23_29 v31_38) fun v32_39 =>
    bindV (nilCheckA v20_26) fun v33_40 =>
    bindV (fieldAddrA 3 v33_40) fun v34_41 =>
    bindV (storeA 1 v34_41 v32_39) fun _ =>
    bindV (ret v4_25) fun v35_43 =>
    bindV (binA Try.prog .add 3 v35_43 (.int .i64 1)) fun v36_44 =>
    bindV (ret v36_44) fun v4_45 =>
    rec_1_24 v4_45))
    (bindV (ret v0_in) fun v37_2 =>
    bindV (ret v0_in) fun v38_3 =>
    bindV (nilCheckA v38_3) fun v39_4 =>
    bindV (fieldAddrA 1 v39_4) fun v40_5 =>
    bindV (loadA none v40_5) fun v41_6 =>
    bindV (ret v0_in) fun v42_7 =>
    bindV (nilCheckA v42_7) fun v43_8 =>
    bindV (fieldAddrA 1 v43_8) fun v44_9 =>
    bindV (loadA none v44_9) fun v45_10 =>
    bindV (ret v0_in) fun v46_11 =>
    bindV (nilCheckA v46_11) fun v47_12 =>
    bindV (fieldAddrA 1 v47_12) fun v48_13 =>
    bindV (loadA none v48_13) fun v49_14 =>
    bindV (ret v4_25) fun v50_15 =>
    bindV (sliceA 3 v49_14 (some v50_15) none) fun v51_16 =>
    bindV (copyA 3 v45_10 v51_16) fun v52_18 =>
    hereV [((loadA none v40_5 : AM Value), (v41_6 : Value))] (
    bindV (sliceA 3 v41_6 none (some v52_18)) fun v53_19 =>
    bindV (nilCheckA v37_2) fun v54_20 =>
    bindV (fieldAddrA 1 v54_20) fun v55_21 =>
    bindV (storeA 1 v55_21 v53_19) fun _ =>
    ret (.tuple #[])))

noncomputable def R30.b_66 (call : FuncId → List Value → AM Value) (k : Nat) (v0_in : Value) (v1_in : Value) (rec_1_24 : Value → AM Value) (v4_25 : Value) : AM Value :=
  bindV (ret v4_25) fun v5_49 =>
    bindV (ret v0_in) fun v6_50 =>
    bindV (nilCheckA v6_50) fun v7_51 =>
    bindV (fieldAddrA 1 v7_51) fun v8_52 =>
    bindV (loadA none v8_52) fun v9_53 =>
    bindV (lenA v9_53) fun v10_54 =>
    bindV (binA Try.prog .lss 3 v5_49 v10_54) fun v11_55 =>
    bindV (ret v11_55) fun v12_56 =>
    guardA true v12_56 (bindV (ret v0_in) fun v13_60 =>
    bindV (nilCheckA v13_60) fun v14_61 =>
    bindV (fieldAddrA 3 v14_61) fun v15_62 =>
    bindV (loadA none v15_62) fun v16_63 =>
    bindV (ret v1_in) fun v17_64 =>
    bindV (binA Try.prog .gtr 3 v16_63 v17_64) fun v18_65 =>
    R30.g_59 call k rec_1_24 v0_in v12_56 v4_25 v18_65)
    (R30.g_59 call k rec_1_24 v0_in v12_56 v4_25 (.tuple #[]))

noncomputable def R30.top (call : FuncId → List Value → AM Value) (k : Nat) (v0_in : Value) (v1_in : Value) : AM Value :=
  bindV (ret (.int .i64 0)) fun v4_0 =>
    loop1 (R30.b_66 call k v0_in v1_in) k v4_0

theorem R30.eq (call : FuncId → List Value → AM Value) (k : Nat) (v0_in : Value) (v1_in : Value) : funcA Try.prog call k 30 [v0_in, v1_in] = R30.top call k v0_in v1_in := by kernel_rfl

/-! ### 31: (*aqueduct/table.Table).Find$1 (4 arguments) -/
noncomputable def R31.j_6 (call : FuncId → List Value → AM Value) (k : Nat) (v3_in : Value) (v4_0 : Value) : AM Value :=
  bindV (loadA (some 3) v4_0) fun v17_2 =>
    bindV (loadA (some 3) v3_in) fun v18_3 =>
    bindV (binA Try.prog .eql 23 v17_2 v18_3) fun v19_4 =>
    bindV (ret v19_4) fun v6_5 =>
    ret v6_5

noncomputable def R31.g_15 (call : FuncId → List Value → AM Value) (k : Nat) (v1_in : Value) (v2_in : Value) (v3_in : Value) (v4_0 : Value) (v9_12 : Value) (v14_13 : Value) : AM Value :=
  bindV (pickA v9_12 v14_13 (.bool false)) fun v15_14 =>
    condA v15_14 (bindV (ret v1_in) fun v16_8 =>
    bindV (storeA 1 v2_in v16_8) fun _ =>
    R31.j_6 call k v3_in v4_0)
    (R31.j_6 call k v3_in v4_0)

noncomputable def R31.top (call : FuncId → List Value → AM Value) (k : Nat) (v0_in : Value) (v1_in : Value) (v2_in : Value) (v3_in : Value) : AM Value :=
  bindV (boxA 23 v0_in) fun v4_0 =>
    bindV (ret (.bool false)) fun v6_1 =>
    bindV (loadA none v2_in) fun v7_10 =>
    bindV (binA Try.prog .eql 3 v7_10 (.int .i64 0)) fun v8_11 =>
    bindV (ret v8_11) fun v9_12 =>
    guardA true v9_12 (bindV (fieldAddrA 0 v4_0) fun v10_16 =>
    bindV (loadA none v10_16) fun v11_17 =>
    bindV (fieldAddrA 0 v3_in) fun v12_18 =>
    bindV (loadA none v12_18) fun v13_19 =>
    bindV (binA Try.prog .eql 9 v11_17 v13_19) fun v14_20 =>
    R31.g_15 call k v1_in v2_in v3_in v4_0 v9_12 v14_20)
    (R31.g_15 call k v1_in v2_in v3_in v4_0 v9_12 (.tuple #[]))

theorem R31.eq (call : FuncId → List Value → AM Value) (k : Nat) (v0_in : Value) (v1_in : Value) (v2_in : Value) (v3_in : Value) : funcA Try.prog call k 31 [v0_in, v1_in, v2_in, v3_in] = R31.top call k v0_in v1_in v2_in v3_in := by kernel_rfl

/-! ### 32: (*aqueduct/aqueductref05.Table).Add (2 arguments) -/
noncomputable def R32.top (call : FuncId → List Value → AM Value) (k : Nat) (v0_in : Value) (v1_in : Value) : AM Value :=
  bindV (boxA 23 v1_in) fun v3_0 =>
    bindV (fieldAddrA 2 v3_0) fun v4_1 =>
    bindV (storeA 1 v4_1 (.bool false)) fun _ =>
    bindV (ret v0_in) fun v5_2 =>
    bindV (loadA (some 3) v3_0) fun v6_3 =>
    bindV (call 13 [v6_3]) fun v7_4 =>
    bindV (call 39 [v5_2, v7_4]) fun v8_5 =>
    bindV (loadA (some 3) v3_0) fun v9_20 =>
    bindS fun s_21 =>
    bindV (call 13 [v9_20]) fun v10_22 =>
    bindV (ret v0_in) fun v11_23 =>
    bindV (nilCheckA v11_23) fun v12_24 =>
    bindV (fieldAddrA 0 v12_24) fun v13_25 =>
    bindV (loadA none v13_25) fun v14_26 =>
    thereV [s_21] (loadA none v13_25) v14_26 (
    bindV (binA Try.prog .gtr 3 v10_22 v14_26) fun v15_27 =>
    condA v15_27 (ret (.tuple #[]))
    (bindV (ret v0_in) fun v16_6 =>
    bindV (loadA (some 3) v3_0) fun v17_7 =>
    bindS fun s_8 =>
    bindV (buildSliceA 23 3 1 [(.string ⟨#[]⟩), (.string ⟨#[]⟩), (.bool false)] [(0, v17_7)]) fun v18_9 =>
    bindV (ret v0_in) fun v19_10 =>
    bindV (nilCheckA v19_10) fun v20_11 =>
    bindV (fieldAddrA 1 v20_11) fun v21_12 =>
    bindV (loadA none v21_12) fun v22_13 =>
    thereV [s_8] (loadA none v21_12) v22_13 (
    bindV (appendA 23 3 40 v18_9 v22_13) fun v23_15 =>
    bindV (nilCheckA v16_6) fun v24_16 =>
    bindV (fieldAddrA 1 v24_16) fun v25_17 =>
    bindV (storeA 1 v25_17 v23_15) fun _ =>
    ret (.tuple #[]))))

theorem R32.eq (call : FuncId → List Value → AM Value) (k : Nat) (v0_in : Value) (v1_in : Value) : funcA Try.prog call k 32 [v0_in, v1_in] = R32.top call k v0_in v1_in := by kernel_rfl

/-! ### 33: (*aqueduct/aqueductref05.Table).Resize (2 arguments) -/
noncomputable def R33.g_17 (call : FuncId → List Value → AM Value) (k : Nat) (v0_in : Value) (v1_in : Value) (v7_14 : Value) (v9_15 : Value) : AM Value :=
  bindV (pickA v7_14 (.bool true) v9_15) fun v10_16 =>
    condA v10_16 (bindV (ret (.int .i64 1)) fun v4_10 =>
    ret v4_10)
    (bindV (ret v0_in) fun v11_1 =>
    bindV (ret v1_in) fun v12_2 =>
    bindV (nilCheckA v11_1) fun v13_3 =>
    bindV (fieldAddrA 0 v13_3) fun v14_4 =>
    bindV (storeA 1 v14_4 v12_2) fun _ =>
    bindV (ret v0_in) fun v15_5 =>
    bindV (call 39 [v15_5, (.int .i64 0)]) fun v16_6 =>
    bindV (ret (.int .i64 0)) fun v4_7 =>
    ret v4_7)

noncomputable def R33.top (call : FuncId → List Value → AM Value) (k : Nat) (v0_in : Value) (v1_in : Value) : AM Value :=
  bindV (ret (.int .i64 0)) fun v4_0 =>
    bindV (ret v1_in) fun v5_12 =>
    bindV (binA Try.prog .lss 3 v5_12 (.int .i64 0)) fun v6_13 =>
    bindV (ret v6_13) fun v7_14 =>
    guardA false v7_14 (bindV (ret v1_in) fun v8_18 =>
    bindV (binA Try.prog .gtr 3 v8_18 (.int .i64 65536)) fun v9_19 =>
    R33.g_17 call k v0_in v1_in v7_14 v9_19)
    (R33.g_17 call k v0_in v1_in v7_14 (.tuple #[]))

theorem R33.eq (call : FuncId → List Value → AM Value) (k : Nat) (v0_in : Value) (v1_in : Value) : funcA Try.prog call k 33 [v0_in, v1_in] = R33.top call k v0_in v1_in := by kernel_rfl

/-! ### 34: (*aqueduct/aqueductref05.Table).Find (2 arguments) -/
noncomputable def R34.j_17 (call : FuncId → List Value → AM Value) (k : Nat) (rec_2_10 : Value → Value → AM Value) (v7_12 : Value) (v6_13 : Value) : AM Value :=
  bindV (ret v7_12) fun v18_14 =>
    bindV (binA Try.prog .add 3 v18_14 (.int .i64 1)) fun v19_15 =>
    bindV (ret v19_15) fun v7_16 =>
    rec_2_10 v6_13 v7_16

noncomputable def R34.g_38 (call : FuncId → List Value → AM Value) (k : Nat) (rec_2_10 : Value → Value → AM Value) (v44_35 : Value) (v6_11 : Value) (v7_12 : Value) (v46_36 : Value) : AM Value :=
  bindV (pickA v44_35 v46_36 (.bool false)) fun v47_37 =>
    condA v47_37 (bindV (ret v7_12) fun v48_27 =>
    bindV (ret v48_27) fun v6_28 =>
    R34.j_17 call k rec_2_10 v7_12 v6_28)
    (R34.j_17 call k rec_2_10 v7_12 v6_11)

noncomputable def R34.g_55 (call : FuncId → List Value → AM Value) (k : Nat) (rec_2_10 : Value → Value → AM Value) (v31_52 : Value) (v3_0 : Value) (v6_11 : Value) (v7_12 : Value) (v8_24 : Value) (v36_53 : Value) : AM Value :=
  bindV (pickA v31_52 v36_53 (.bool false)) fun v37_54 =>
    condA v37_54 (bindV (ret v7_12) fun v38_43 =>
    bindV (ret v38_43) fun v4_44 =>
    bindV (ret (.bool true)) fun v5_45 =>
    ret (.tuple #[v4_44, v5_45]))
    (bindV (fieldAddrA 0 v8_24) fun v39_30 =>
    bindV (loadA none v39_30) fun v40_31 =>
    bindV (fieldAddrA 0 v3_0) fun v41_32 =>
    bindV (loadA none v41_32) fun v42_33 =>
    bindV (binA Try.prog .eql 9 v40_31 v42_33) fun v43_34 =>
    bindV (ret v43_34) fun v44_35 =>
    guardA true v44_35 (bindV (ret v6_11) fun v45_39 =>
    bindV (binA Try.prog .eql 3 v45_39 (.int .i64 0)) fun v46_40 =>
    R34.g_38 call k rec_2_10 v44_35 v6_11 v7_12 v46_40)
    (R34.g_38 call k rec_2_10 v44_35 v6_11 v7_12 (.tuple #[])))

noncomputable def R34.b_70 (call : FuncId → List Value → AM Value) (k : Nat) (v0_in : Value) (v3_0 : Value) (rec_2_10 : Value → Value → AM Value) (v6_11 : Value) (v7_12 : Value) : AM Value :=
  bindV (ret v7_12) fun v10_62 =>
    bindV (ret v0_in) fun v11_63 =>
    bindV (nilCheckA v11_63) fun v12_64 =>
    bindV (fieldAddrA 1 v12_64) fun v13_65 =>
    bindV (loadA none v13_65) fun v14_66 =>
    bindV (lenA v14_66) fun v15_67 =>
    bindV (binA Try.prog .add 3 (.int .i64 61) v15_67) fun v16_68 =>
    bindV (binA Try.prog .leq 3 v10_62 v16_68) fun v17_69 =>
    condA v17_69 (bindV (ret v0_in) fun v21_18 =>
    bindV (ret v7_12) fun v22_19 =>
    bindV (call 35 [v21_18, v22_19]) fun v23_20 =>
    bindV (ret v23_20) fun v20_21 =>
    bindV (extractA v20_21 0) fun v24_22 =>
    bindV (extractA v20_21 1) fun v25_23 =>
    bindV (newA [(.string ⟨#[]⟩), (.string ⟨#[]⟩), (.bool false)] 23) fun v8_24 =>
    bindV (storeA 3 v8_24 v24_22) fun _ =>
    bindV (ret v25_23) fun v9_25 =>
    bindV (fieldAddrA 0 v8_24) fun v26_47 =>
    bindV (loadA none v26_47) fun v27_48 =>
    bindV (fieldAddrA 0 v3_0) fun v28_49 =>
    bindV (loadA none v28_49) fun v29_50 =>
    bindV (binA Try.prog .eql 9 v27_48 v29_50) fun v30_51 =>
    bindV (ret v30_51) fun v31_52 =>
    guardA true v31_52 (bindV (fieldAddrA 1 v8_24) fun v32_56 =>
    bindV (loadA none v32_56) fun v33_57 =>
    bindV (fieldAddrA 1 v3_0) fun v34_58 =>
    bindV (loadA none v34_58) fun v35_59 =>
    bindV (binA Try.prog .eql 9 v33_57 v35_59) fun v36_60 =>
    R34.g_55 call k rec_2_10 v31_52 v3_0 v6_11 v7_12 v8_24 v36_60)
    (R34.g_55 call k rec_2_10 v31_52 v3_0 v6_11 v7_12 v8_24 (.tuple #[])))
    (bindV (ret v6_11) fun v49_5 =>
    bindV (ret v49_5) fun v4_6 =>
    bindV (ret (.bool false)) fun v5_7 =>
    ret (.tuple #[v4_6, v5_7]))

noncomputable def R34.top (call : FuncId → List Value → AM Value) (k : Nat) (v0_in : Value) (v1_in : Value) : AM Value :=
  bindV (boxA 23 v1_in) fun v3_0 =>
    bindV (ret (.int .i64 0)) fun v4_1 =>
    bindV (ret (.bool false)) fun v5_2 =>
    bindV (ret (.int .i64 0)) fun v6_3 =>
    bindV (ret (.int .i64 1)) fun v7_9 =>
    loop2 (R34.b_70 call k v0_in v3_0) k v6_3 v7_9

theorem R34.eq (call : FuncId → List Value → AM Value) (k : Nat) (v0_in : Value) (v1_in : Value) : funcA Try.prog call k 34 [v0_in, v1_in] = R34.top call k v0_in v1_in := by kernel_rfl

/-! ### 35: (*aqueduct/aqueductref05.Table).Get (2 arguments) -/
noncomputable def R35.g_32 (call : FuncId → List Value → AM Value) (k : Nat) (v0_in : Value) (v1_in : Value) (v4_0 : Value) (v8_29 : Value) (v16_30 : Value) : AM Value :=
  bindV (pickA v8_29 (.bool true) v16_30) fun v17_31 =>
    condA v17_31 (bindV (buildA [(0, 1), (1, 1), (2, 1)] [(.string ⟨#[]⟩), (.string ⟨#[]⟩), (.bool false)] []) fun v18_23 =>
    bindV (storeA 3 v4_0 v18_23) fun _ =>
    bindV (ret (.int .i64 50)) fun v5_24 =>
    bindV (loadA (some 3) v4_0) fun v4_25 =>
    ret (.tuple #[v4_25, v5_24]))
    (bindV (ret v1_in) fun v19_13 =>
    bindV (binA Try.prog .leq 3 v19_13 (.int .i64 61)) fun v20_14 =>
    condA v20_14 (bindV (ret v1_in) fun v21_15 =>
    bindV (call 10 [v21_15]) fun v22_16 =>
    bindV (extractA v22_16 0) fun v23_17 =>
    bindV (extractA v22_16 1) fun v24_18 =>
    bindV (storeA 3 v4_0 v23_17) fun _ =>
    bindV (ret v24_18) fun v5_19 =>
    bindV (loadA (some 3) v4_0) fun v4_20 =>
    ret (.tuple #[v4_20, v5_19]))
    (bindV (ret v0_in) fun v25_2 =>
    bindV (nilCheckA v25_2) fun v26_3 =>
    bindV (fieldAddrA 1 v26_3) fun v27_4 =>
    bindV (loadA none v27_4) fun v28_5 =>
    bindV (ret v1_in) fun v29_6 =>
    bindV (binA Try.prog .sub 3 v29_6 (.int .i64 62)) fun v30_7 =>
    bindV (indexAddrA 3 v28_5 v30_7) fun v31_8 =>
    bindV (loadA (some 3) v31_8) fun v32_9 =>
    bindV (storeA 3 v4_0 v32_9) fun _ =>
    bindV (ret (.int .i64 0)) fun v5_10 =>
    bindV (loadA (some 3) v4_0) fun v4_11 =>
    ret (.tuple #[v4_11, v5_10])))

noncomputable def R35.top (call : FuncId → List Value → AM Value) (k : Nat) (v0_in : Value) (v1_in : Value) : AM Value :=
  bindV (newA [(.string ⟨#[]⟩), (.string ⟨#[]⟩), (.bool false)] 23) fun v4_0 =>
    bindV (ret (.int .i64 0)) fun v5_1 =>
    bindV (ret v1_in) fun v6_27 =>
    bindV (binA Try.prog .lss 3 v6_27 (.int .i64 1)) fun v7_28 =>
    bindV (ret v7_28) fun v8_29 =>
    guardA false v8_29 (bindV (ret v1_in) fun v9_33 =>
    bindV (ret v0_in) fun v10_34 =>
    bindV (nilCheckA v10_34) fun v11_35 =>
    bindV (fieldAddrA 1 v11_35) fun v12_36 =>
    bindV (loadA none v12_36) fun v13_37 =>
    bindV (lenA v13_37) fun v14_38 =>
    bindV (binA Try.prog .add 3 (.int .i64 61) v14_38) fun v15_39 =>
    bindV (binA Try.prog .gtr 3 v9_33 v15_39) fun v16_40 =>
    R35.g_32 call k v0_in v1_in v4_0 v8_29 v16_40)
    (R35.g_32 call k v0_in v1_in v4_0 v8_29 (.tuple #[]))

theorem R35.eq (call : FuncId → List Value → AM Value) (k : Nat) (v0_in : Value) (v1_in : Value) : funcA Try.prog call k 35 [v0_in, v1_in] = R35.top call k v0_in v1_in := by kernel_rfl

/-! ### 36: (*aqueduct/aqueductref05.Table).Bytes (1 arguments) -/
noncomputable def R36.b_34 (call : FuncId → List Value → AM Value) (k : Nat) (v0_in : Value) (rec_2_7 : Value → Value → AM Value) (v3_8 : Value) (v4_9 : Value) : AM Value :=
  bindV (ret v4_9) fun v5_27 =>
    bindV (ret v0_in) fun v6_28 =>
    bindV (nilCheckA v6_28) fun v7_29 =>
    bindV (fieldAddrA 1 v7_29) fun v8_30 =>
    bindV (loadA none v8_30) fun v9_31 =>
    bindV (lenA v9_31) fun v10_32 =>
    bindV (binA Try.prog .lss 3 v5_27 v10_32) fun v11_33 =>
    condA v11_33 (bindV (ret v3_8) fun v14_15 =>
    bindV (ret v0_in) fun v15_16 =>
    bindV (nilCheckA v15_16) fun v16_17 =>
    bindV (fieldAddrA 1 v16_17) fun v17_18 =>
    bindV (loadA none v17_18) fun v18_19 =>
    bindV (ret v4_9) fun v19_20 =>
    bindV (indexAddrA 3 v18_19 v19_20) fun v20_21 =>
    bindV (loadA (some 3) v20_21) fun v21_22 =>
    bindV (call 13 [v21_22]) fun v22_23 =>
    bindV (binA Try.prog .add 3 v14_15 v22_23) fun v23_24 =>
    bindV (ret v23_24) fun v3_25 =>
    bindV (ret v4_9) fun v12_11 =>
    bindV (binA Try.prog .add 3 v12_11 (.int .i64 1)) fun v13_12 =>
    bindV (ret v13_12) fun v4_13 =>
    rec_2_7 v3_25 v4_13)
    (bindV (ret v3_8) fun v24_3 =>
    bindV (ret v24_3) fun v2_4 =>
    ret v2_4)

noncomputable def R36.top (call : FuncId → List Value → AM Value) (k : Nat) (v0_in : Value) : AM Value :=
  bindV (ret (.int .i64 0)) fun v2_0 =>
    bindV (ret (.int .i64 0)) fun v3_1 =>
    bindV (ret (.int .i64 0)) fun v4_6 =>
    loop2 (R36.b_34 call k v0_in) k v3_1 v4_6

theorem R36.eq (call : FuncId → List Value → AM Value) (k : Nat) (v0_in : Value) : funcA Try.prog call k 36 [v0_in] = R36.top call k v0_in := by kernel_rfl

/-! ### 37: aqueduct/table.statics (0 arguments) -/
noncomputable def R37.top (call : FuncId → List Value → AM Value) (k : Nat) : AM Value :=
  bindV (newA [(.string ⟨#[]⟩), (.string ⟨#[]⟩), (.string ⟨#[]⟩), (.string ⟨#[]⟩), (.string ⟨#[]⟩), (.string ⟨#[]⟩), (.string ⟨#[]⟩), (.string ⟨#[]⟩), (.string ⟨#[]⟩), (.string ⟨#[]⟩), (.string ⟨#[]⟩), (.string ⟨#[]⟩), (.string ⟨#[]⟩), (.string ⟨#[]⟩), (.string ⟨#[]⟩), (.string ⟨#[]⟩), (.string ⟨#[]⟩), (.string ⟨#[]⟩), (.string ⟨#[]⟩), (.string ⟨#[]⟩), (.string ⟨#[]⟩), (.string ⟨#[]⟩), (.string ⟨#[]⟩), (.string ⟨#[]⟩), (.string ⟨#[]⟩), (.string ⟨#[]⟩), (.string ⟨#[]⟩), (.string ⟨#[]⟩), (.string ⟨#[]⟩), (.string ⟨#[]⟩), (.string ⟨#[]⟩), (.string ⟨#[]⟩), (.string ⟨#[]⟩), (.string ⟨#[]⟩), (.string ⟨#[]⟩), (.string ⟨#[]⟩), (.string ⟨#[]⟩), (.string ⟨#[]⟩), (.string ⟨#[]⟩), (.string ⟨#[]⟩), (.string ⟨#[]⟩), (.string ⟨#[]⟩), (.string ⟨#[]⟩), (.string ⟨#[]⟩), (.string ⟨#[]⟩), (.string ⟨#[]⟩), (.string ⟨#[]⟩), (.string ⟨#[]⟩), (.string ⟨#[]⟩), (.string ⟨#[]⟩), (.string ⟨#[]⟩), (.string ⟨#[]⟩), (.string ⟨#[]⟩), (.string ⟨#[]⟩), (.string ⟨#[]⟩), (.string ⟨#[]⟩), (.string ⟨#[]⟩), (.string ⟨#[]⟩), (.string ⟨#[]⟩), (.string ⟨#[]⟩), (.string ⟨#[]⟩)] 67) fun v0_0 =>
    bindV (buildArrA 1 [(.string ⟨#[]⟩), (.string ⟨#[]⟩), (.string ⟨#[]⟩), (.string ⟨#[]⟩), (.string ⟨#[]⟩), (.string ⟨#[]⟩), (.string ⟨#[]⟩), (.string ⟨#[]⟩), (.string ⟨#[]⟩), (.string ⟨#[]⟩), (.string ⟨#[]⟩), (.string ⟨#[]⟩), (.string ⟨#[]⟩), (.string ⟨#[]⟩), (.string ⟨#[]⟩), (.string ⟨#[]⟩), (.string ⟨#[]⟩), (.string ⟨#[]⟩), (.string ⟨#[]⟩), (.string ⟨#[]⟩), (.string ⟨#[]⟩), (.string ⟨#[]⟩), (.string ⟨#[]⟩), (.string ⟨#[]⟩), (.string ⟨#[]⟩), (.string ⟨#[]⟩), (.string ⟨#[]⟩), (.string ⟨#[]⟩), (.string ⟨#[]⟩), (.string ⟨#[]⟩), (.string ⟨#[]⟩), (.string ⟨#[]⟩), (.string ⟨#[]⟩), (.string ⟨#[]⟩), (.string ⟨#[]⟩), (.string ⟨#[]⟩), (.string ⟨#[]⟩), (.string ⟨#[]⟩), (.string ⟨#[]⟩), (.string ⟨#[]⟩), (.string ⟨#[]⟩), (.string ⟨#[]⟩), (.string ⟨#[]⟩), (.string ⟨#[]⟩), (.string ⟨#[]⟩), (.string ⟨#[]⟩), (.string ⟨#[]⟩), (.string ⟨#[]⟩), (.string ⟨#[]⟩), (.string ⟨#[]⟩), (.string ⟨#[]⟩), (.string ⟨#[]⟩), (.string ⟨#[]⟩), (.string ⟨#[]⟩), (.string ⟨#[]⟩), (.string ⟨#[]⟩), (.string ⟨#[]⟩), (.string ⟨#[]⟩), (.string ⟨#[]⟩), (.string ⟨#[]⟩), (.string ⟨#[]⟩)] [(0, (.string ⟨#[58, 97, 117, 116, 104, 111, 114, 105, 116, 121, 61]⟩)), (1, (.string ⟨#[58, 109, 101, 116, 104, 111, 100, 61, 71, 69, 84]⟩)), (2, (.string ⟨#[58, 109, 101, 116, 104, 111, 100, 61, 80, 79, 83, 84]⟩)), (3, (.string ⟨#[58, 112, 97, 116, 104, 61, 47]⟩)), (4, (.string ⟨#[58, 112, 97, 116, 104, 61, 47, 105, 110, 100, 101, 120, 46, 104, 116, 109, 108]⟩)), (5, (.string ⟨#[58, 115, 99, 104, 101, 109, 101, 61, 104, 116, 116, 112]⟩)), (6, (.string ⟨#[58, 115, 99, 104, 101, 109, 101, 61, 104, 116, 116, 112, 115]⟩)), (7, (.string ⟨#[58, 115, 116, 97, 116, 117, 115, 61, 50, 48, 48]⟩)), (8, (.string ⟨#[58, 115, 116, 97, 116, 117, 115, 61, 50, 48, 52]⟩)), (9, (.string ⟨#[58, 115, 116, 97, 116, 117, 115, 61, 50, 48, 54]⟩)), (10, (.string ⟨#[58, 115, 116, 97, 116, 117, 115, 61, 51, 48, 52]⟩)), (11, (.string ⟨#[58, 115, 116, 97, 116, 117, 115, 61, 52, 48, 48]⟩)), (12, (.string ⟨#[58, 115, 116, 97, 116, 117, 115, 61, 52, 48, 52]⟩)), (13, (.string ⟨#[58, 115, 116, 97, 116, 117, 115, 61, 53, 48, 48]⟩)), (14, (.string ⟨#[97, 99, 99, 101, 112, 116, 45, 99, 104, 97, 114, 115, 101, 116, 61]⟩)), (15, (.string ⟨#[97, 99, 99, 101, 112, 116, 45, 101, 110, 99, 111, 100, 105, 110, 103, 61, 103, 122, 105, 112, 44, 32, 100, 101, 102, 108, 97, 116, 101]⟩)), (16, (.string ⟨#[97, 99, 99, 101, 112, 116, 45, 108, 97, 110, 103, 117, 97, 103, 101, 61]⟩)), (17, (.string ⟨#[97, 99, 99, 101, 112, 116, 45, 114, 97, 110, 103, 101, 115, 61]⟩)), (18, (.string ⟨#[97, 99, 99, 101, 112, 116, 61]⟩)), (19, (.string ⟨#[97, 99, 99, 101, 115, 115, 45, 99, 111, 110, 116, 114, 111, 108, 45, 97, 108, 108, 111, 119, 45, 111, 114, 105, 103, 105, 110, 61]⟩)), (20, (.string ⟨#[97, 103, 101, 61]⟩)), (21, (.string ⟨#[97, 108, 108, 111, 119, 61]⟩)), (22, (.string ⟨#[97, 117, 116, 104, 111, 114, 105, 122, 97, 116, 105, 111, 110, 61]⟩)), (23, (.string ⟨#[99, 97, 99, 104, 101, 45, 99, 111, 110, 116, 114, 111, 108, 61]⟩)), (24, (.string ⟨#[99, 111, 110, 116, 101, 110, 116, 45, 100, 105, 115, 112, 111, 115, 105, 116, 105, 111, 110, 61]⟩)), (25, (.string ⟨#[99, 111, 110, 116, 101, 110, 116, 45, 101, 110, 99, 111, 100, 105, 110, 103, 61]⟩)), (26, (.string ⟨#[99, 111, 110, 116, 101, 110, 116, 45, 108, 97, 110, 103, 117, 97, 103, 101, 61]⟩)), (27, (.string ⟨#[99, 111, 110, 116, 101, 110, 116, 45, 108, 101, 110, 103, 116, 104, 61]⟩)), (28, (.string ⟨#[99, 111, 110, 116, 101, 110, 116, 45, 108, 111, 99, 97, 116, 105, 111, 110, 61]⟩)), (29, (.string ⟨#[99, 111, 110, 116, 101, 110, 116, 45, 114, 97, 110, 103, 101, 61]⟩)), (30, (.string ⟨#[99, 111, 110, 116, 101, 110, 116, 45, 116, 121, 112, 101, 61]⟩)), (31, (.string ⟨#[99, 111, 111, 107, 105, 101, 61]⟩)), (32, (.string ⟨#[100, 97, 116, 101, 61]⟩)), (33, (.string ⟨#[101, 116, 97, 103, 61]⟩)), (34, (.string ⟨#[101, 120, 112, 101, 99, 116, 61]⟩)), (35, (.string ⟨#[101, 120, 112, 105, 114, 101, 115, 61]⟩)), (36, (.string ⟨#[102, 114, 111, 109, 61]⟩)), (37, (.string ⟨#[104, 111, 115, 116, 61]⟩)), (38, (.string ⟨#[105, 102, 45, 109, 97, 116, 99, 104, 61]⟩)), (39, (.string ⟨#[105, 102, 45, 109, 111, 100, 105, 102, 105, 101, 100, 45, 115, 105, 110, 99, 101, 61]⟩)), (40, (.string ⟨#[105, 102, 45, 110, 111, 110, 101, 45, 109, 97, 116, 99, 104, 61]⟩)), (41, (.string ⟨#[105, 102, 45, 114, 97, 110, 103, 101, 61]⟩)), (42, (.string ⟨#[105, 102, 45, 117, 110, 109, 111, 100, 105, 102, 105, 101, 100, 45, 115, 105, 110, 99, 101, 61]⟩)), (43, (.string ⟨#[108, 97, 115, 116, 45, 109, 111, 100, 105, 102, 105, 101, 100, 61]⟩)), (44, (.string ⟨#[108, 105, 110, 107, 61]⟩)), (45, (.string ⟨#[108, 111, 99, 97, 116, 105, 111, 110, 61]⟩)), (46, (.string ⟨#[109, 97, 120, 45, 102, 111, 114, 119, 97, 114, 100, 115, 61]⟩)), (47, (.string ⟨#[112, 114, 111, 120, 121, 45, 97, 117, 116, 104, 101, 110, 116, 105, 99, 97, 116, 101, 61]⟩)), (48, (.string ⟨#[112, 114, 111, 120, 121, 45, 97, 117, 116, 104, 111, 114, 105, 122, 97, 116, 105, 111, 110, 61]⟩)), (49, (.string ⟨#[114, 97, 110, 103, 101, 61]⟩)), (50, (.string ⟨#[114, 101, 102, 101, 114, 101, 114, 61]⟩)), (51, (.string ⟨#[114, 101, 102, 114, 101, 115, 104, 61]⟩)), (52, (.string ⟨#[114, 101, 116, 114, 121, 45, 97, 102, 116, 101, 114, 61]⟩)), (53, (.string ⟨#[115, 101, 114, 118, 101, 114, 61]⟩)), (54, (.string ⟨#[115, 101, 116, 45, 99, 111, 111, 107, 105, 101, 61]⟩)), (55, (.string ⟨#[115, 116, 114, 105, 99, 116, 45, 116, 114, 97, 110, 115, 112, 111, 114, 116, 45, 115, 101, 99, 117, 114, 105, 116, 121, 61]⟩)), (56, (.string ⟨#[116, 114, 97, 110, 115, 102, 101, 114, 45, 101, 110, 99, 111, 100, 105, 110, 103, 61]⟩)), (57, (.string ⟨#[117, 115, 101, 114, 45, 97, 103, 101, 110, 116, 61]⟩)), (58, (.string ⟨#[118, 97, 114, 121, 61]⟩)), (59, (.string ⟨#[118, 105, 97, 61]⟩)), (60, (.string ⟨#[119, 119, 119, 45, 97, 117, 116, 104, 101, 110, 116, 105, 99, 97, 116, 101, 61]⟩))]) fun v1_1 =>
    bindV (storeA 61 v0_0 v1_1) fun _ =>
    bindV (loadA (some 61) v0_0) fun v0_2 =>
    ret v0_2

theorem R37.eq (call : FuncId → List Value → AM Value) (k : Nat) : funcA Try.prog call k 37 [] = R37.top call k := by kernel_rfl

/-! ### 38: internal/stringslite.Clone (1 arguments) -/
noncomputable def R38.top (call : FuncId → List Value → AM Value) (k : Nat) (v0_in : Value) : AM Value :=
  bindV (ret (.string ⟨#[]⟩)) fun v2_0 =>
    bindV (ret v0_in) fun v4_15 =>
    bindV (lenStrA v4_15) fun v5_16 =>
    bindV (binA Try.prog .eql 3 v5_16 (.int .i64 0)) fun v6_17 =>
    condA v6_17 (bindV (ret (.string ⟨#[]⟩)) fun v2_18 =>
    ret v2_18)
    (bindV (ret v0_in) fun v7_1 =>
    bindV (lenStrA v7_1) fun v8_2 =>
    bindV (makeSliceA 5 1 1 [(.int .u8 0)] v8_2 v8_2) fun v9_3 =>
    bindV (ret v9_3) fun v3_4 =>
    bindV (ret v3_4) fun v10_5 =>
    bindV (ret v0_in) fun v11_6 =>
    bindV (copyA 1 v10_5 v11_6) fun v12_7 =>
    bindV (ret v3_4) fun v13_8 =>
    bindV (indexAddrA 1 v13_8 (.int .i64 0)) fun v14_9 =>
    bindV (ret v3_4) fun v15_10 =>
    bindV (lenA v15_10) fun v16_11 =>
    bindV (bytesStrA 5 v14_9 v16_11) fun v17_12 =>
    bindV (ret v17_12) fun v2_13 =>
    ret v2_13)

theorem R38.eq (call : FuncId → List Value → AM Value) (k : Nat) (v0_in : Value) : funcA Try.prog call k 38 [v0_in] = R38.top call k v0_in := by kernel_rfl

/-! ### 39: (*aqueduct/aqueductref05.Table).fall (2 arguments) -/
noncomputable def R39.d_20 (call : FuncId → List Value → AM Value) (k : Nat) (rec_0_0 : AM Value) (v0_in : Value) (v20_19 : Value) : AM Value :=
  condA v20_19 (bindV (ret v0_in) fun v21_1 =>
    bindV (ret v0_in) fun v22_2 =>
    bindV (nilCheckA v22_2) fun v23_3 =>
    bindV (fieldAddrA 1 v23_3) fun v24_4 =>
    bindV (loadA none v24_4) fun v25_5 =>
    bindV (ret v0_in) fun v26_6 =>
    bindV (nilCheckA v26_6) fun v27_7 =>
    bindV (fieldAddrA 1 v27_7) fun v28_8 =>
    bindV (loadA none v28_8) fun v29_9 =>
    bindV (lenA v29_9) fun v30_10 =>
    bindV (binA Try.prog .sub 3 v30_10 (.int .i64 1)) fun v31_11 =>
    bindV (sliceA 3 v25_5 none (some v31_11)) fun v32_12 =>
    bindV (nilCheckA v21_1) fun v33_13 =>
    bindV (fieldAddrA 1 v33_13) fun v34_14 =>
    bindV (storeA 1 v34_14 v32_12) fun _ =>
    rec_0_0)
    (ret (.tuple #[]))

noncomputable def R39.b_40 (call : FuncId → List Value → AM Value) (k : Nat) (v0_in : Value) (v1_in : Value) (rec_0_0 : AM Value) : AM Value :=
  bindV (ret v0_in) fun v4_21 =>
    bindV (nilCheckA v4_21) fun v5_22 =>
    bindV (fieldAddrA 1 v5_22) fun v6_23 =>
    bindV (loadA none v6_23) fun v7_24 =>
    bindV (lenA v7_24) fun v8_25 =>
    bindV (binA Try.prog .gtr 3 v8_25 (.int .i64 0)) fun v9_26 =>
    bindV (ret v9_26) fun v10_27 =>
    guardA true v10_27 (bindV (ret v0_in) fun v11_28 =>
    bindS fun s_29 =>
    bindV (call 36 [v11_28]) fun v12_30 =>
    bindV (ret v1_in) fun v13_31 =>
    bindV (binA Try.prog .add 3 v12_30 v13_31) fun v14_32 =>
    bindV (ret v0_in) fun v15_33 =>
    bindV (nilCheckA v15_33) fun v16_34 =>
    bindV (fieldAddrA 0 v16_34) fun v17_35 =>
    bindV (loadA none v17_35) fun v18_36 =>
    thereV [s_29] (loadA none v17_35) v18_36 (
    bindV (binA Try.prog .gtr 3 v14_32 v18_36) fun v19_37 =>
    bindV (pickA v10_27 v19_37 (.bool false)) fun v20_38 =>
    R39.d_20 call k rec_0_0 v0_in v20_38))
    (bindV (pickA v10_27 (.tuple #[]) (.bool false)) fun v20_39 =>
    R39.d_20 call k rec_0_0 v0_in v20_39)

noncomputable def R39.top (call : FuncId → List Value → AM Value) (k : Nat) (v0_in : Value) (v1_in : Value) : AM Value :=
  loop0 (R39.b_40 call k v0_in v1_in) k

theorem R39.eq (call : FuncId → List Value → AM Value) (k : Nat) (v0_in : Value) (v1_in : Value) : funcA Try.prog call k 39 [v0_in, v1_in] = R39.top call k v0_in v1_in := by kernel_rfl

end Go.Proofs.Ytedoaofmdlcjeaa
