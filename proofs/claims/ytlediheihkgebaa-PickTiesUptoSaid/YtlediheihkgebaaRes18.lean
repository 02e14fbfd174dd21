/- What the functions that the five Pick laws reach compute, printed by a program of ours and tied to the model by the kernel. -/
import Derived.Test.YtlediheihkgebaaEngQ
import Derived.Test.YtlediheihkgebaaRows
set_option linter.unusedVariables false
set_option linter.unusedSimpArgs false
namespace Go.Proofs.Ytlediheihkgebaa
open Go.Proofs.Ytlediheihkgebaa.Eng
/-! ### 3: aqueduct/aqueductlaw18.PickFits (1 arguments) -/
noncomputable def R3.g_7 (call : FuncId → List Value → AM Value) (k : Nat) (v7_4 : Value) (v9_5 : Value) : AM Value :=
  bindV (pickA v7_4 v9_5 (.bool false)) fun v10_6 =>
    ret v10_6

noncomputable def R3.top (call : FuncId → List Value → AM Value) (k : Nat) (v0_in : Value) : AM Value :=
  bindV (call 14 [v0_in]) fun v4_2 =>
    bindV (call 15 [v0_in]) fun v6_3 =>
    bindV (call 13 [v4_2, v6_3]) fun v7_4 =>
    guardA true v7_4 (bindV (call 16 []) fun v9_8 =>
    R3.g_7 call k v7_4 v9_8)
    (R3.g_7 call k v7_4 (.tuple #[]))

theorem R3.eq (call : FuncId → List Value → AM Value) (k : Nat) (v0_in : Value) : funcA Try.prog call k 3 [v0_in] = R3.top call k v0_in := by kernel_rfl

/-! ### 4: aqueduct/aqueductlaw18.PickTies (1 arguments) -/
noncomputable def R4.g_8 (call : FuncId → List Value → AM Value) (k : Nat) (v12_5 : Value) (v14_6 : Value) : AM Value :=
  bindV (pickA v12_5 v14_6 (.bool false)) fun v15_7 =>
    ret v15_7

noncomputable def R4.j_10 (call : FuncId → List Value → AM Value) (k : Nat) (v0_0 : Value) : AM Value :=
  bindV (call 17 [v0_0]) fun v9_3 =>
    bindV (call 18 [v0_0]) fun v11_4 =>
    bindV (call 13 [v9_3, v11_4]) fun v12_5 =>
    guardA true v12_5 (bindV (call 16 []) fun v14_9 =>
    R4.g_8 call k v12_5 v14_9)
    (R4.g_8 call k v12_5 (.tuple #[]))

noncomputable def R4.top (call : FuncId → List Value → AM Value) (k : Nat) (v0_in : Value) : AM Value :=
  bindV (lenA v0_in) fun v4_11 =>
    bindV (binA Try.prog .gtr 3 v4_11 (.int .i64 2000)) fun v5_12 =>
    condA v5_12 (bindV (sliceA 3 v0_in none (some (.int .i64 2000))) fun v7_13 =>
    R4.j_10 call k v7_13)
    (R4.j_10 call k v0_in)

theorem R4.eq (call : FuncId → List Value → AM Value) (k : Nat) (v0_in : Value) : funcA Try.prog call k 4 [v0_in] = R4.top call k v0_in := by kernel_rfl

/-! ### 5: aqueduct/aqueductlaw18.PickChooses (2 arguments) -/
noncomputable def R5.g_14 (call : FuncId → List Value → AM Value) (k : Nat) (v33_11 : Value) (v35_12 : Value) : AM Value :=
  bindV (pickA v33_11 v35_12 (.bool false)) fun v36_13 =>
    ret v36_13

noncomputable def R5.g_16 (call : FuncId → List Value → AM Value) (k : Nat) (v28_9 : Value) (v32_10 : Value) : AM Value :=
  bindV (pickA v28_9 v32_10 (.bool false)) fun v33_11 =>
    guardA true v33_11 (bindV (call 16 []) fun v35_15 =>
    R5.g_14 call k v33_11 v35_15)
    (R5.g_14 call k v33_11 (.tuple #[]))

noncomputable def R5.j_18 (call : FuncId → List Value → AM Value) (k : Nat) (v1_in : Value) (v0_0 : Value) : AM Value :=
  bindV (call 19 [v0_0, v1_in]) fun v17_1 =>
    bindV (extractA v17_1 0) fun v18_2 =>
    bindV (extractA v17_1 1) fun v19_3 =>
    bindV (call 20 [v0_0, v1_in]) fun v23_4 =>
    bindV (extractA v23_4 0) fun v24_5 =>
    bindV (extractA v23_4 1) fun v25_6 =>
    bindV (binA Try.prog .eql 3 v18_2 v24_5) fun v28_9 =>
    guardA true v28_9 (bindV (binA Try.prog .eql 3 v19_3 v25_6) fun v32_17 =>
    R5.g_16 call k v28_9 v32_17)
    (R5.g_16 call k v28_9 (.tuple #[]))

noncomputable def R5.top (call : FuncId → List Value → AM Value) (k : Nat) (v0_in : Value) (v1_in : Value) : AM Value :=
  bindV (lenA v0_in) fun v10_19 =>
    bindV (binA Try.prog .gtr 3 v10_19 (.int .i64 2000)) fun v11_20 =>
    condA v11_20 (bindV (sliceA 3 v0_in none (some (.int .i64 2000))) fun v13_21 =>
    R5.j_18 call k v1_in v13_21)
    (R5.j_18 call k v1_in v0_in)

theorem R5.eq (call : FuncId → List Value → AM Value) (k : Nat) (v0_in : Value) (v1_in : Value) : funcA Try.prog call k 5 [v0_in, v1_in] = R5.top call k v0_in v1_in := by kernel_rfl

/-! ### 6: aqueduct/aqueductlaw18.PickLeast (2 arguments) -/
noncomputable def R6.g_16 (call : FuncId → List Value → AM Value) (k : Nat) (v103_13 : Value) (v105_14 : Value) : AM Value :=
  bindV (pickA v103_13 v105_14 (.bool false)) fun v106_15 =>
    ret v106_15

noncomputable def R6.g_18 (call : FuncId → List Value → AM Value) (k : Nat) (v95_11 : Value) (v102_12 : Value) : AM Value :=
  bindV (pickA v95_11 v102_12 (.bool false)) fun v103_13 =>
    guardA true v103_13 (bindV (call 16 []) fun v105_17 =>
    R6.g_16 call k v103_13 v105_17)
    (R6.g_16 call k v103_13 (.tuple #[]))

noncomputable def R6.g_23 (call : FuncId → List Value → AM Value) (k : Nat) (v0_in : Value) (v14_1 : Value) (v88_9 : Value) (v94_10 : Value) : AM Value :=
  bindV (pickA v88_9 v94_10 (.bool false)) fun v95_11 =>
    guardA true v95_11 (bindV (indexAddrA 3 v0_in v14_1) fun v99_19 =>
    bindV (fieldAddrA 1 v99_19) fun v100_20 =>
    bindV (loadA none v100_20) fun v101_21 =>
    bindV (binA Try.prog .gtr 3 v101_21 (.int .i64 0)) fun v102_22 =>
    R6.g_18 call k v95_11 v102_22)
    (R6.g_18 call k v95_11 (.tuple #[]))

noncomputable def R6.g_27 (call : FuncId → List Value → AM Value) (k : Nat) (v0_in : Value) (v14_1 : Value) (v82_7 : Value) (v87_8 : Value) : AM Value :=
  bindV (pickA v82_7 v87_8 (.bool false)) fun v88_9 =>
    guardA true v88_9 (bindV (indexAddrA 3 v0_in v14_1) fun v92_24 =>
    bindV (fieldAddrA 0 v92_24) fun v93_25 =>
    bindV (loadA none v93_25) fun v94_26 =>
    R6.g_23 call k v0_in v14_1 v88_9 v94_26)
    (R6.g_23 call k v0_in v14_1 v88_9 (.tuple #[]))

noncomputable def R6.g_30 (call : FuncId → List Value → AM Value) (k : Nat) (v0_in : Value) (v14_1 : Value) (v7_3 : Value) (v81_6 : Value) : AM Value :=
  bindV (pickA v7_3 v81_6 (.bool false)) fun v82_7 =>
    guardA true v82_7 (bindV (lenA v0_in) fun v86_28 =>
    bindV (binA Try.prog .lss 3 v14_1 v86_28) fun v87_29 =>
    R6.g_27 call k v0_in v14_1 v82_7 v87_29)
    (R6.g_27 call k v0_in v14_1 v82_7 (.tuple #[]))

noncomputable def R6.g_41 (call : FuncId → List Value → AM Value) (k : Nat) (v74_38 : Value) (v76_39 : Value) : AM Value :=
  bindV (pickA v74_38 v76_39 (.bool false)) fun v77_40 =>
    ret v77_40

noncomputable def R6.g_43 (call : FuncId → List Value → AM Value) (k : Nat) (v70_36 : Value) (v73_37 : Value) : AM Value :=
  bindV (pickA v70_36 v73_37 (.bool false)) fun v74_38 =>
    guardA true v74_38 (bindV (call 16 []) fun v76_42 =>
    R6.g_41 call k v74_38 v76_42)
    (R6.g_41 call k v74_38 (.tuple #[]))

noncomputable def R6.d_57 (call : FuncId → List Value → AM Value) (k : Nat) (rec_2_46 : Value → Value → AM Value) (v7_53 : Value) (v8_48 : Value) (v66_56 : Value) : AM Value :=
  condA v66_56 (ret (.bool false))
    (bindV (binA Try.prog .add 3 v8_48 (.int .i64 1)) fun v21_50 =>
    rec_2_46 v7_53 v21_50)

noncomputable def R6.g_153 (call : FuncId → List Value → AM Value) (k : Nat) (rec_2_46 : Value → Value → AM Value) (v0_in : Value) (v14_1 : Value) (v15_2 : Value) (v7_47 : Value) (v8_48 : Value) (v9_52 : Value) (v37_151 : Value) : AM Value :=
  bindV (pickA v7_47 (.bool true) v37_151) fun v38_152 =>
    bindV (binA Try.prog .eql 28 v15_2 (.int .i64 0)) fun v40_58 =>
    guardA true v40_58 (bindV (binA Try.prog .geq 3 v14_1 (.int .i64 0)) fun v43_59 =>
    bindV (pickA v40_58 v43_59 (.bool false)) fun v44_60 =>
    guardA true v44_60 (bindV (lenA v0_in) fun v48_61 =>
    bindV (binA Try.prog .lss 3 v14_1 v48_61) fun v49_62 =>
    bindV (pickA v44_60 v49_62 (.bool false)) fun v50_63 =>
    guardA true v50_63 (bindV (pickA v50_63 v9_52 (.bool false)) fun v53_64 =>
    guardA true v53_64 (bindV (indexAddrA 3 v0_in v8_48) fun v57_65 =>
    bindV (fieldAddrA 2 v57_65) fun v58_66 =>
    bindV (loadA none v58_66) fun v59_67 =>
    bindV (indexAddrA 3 v0_in v14_1) fun v62_68 =>
    bindV (fieldAddrA 2 v62_68) fun v63_69 =>
    bindV (loadA none v63_69) fun v64_70 =>
    bindV (binA Try.prog .lss 3 v59_67 v64_70) fun v65_71 =>
    bindV (pickA v53_64 v65_71 (.bool false)) fun v66_72 =>
    R6.d_57 call k rec_2_46 v38_152 v8_48 v66_72)
    (bindV (pickA v53_64 (.tuple #[]) (.bool false)) fun v66_73 =>
    R6.d_57 call k rec_2_46 v38_152 v8_48 v66_73))
    (bindV (pickA v50_63 (.tuple #[]) (.bool false)) fun v53_74 =>
    guardA true v53_74 (bindV (indexAddrA 3 v0_in v8_48) fun v57_75 =>
    bindV (fieldAddrA 2 v57_75) fun v58_76 =>
    bindV (loadA none v58_76) fun v59_77 =>
    bindV (indexAddrA 3 v0_in v14_1) fun v62_78 =>
    bindV (fieldAddrA 2 v62_78) fun v63_79 =>
    bindV (loadA none v63_79) fun v64_80 =>
    bindV (binA Try.prog .lss 3 v59_77 v64_80) fun v65_81 =>
    bindV (pickA v53_74 v65_81 (.bool false)) fun v66_82 =>
    R6.d_57 call k rec_2_46 v38_152 v8_48 v66_82)
    (bindV (pickA v53_74 (.tuple #[]) (.bool false)) fun v66_83 =>
    R6.d_57 call k rec_2_46 v38_152 v8_48 v66_83)))
    (bindV (pickA v44_60 (.tuple #[]) (.bool false)) fun v50_84 =>
    guardA true v50_84 (bindV (pickA v50_84 v9_52 (.bool false)) fun v53_85 =>
    guardA true v53_85 (bindV (indexAddrA 3 v0_in v8_48) fun v57_86 =>
    bindV (fieldAddrA 2 v57_86) fun v58_87 =>
    bindV (loadA none v58_87) fun v59_88 =>
    bindV (indexAddrA 3 v0_in v14_1) fun v62_89 =>
    bindV (fieldAddrA 2 v62_89) fun v63_90 =>
    bindV (loadA none v63_90) fun v64_91 =>
    bindV (binA Try.prog .lss 3 v59_88 v64_91) fun v65_92 =>
    bindV (pickA v53_85 v65_92 (.bool false)) fun v66_93 =>
    R6.d_57 call k rec_2_46 v38_152 v8_48 v66_93)
    (bindV (pickA v53_85 (.tuple #[]) (.bool false)) fun v66_94 =>
    R6.d_57 call k rec_2_46 v38_152 v8_48 v66_94))
    (bindV (pickA v50_84 (.tuple #[]) (.bool false)) fun v53_95 =>
    guardA true v53_95 (bindV (indexAddrA 3 v0_in v8_48) fun v57_96 =>
    bindV (fieldAddrA 2 v57_96) fun v58_97 =>
    bindV (loadA none v58_97) fun v59_98 =>
    bindV (indexAddrA 3 v0_in v14_1) fun v62_99 =>
    bindV (fieldAddrA 2 v62_99) fun v63_100 =>
    bindV (loadA none v63_100) fun v64_101 =>
    bindV (binA Try.prog .lss 3 v59_98 v64_101) fun v65_102 =>
    bindV (pickA v53_95 v65_102 (.bool false)) fun v66_103 =>
    R6.d_57 call k rec_2_46 v38_152 v8_48 v66_103)
    (bindV (pickA v53_95 (.tuple #[]) (.bool false)) fun v66_104 =>
    R6.d_57 call k rec_2_46 v38_152 v8_48 v66_104))))
    (bindV (pickA v40_58 (.tuple #[]) (.bool false)) fun v44_105 =>
    guardA true v44_105 (bindV (lenA v0_in) fun v48_106 =>
    bindV (binA Try.prog .lss 3 v14_1 v48_106) fun v49_107 =>
    bindV (pickA v44_105 v49_107 (.bool false)) fun v50_108 =>
    guardA true v50_108 (bindV (pickA v50_108 v9_52 (.bool false)) fun v53_109 =>
    guardA true v53_109 (bindV (indexAddrA 3 v0_in v8_48) fun v57_110 =>
    bindV (fieldAddrA 2 v57_110) fun v58_111 =>
    bindV (loadA none v58_111) fun v59_112 =>
    bindV (indexAddrA 3 v0_in v14_1) fun v62_113 =>
    bindV (fieldAddrA 2 v62_113) fun v63_114 =>
    bindV (loadA none v63_114) fun v64_115 =>
    bindV (binA Try.prog .lss 3 v59_112 v64_115) fun v65_116 =>
    bindV (pickA v53_109 v65_116 (.bool false)) fun v66_117 =>
    R6.d_57 call k rec_2_46 v38_152 v8_48 v66_117)
    (bindV (pickA v53_109 (.tuple #[]) (.bool false)) fun v66_118 =>
    R6.d_57 call k rec_2_46 v38_152 v8_48 v66_118))
    (bindV (pickA v50_108 (.tuple #[]) (.bool false)) fun v53_119 =>
    guardA true v53_119 (bindV (indexAddrA 3 v0_in v8_48) fun v57_120 =>
    bindV (fieldAddrA 2 v57_120) fun v58_121 =>
    bindV (loadA none v58_121) fun v59_122 =>
    bindV (indexAddrA 3 v0_in v14_1) fun v62_123 =>
    bindV (fieldAddrA 2 v62_123) fun v63_124 =>
    bindV (loadA none v63_124) fun v64_125 =>
    bindV (binA Try.prog .lss 3 v59_122 v64_125) fun v65_126 =>
    bindV (pickA v53_119 v65_126 (.bool false)) fun v66_127 =>
    R6.d_57 call k rec_2_46 v38_152 v8_48 v66_127)
    (bindV (pickA v53_119 (.tuple #[]) (.bool false)) fun v66_128 =>
    R6.d_57 call k rec_2_46 v38_152 v8_48 v66_128)))
    (bindV (pickA v44_105 (.tuple #[]) (.bool false)) fun v50_129 =>
    guardA true v50_129 (bindV (pickA v50_129 v9_52 (.bool false)) fun v53_130 =>
    guardA true v53_130 (bindV (indexAddrA 3 v0_in v8_48) fun v57_131 =>
    bindV (fieldAddrA 2 v57_131) fun v58_132 =>
    bindV (loadA none v58_132) fun v59_133 =>
    bindV (indexAddrA 3 v0_in v14_1) fun v62_134 =>
    bindV (fieldAddrA 2 v62_134) fun v63_135 =>
    bindV (loadA none v63_135) fun v64_136 =>
    bindV (binA Try.prog .lss 3 v59_133 v64_136) fun v65_137 =>
    bindV (pickA v53_130 v65_137 (.bool false)) fun v66_138 =>
    R6.d_57 call k rec_2_46 v38_152 v8_48 v66_138)
    (bindV (pickA v53_130 (.tuple #[]) (.bool false)) fun v66_139 =>
    R6.d_57 call k rec_2_46 v38_152 v8_48 v66_139))
    (bindV (pickA v50_129 (.tuple #[]) (.bool false)) fun v53_140 =>
    guardA true v53_140 (bindV (indexAddrA 3 v0_in v8_48) fun v57_141 =>
    bindV (fieldAddrA 2 v57_141) fun v58_142 =>
    bindV (loadA none v58_142) fun v59_143 =>
    bindV (indexAddrA 3 v0_in v14_1) fun v62_144 =>
    bindV (fieldAddrA 2 v62_144) fun v63_145 =>
    bindV (loadA none v63_145) fun v64_146 =>
    bindV (binA Try.prog .lss 3 v59_143 v64_146) fun v65_147 =>
    bindV (pickA v53_140 v65_147 (.bool false)) fun v66_148 =>
    R6.d_57 call k rec_2_46 v38_152 v8_48 v66_148)
    (bindV (pickA v53_140 (.tuple #[]) (.bool false)) fun v66_149 =>
    R6.d_57 call k rec_2_46 v38_152 v8_48 v66_149))))

noncomputable def R6.g_160 (call : FuncId → List Value → AM Value) (k : Nat) (rec_2_46 : Value → Value → AM Value) (v0_in : Value) (v14_1 : Value) (v15_2 : Value) (v26_157 : Value) (v7_47 : Value) (v8_48 : Value) (v33_158 : Value) : AM Value :=
  bindV (pickA v26_157 v33_158 (.bool false)) fun v34_159 =>
    guardA false v7_47 (R6.g_153 call k rec_2_46 v0_in v14_1 v15_2 v7_47 v8_48 v34_159 v34_159)
    (R6.g_153 call k rec_2_46 v0_in v14_1 v15_2 v7_47 v8_48 v34_159 (.tuple #[]))

noncomputable def R6.b_168 (call : FuncId → List Value → AM Value) (k : Nat) (v0_in : Value) (v14_1 : Value) (v15_2 : Value) (rec_2_46 : Value → Value → AM Value) (v7_47 : Value) (v8_48 : Value) : AM Value :=
  bindV (lenA v0_in) fun v18_166 =>
    bindV (binA Try.prog .lss 3 v8_48 v18_166) fun v19_167 =>
    condA v19_167 (bindV (indexAddrA 3 v0_in v8_48) fun v24_155 =>
    bindV (fieldAddrA 0 v24_155) fun v25_156 =>
    bindV (loadA none v25_156) fun v26_157 =>
    guardA true v26_157 (bindV (indexAddrA 3 v0_in v8_48) fun v30_161 =>
    bindV (fieldAddrA 1 v30_161) fun v31_162 =>
    bindV (loadA none v31_162) fun v32_163 =>
    bindV (binA Try.prog .gtr 3 v32_163 (.int .i64 0)) fun v33_164 =>
    R6.g_160 call k rec_2_46 v0_in v14_1 v15_2 v26_157 v7_47 v8_48 v33_164)
    (R6.g_160 call k rec_2_46 v0_in v14_1 v15_2 v26_157 v7_47 v8_48 (.tuple #[])))
    (bindV (binA Try.prog .neq 28 v15_2 (.int .i64 0)) fun v68_33 =>
    condA v68_33 (bindV (unA .not v7_47) fun v70_36 =>
    guardA true v70_36 (bindV (binA Try.prog .eql 28 v15_2 (.int .i64 6)) fun v73_44 =>
    R6.g_43 call k v70_36 v73_44)
    (R6.g_43 call k v70_36 (.tuple #[])))
    (guardA true v7_47 (bindV (binA Try.prog .geq 3 v14_1 (.int .i64 0)) fun v81_31 =>
    R6.g_30 call k v0_in v14_1 v7_47 v81_31)
    (R6.g_30 call k v0_in v14_1 v7_47 (.tuple #[]))))

noncomputable def R6.top (call : FuncId → List Value → AM Value) (k : Nat) (v0_in : Value) (v1_in : Value) : AM Value :=
  bindV (call 19 [v0_in, v1_in]) fun v13_0 =>
    bindV (extractA v13_0 0) fun v14_1 =>
    bindV (extractA v13_0 1) fun v15_2 =>
    loop2 (R6.b_168 call k v0_in v14_1 v15_2) k (.bool false) (.int .i64 0)

theorem R6.eq (call : FuncId → List Value → AM Value) (k : Nat) (v0_in : Value) (v1_in : Value) : funcA Try.prog call k 6 [v0_in, v1_in] = R6.top call k v0_in v1_in := by kernel_rfl

/-! ### 7: aqueduct/aqueductlaw18.PickDraws (2 arguments) -/
noncomputable def R7.g_12 (call : FuncId → List Value → AM Value) (k : Nat) (v78_9 : Value) (v80_10 : Value) : AM Value :=
  bindV (pickA v78_9 v80_10 (.bool false)) fun v81_11 =>
    ret v81_11

noncomputable def R7.g_14 (call : FuncId → List Value → AM Value) (k : Nat) (v75_7 : Value) (v77_8 : Value) : AM Value :=
  bindV (pickA v75_7 v77_8 (.bool false)) fun v78_9 =>
    guardA true v78_9 (bindV (call 16 []) fun v80_13 =>
    R7.g_12 call k v78_9 v80_13)
    (R7.g_12 call k v78_9 (.tuple #[]))

noncomputable def R7.g_24 (call : FuncId → List Value → AM Value) (k : Nat) (rec_2_16 : Value → Value → AM Value) (v11_17 : Value) (v12_18 : Value) (v72_22 : Value) : AM Value :=
  bindV (pickA v11_17 (.bool true) v72_22) fun v73_23 =>
    bindV (binA Try.prog .add 3 v12_18 (.int .i64 1)) fun v64_20 =>
    rec_2_16 v73_23 v64_20

noncomputable def R7.b_31 (call : FuncId → List Value → AM Value) (k : Nat) (v14_0 : Value) (v45_2 : Value) (v46_3 : Value) (rec_2_16 : Value → Value → AM Value) (v11_17 : Value) (v12_18 : Value) : AM Value :=
  bindV (lenA v14_0) fun v61_29 =>
    bindV (binA Try.prog .lss 3 v12_18 v61_29) fun v62_30 =>
    condA v62_30 (guardA false v11_17 (bindV (indexAddrA 1 v14_0 v12_18) fun v69_25 =>
    bindV (loadA none v69_25) fun v70_26 =>
    bindV (binA Try.prog .eql 3 v70_26 v45_2) fun v72_27 =>
    R7.g_24 call k rec_2_16 v11_17 v12_18 v72_27)
    (R7.g_24 call k rec_2_16 v11_17 v12_18 (.tuple #[])))
    (bindV (binA Try.prog .eql 28 v46_3 (.int .i64 0)) fun v75_7 =>
    guardA true v75_7 (R7.g_14 call k v75_7 v11_17)
    (R7.g_14 call k v75_7 (.tuple #[])))

noncomputable def R7.g_42 (call : FuncId → List Value → AM Value) (k : Nat) (v55_39 : Value) (v57_40 : Value) : AM Value :=
  bindV (pickA v55_39 v57_40 (.bool false)) fun v58_41 =>
    ret v58_41

noncomputable def R7.g_44 (call : FuncId → List Value → AM Value) (k : Nat) (v51_37 : Value) (v54_38 : Value) : AM Value :=
  bindV (pickA v51_37 v54_38 (.bool false)) fun v55_39 =>
    guardA true v55_39 (bindV (call 16 []) fun v57_43 =>
    R7.g_42 call k v55_39 v57_43)
    (R7.g_42 call k v55_39 (.tuple #[]))

noncomputable def R7.g_59 (call : FuncId → List Value → AM Value) (k : Nat) (rec_1_47 : Value → AM Value) (v32_56 : Value) (v6_48 : Value) (v39_57 : Value) : AM Value :=
  bindV (pickA v32_56 (.bool true) v39_57) fun v40_58 =>
    condA v40_58 (ret (.bool false))
    (bindV (binA Try.prog .add 3 v6_48 (.int .i64 1)) fun v24_49 =>
    rec_1_47 v24_49)

noncomputable def R7.g_70 (call : FuncId → List Value → AM Value) (k : Nat) (rec_1_47 : Value → AM Value) (v0_in : Value) (v14_0 : Value) (v18_67 : Value) (v1_in : Value) (v6_48 : Value) (v21_68 : Value) : AM Value :=
  bindV (pickA v18_67 v21_68 (.bool false)) fun v22_69 =>
    condA v22_69 (bindV (call 19 [v0_in, v6_48]) fun v28_51 =>
    bindV (extractA v28_51 0) fun v29_52 =>
    bindV (extractA v28_51 1) fun v30_53 =>
    bindV (binA Try.prog .neq 28 v30_53 (.int .i64 0)) fun v32_56 =>
    guardA false v32_56 (bindV (indexAddrA 1 v14_0 v6_48) fun v37_60 =>
    bindV (loadA none v37_60) fun v38_61 =>
    bindV (binA Try.prog .neq 3 v29_52 v38_61) fun v39_62 =>
    R7.g_59 call k rec_1_47 v32_56 v6_48 v39_62)
    (R7.g_59 call k rec_1_47 v32_56 v6_48 (.tuple #[])))
    (bindV (call 19 [v0_in, v1_in]) fun v44_1 =>
    bindV (extractA v44_1 0) fun v45_2 =>
    bindV (extractA v44_1 1) fun v46_3 =>
    bindV (lenA v14_0) fun v48_33 =>
    bindV (binA Try.prog .eql 3 v48_33 (.int .i64 0)) fun v49_34 =>
    condA v49_34 (bindV (binA Try.prog .eql 28 v46_3 (.int .i64 6)) fun v51_37 =>
    guardA true v51_37 (bindV (binA Try.prog .eql 3 v45_2 (.int .i64 0)) fun v54_45 =>
    R7.g_44 call k v51_37 v54_45)
    (R7.g_44 call k v51_37 (.tuple #[])))
    (loop2 (R7.b_31 call k v14_0 v45_2 v46_3) k (.bool false) (.int .i64 0)))

noncomputable def R7.b_72 (call : FuncId → List Value → AM Value) (k : Nat) (v0_in : Value) (v14_0 : Value) (v1_in : Value) (rec_1_47 : Value → AM Value) (v6_48 : Value) : AM Value :=
  bindV (lenA v14_0) fun v17_66 =>
    bindV (binA Try.prog .lss 3 v6_48 v17_66) fun v18_67 =>
    guardA true v18_67 (bindV (binA Try.prog .lss 3 v6_48 (.int .i64 100)) fun v21_71 =>
    R7.g_70 call k rec_1_47 v0_in v14_0 v18_67 v1_in v6_48 v21_71)
    (R7.g_70 call k rec_1_47 v0_in v14_0 v18_67 v1_in v6_48 (.tuple #[]))

noncomputable def R7.top (call : FuncId → List Value → AM Value) (k : Nat) (v0_in : Value) (v1_in : Value) : AM Value :=
  bindV (call 17 [v0_in]) fun v14_0 =>
    loop1 (R7.b_72 call k v0_in v14_0 v1_in) k (.int .i64 0)

theorem R7.eq (call : FuncId → List Value → AM Value) (k : Nat) (v0_in : Value) (v1_in : Value) : funcA Try.prog call k 7 [v0_in, v1_in] = R7.top call k v0_in v1_in := by kernel_rfl

/-! ### 13: aqueduct/aqueductlaw18.ints (2 arguments) -/
noncomputable def R13.b_13 (call : FuncId → List Value → AM Value) (k : Nat) (v0_in : Value) (v1_in : Value) (rec_1_1 : Value → AM Value) (v5_2 : Value) : AM Value :=
  bindV (lenA v0_in) fun v13_11 =>
    bindV (binA Try.prog .lss 3 v5_2 v13_11) fun v14_12 =>
    condA v14_12 (bindV (indexAddrA 1 v0_in v5_2) fun v19_5 =>
    bindV (loadA none v19_5) fun v20_6 =>
    bindV (indexAddrA 1 v1_in v5_2) fun v23_7 =>
    bindV (loadA none v23_7) fun v24_8 =>
    bindV (binA Try.prog .neq 3 v20_6 v24_8) fun v25_9 =>
    condA v25_9 (ret (.bool false))
    (bindV (binA Try.prog .add 3 v5_2 (.int .i64 1)) fun v16_3 =>
    rec_1_1 v16_3))
    (ret (.bool true))

noncomputable def R13.top (call : FuncId → List Value → AM Value) (k : Nat) (v0_in : Value) (v1_in : Value) : AM Value :=
  bindV (lenA v0_in) fun v7_15 =>
    bindV (lenA v1_in) fun v9_16 =>
    bindV (binA Try.prog .neq 3 v7_15 v9_16) fun v10_17 =>
    condA v10_17 (ret (.bool false))
    (loop1 (R13.b_13 call k v0_in v1_in) k (.int .i64 0))

theorem R13.eq (call : FuncId → List Value → AM Value) (k : Nat) (v0_in : Value) (v1_in : Value) : funcA Try.prog call k 13 [v0_in, v1_in] = R13.top call k v0_in v1_in := by kernel_rfl

/-! ### 14: aqueduct/pick.Fit (1 arguments) -/
noncomputable def R14.b_16 (call : FuncId → List Value → AM Value) (k : Nat) (v1_0 : Value) (v6_5 : Value) (rec_2_6 : Value → Value → AM Value) (v3_7 : Value) (v7_8 : Value) : AM Value :=
  bindV (binA Try.prog .lss 3 v7_8 v6_5) fun v8_9 =>
    condA v8_9 (bindV (buildSliceA 3 1 1 [(.int .i64 0)] [(0, v7_8)]) fun v12_13 =>
    bindV (appendA 3 1 8 v3_7 v12_13) fun v13_14 =>
    bindV (binA Try.prog .add 3 v7_8 (.int .i64 1)) fun v14_11 =>
    rec_2_6 v13_14 v14_11)
    (bindV (call 33 [v3_7, (.func (.func 34) #[] #[v1_0])]) fun v17_2 =>
    ret v17_2)

noncomputable def R14.top (call : FuncId → List Value → AM Value) (k : Nat) (v0_in : Value) : AM Value :=
  bindV (boxA 22 v0_in) fun v1_0 =>
    bindV (loadA none v1_0) fun v5_4 =>
    bindV (lenA v5_4) fun v6_5 =>
    loop2 (R14.b_16 call k v1_0 v6_5) k (.slice none 0 0) (.int .i64 0)

theorem R14.eq (call : FuncId → List Value → AM Value) (k : Nat) (v0_in : Value) : funcA Try.prog call k 14 [v0_in] = R14.top call k v0_in := by kernel_rfl

/-! ### 15: aqueduct/aqueductref18.Fit (1 arguments) -/
noncomputable def R15.j_7 (call : FuncId → List Value → AM Value) (k : Nat) (rec_2_2 : Value → Value → AM Value) (v4_4 : Value) (v3_5 : Value) : AM Value :=
  bindV (binA Try.prog .add 3 v4_4 (.int .i64 1)) fun v10_6 =>
    rec_2_2 v3_5 v10_6

noncomputable def R15.g_17 (call : FuncId → List Value → AM Value) (k : Nat) (rec_2_2 : Value → Value → AM Value) (v15_14 : Value) (v3_3 : Value) (v4_4 : Value) (v22_15 : Value) : AM Value :=
  bindV (pickA v15_14 v22_15 (.bool false)) fun v23_16 =>
    condA v23_16 (bindV (buildSliceA 3 1 1 [(.int .i64 0)] [(0, v4_4)]) fun v26_9 =>
    bindV (appendA 3 1 8 v3_3 v26_9) fun v27_10 =>
    R15.j_7 call k rec_2_2 v4_4 v27_10)
    (R15.j_7 call k rec_2_2 v4_4 v3_3)

noncomputable def R15.b_25 (call : FuncId → List Value → AM Value) (k : Nat) (v0_in : Value) (rec_2_2 : Value → Value → AM Value) (v3_3 : Value) (v4_4 : Value) : AM Value :=
  bindV (lenA v0_in) fun v7_23 =>
    bindV (binA Try.prog .lss 3 v4_4 v7_23) fun v8_24 =>
    condA v8_24 (bindV (indexAddrA 3 v0_in v4_4) fun v13_12 =>
    bindV (fieldAddrA 0 v13_12) fun v14_13 =>
    bindV (loadA none v14_13) fun v15_14 =>
    guardA true v15_14 (bindV (indexAddrA 3 v0_in v4_4) fun v19_18 =>
    bindV (fieldAddrA 1 v19_18) fun v20_19 =>
    bindV (loadA none v20_19) fun v21_20 =>
    bindV (binA Try.prog .gtr 3 v21_20 (.int .i64 0)) fun v22_21 =>
    R15.g_17 call k rec_2_2 v15_14 v3_3 v4_4 v22_21)
    (R15.g_17 call k rec_2_2 v15_14 v3_3 v4_4 (.tuple #[])))
    (ret v3_3)

noncomputable def R15.top (call : FuncId → List Value → AM Value) (k : Nat) (v0_in : Value) : AM Value :=
  loop2 (R15.b_25 call k v0_in) k (.slice none 0 0) (.int .i64 0)

theorem R15.eq (call : FuncId → List Value → AM Value) (k : Nat) (v0_in : Value) : funcA Try.prog call k 15 [v0_in] = R15.top call k v0_in := by kernel_rfl

/-! ### 16: aqueduct/aqueductlaw18.awake (0 arguments) -/
noncomputable def R16.g_11 (call : FuncId → List Value → AM Value) (k : Nat) (v11_8 : Value) (v14_9 : Value) : AM Value :=
  bindV (pickA v11_8 v14_9 (.bool false)) fun v15_10 =>
    ret v15_10

noncomputable def R16.top (call : FuncId → List Value → AM Value) (k : Nat) : AM Value :=
  bindV (buildA [(0, 1), (1, 1), (2, 1)] [(.bool false), (.int .i64 0), (.int .i64 0)] []) fun v4_0 =>
    bindV (buildA [(0, 1), (1, 1), (2, 1)] [(.bool false), (.int .i64 0), (.int .i64 0)] [(0, (.bool true)), (1, (.int .i64 1))]) fun v5_1 =>
    bindV (buildSliceA 35 3 2 [(.bool false), (.int .i64 0), (.int .i64 0)] [(0, v4_0), (1, v5_1)]) fun v6_2 =>
    bindV (call 19 [v6_2, (.int .i64 5)]) fun v7_3 =>
    bindV (extractA v7_3 0) fun v8_4 =>
    bindV (extractA v7_3 1) fun v9_5 =>
    bindV (binA Try.prog .eql 3 v8_4 (.int .i64 1)) fun v11_8 =>
    guardA true v11_8 (bindV (binA Try.prog .eql 28 v9_5 (.int .i64 0)) fun v14_12 =>
    R16.g_11 call k v11_8 v14_12)
    (R16.g_11 call k v11_8 (.tuple #[]))

theorem R16.eq (call : FuncId → List Value → AM Value) (k : Nat) : funcA Try.prog call k 16 [] = R16.top call k := by kernel_rfl

/-! ### 17: aqueduct/pick.Ties (1 arguments) -/
noncomputable def R17.b_30 (call : FuncId → List Value → AM Value) (k : Nat) (v1_0 : Value) (v20_14 : Value) (v4_10 : Value) (v8_2 : Value) (rec_1_15 : Value → AM Value) (v21_16 : Value) : AM Value :=
  bindV (binA Try.prog .lss 3 v21_16 v20_14) fun v22_17 =>
    condA v22_17 (bindV (indexAddrA 1 v8_2 v21_16) fun v23_20 =>
    bindV (loadA none v23_20) fun v24_21 =>
    bindV (loadA none v4_10) fun v25_22 =>
    bindV (loadA none v1_0) fun v26_23 =>
    bindV (indexAddrA 3 v26_23 v24_21) fun v28_24 =>
    bindV (fieldAddrA 2 v28_24) fun v29_25 =>
    bindV (loadA none v29_25) fun v30_26 =>
    bindV (min2A v25_22 v30_26) fun v31_27 =>
    bindV (storeA 1 v4_10 v31_27) fun _ =>
    bindV (binA Try.prog .add 3 v21_16 (.int .i64 1)) fun v32_18 =>
    rec_1_15 v32_18)
    (bindV (call 33 [v8_2, (.func (.func 35) #[] #[v1_0, v4_10])]) fun v35_12 =>
    ret v35_12)

noncomputable def R17.top (call : FuncId → List Value → AM Value) (k : Nat) (v0_in : Value) : AM Value :=
  bindV (boxA 22 v0_in) fun v1_0 =>
    bindV (loadA none v1_0) fun v7_1 =>
    bindV (call 14 [v7_1]) fun v8_2 =>
    bindV (lenA v8_2) fun v10_32 =>
    bindV (binA Try.prog .eql 3 v10_32 (.int .i64 0)) fun v11_33 =>
    condA v11_33 (ret (.slice none 0 0))
    (bindV (loadA none v1_0) fun v12_3 =>
    bindV (indexAddrA 1 v8_2 (.int .i64 0)) fun v14_4 =>
    bindV (loadA none v14_4) fun v15_5 =>
    bindV (indexAddrA 3 v12_3 v15_5) fun v16_6 =>
    bindV (fieldAddrA 2 v16_6) fun v17_7 =>
    bindV (loadA none v17_7) fun v18_8 =>
    bindV (newA [(.int .i64 0)] 3) fun v4_10 =>
    hereV [((loadA none v17_7 : AM Value), (v18_8 : Value)), ((loadA none v14_4 : AM Value), (v15_5 : Value)), ((loadA none v1_0 : AM Value), (v12_3 : Value))] (
    bindV (storeA 1 v4_10 v18_8) fun _ =>
    bindV (lenA v8_2) fun v20_14 =>
    loop1 (R17.b_30 call k v1_0 v20_14 v4_10 v8_2) k (.int .i64 0)))

theorem R17.eq (call : FuncId → List Value → AM Value) (k : Nat) (v0_in : Value) : funcA Try.prog call k 17 [v0_in] = R17.top call k v0_in := by kernel_rfl

/-! ### 18: aqueduct/aqueductref18.Ties (1 arguments) -/
noncomputable def R18.j_8 (call : FuncId → List Value → AM Value) (k : Nat) (rec_2_3 : Value → Value → AM Value) (v5_5 : Value) (v3_6 : Value) : AM Value :=
  bindV (binA Try.prog .add 3 v5_5 (.int .i64 1)) fun v15_7 =>
    rec_2_3 v3_6 v15_7

noncomputable def R18.d_22 (call : FuncId → List Value → AM Value) (k : Nat) (rec_2_15 : Value → Value → AM Value) (v7_17 : Value) (v6_21 : Value) : AM Value :=
  bindV (binA Try.prog .add 3 v7_17 (.int .i64 1)) fun v21_19 =>
    rec_2_15 v6_21 v21_19

noncomputable def R18.b_39 (call : FuncId → List Value → AM Value) (k : Nat) (rec_2_3 : Value → Value → AM Value) (v0_in : Value) (v3_4 : Value) (v5_5 : Value) (v9_0 : Value) (rec_2_15 : Value → Value → AM Value) (v6_16 : Value) (v7_17 : Value) : AM Value :=
  bindV (lenA v9_0) fun v18_37 =>
    bindV (binA Try.prog .lss 3 v7_17 v18_37) fun v19_38 =>
    condA v19_38 (guardA true v6_16 (bindV (indexAddrA 1 v9_0 v5_5) fun v27_23 =>
    bindV (loadA none v27_23) fun v28_24 =>
    bindV (indexAddrA 3 v0_in v28_24) fun v29_25 =>
    bindV (fieldAddrA 2 v29_25) fun v30_26 =>
    bindV (loadA none v30_26) fun v31_27 =>
    bindV (indexAddrA 1 v9_0 v7_17) fun v35_28 =>
    bindV (loadA none v35_28) fun v36_29 =>
    bindV (indexAddrA 3 v0_in v36_29) fun v37_30 =>
    bindV (fieldAddrA 2 v37_30) fun v38_31 =>
    bindV (loadA none v38_31) fun v39_32 =>
    bindV (binA Try.prog .leq 3 v31_27 v39_32) fun v40_33 =>
    bindV (pickA v6_16 v40_33 (.bool false)) fun v41_34 =>
    R18.d_22 call k rec_2_15 v7_17 v41_34)
    (bindV (pickA v6_16 (.tuple #[]) (.bool false)) fun v41_35 =>
    R18.d_22 call k rec_2_15 v7_17 v41_35))
    (condA v6_16 (bindV (indexAddrA 1 v9_0 v5_5) fun v46_10 =>
    bindV (loadA none v46_10) fun v47_11 =>
    bindV (buildSliceA 3 1 1 [(.int .i64 0)] [(0, v47_11)]) fun v48_12 =>
    bindV (appendA 3 1 8 v3_4 v48_12) fun v49_13 =>
    R18.j_8 call k rec_2_3 v5_5 v49_13)
    (R18.j_8 call k rec_2_3 v5_5 v3_4))

noncomputable def R18.b_43 (call : FuncId → List Value → AM Value) (k : Nat) (v0_in : Value) (v9_0 : Value) (rec_2_3 : Value → Value → AM Value) (v3_4 : Value) (v5_5 : Value) : AM Value :=
  bindV (lenA v9_0) fun v12_41 =>
    bindV (binA Try.prog .lss 3 v5_5 v12_41) fun v13_42 =>
    condA v13_42 (loop2 (R18.b_39 call k rec_2_3 v0_in v3_4 v5_5 v9_0) k (.bool true) (.int .i64 0))
    (ret v3_4)

noncomputable def R18.top (call : FuncId → List Value → AM Value) (k : Nat) (v0_in : Value) : AM Value :=
  bindV (call 15 [v0_in]) fun v9_0 =>
    loop2 (R18.b_43 call k v0_in v9_0) k (.slice none 0 0) (.int .i64 0)

theorem R18.eq (call : FuncId → List Value → AM Value) (k : Nat) (v0_in : Value) : funcA Try.prog call k 18 [v0_in] = R18.top call k v0_in := by kernel_rfl

/-! ### 19: aqueduct/pick.Choose (2 arguments) -/
noncomputable def R19.top (call : FuncId → List Value → AM Value) (k : Nat) (v0_in : Value) (v1_in : Value) : AM Value :=
  bindV (call 17 [v0_in]) fun v9_0 =>
    bindV (lenA v9_0) fun v11_1 =>
    bindV (binA Try.prog .eql 3 v11_1 (.int .i64 0)) fun v13_8 =>
    condA v13_8 (ret (.tuple #[(.int .i64 0), (.int .i64 6)]))
    (bindV (binA Try.prog .rem 3 v1_in v11_1) fun v17_2 =>
    bindV (binA Try.prog .add 3 v17_2 v11_1) fun v19_3 =>
    bindV (binA Try.prog .rem 3 v19_3 v11_1) fun v21_4 =>
    bindV (indexAddrA 1 v9_0 v21_4) fun v22_5 =>
    bindV (loadA none v22_5) fun v23_6 =>
    ret (.tuple #[v23_6, (.int .i64 0)]))

theorem R19.eq (call : FuncId → List Value → AM Value) (k : Nat) (v0_in : Value) (v1_in : Value) : funcA Try.prog call k 19 [v0_in, v1_in] = R19.top call k v0_in v1_in := by kernel_rfl

/-! ### 20: aqueduct/aqueductref18.Choose (2 arguments) -/
noncomputable def R20.j_6 (call : FuncId → List Value → AM Value) (k : Nat) (v9_0 : Value) (v7_3 : Value) : AM Value :=
  bindV (indexAddrA 1 v9_0 v7_3) fun v25_4 =>
    bindV (loadA none v25_4) fun v26_5 =>
    ret (.tuple #[v26_5, (.int .i64 0)])

noncomputable def R20.top (call : FuncId → List Value → AM Value) (k : Nat) (v0_in : Value) (v1_in : Value) : AM Value :=
  bindV (call 18 [v0_in]) fun v9_0 =>
    bindV (lenA v9_0) fun v11_11 =>
    bindV (binA Try.prog .eql 3 v11_11 (.int .i64 0)) fun v12_12 =>
    condA v12_12 (ret (.tuple #[(.int .i64 0), (.int .i64 6)]))
    (bindV (lenA v9_0) fun v15_1 =>
    bindV (binA Try.prog .rem 3 v1_in v15_1) fun v16_2 =>
    bindV (binA Try.prog .lss 3 v16_2 (.int .i64 0)) fun v18_7 =>
    condA v18_7 (bindV (lenA v9_0) fun v21_8 =>
    bindV (binA Try.prog .add 3 v16_2 v21_8) fun v22_9 =>
    R20.j_6 call k v9_0 v22_9)
    (R20.j_6 call k v9_0 v16_2))

theorem R20.eq (call : FuncId → List Value → AM Value) (k : Nat) (v0_in : Value) (v1_in : Value) : funcA Try.prog call k 20 [v0_in, v1_in] = R20.top call k v0_in v1_in := by kernel_rfl

/-! ### 33: aqueduct/pick.filter[int] (2 arguments) -/
noncomputable def R33.j_9 (call : FuncId → List Value → AM Value) (k : Nat) (rec_2_3 : Value → Value → AM Value) (v10_5 : Value) (v5_7 : Value) : AM Value :=
  bindV (binA Try.prog .add 3 v10_5 (.int .i64 1)) fun v21_8 =>
    rec_2_3 v5_7 v21_8

noncomputable def R33.b_16 (call : FuncId → List Value → AM Value) (k : Nat) (v0_in : Value) (v1_in : Value) (v9_2 : Value) (rec_2_3 : Value → Value → AM Value) (v5_4 : Value) (v10_5 : Value) : AM Value :=
  bindV (binA Try.prog .lss 3 v10_5 v9_2) fun v11_6 =>
    condA v11_6 (bindV (indexAddrA 1 v0_in v10_5) fun v12_10 =>
    bindV (loadA none v12_10) fun v13_11 =>
    bindV (callA call v1_in [v13_11]) fun v16_12 =>
    condA v16_12 (bindV (buildSliceA 3 1 1 [(.int .i64 0)] [(0, v13_11)]) fun v19_13 =>
    bindV (appendA 3 1 8 v5_4 v19_13) fun v20_14 =>
    R33.j_9 call k rec_2_3 v10_5 v20_14)
    (R33.j_9 call k rec_2_3 v10_5 v5_4))
    (ret v5_4)

noncomputable def R33.top (call : FuncId → List Value → AM Value) (k : Nat) (v0_in : Value) (v1_in : Value) : AM Value :=
  bindV (lenA v0_in) fun v9_2 =>
    loop2 (R33.b_16 call k v0_in v1_in v9_2) k (.slice none 0 0) (.int .i64 0)

theorem R33.eq (call : FuncId → List Value → AM Value) (k : Nat) (v0_in : Value) (v1_in : Value) : funcA Try.prog call k 33 [v0_in, v1_in] = R33.top call k v0_in v1_in := by kernel_rfl

/-! ### 34: aqueduct/pick.Fit$1 (2 arguments) -/
noncomputable def R34.g_8 (call : FuncId → List Value → AM Value) (k : Nat) (v8_5 : Value) (v15_6 : Value) : AM Value :=
  bindV (pickA v8_5 v15_6 (.bool false)) fun v16_7 =>
    ret v16_7

noncomputable def R34.top (call : FuncId → List Value → AM Value) (k : Nat) (v0_in : Value) (v1_in : Value) : AM Value :=
  bindV (loadA none v1_in) fun v4_2 =>
    bindV (indexAddrA 3 v4_2 v0_in) fun v6_3 =>
    bindV (fieldAddrA 0 v6_3) fun v7_4 =>
    bindV (loadA none v7_4) fun v8_5 =>
    guardA true v8_5 (bindV (loadA none v1_in) fun v10_9 =>
    bindV (indexAddrA 3 v10_9 v0_in) fun v12_10 =>
    bindV (fieldAddrA 1 v12_10) fun v13_11 =>
    bindV (loadA none v13_11) fun v14_12 =>
    bindV (binA Try.prog .gtr 3 v14_12 (.int .i64 0)) fun v15_13 =>
    R34.g_8 call k v8_5 v15_13)
    (R34.g_8 call k v8_5 (.tuple #[]))

theorem R34.eq (call : FuncId → List Value → AM Value) (k : Nat) (v0_in : Value) (v1_in : Value) : funcA Try.prog call k 34 [v0_in, v1_in] = R34.top call k v0_in v1_in := by kernel_rfl

/-! ### 35: aqueduct/pick.Ties$1 (3 arguments) -/
noncomputable def R35.top (call : FuncId → List Value → AM Value) (k : Nat) (v0_in : Value) (v1_in : Value) (v2_in : Value) : AM Value :=
  bindV (loadA none v1_in) fun v5_0 =>
    bindV (indexAddrA 3 v5_0 v0_in) fun v7_1 =>
    bindV (fieldAddrA 2 v7_1) fun v8_2 =>
    bindV (loadA none v8_2) fun v9_3 =>
    bindV (loadA none v2_in) fun v10_4 =>
    bindV (binA Try.prog .eql 3 v9_3 v10_4) fun v11_5 =>
    ret v11_5

theorem R35.eq (call : FuncId → List Value → AM Value) (k : Nat) (v0_in : Value) (v1_in : Value) (v2_in : Value) : funcA Try.prog call k 35 [v0_in, v1_in, v2_in] = R35.top call k v0_in v1_in v2_in := by kernel_rfl

end Go.Proofs.Ytlediheihkgebaa
