/- What the functions that these laws reach compute, printed by a program of ours and tied to the model by the kernel. -/
import Derived.Test.YtlgeeibaohdjhaaEngQ
import Derived.Test.YtlgeeibaohdjhaaRows
set_option linter.unusedVariables false
set_option linter.unusedSimpArgs false
namespace Go.Proofs.Ytlgeeibaohdjhaa
open Go.Proofs.Ytlgeeibaohdjhaa.Eng
/-! ### 3: aqueduct/aqueductlaw09.SettingChecks (1 arguments) -/
noncomputable def R3.d_5 (call : FuncId → List Value → AM Value) (k : Nat) (v2_4 : Value) : AM Value :=
  ret v2_4

noncomputable def R3.top (call : FuncId → List Value → AM Value) (k : Nat) (v0_in : Value) : AM Value :=
  bindV (boxA 24 v0_in) fun v1_0 =>
    bindV (ret (.bool false)) fun v2_1 =>
    bindV (loadA (some 2) v1_0) fun v3_6 =>
    bindS fun s_7 =>
    bindV (call 15 [v3_6]) fun v4_8 =>
    bindV (loadA (some 2) v1_0) fun v5_9 =>
    thereV [s_7] (loadA (some 2) v1_0) v5_9 (
    bindV (call 16 [v5_9]) fun v6_11 =>
    bindV (binA Try.prog .eql 3 v4_8 v6_11) fun v7_12 =>
    bindV (ret v7_12) fun v8_13 =>
    guardA true v8_13 (bindV (call 17 []) fun v9_15 =>
    bindV (pickA v8_13 v9_15 (.bool false)) fun v10_16 =>
    bindV (ret v10_16) fun v2_17 =>
    R3.d_5 call k v2_17)
    (bindV (pickA v8_13 (.tuple #[]) (.bool false)) fun v10_18 =>
    bindV (ret v10_18) fun v2_19 =>
    R3.d_5 call k v2_19))

theorem R3.eq (call : FuncId → List Value → AM Value) (k : Nat) (v0_in : Value) : funcA Try.prog call k 3 [v0_in] = R3.top call k v0_in := by kernel_rfl

/-! ### 4: aqueduct/aqueductlaw09.SettingValues (1 arguments) -/
noncomputable def R4.g_40 (call : FuncId → List Value → AM Value) (k : Nat) (rec_1_7 : Value → AM Value) (v4_8 : Value) (v85_37 : Value) (v88_38 : Value) : AM Value :=
  bindV (pickA v85_37 (.bool true) v88_38) fun v89_39 =>
    condA v89_39 (bindV (ret (.bool false)) fun v2_29 =>
    ret v2_29)
    (bindV (ret v4_8) fun v16_9 =>
    bindV (binA Try.prog .add 3 v16_9 (.int .i64 1)) fun v17_10 =>
    bindV (ret v17_10) fun v4_11 =>
    rec_1_7 v4_11)

noncomputable def R4.g_44 (call : FuncId → List Value → AM Value) (k : Nat) (rec_1_7 : Value → AM Value) (v3_2 : Value) (v4_8 : Value) (v80_34 : Value) (v83_35 : Value) : AM Value :=
  bindV (pickA v80_34 (.bool true) v83_35) fun v84_36 =>
    bindV (ret v84_36) fun v85_37 =>
    guardA false v85_37 (bindV (ret v3_2) fun v86_41 =>
    bindV (call 19 [v86_41, (.int .i64 4)]) fun v87_42 =>
    bindV (binA Try.prog .gtr 22 v87_42 (.int .u32 2147483647)) fun v88_43 =>
    R4.g_40 call k rec_1_7 v4_8 v85_37 v88_43)
    (R4.g_40 call k rec_1_7 v4_8 v85_37 (.tuple #[]))

noncomputable def R4.g_66 (call : FuncId → List Value → AM Value) (k : Nat) (rec_1_50 : Value → AM Value) (v68_63 : Value) (v8_51 : Value) (v75_64 : Value) : AM Value :=
  bindV (pickA v68_63 v75_64 (.bool false)) fun v76_65 =>
    condA v76_65 (bindV (ret (.bool false)) fun v2_57 =>
    ret v2_57)
    (bindV (ret v8_51) fun v62_52 =>
    bindV (binA Try.prog .add 3 v62_52 (.int .i64 1)) fun v63_53 =>
    bindV (ret v63_53) fun v8_54 =>
    rec_1_50 v8_54)

noncomputable def R4.b_77 (call : FuncId → List Value → AM Value) (k : Nat) (rec_1_7 : Value → AM Value) (v3_2 : Value) (v4_8 : Value) (rec_1_50 : Value → AM Value) (v8_51 : Value) : AM Value :=
  bindV (ret v8_51) fun v60_75 =>
    bindV (binA Try.prog .lss 3 v60_75 (.int .i64 10)) fun v61_76 =>
    condA v61_76 (bindV (ret v3_2) fun v64_59 =>
    bindV (ret v8_51) fun v65_60 =>
    bindV (call 19 [v64_59, v65_60]) fun v66_61 =>
    bindV (binA Try.prog .neq 22 v66_61 (.int .u32 0)) fun v67_62 =>
    bindV (ret v67_62) fun v68_63 =>
    guardA true v68_63 (bindV (ret v8_51) fun v69_67 =>
    bindV (ret v3_2) fun v70_68 =>
    bindV (ret v8_51) fun v71_69 =>
    bindV (call 19 [v70_68, v71_69]) fun v72_70 =>
    bindV (buildA [(0, 1), (1, 1)] [(.int .i64 0), (.int .u32 0)] [(0, v69_67), (1, v72_70)]) fun v73_71 =>
    bindV (call 15 [v73_71]) fun v74_72 =>
    bindV (binA Try.prog .neq 3 v74_72 (.int .i64 0)) fun v75_73 =>
    R4.g_66 call k rec_1_50 v68_63 v8_51 v75_73)
    (R4.g_66 call k rec_1_50 v68_63 v8_51 (.tuple #[])))
    (bindV (ret v3_2) fun v77_31 =>
    bindV (call 19 [v77_31, (.int .i64 5)]) fun v78_32 =>
    bindV (binA Try.prog .lss 22 v78_32 (.int .u32 16384)) fun v79_33 =>
    bindV (ret v79_33) fun v80_34 =>
    guardA false v80_34 (bindV (ret v3_2) fun v81_45 =>
    bindV (call 19 [v81_45, (.int .i64 5)]) fun v82_46 =>
    bindV (binA Try.prog .gtr 22 v82_46 (.int .u32 16777215)) fun v83_47 =>
    R4.g_44 call k rec_1_7 v3_2 v4_8 v80_34 v83_47)
    (R4.g_44 call k rec_1_7 v3_2 v4_8 v80_34 (.tuple #[])))

noncomputable def R4.g_97 (call : FuncId → List Value → AM Value) (k : Nat) (rec_1_7 : Value → AM Value) (v3_2 : Value) (v42_88 : Value) (v4_8 : Value) (v58_95 : Value) : AM Value :=
  bindV (pickA v42_88 (.bool true) v58_95) fun v59_96 =>
    condA v59_96 (bindV (ret (.bool false)) fun v2_80 =>
    ret v2_80)
    (bindV (ret (.int .i64 0)) fun v8_49 =>
    loop1 (R4.b_77 call k rec_1_7 v3_2 v4_8) k v8_49)

noncomputable def R4.g_99 (call : FuncId → List Value → AM Value) (k : Nat) (rec_1_7 : Value → AM Value) (v3_2 : Value) (v42_88 : Value) (v45_89 : Value) (v4_8 : Value) (v57_94 : Value) : AM Value :=
  guardA false v42_88 (bindV (pickA v45_89 v57_94 (.bool false)) fun v58_98 =>
    R4.g_97 call k rec_1_7 v3_2 v42_88 v4_8 v58_98)
    (R4.g_97 call k rec_1_7 v3_2 v42_88 v4_8 (.tuple #[]))

noncomputable def R4.g_101 (call : FuncId → List Value → AM Value) (k : Nat) (rec_1_7 : Value → AM Value) (v3_2 : Value) (v42_88 : Value) (v45_89 : Value) (v4_8 : Value) (v53_92 : Value) (v56_93 : Value) : AM Value :=
  guardA true v45_89 (bindV (pickA v53_92 (.bool true) v56_93) fun v57_100 =>
    R4.g_99 call k rec_1_7 v3_2 v42_88 v45_89 v4_8 v57_100)
    (R4.g_99 call k rec_1_7 v3_2 v42_88 v45_89 v4_8 (.tuple #[]))

noncomputable def R4.g_105 (call : FuncId → List Value → AM Value) (k : Nat) (rec_1_7 : Value → AM Value) (v3_2 : Value) (v42_88 : Value) (v45_89 : Value) (v4_8 : Value) (v7_26 : Value) (v53_92 : Value) : AM Value :=
  guardA false v53_92 (bindV (fieldAddrA 2 v7_26) fun v54_102 =>
    bindV (loadA none v54_102) fun v55_103 =>
    bindV (binA Try.prog .eql 3 v55_103 (.int .i64 0)) fun v56_104 =>
    R4.g_101 call k rec_1_7 v3_2 v42_88 v45_89 v4_8 v53_92 v56_104)
    (R4.g_101 call k rec_1_7 v3_2 v42_88 v45_89 v4_8 v53_92 (.tuple #[]))

noncomputable def R4.g_108 (call : FuncId → List Value → AM Value) (k : Nat) (rec_1_7 : Value → AM Value) (v3_2 : Value) (v42_88 : Value) (v45_89 : Value) (v48_90 : Value) (v4_8 : Value) (v7_26 : Value) (v51_91 : Value) : AM Value :=
  guardA true v45_89 (bindV (pickA v48_90 (.bool true) v51_91) fun v52_106 =>
    bindV (ret v52_106) fun v53_107 =>
    R4.g_105 call k rec_1_7 v3_2 v42_88 v45_89 v4_8 v7_26 v53_107)
    (R4.g_105 call k rec_1_7 v3_2 v42_88 v45_89 v4_8 v7_26 (.tuple #[]))

noncomputable def R4.g_112 (call : FuncId → List Value → AM Value) (k : Nat) (rec_1_7 : Value → AM Value) (v3_2 : Value) (v42_88 : Value) (v45_89 : Value) (v4_8 : Value) (v7_26 : Value) (v48_90 : Value) : AM Value :=
  guardA false v48_90 (bindV (fieldAddrA 1 v7_26) fun v49_109 =>
    bindV (loadA none v49_109) fun v50_110 =>
    bindV (binA Try.prog .neq 3 v50_110 (.int .i64 0)) fun v51_111 =>
    R4.g_108 call k rec_1_7 v3_2 v42_88 v45_89 v48_90 v4_8 v7_26 v51_111)
    (R4.g_108 call k rec_1_7 v3_2 v42_88 v45_89 v48_90 v4_8 v7_26 (.tuple #[]))

noncomputable def R4.g_116 (call : FuncId → List Value → AM Value) (k : Nat) (rec_1_7 : Value → AM Value) (v3_2 : Value) (v42_88 : Value) (v4_8 : Value) (v6_27 : Value) (v7_26 : Value) (v45_89 : Value) : AM Value :=
  guardA true v45_89 (bindV (ret v6_27) fun v46_113 =>
    bindV (binA Try.prog .neq 3 v46_113 (.int .i64 0)) fun v47_114 =>
    bindV (ret v47_114) fun v48_115 =>
    R4.g_112 call k rec_1_7 v3_2 v42_88 v45_89 v4_8 v7_26 v48_115)
    (R4.g_112 call k rec_1_7 v3_2 v42_88 v45_89 v4_8 v7_26 (.tuple #[]))

noncomputable def R4.g_120 (call : FuncId → List Value → AM Value) (k : Nat) (rec_1_7 : Value → AM Value) (v33_85 : Value) (v3_2 : Value) (v4_8 : Value) (v6_27 : Value) (v7_26 : Value) (v40_86 : Value) : AM Value :=
  bindV (pickA v33_85 v40_86 (.bool false)) fun v41_87 =>
    bindV (ret v41_87) fun v42_88 =>
    guardA false v42_88 (bindV (fieldAddrA 0 v7_26) fun v43_117 =>
    bindV (loadA none v43_117) fun v44_118 =>
    bindV (ret v44_118) fun v45_119 =>
    R4.g_116 call k rec_1_7 v3_2 v42_88 v4_8 v6_27 v7_26 v45_119)
    (R4.g_116 call k rec_1_7 v3_2 v42_88 v4_8 v6_27 v7_26 (.tuple #[]))

noncomputable def R4.b_133 (call : FuncId → List Value → AM Value) (k : Nat) (v0_in : Value) (v3_2 : Value) (rec_1_7 : Value → AM Value) (v4_8 : Value) : AM Value :=
  bindV (ret v4_8) fun v12_129 =>
    bindV (ret v0_in) fun v13_130 =>
    bindV (lenA v13_130) fun v14_131 =>
    bindV (binA Try.prog .lss 3 v12_129 v14_131) fun v15_132 =>
    condA v15_132 (bindV (ret v3_2) fun v18_13 =>
    bindV (call 19 [v18_13, (.int .i64 4)]) fun v19_14 =>
    bindV (convIntA .i64 v19_14) fun v20_15 =>
    bindV (ret v20_15) fun v5_16 =>
    bindV (ret v3_2) fun v22_17 =>
    bindV (ret v0_in) fun v23_18 =>
    bindV (ret v4_8) fun v24_19 =>
    bindV (indexAddrA 1 v23_18 v24_19) fun v25_20 =>
    bindV (loadA none v25_20) fun v26_21 =>
    bindV (call 20 [v22_17, v26_21]) fun v27_22 =>
    bindV (ret v27_22) fun v21_23 =>
    bindV (extractA v21_23 0) fun v28_24 =>
    bindV (extractA v21_23 1) fun v29_25 =>
    bindV (newA [(.bool false), (.int .i64 0), (.int .i64 0)] 33) fun v7_26 =>
    bindV (ret v28_24) fun v6_27 =>
    bindV (storeA 3 v7_26 v29_25) fun _ =>
    bindV (fieldAddrA 0 v7_26) fun v30_82 =>
    bindV (loadA none v30_82) fun v31_83 =>
    bindV (unA .not v31_83) fun v32_84 =>
    bindV (ret v32_84) fun v33_85 =>
    guardA true v33_85 (bindV (ret v3_2) fun v34_121 =>
    bindV (call 19 [v34_121, (.int .i64 4)]) fun v35_122 =>
    bindV (convIntA .i64 v35_122) fun v36_123 =>
    bindV (ret v5_16) fun v37_124 =>
    bindV (binA Try.prog .sub 3 v36_123 v37_124) fun v38_125 =>
    bindV (ret v6_27) fun v39_126 =>
    bindV (binA Try.prog .neq 3 v38_125 v39_126) fun v40_127 =>
    R4.g_120 call k rec_1_7 v33_85 v3_2 v4_8 v6_27 v7_26 v40_127)
    (R4.g_120 call k rec_1_7 v33_85 v3_2 v4_8 v6_27 v7_26 (.tuple #[])))
    (bindV (call 17 []) fun v90_3 =>
    bindV (ret v90_3) fun v2_4 =>
    ret v2_4)

noncomputable def R4.top (call : FuncId → List Value → AM Value) (k : Nat) (v0_in : Value) : AM Value :=
  bindV (ret (.bool false)) fun v2_0 =>
    bindV (call 18 []) fun v9_1 =>
    bindV (ret v9_1) fun v3_2 =>
    bindV (ret v3_2) fun v10_135 =>
    bindV (binA Try.prog .eql 29 v10_135 (.pointer none)) fun v11_136 =>
    condA v11_136 (bindV (ret (.bool false)) fun v2_137 =>
    ret v2_137)
    (bindV (ret (.int .i64 0)) fun v4_6 =>
    loop1 (R4.b_133 call k v0_in v3_2) k v4_6)

theorem R4.eq (call : FuncId → List Value → AM Value) (k : Nat) (v0_in : Value) : funcA Try.prog call k 4 [v0_in] = R4.top call k v0_in := by kernel_rfl

/-! ### 5: aqueduct/aqueductlaw09.SettingParts (1 arguments) -/
noncomputable def R5.b_38 (call : FuncId → List Value → AM Value) (k : Nat) (v3_2 : Value) (v4_4 : Value) (rec_1_21 : Value → AM Value) (v12_22 : Value) : AM Value :=
  bindV (ret v12_22) fun v66_36 =>
    bindV (binA Try.prog .lss 3 v66_36 (.int .i64 10)) fun v67_37 =>
    condA v67_37 (bindV (ret v3_2) fun v70_27 =>
    bindV (ret v12_22) fun v71_28 =>
    bindV (call 19 [v70_27, v71_28]) fun v72_29 =>
    bindV (ret v4_4) fun v73_30 =>
    bindV (ret v12_22) fun v74_31 =>
    bindV (call 19 [v73_30, v74_31]) fun v75_32 =>
    bindV (binA Try.prog .neq 22 v72_29 v75_32) fun v76_33 =>
    condA v76_33 (bindV (ret (.bool false)) fun v2_34 =>
    ret v2_34)
    (bindV (ret v12_22) fun v68_23 =>
    bindV (binA Try.prog .add 3 v68_23 (.int .i64 1)) fun v69_24 =>
    bindV (ret v69_24) fun v12_25 =>
    rec_1_21 v12_25))
    (bindV (call 17 []) fun v77_17 =>
    bindV (ret v77_17) fun v2_18 =>
    ret v2_18)

noncomputable def R5.g_51 (call : FuncId → List Value → AM Value) (k : Nat) (v3_2 : Value) (v4_4 : Value) (v56_46 : Value) (v64_49 : Value) : AM Value :=
  bindV (pickA v56_46 (.bool true) v64_49) fun v65_50 =>
    condA v65_50 (bindV (ret (.bool false)) fun v2_41 =>
    ret v2_41)
    (bindV (ret (.int .i64 0)) fun v12_20 =>
    loop1 (R5.b_38 call k v3_2 v4_4) k v12_20)

noncomputable def R5.g_53 (call : FuncId → List Value → AM Value) (k : Nat) (v3_2 : Value) (v4_4 : Value) (v56_46 : Value) (v60_47 : Value) (v63_48 : Value) : AM Value :=
  guardA false v56_46 (bindV (pickA v60_47 v63_48 (.bool false)) fun v64_52 =>
    R5.g_51 call k v3_2 v4_4 v56_46 v64_52)
    (R5.g_51 call k v3_2 v4_4 v56_46 (.tuple #[]))

noncomputable def R5.g_57 (call : FuncId → List Value → AM Value) (k : Nat) (v3_2 : Value) (v4_4 : Value) (v56_46 : Value) (v5_12 : Value) (v7_16 : Value) (v60_47 : Value) : AM Value :=
  guardA true v60_47 (bindV (ret v5_12) fun v61_54 =>
    bindV (ret v7_16) fun v62_55 =>
    bindV (binA Try.prog .neq 3 v61_54 v62_55) fun v63_56 =>
    R5.g_53 call k v3_2 v4_4 v56_46 v60_47 v63_56)
    (R5.g_53 call k v3_2 v4_4 v56_46 v60_47 (.tuple #[]))

noncomputable def R5.g_99 (call : FuncId → List Value → AM Value) (k : Nat) (rec_2_64 : Value → Value → AM Value) (v0_in : Value) (v32_96 : Value) (v3_2 : Value) (v4_4 : Value) (v5_12 : Value) (v6_11 : Value) (v7_65 : Value) (v8_15 : Value) (v9_66 : Value) (v35_97 : Value) : AM Value :=
  bindV (pickA v32_96 v35_97 (.bool false)) fun v36_98 =>
    condA v36_98 (bindV (ret v4_4) fun v40_72 =>
    bindV (ret v0_in) fun v41_73 =>
    bindV (ret v9_66) fun v42_74 =>
    bindV (ret v9_66) fun v43_75 =>
    bindV (binA Try.prog .add 3 v43_75 (.int .i64 1)) fun v44_76 =>
    bindV (sliceA 2 v41_73 (some v42_74) (some v44_76)) fun v45_77 =>
    bindV (call 20 [v40_72, v45_77]) fun v46_78 =>
    bindV (ret v46_78) fun v39_79 =>
    bindV (extractA v39_79 0) fun v47_80 =>
    bindV (extractA v39_79 1) fun v48_81 =>
    bindV (newA [(.bool false), (.int .i64 0), (.int .i64 0)] 33) fun v11_82 =>
    bindV (ret v47_80) fun v10_83 =>
    bindV (storeA 3 v11_82 v48_81) fun _ =>
    bindV (ret v7_65) fun v49_84 =>
    bindV (ret v10_83) fun v50_85 =>
    bindV (binA Try.prog .add 3 v49_84 v50_85) fun v51_86 =>
    bindV (ret v51_86) fun v7_87 =>
    bindV (loadA (some 3) v11_82) fun v52_88 =>
    bindV (storeA 3 v8_15 v52_88) fun _ =>
    bindV (ret v9_66) fun v37_68 =>
    bindV (binA Try.prog .add 3 v37_68 (.int .i64 1)) fun v38_69 =>
    bindV (ret v38_69) fun v9_70 =>
    rec_2_64 v7_87 v9_70)
    (bindV (loadA (some 3) v6_11) fun v53_43 =>
    bindV (loadA (some 3) v8_15) fun v54_44 =>
    bindV (binA Try.prog .neq 33 v53_43 v54_44) fun v55_45 =>
    bindV (ret v55_45) fun v56_46 =>
    guardA false v56_46 (bindV (fieldAddrA 0 v6_11) fun v57_58 =>
    bindV (loadA none v57_58) fun v58_59 =>
    bindV (unA .not v58_59) fun v59_60 =>
    bindV (ret v59_60) fun v60_61 =>
    R5.g_57 call k v3_2 v4_4 v56_46 v5_12 v7_65 v60_61)
    (R5.g_57 call k v3_2 v4_4 v56_46 v5_12 v7_65 (.tuple #[])))

noncomputable def R5.b_103 (call : FuncId → List Value → AM Value) (k : Nat) (v0_in : Value) (v3_2 : Value) (v4_4 : Value) (v5_12 : Value) (v6_11 : Value) (v8_15 : Value) (rec_2_64 : Value → Value → AM Value) (v7_65 : Value) (v9_66 : Value) : AM Value :=
  bindV (ret v9_66) fun v28_92 =>
    bindV (ret v0_in) fun v29_93 =>
    bindV (lenA v29_93) fun v30_94 =>
    bindV (binA Try.prog .lss 3 v28_92 v30_94) fun v31_95 =>
    bindV (ret v31_95) fun v32_96 =>
    guardA true v32_96 (bindV (fieldAddrA 0 v8_15) fun v33_100 =>
    bindV (loadA none v33_100) fun v34_101 =>
    bindV (unA .not v34_101) fun v35_102 =>
    R5.g_99 call k rec_2_64 v0_in v32_96 v3_2 v4_4 v5_12 v6_11 v7_65 v8_15 v9_66 v35_102)
    (R5.g_99 call k rec_2_64 v0_in v32_96 v3_2 v4_4 v5_12 v6_11 v7_65 v8_15 v9_66 (.tuple #[]))

noncomputable def R5.g_113 (call : FuncId → List Value → AM Value) (k : Nat) (v0_in : Value) (v17_110 : Value) (v3_2 : Value) (v4_4 : Value) (v19_111 : Value) : AM Value :=
  bindV (pickA v17_110 (.bool true) v19_111) fun v20_112 =>
    condA v20_112 (bindV (ret (.bool false)) fun v2_106 =>
    ret v2_106)
    (bindV (ret v3_2) fun v22_5 =>
    bindV (ret v0_in) fun v23_6 =>
    bindV (call 20 [v22_5, v23_6]) fun v24_7 =>
    bindV (ret v24_7) fun v21_8 =>
    bindV (extractA v21_8 0) fun v25_9 =>
    bindV (extractA v21_8 1) fun v26_10 =>
    bindV (newA [(.bool false), (.int .i64 0), (.int .i64 0)] 33) fun v6_11 =>
    bindV (ret v25_9) fun v5_12 =>
    bindV (storeA 3 v6_11 v26_10) fun _ =>
    bindV (ret (.int .i64 0)) fun v7_13 =>
    bindV (buildA [(0, 1), (1, 1), (2, 1)] [(.bool false), (.int .i64 0), (.int .i64 0)] []) fun v27_14 =>
    bindV (newA [(.bool false), (.int .i64 0), (.int .i64 0)] 33) fun v8_15 =>
    bindV (storeA 3 v8_15 v27_14) fun _ =>
    bindV (ret (.int .i64 0)) fun v9_63 =>
    loop2 (R5.b_103 call k v0_in v3_2 v4_4 v5_12 v6_11 v8_15) k v7_13 v9_63)

noncomputable def R5.top (call : FuncId → List Value → AM Value) (k : Nat) (v0_in : Value) : AM Value :=
  bindV (ret (.bool false)) fun v2_0 =>
    bindV (call 18 []) fun v13_1 =>
    bindV (ret v13_1) fun v3_2 =>
    bindV (call 18 []) fun v14_3 =>
    bindV (ret v14_3) fun v4_4 =>
    bindV (ret v3_2) fun v15_108 =>
    bindV (binA Try.prog .eql 29 v15_108 (.pointer none)) fun v16_109 =>
    bindV (ret v16_109) fun v17_110 =>
    guardA false v17_110 (bindV (ret v4_4) fun v18_114 =>
    bindV (binA Try.prog .eql 29 v18_114 (.pointer none)) fun v19_115 =>
    R5.g_113 call k v0_in v17_110 v3_2 v4_4 v19_115)
    (R5.g_113 call k v0_in v17_110 v3_2 v4_4 (.tuple #[]))

theorem R5.eq (call : FuncId → List Value → AM Value) (k : Nat) (v0_in : Value) : funcA Try.prog call k 5 [v0_in] = R5.top call k v0_in := by kernel_rfl

/-! ### 6: aqueduct/aqueductlaw09.SettingAcks (1 arguments) -/
noncomputable def R6.g_21 (call : FuncId → List Value → AM Value) (k : Nat) (v67_17 : Value) (v68_18 : Value) : AM Value :=
  bindV (pickA v67_17 v68_18 (.bool false)) fun v69_19 =>
    bindV (ret v69_19) fun v2_20 =>
    ret v2_20

noncomputable def R6.g_23 (call : FuncId → List Value → AM Value) (k : Nat) (v62_14 : Value) (v65_15 : Value) : AM Value :=
  bindV (pickA v62_14 v65_15 (.bool false)) fun v66_16 =>
    bindV (ret v66_16) fun v67_17 =>
    guardA true v67_17 (bindV (call 17 []) fun v68_22 =>
    R6.g_21 call k v67_17 v68_22)
    (R6.g_21 call k v67_17 (.tuple #[]))

noncomputable def R6.g_50 (call : FuncId → List Value → AM Value) (k : Nat) (rec_1_29 : Value → AM Value) (v46_47 : Value) (v5_30 : Value) (v53_48 : Value) : AM Value :=
  bindV (pickA v46_47 (.bool true) v53_48) fun v54_49 =>
    condA v54_49 (bindV (ret (.bool false)) fun v2_43 =>
    ret v2_43)
    (bindV (ret v5_30) fun v37_31 =>
    bindV (binA Try.prog .add 3 v37_31 (.int .i64 1)) fun v38_32 =>
    bindV (ret v38_32) fun v5_33 =>
    rec_1_29 v5_33)

noncomputable def R6.b_63 (call : FuncId → List Value → AM Value) (k : Nat) (v0_in : Value) (v3_2 : Value) (rec_1_29 : Value → AM Value) (v5_30 : Value) : AM Value :=
  bindV (ret v5_30) fun v33_59 =>
    bindV (ret v0_in) fun v34_60 =>
    bindV (lenA v34_60) fun v35_61 =>
    bindV (binA Try.prog .lss 3 v33_59 v35_61) fun v36_62 =>
    condA v36_62 (bindV (ret v3_2) fun v40_35 =>
    bindV (call 23 [v40_35]) fun v41_36 =>
    bindV (ret v41_36) fun v39_37 =>
    bindV (extractA v39_37 0) fun v42_38 =>
    bindV (extractA v39_37 1) fun v43_39 =>
    bindV (ret v42_38) fun v6_40 =>
    bindV (ret v43_39) fun v7_41 =>
    bindV (ret v7_41) fun v44_45 =>
    bindV (binA Try.prog .neq 39 v44_45 (.int .i64 0)) fun v45_46 =>
    bindV (ret v45_46) fun v46_47 =>
    guardA false v46_47 (bindV (ret v6_40) fun v47_51 =>
    bindV (ret v0_in) fun v48_52 =>
    bindV (ret v5_30) fun v49_53 =>
    bindV (indexAddrA 1 v48_52 v49_53) fun v50_54 =>
    bindV (loadA none v50_54) fun v51_55 =>
    bindV (call 24 [v47_51, v51_55]) fun v52_56 =>
    bindV (unA .not v52_56) fun v53_57 =>
    R6.g_50 call k rec_1_29 v46_47 v5_30 v53_57)
    (R6.g_50 call k rec_1_29 v46_47 v5_30 (.tuple #[])))
    (bindV (ret v3_2) fun v56_3 =>
    bindV (call 23 [v56_3]) fun v57_4 =>
    bindV (ret v57_4) fun v55_5 =>
    bindV (extractA v55_5 0) fun v58_6 =>
    bindV (extractA v55_5 1) fun v59_7 =>
    bindV (ret v58_6) fun v8_8 =>
    bindV (ret v59_7) fun v9_9 =>
    bindV (ret v9_9) fun v60_12 =>
    bindV (binA Try.prog .eql 39 v60_12 (.int .i64 5)) fun v61_13 =>
    bindV (ret v61_13) fun v62_14 =>
    guardA true v62_14 (bindV (ret v3_2) fun v63_24 =>
    bindV (call 22 [v63_24]) fun v64_25 =>
    bindV (binA Try.prog .eql 3 v64_25 (.int .i64 0)) fun v65_26 =>
    R6.g_23 call k v62_14 v65_26)
    (R6.g_23 call k v62_14 (.tuple #[])))

noncomputable def R6.g_85 (call : FuncId → List Value → AM Value) (k : Nat) (rec_1_66 : Value → AM Value) (v26_82 : Value) (v4_67 : Value) (v31_83 : Value) : AM Value :=
  bindV (pickA v26_82 (.bool true) v31_83) fun v32_84 =>
    condA v32_84 (bindV (ret (.bool false)) fun v2_73 =>
    ret v2_73)
    (bindV (ret v4_67) fun v17_68 =>
    bindV (binA Try.prog .add 3 v17_68 (.int .i64 1)) fun v18_69 =>
    bindV (ret v18_69) fun v4_70 =>
    rec_1_66 v4_70)

noncomputable def R6.b_96 (call : FuncId → List Value → AM Value) (k : Nat) (v0_in : Value) (v3_2 : Value) (rec_1_66 : Value → AM Value) (v4_67 : Value) : AM Value :=
  bindV (ret v4_67) fun v13_92 =>
    bindV (ret v0_in) fun v14_93 =>
    bindV (lenA v14_93) fun v15_94 =>
    bindV (binA Try.prog .lss 3 v13_92 v15_94) fun v16_95 =>
    condA v16_95 (bindV (ret v3_2) fun v19_75 =>
    bindV (ret v0_in) fun v20_76 =>
    bindV (ret v4_67) fun v21_77 =>
    bindV (indexAddrA 1 v20_76 v21_77) fun v22_78 =>
    bindV (loadA none v22_78) fun v23_79 =>
    bindV (call 21 [v19_75, v23_79]) fun v24_80 =>
    bindV (binA Try.prog .neq 39 v24_80 (.int .i64 0)) fun v25_81 =>
    bindV (ret v25_81) fun v26_82 =>
    guardA false v26_82 (bindV (ret v3_2) fun v27_86 =>
    bindV (call 22 [v27_86]) fun v28_87 =>
    bindV (ret v4_67) fun v29_88 =>
    bindV (binA Try.prog .add 3 v29_88 (.int .i64 1)) fun v30_89 =>
    bindV (binA Try.prog .neq 3 v28_87 v30_89) fun v31_90 =>
    R6.g_85 call k rec_1_66 v26_82 v4_67 v31_90)
    (R6.g_85 call k rec_1_66 v26_82 v4_67 (.tuple #[])))
    (bindV (ret (.int .i64 0)) fun v5_28 =>
    loop1 (R6.b_63 call k v0_in v3_2) k v5_28)

noncomputable def R6.top (call : FuncId → List Value → AM Value) (k : Nat) (v0_in : Value) : AM Value :=
  bindV (ret (.bool false)) fun v2_0 =>
    bindV (call 18 []) fun v10_1 =>
    bindV (ret v10_1) fun v3_2 =>
    bindV (ret v3_2) fun v11_98 =>
    bindV (binA Try.prog .eql 29 v11_98 (.pointer none)) fun v12_99 =>
    condA v12_99 (bindV (ret (.bool false)) fun v2_100 =>
    ret v2_100)
    (bindV (ret (.int .i64 0)) fun v4_65 =>
    loop1 (R6.b_96 call k v0_in v3_2) k v4_65)

theorem R6.eq (call : FuncId → List Value → AM Value) (k : Nat) (v0_in : Value) : funcA Try.prog call k 6 [v0_in] = R6.top call k v0_in := by kernel_rfl

/-! ### 7: aqueduct/aqueductlaw09.SettingZero (2 arguments) -/
noncomputable def R7.g_43 (call : FuncId → List Value → AM Value) (k : Nat) (v53_39 : Value) (v55_40 : Value) : AM Value :=
  bindV (pickA v53_39 v55_40 (.bool false)) fun v56_41 =>
    bindV (ret v56_41) fun v4_42 =>
    ret v4_42

noncomputable def R7.g_46 (call : FuncId → List Value → AM Value) (k : Nat) (v47_36 : Value) (v6_2 : Value) (v51_37 : Value) : AM Value :=
  bindV (pickA v47_36 v51_37 (.bool false)) fun v52_38 =>
    bindV (ret v52_38) fun v53_39 =>
    guardA true v53_39 (bindV (call 22 [v6_2]) fun v54_44 =>
    bindV (binA Try.prog .eql 3 v54_44 (.int .i64 0)) fun v55_45 =>
    R7.g_43 call k v53_39 v55_45)
    (R7.g_43 call k v53_39 (.tuple #[]))

noncomputable def R7.g_51 (call : FuncId → List Value → AM Value) (k : Nat) (v1_in : Value) (v42_33 : Value) (v5_1 : Value) (v6_2 : Value) (v45_34 : Value) : AM Value :=
  bindV (pickA v42_33 v45_34 (.bool false)) fun v46_35 =>
    bindV (ret v46_35) fun v47_36 =>
    guardA true v47_36 (bindV (ret v5_1) fun v48_47 =>
    bindV (ret v1_in) fun v49_48 =>
    bindV (call 19 [v48_47, v49_48]) fun v50_49 =>
    bindV (binA Try.prog .eql 22 v50_49 (.int .u32 0)) fun v51_50 =>
    R7.g_46 call k v47_36 v6_2 v51_50)
    (R7.g_46 call k v47_36 v6_2 (.tuple #[]))

noncomputable def R7.g_55 (call : FuncId → List Value → AM Value) (k : Nat) (v0_in : Value) (v1_in : Value) (v36_30 : Value) (v5_1 : Value) (v6_2 : Value) (v40_31 : Value) : AM Value :=
  bindV (pickA v36_30 v40_31 (.bool false)) fun v41_32 =>
    bindV (ret v41_32) fun v42_33 =>
    guardA true v42_33 (bindV (ret v0_in) fun v43_52 =>
    bindV (call 21 [v6_2, v43_52]) fun v44_53 =>
    bindV (binA Try.prog .eql 39 v44_53 (.int .i64 7)) fun v45_54 =>
    R7.g_51 call k v1_in v42_33 v5_1 v6_2 v45_54)
    (R7.g_51 call k v1_in v42_33 v5_1 v6_2 (.tuple #[]))

noncomputable def R7.g_60 (call : FuncId → List Value → AM Value) (k : Nat) (v0_in : Value) (v1_in : Value) (v32_27 : Value) (v5_1 : Value) (v6_2 : Value) (v34_28 : Value) : AM Value :=
  bindV (pickA v32_27 v34_28 (.bool false)) fun v35_29 =>
    bindV (ret v35_29) fun v36_30 =>
    guardA true v36_30 (bindV (ret v5_1) fun v37_56 =>
    bindV (ret v0_in) fun v38_57 =>
    bindV (call 21 [v37_56, v38_57]) fun v39_58 =>
    bindV (binA Try.prog .eql 39 v39_58 (.int .i64 7)) fun v40_59 =>
    R7.g_55 call k v0_in v1_in v36_30 v5_1 v6_2 v40_59)
    (R7.g_55 call k v0_in v1_in v36_30 v5_1 v6_2 (.tuple #[]))

noncomputable def R7.g_63 (call : FuncId → List Value → AM Value) (k : Nat) (v0_in : Value) (v10_16 : Value) (v1_in : Value) (v27_24 : Value) (v5_1 : Value) (v6_2 : Value) (v30_25 : Value) : AM Value :=
  bindV (pickA v27_24 v30_25 (.bool false)) fun v31_26 =>
    bindV (ret v31_26) fun v32_27 =>
    guardA true v32_27 (bindV (ret v10_16) fun v33_61 =>
    bindV (binA Try.prog .eql 39 v33_61 (.int .i64 7)) fun v34_62 =>
    R7.g_60 call k v0_in v1_in v32_27 v5_1 v6_2 v34_62)
    (R7.g_60 call k v0_in v1_in v32_27 v5_1 v6_2 (.tuple #[]))

noncomputable def R7.g_67 (call : FuncId → List Value → AM Value) (k : Nat) (v0_in : Value) (v10_16 : Value) (v1_in : Value) (v23_21 : Value) (v5_1 : Value) (v6_2 : Value) (v8_9 : Value) (v25_22 : Value) : AM Value :=
  bindV (pickA v23_21 v25_22 (.bool false)) fun v26_23 =>
    bindV (ret v26_23) fun v27_24 =>
    guardA true v27_24 (bindV (fieldAddrA 2 v8_9) fun v28_64 =>
    bindV (loadA none v28_64) fun v29_65 =>
    bindV (binA Try.prog .eql 3 v29_65 (.int .i64 2)) fun v30_66 =>
    R7.g_63 call k v0_in v10_16 v1_in v27_24 v5_1 v6_2 v30_66)
    (R7.g_63 call k v0_in v10_16 v1_in v27_24 v5_1 v6_2 (.tuple #[]))

noncomputable def R7.top (call : FuncId → List Value → AM Value) (k : Nat) (v0_in : Value) (v1_in : Value) : AM Value :=
  bindV (ret (.bool false)) fun v4_0 =>
    bindV (ret (.pointer none)) fun v5_1 =>
    bindV (newA [(.map none), (.slice none 0 0)] 49) fun v6_2 =>
    bindV (ret v5_1) fun v12_3 =>
    bindV (ret v0_in) fun v13_4 =>
    bindV (call 20 [v12_3, v13_4]) fun v14_5 =>
    bindV (ret v14_5) fun v11_6 =>
    bindV (extractA v11_6 0) fun v15_7 =>
    bindV (extractA v11_6 1) fun v16_8 =>
    bindV (newA [(.bool false), (.int .i64 0), (.int .i64 0)] 33) fun v8_9 =>
    bindV (ret v15_7) fun v7_10 =>
    bindV (storeA 3 v8_9 v16_8) fun _ =>
    bindV (call 23 [v6_2]) fun v18_11 =>
    bindV (ret v18_11) fun v17_12 =>
    bindV (extractA v17_12 0) fun v19_13 =>
    bindV (extractA v17_12 1) fun v20_14 =>
    bindV (ret v19_13) fun v9_15 =>
    bindV (ret v20_14) fun v10_16 =>
    bindV (ret v7_10) fun v21_19 =>
    bindV (binA Try.prog .eql 3 v21_19 (.int .i64 0)) fun v22_20 =>
    bindV (ret v22_20) fun v23_21 =>
    guardA true v23_21 (bindV (fieldAddrA 0 v8_9) fun v24_68 =>
    bindV (loadA none v24_68) fun v25_69 =>
    R7.g_67 call k v0_in v10_16 v1_in v23_21 v5_1 v6_2 v8_9 v25_69)
    (R7.g_67 call k v0_in v10_16 v1_in v23_21 v5_1 v6_2 v8_9 (.tuple #[]))

theorem R7.eq (call : FuncId → List Value → AM Value) (k : Nat) (v0_in : Value) (v1_in : Value) : funcA Try.prog call k 7 [v0_in, v1_in] = R7.top call k v0_in v1_in := by kernel_rfl

/-! ### 8: aqueduct/aqueductlaw09.SettingPlays (1 arguments) -/
noncomputable def R8.b_44 (call : FuncId → List Value → AM Value) (k : Nat) (rec_1_9 : Value → AM Value) (v3_2 : Value) (v4_4 : Value) (v5_10 : Value) (rec_1_27 : Value → AM Value) (v14_28 : Value) : AM Value :=
  bindV (ret v14_28) fun v100_42 =>
    bindV (binA Try.prog .lss 3 v100_42 (.int .i64 12)) fun v101_43 =>
    condA v101_43 (bindV (ret v3_2) fun v104_33 =>
    bindV (ret v14_28) fun v105_34 =>
    bindV (call 19 [v104_33, v105_34]) fun v106_35 =>
    bindV (ret v4_4) fun v107_36 =>
    bindV (ret v14_28) fun v108_37 =>
    bindV (call 29 [v107_36, v108_37]) fun v109_38 =>
    bindV (binA Try.prog .neq 22 v106_35 v109_38) fun v110_39 =>
    condA v110_39 (bindV (ret (.bool false)) fun v2_40 =>
    ret v2_40)
    (bindV (ret v14_28) fun v102_29 =>
    bindV (binA Try.prog .add 3 v102_29 (.int .i64 1)) fun v103_30 =>
    bindV (ret v103_30) fun v14_31 =>
    rec_1_27 v14_31))
    (bindV (ret v3_2) fun v111_15 =>
    bindS fun s_16 =>
    bindV (call 22 [v111_15]) fun v112_17 =>
    bindV (ret v4_4) fun v113_18 =>
    bindV (nilCheckA v113_18) fun v114_19 =>
    bindV (fieldAddrA 1 v114_19) fun v115_20 =>
    bindV (loadA none v115_20) fun v116_21 =>
    thereV [s_16] (loadA none v115_20) v116_21 (
    bindV (lenA v116_21) fun v117_22 =>
    bindV (binA Try.prog .neq 3 v112_17 v117_22) fun v118_23 =>
    condA v118_23 (bindV (ret (.bool false)) fun v2_24 =>
    ret v2_24)
    (bindV (ret v5_10) fun v23_11 =>
    bindV (binA Try.prog .add 3 v23_11 (.int .i64 1)) fun v24_12 =>
    bindV (ret v24_12) fun v5_13 =>
    rec_1_9 v5_13)))

noncomputable def R8.j_45 (call : FuncId → List Value → AM Value) (k : Nat) (rec_1_9 : Value → AM Value) (v3_2 : Value) (v4_4 : Value) (v5_10 : Value) : AM Value :=
  bindV (ret (.int .i64 (-1))) fun v14_26 =>
    loop1 (R8.b_44 call k rec_1_9 v3_2 v4_4 v5_10) k v14_26

noncomputable def R8.g_88 (call : FuncId → List Value → AM Value) (k : Nat) (rec_1_9 : Value → AM Value) (v3_2 : Value) (v4_4 : Value) (v5_10 : Value) (v76_85 : Value) (v79_86 : Value) : AM Value :=
  bindV (pickA v76_85 (.bool true) v79_86) fun v80_87 =>
    condA v80_87 (bindV (ret (.bool false)) fun v2_80 =>
    ret v2_80)
    (R8.j_45 call k rec_1_9 v3_2 v4_4 v5_10)

noncomputable def R8.g_136 (call : FuncId → List Value → AM Value) (k : Nat) (rec_1_9 : Value → AM Value) (v3_2 : Value) (v44_133 : Value) (v4_4 : Value) (v5_10 : Value) (v47_134 : Value) : AM Value :=
  bindV (pickA v44_133 (.bool true) v47_134) fun v48_135 =>
    condA v48_135 (bindV (ret (.bool false)) fun v2_127 =>
    ret v2_127)
    (R8.j_45 call k rec_1_9 v3_2 v4_4 v5_10)

noncomputable def R8.b_145 (call : FuncId → List Value → AM Value) (k : Nat) (v0_in : Value) (v3_2 : Value) (v4_4 : Value) (rec_1_9 : Value → AM Value) (v5_10 : Value) : AM Value :=
  bindV (ret v5_10) fun v19_141 =>
    bindV (ret v0_in) fun v20_142 =>
    bindV (lenA v20_142) fun v21_143 =>
    bindV (binA Try.prog .lss 3 v19_141 v21_143) fun v22_144 =>
    condA v22_144 (bindV (ret v0_in) fun v25_46 =>
    bindV (ret v5_10) fun v26_47 =>
    bindV (indexAddrA 2 v25_46 v26_47) fun v27_48 =>
    bindV (fieldAddrA 0 v27_48) fun v28_49 =>
    bindV (loadA none v28_49) fun v29_50 =>
    bindV (binA Try.prog .eql 3 v29_50 (.int .i64 0)) fun v50_51 =>
    bindV (ret v50_51) fun v49_52 =>
    condA v49_52 (bindV (ret v3_2) fun v52_53 =>
    bindV (buildSliceA 24 2 0 [(.int .i64 0), (.int .u32 0)] []) fun v53_54 =>
    bindV (ret v0_in) fun v54_55 =>
    bindV (ret v5_10) fun v55_56 =>
    bindV (indexAddrA 2 v54_55 v55_56) fun v56_57 =>
    bindV (fieldAddrA 1 v56_57) fun v57_58 =>
    bindV (loadA none v57_58) fun v58_59 =>
    bindV (appendA 24 2 16 v53_54 v58_59) fun v59_60 =>
    bindV (call 20 [v52_53, v59_60]) fun v60_61 =>
    bindV (ret v60_61) fun v51_62 =>
    bindV (extractA v51_62 0) fun v61_63 =>
    bindV (extractA v51_62 1) fun v62_64 =>
    bindV (newA [(.bool false), (.int .i64 0), (.int .i64 0)] 33) fun v7_65 =>
    bindV (ret v61_63) fun v6_66 =>
    bindV (storeA 3 v7_65 v62_64) fun _ =>
    bindV (ret v4_4) fun v64_67 =>
    bindV (ret v0_in) fun v65_68 =>
    bindV (ret v5_10) fun v66_69 =>
    bindV (indexAddrA 2 v65_68 v66_69) fun v67_70 =>
    bindV (fieldAddrA 1 v67_70) fun v68_71 =>
    bindV (loadA none v68_71) fun v69_72 =>
    bindV (call 26 [v64_67, v69_72]) fun v70_73 =>
    bindV (ret v70_73) fun v63_74 =>
    bindV (extractA v63_74 0) fun v71_75 =>
    bindV (extractA v63_74 1) fun v72_76 =>
    bindV (newA [(.bool false), (.int .i64 0), (.int .i64 0)] 33) fun v9_77 =>
    bindV (ret v71_75) fun v8_78 =>
    bindV (storeA 3 v9_77 v72_76) fun _ =>
    bindV (ret v6_66) fun v73_82 =>
    bindV (ret v8_78) fun v74_83 =>
    bindV (binA Try.prog .neq 3 v73_82 v74_83) fun v75_84 =>
    bindV (ret v75_84) fun v76_85 =>
    guardA false v76_85 (bindV (loadA (some 3) v7_65) fun v77_89 =>
    bindV (loadA (some 3) v9_77) fun v78_90 =>
    bindV (binA Try.prog .neq 33 v77_89 v78_90) fun v79_91 =>
    R8.g_88 call k rec_1_9 v3_2 v4_4 v5_10 v76_85 v79_91)
    (R8.g_88 call k rec_1_9 v3_2 v4_4 v5_10 v76_85 (.tuple #[])))
    (bindV (binA Try.prog .eql 3 v29_50 (.int .i64 1)) fun v82_92 =>
    bindV (ret v82_92) fun v81_93 =>
    condA v81_93 (bindV (ret v4_4) fun v83_94 =>
    bindV (ret v0_in) fun v84_95 =>
    bindV (ret v5_10) fun v85_96 =>
    bindV (indexAddrA 2 v84_95 v85_96) fun v86_97 =>
    bindV (fieldAddrA 1 v86_97) fun v87_98 =>
    bindV (loadA none v87_98) fun v88_99 =>
    bindV (call 27 [v83_94, v88_99]) fun v89_100 =>
    bindV (ret v3_2) fun v90_101 =>
    bindV (buildSliceA 24 2 0 [(.int .i64 0), (.int .u32 0)] []) fun v91_102 =>
    bindV (ret v0_in) fun v92_103 =>
    bindV (ret v5_10) fun v93_104 =>
    bindV (indexAddrA 2 v92_103 v93_104) fun v94_105 =>
    bindV (fieldAddrA 1 v94_105) fun v95_106 =>
    bindV (loadA none v95_106) fun v96_107 =>
    bindV (appendA 24 2 16 v91_102 v96_107) fun v97_108 =>
    bindV (call 21 [v90_101, v97_108]) fun v98_109 =>
    bindV (binA Try.prog .neq 39 v98_109 (.int .i64 0)) fun v99_110 =>
    condA v99_110 (bindV (ret (.bool false)) fun v2_111 =>
    ret v2_111)
    (R8.j_45 call k rec_1_9 v3_2 v4_4 v5_10))
    (bindV (ret v3_2) fun v31_112 =>
    bindV (call 23 [v31_112]) fun v32_113 =>
    bindV (ret v32_113) fun v30_114 =>
    bindV (extractA v30_114 0) fun v33_115 =>
    bindV (extractA v30_114 1) fun v34_116 =>
    bindV (ret v33_115) fun v10_117 =>
    bindV (ret v34_116) fun v11_118 =>
    bindV (ret v4_4) fun v36_119 =>
    bindV (call 28 [v36_119]) fun v37_120 =>
    bindV (ret v37_120) fun v35_121 =>
    bindV (extractA v35_121 0) fun v38_122 =>
    bindV (extractA v35_121 1) fun v39_123 =>
    bindV (ret v38_122) fun v12_124 =>
    bindV (ret v39_123) fun v13_125 =>
    bindV (ret v10_117) fun v40_129 =>
    bindV (ret v12_124) fun v41_130 =>
    bindV (call 24 [v40_129, v41_130]) fun v42_131 =>
    bindV (unA .not v42_131) fun v43_132 =>
    bindV (ret v43_132) fun v44_133 =>
    guardA false v44_133 (bindV (ret v11_118) fun v45_137 =>
    bindV (ret v13_125) fun v46_138 =>
    bindV (binA Try.prog .neq 3 v45_137 v46_138) fun v47_139 =>
    R8.g_136 call k rec_1_9 v3_2 v44_133 v4_4 v5_10 v47_139)
    (R8.g_136 call k rec_1_9 v3_2 v44_133 v4_4 v5_10 (.tuple #[])))))
    (bindV (call 17 []) fun v119_5 =>
    bindV (ret v119_5) fun v2_6 =>
    ret v2_6)

noncomputable def R8.top (call : FuncId → List Value → AM Value) (k : Nat) (v0_in : Value) : AM Value :=
  bindV (ret (.bool false)) fun v2_0 =>
    bindV (call 18 []) fun v15_1 =>
    bindV (ret v15_1) fun v3_2 =>
    bindV (ret v3_2) fun v16_147 =>
    bindV (binA Try.prog .eql 29 v16_147 (.pointer none)) fun v17_148 =>
    condA v17_148 (bindV (ret (.bool false)) fun v2_149 =>
    ret v2_149)
    (bindV (call 25 []) fun v18_3 =>
    bindV (ret v18_3) fun v4_4 =>
    bindV (ret (.int .i64 0)) fun v5_8 =>
    loop1 (R8.b_145 call k v0_in v3_2 v4_4) k v5_8)

theorem R8.eq (call : FuncId → List Value → AM Value) (k : Nat) (v0_in : Value) : funcA Try.prog call k 8 [v0_in] = R8.top call k v0_in := by kernel_rfl

/-! ### 15: aqueduct/setting.Check (1 arguments) -/
noncomputable def R15.j_3 (call : FuncId → List Value → AM Value) (k : Nat) : AM Value :=
  bindV (ret (.int .i64 0)) fun v2_2 =>
    ret v2_2

noncomputable def R15.top (call : FuncId → List Value → AM Value) (k : Nat) (v0_in : Value) : AM Value :=
  bindV (boxA 24 v0_in) fun v1_0 =>
    bindV (ret (.int .i64 0)) fun v2_1 =>
    fail

theorem R15.eq (call : FuncId → List Value → AM Value) (k : Nat) (v0_in : Value) : funcA Try.prog call k 15 [v0_in] = R15.top call k v0_in := by kernel_rfl

/-! ### 16: aqueduct/aqueductref09.Check (1 arguments) -/
noncomputable def R16.j_3 (call : FuncId → List Value → AM Value) (k : Nat) : AM Value :=
  bindV (ret (.int .i64 0)) fun v2_2 =>
    ret v2_2

noncomputable def R16.g_28 (call : FuncId → List Value → AM Value) (k : Nat) (v21_25 : Value) (v24_26 : Value) : AM Value :=
  bindV (pickA v21_25 (.bool true) v24_26) fun v25_27 =>
    condA v25_27 (bindV (ret (.int .i64 1)) fun v2_20 =>
    ret v2_20)
    (R16.j_3 call k)

noncomputable def R16.j_32 (call : FuncId → List Value → AM Value) (k : Nat) (v1_0 : Value) (v4_5 : Value) (v5_6 : Value) : AM Value :=
  condA v5_6 (bindV (fieldAddrA 1 v1_0) fun v8_7 =>
    bindV (loadA none v8_7) fun v9_8 =>
    bindV (binA Try.prog .gtr 22 v9_8 (.int .u32 1)) fun v10_9 =>
    condA v10_9 (bindV (ret (.int .i64 1)) fun v2_10 =>
    ret v2_10)
    (R16.j_3 call k))
    (bindV (binA Try.prog .eql 3 v4_5 (.int .i64 4)) fun v12_11 =>
    bindV (ret v12_11) fun v11_12 =>
    condA v11_12 (bindV (fieldAddrA 1 v1_0) fun v13_13 =>
    bindV (loadA none v13_13) fun v14_14 =>
    bindV (binA Try.prog .gtr 22 v14_14 (.int .u32 2147483647)) fun v15_15 =>
    condA v15_15 (bindV (ret (.int .i64 3)) fun v2_16 =>
    ret v2_16)
    (R16.j_3 call k))
    (bindV (binA Try.prog .eql 3 v4_5 (.int .i64 5)) fun v17_17 =>
    bindV (ret v17_17) fun v16_18 =>
    condA v16_18 (bindV (fieldAddrA 1 v1_0) fun v18_22 =>
    bindV (loadA none v18_22) fun v19_23 =>
    bindV (binA Try.prog .lss 22 v19_23 (.int .u32 16384)) fun v20_24 =>
    bindV (ret v20_24) fun v21_25 =>
    guardA false v21_25 (bindV (fieldAddrA 1 v1_0) fun v22_29 =>
    bindV (loadA none v22_29) fun v23_30 =>
    bindV (binA Try.prog .gtr 22 v23_30 (.int .u32 16777215)) fun v24_31 =>
    R16.g_28 call k v21_25 v24_31)
    (R16.g_28 call k v21_25 (.tuple #[])))
    (R16.j_3 call k)))

noncomputable def R16.top (call : FuncId → List Value → AM Value) (k : Nat) (v0_in : Value) : AM Value :=
  bindV (boxA 24 v0_in) fun v1_0 =>
    bindV (ret (.int .i64 0)) fun v2_1 =>
    bindV (fieldAddrA 0 v1_0) fun v3_4 =>
    bindV (loadA none v3_4) fun v4_5 =>
    bindV (binA Try.prog .eql 3 v4_5 (.int .i64 2)) fun v6_33 =>
    bindV (ret v6_33) fun v5_34 =>
    condA v5_34 (R16.j_32 call k v1_0 v4_5 v5_34)
    (bindV (binA Try.prog .eql 3 v4_5 (.int .i64 8)) fun v7_35 =>
    bindV (ret v7_35) fun v5_36 =>
    R16.j_32 call k v1_0 v4_5 v5_36)

theorem R16.eq (call : FuncId → List Value → AM Value) (k : Nat) (v0_in : Value) : funcA Try.prog call k 16 [v0_in] = R16.top call k v0_in := by kernel_rfl

/-! ### 17: aqueduct/aqueductlaw09.awake (0 arguments) -/
noncomputable def R17.g_11 (call : FuncId → List Value → AM Value) (k : Nat) (v5_7 : Value) (v8_8 : Value) : AM Value :=
  bindV (pickA v5_7 v8_8 (.bool false)) fun v9_9 =>
    bindV (ret v9_9) fun v0_10 =>
    ret v0_10

noncomputable def R17.top (call : FuncId → List Value → AM Value) (k : Nat) : AM Value :=
  bindV (ret (.bool false)) fun v0_0 =>
    bindV (call 18 []) fun v2_1 =>
    bindV (ret v2_1) fun v1_2 =>
    bindV (ret v1_2) fun v3_5 =>
    bindV (binA Try.prog .neq 29 v3_5 (.pointer none)) fun v4_6 =>
    bindV (ret v4_6) fun v5_7 =>
    guardA true v5_7 (bindV (ret v1_2) fun v6_12 =>
    bindV (call 19 [v6_12, (.int .i64 4)]) fun v7_13 =>
    bindV (binA Try.prog .eql 22 v7_13 (.int .u32 65535)) fun v8_14 =>
    R17.g_11 call k v5_7 v8_14)
    (R17.g_11 call k v5_7 (.tuple #[]))

theorem R17.eq (call : FuncId → List Value → AM Value) (k : Nat) : funcA Try.prog call k 17 [] = R17.top call k := by kernel_rfl

/-! ### 18: aqueduct/setting.New (0 arguments) -/
noncomputable def R18.b_27 (call : FuncId → List Value → AM Value) (k : Nat) (v1_4 : Value) (rec_0_10 : AM Value) : AM Value :=
  bindV (fail) fun v9_11 =>
    bindV (extractA v9_11 0) fun v10_12 =>
    condA v10_12 (bindV (fail) fun v11_13 =>
    bindV (extractA v11_13 0) fun v12_14 =>
    bindV (extractA v11_13 1) fun v13_15 =>
    bindV (newA [(.int .u32 0), .nilFunc] 99) fun v3_16 =>
    bindV (ret v12_14) fun v2_17 =>
    bindV (storeA 2 v3_16 v13_15) fun _ =>
    bindV (ret v1_4) fun v14_18 =>
    bindV (nilCheckA v14_18) fun v15_19 =>
    bindV (fieldAddrA 0 v15_19) fun v16_20 =>
    bindV (loadA none v16_20) fun v17_21 =>
    bindV (ret v2_17) fun v18_22 =>
    bindV (fieldAddrA 0 v3_16) fun v19_23 =>
    bindV (loadA none v19_23) fun v20_24 =>
    bindV (mapSetA v17_21 v18_22 v20_24) fun _ =>
    rec_0_10)
    (bindV (ret v1_4) fun v21_5 =>
    bindV (ret v21_5) fun v0_6 =>
    ret v0_6)

noncomputable def R18.top (call : FuncId → List Value → AM Value) (k : Nat) : AM Value :=
  bindV (ret (.pointer none)) fun v0_0 =>
    bindV (newMapA) fun v4_1 =>
    bindV (buildA [(0, 1), (1, 1)] [(.map none), (.slice none 0 0)] [(0, v4_1)]) fun v5_2 =>
    bindV (boxA 49 v5_2) fun v6_3 =>
    bindV (ret v6_3) fun v1_4 =>
    bindV (call 50 []) fun v7_8 =>
    bindV (fail) fun v8_9 =>
    loop0 (R18.b_27 call k v1_4) k

theorem R18.eq (call : FuncId → List Value → AM Value) (k : Nat) : funcA Try.prog call k 18 [] = R18.top call k := by kernel_rfl

/-! ### 19: (*aqueduct/setting.Settings).Get (2 arguments) -/
noncomputable def R19.top (call : FuncId → List Value → AM Value) (k : Nat) (v0_in : Value) (v1_in : Value) : AM Value :=
  bindV (ret (.int .u32 0)) fun v4_0 =>
    bindV (ret v0_in) fun v5_9 =>
    bindV (call 51 [v5_9]) fun v6_10 =>
    condA v6_10 (bindV (ret (.int .u32 0)) fun v4_11 =>
    ret v4_11)
    (bindV (ret v0_in) fun v7_1 =>
    bindV (nilCheckA v7_1) fun v8_2 =>
    bindV (fieldAddrA 0 v8_2) fun v9_3 =>
    bindV (loadA none v9_3) fun v10_4 =>
    bindV (ret v1_in) fun v11_5 =>
    bindV (lookupA (.int .u32 0) false v10_4 v11_5) fun v12_6 =>
    bindV (ret v12_6) fun v4_7 =>
    ret v4_7)

theorem R19.eq (call : FuncId → List Value → AM Value) (k : Nat) (v0_in : Value) (v1_in : Value) : funcA Try.prog call k 19 [v0_in, v1_in] = R19.top call k v0_in v1_in := by kernel_rfl

/-! ### 20: (*aqueduct/setting.Settings).Apply (2 arguments) -/
noncomputable def R20.j_29 (call : FuncId → List Value → AM Value) (k : Nat) (rec_1_24 : Value → AM Value) (v22_25 : Value) : AM Value :=
  bindV (binA Try.prog .add 3 v22_25 (.int .i64 1)) fun v69_27 =>
    bindV (ret v69_27) fun v22_28 =>
    rec_1_24 v22_28

noncomputable def R20.j_66 (call : FuncId → List Value → AM Value) (k : Nat) (rec_1_24 : Value → AM Value) (v0_in : Value) (v22_25 : Value) (v5_1 : Value) (v8_32 : Value) (v9_36 : Value) : AM Value :=
  bindV (ret v9_36) fun v46_60 =>
    bindV (binA Try.prog .neq 3 v46_60 (.int .i64 0)) fun v47_61 =>
    condA v47_61 (bindV (ret v9_36) fun v48_62 =>
    bindV (buildA [(0, 1), (1, 1), (2, 1)] [(.bool false), (.int .i64 0), (.int .i64 0)] [(0, (.bool true)), (2, v48_62)]) fun v49_63 =>
    bindV (ret (.int .i64 0)) fun v4_64 =>
    bindV (storeA 3 v5_1 v49_63) fun _ =>
    bindV (loadA (some 3) v5_1) fun v5_65 =>
    ret (.tuple #[v4_64, v5_65]))
    (bindV (ret v0_in) fun v51_37 =>
    bindV (nilCheckA v51_37) fun v52_38 =>
    bindV (fieldAddrA 0 v52_38) fun v53_39 =>
    bindV (loadA none v53_39) fun v54_40 =>
    bindV (fieldAddrA 0 v8_32) fun v55_41 =>
    bindV (loadA none v55_41) fun v56_42 =>
    bindV (lookupA (.int .u32 0) true v54_40 v56_42) fun v57_43 =>
    bindV (ret v57_43) fun v50_44 =>
    bindV (extractA v50_44 0) fun v58_45 =>
    bindV (extractA v50_44 1) fun v59_46 =>
    bindV (ret v58_45) fun v10_47 =>
    bindV (ret v59_46) fun v11_48 =>
    bindV (ret v11_48) fun v60_49 =>
    condA v60_49 (bindV (ret v0_in) fun v61_50 =>
    bindV (nilCheckA v61_50) fun v62_51 =>
    bindV (fieldAddrA 0 v62_51) fun v63_52 =>
    bindV (loadA none v63_52) fun v64_53 =>
    bindV (fieldAddrA 0 v8_32) fun v65_54 =>
    bindV (loadA none v65_54) fun v66_55 =>
    bindV (fieldAddrA 1 v8_32) fun v67_56 =>
    bindV (loadA none v67_56) fun v68_57 =>
    bindV (mapSetA v64_53 v66_55 v68_57) fun _ =>
    R20.j_29 call k rec_1_24 v22_25)
    (R20.j_29 call k rec_1_24 v22_25))

noncomputable def R20.d_71 (call : FuncId → List Value → AM Value) (k : Nat) (rec_1_24 : Value → AM Value) (v0_in : Value) (v22_25 : Value) (v5_1 : Value) (v8_32 : Value) (v9_35 : Value) (v45_70 : Value) : AM Value :=
  condA v45_70 (bindV (ret (.int .i64 1)) fun v9_68 =>
    R20.j_66 call k rec_1_24 v0_in v22_25 v5_1 v8_32 v9_68)
    (R20.j_66 call k rec_1_24 v0_in v22_25 v5_1 v8_32 v9_35)

noncomputable def R20.b_104 (call : FuncId → List Value → AM Value) (k : Nat) (v0_in : Value) (v20_21 : Value) (v21_22 : Value) (v5_1 : Value) (v6_7 : Value) (rec_1_24 : Value → AM Value) (v22_25 : Value) : AM Value :=
  bindV (binA Try.prog .lss 3 v22_25 v21_22) fun v23_26 =>
    condA v23_26 (bindV (indexAddrA 2 v20_21 v22_25) fun v24_30 =>
    bindV (loadA (some 2) v24_30) fun v25_31 =>
    bindV (newA [(.int .i64 0), (.int .u32 0)] 24) fun v8_32 =>
    bindV (storeA 2 v8_32 v25_31) fun _ =>
    bindV (loadA (some 2) v8_32) fun v26_33 =>
    bindV (call 15 [v26_33]) fun v27_34 =>
    bindV (ret v27_34) fun v9_35 =>
    bindV (fieldAddrA 0 v8_32) fun v28_72 =>
    bindV (loadA none v28_72) fun v29_73 =>
    bindV (binA Try.prog .eql 3 v29_73 (.int .i64 8)) fun v30_74 =>
    bindV (ret v30_74) fun v31_75 =>
    guardA true v31_75 (bindV (fieldAddrA 1 v8_32) fun v32_76 =>
    bindV (loadA none v32_76) fun v33_77 =>
    bindV (binA Try.prog .eql 22 v33_77 (.int .u32 0)) fun v34_78 =>
    bindV (pickA v31_75 v34_78 (.bool false)) fun v35_79 =>
    bindV (ret v35_79) fun v36_80 =>
    guardA true v36_80 (bindV (ret v0_in) fun v37_81 =>
    bindV (nilCheckA v37_81) fun v38_82 =>
    bindV (fieldAddrA 0 v38_82) fun v39_83 =>
    bindV (loadA none v39_83) fun v40_84 =>
    bindV (fieldAddrA 0 v8_32) fun v41_85 =>
    bindV (loadA none v41_85) fun v42_86 =>
    bindV (lookupA (.int .u32 0) false v40_84 v42_86) fun v43_87 =>
    bindV (binA Try.prog .eql 22 v43_87 (.int .u32 1)) fun v44_88 =>
    bindV (pickA v36_80 v44_88 (.bool false)) fun v45_89 =>
    R20.d_71 call k rec_1_24 v0_in v22_25 v5_1 v8_32 v9_35 v45_89)
    (bindV (pickA v36_80 (.tuple #[]) (.bool false)) fun v45_90 =>
    R20.d_71 call k rec_1_24 v0_in v22_25 v5_1 v8_32 v9_35 v45_90))
    (bindV (pickA v31_75 (.tuple #[]) (.bool false)) fun v35_91 =>
    bindV (ret v35_91) fun v36_92 =>
    guardA true v36_92 (bindV (ret v0_in) fun v37_93 =>
    bindV (nilCheckA v37_93) fun v38_94 =>
    bindV (fieldAddrA 0 v38_94) fun v39_95 =>
    bindV (loadA none v39_95) fun v40_96 =>
    bindV (fieldAddrA 0 v8_32) fun v41_97 =>
    bindV (loadA none v41_97) fun v42_98 =>
    bindV (lookupA (.int .u32 0) false v40_96 v42_98) fun v43_99 =>
    bindV (binA Try.prog .eql 22 v43_99 (.int .u32 1)) fun v44_100 =>
    bindV (pickA v36_92 v44_100 (.bool false)) fun v45_101 =>
    R20.d_71 call k rec_1_24 v0_in v22_25 v5_1 v8_32 v9_35 v45_101)
    (bindV (pickA v36_92 (.tuple #[]) (.bool false)) fun v45_102 =>
    R20.d_71 call k rec_1_24 v0_in v22_25 v5_1 v8_32 v9_35 v45_102)))
    (bindV (ret v0_in) fun v70_8 =>
    bindV (nilCheckA v70_8) fun v71_9 =>
    bindV (fieldAddrA 0 v71_9) fun v72_10 =>
    bindV (loadA none v72_10) fun v73_11 =>
    bindV (lookupA (.int .u32 0) false v73_11 (.int .i64 4)) fun v74_12 =>
    bindV (convIntA .i64 v74_12) fun v75_13 =>
    bindV (ret v6_7) fun v76_14 =>
    bindV (convIntA .i64 v76_14) fun v77_15 =>
    bindV (binA Try.prog .sub 3 v75_13 v77_15) fun v78_16 =>
    bindV (buildA [(0, 1), (1, 1), (2, 1)] [(.bool false), (.int .i64 0), (.int .i64 0)] []) fun v79_17 =>
    bindV (ret v78_16) fun v4_18 =>
    bindV (storeA 3 v5_1 v79_17) fun _ =>
    bindV (loadA (some 3) v5_1) fun v5_19 =>
    ret (.tuple #[v4_18, v5_19]))

noncomputable def R20.top (call : FuncId → List Value → AM Value) (k : Nat) (v0_in : Value) (v1_in : Value) : AM Value :=
  bindV (ret (.int .i64 0)) fun v4_0 =>
    bindV (newA [(.bool false), (.int .i64 0), (.int .i64 0)] 33) fun v5_1 =>
    bindV (ret v0_in) fun v12_106 =>
    bindV (call 51 [v12_106]) fun v13_107 =>
    condA v13_107 (bindV (buildA [(0, 1), (1, 1), (2, 1)] [(.bool false), (.int .i64 0), (.int .i64 0)] [(0, (.bool true)), (2, (.int .i64 2))]) fun v14_108 =>
    bindV (ret (.int .i64 0)) fun v4_109 =>
    bindV (storeA 3 v5_1 v14_108) fun _ =>
    bindV (loadA (some 3) v5_1) fun v5_110 =>
    ret (.tuple #[v4_109, v5_110]))
    (bindV (ret v0_in) fun v15_2 =>
    bindV (nilCheckA v15_2) fun v16_3 =>
    bindV (fieldAddrA 0 v16_3) fun v17_4 =>
    bindV (loadA none v17_4) fun v18_5 =>
    bindV (lookupA (.int .u32 0) false v18_5 (.int .i64 4)) fun v19_6 =>
    bindV (ret v19_6) fun v6_7 =>
    bindV (ret v1_in) fun v20_21 =>
    bindV (lenA v20_21) fun v21_22 =>
    bindV (ret (.int .i64 0)) fun v22_23 =>
    loop1 (R20.b_104 call k v0_in v20_21 v21_22 v5_1 v6_7) k v22_23)

theorem R20.eq (call : FuncId → List Value → AM Value) (k : Nat) (v0_in : Value) (v1_in : Value) : funcA Try.prog call k 20 [v0_in, v1_in] = R20.top call k v0_in v1_in := by kernel_rfl

/-! ### 21: (*aqueduct/setting.Settings).Offer (2 arguments) -/
noncomputable def R21.top (call : FuncId → List Value → AM Value) (k : Nat) (v0_in : Value) (v1_in : Value) : AM Value :=
  bindV (ret (.int .i64 0)) fun v4_0 =>
    bindV (ret v0_in) fun v5_11 =>
    bindV (call 51 [v5_11]) fun v6_12 =>
    condA v6_12 (bindV (ret (.int .i64 7)) fun v4_13 =>
    ret v4_13)
    (bindV (ret v0_in) fun v7_1 =>
    bindV (nilCheckA v7_1) fun v8_2 =>
    bindV (fieldAddrA 1 v8_2) fun v9_3 =>
    bindV (ret v1_in) fun v10_4 =>
    bindV (appendA 24 2 16 (.slice none 0 0) v10_4) fun v11_6 =>
    bindV (call 52 [v9_3, v11_6]) fun v12_8 =>
    bindV (ret (.int .i64 0)) fun v4_9 =>
    ret v4_9)

theorem R21.eq (call : FuncId → List Value → AM Value) (k : Nat) (v0_in : Value) (v1_in : Value) : funcA Try.prog call k 21 [v0_in, v1_in] = R21.top call k v0_in v1_in := by kernel_rfl

/-! ### 22: (*aqueduct/setting.Settings).Open (1 arguments) -/
noncomputable def R22.top (call : FuncId → List Value → AM Value) (k : Nat) (v0_in : Value) : AM Value :=
  bindV (ret (.int .i64 0)) fun v2_0 =>
    bindV (ret v0_in) fun v3_9 =>
    bindV (call 51 [v3_9]) fun v4_10 =>
    condA v4_10 (bindV (ret (.int .i64 0)) fun v2_11 =>
    ret v2_11)
    (bindV (ret v0_in) fun v5_1 =>
    bindV (nilCheckA v5_1) fun v6_2 =>
    bindV (fieldAddrA 1 v6_2) fun v7_3 =>
    bindV (fieldAddrA 0 v7_3) fun v8_4 =>
    bindV (loadA none v8_4) fun v9_5 =>
    bindV (lenA v9_5) fun v10_6 =>
    bindV (ret v10_6) fun v2_7 =>
    ret v2_7)

theorem R22.eq (call : FuncId → List Value → AM Value) (k : Nat) (v0_in : Value) : funcA Try.prog call k 22 [v0_in] = R22.top call k v0_in := by kernel_rfl

/-! ### 23: (*aqueduct/setting.Settings).Ack (1 arguments) -/
noncomputable def R23.top (call : FuncId → List Value → AM Value) (k : Nat) (v0_in : Value) : AM Value :=
  bindV (ret (.slice none 0 0)) fun v2_0 =>
    bindV (ret (.int .i64 0)) fun v3_1 =>
    bindV (ret v0_in) fun v6_20 =>
    bindV (call 51 [v6_20]) fun v7_21 =>
    condA v7_21 (bindV (ret (.slice none 0 0)) fun v2_22 =>
    bindV (ret (.int .i64 7)) fun v3_23 =>
    ret (.tuple #[v2_22, v3_23]))
    (bindV (ret v0_in) fun v9_2 =>
    bindV (nilCheckA v9_2) fun v10_3 =>
    bindV (fieldAddrA 1 v10_3) fun v11_4 =>
    bindV (call 53 [v11_4]) fun v12_5 =>
    bindV (ret v12_5) fun v8_6 =>
    bindV (extractA v8_6 0) fun v13_7 =>
    bindV (extractA v8_6 1) fun v14_8 =>
    bindV (ret v13_7) fun v4_9 =>
    bindV (ret v14_8) fun v5_10 =>
    bindV (ret v5_10) fun v15_15 =>
    bindV (unA .not v15_15) fun v16_16 =>
    condA v16_16 (bindV (ret (.slice none 0 0)) fun v2_17 =>
    bindV (ret (.int .i64 5)) fun v3_18 =>
    ret (.tuple #[v2_17, v3_18]))
    (bindV (ret v4_9) fun v17_11 =>
    bindV (ret v17_11) fun v2_12 =>
    bindV (ret (.int .i64 0)) fun v3_13 =>
    ret (.tuple #[v2_12, v3_13])))

theorem R23.eq (call : FuncId → List Value → AM Value) (k : Nat) (v0_in : Value) : funcA Try.prog call k 23 [v0_in] = R23.top call k v0_in := by kernel_rfl

/-! ### 24: aqueduct/aqueductlaw09.lists (2 arguments) -/
noncomputable def R24.b_25 (call : FuncId → List Value → AM Value) (k : Nat) (v0_in : Value) (v1_in : Value) (rec_1_4 : Value → AM Value) (v5_5 : Value) : AM Value :=
  bindV (ret v5_5) fun v11_21 =>
    bindV (ret v0_in) fun v12_22 =>
    bindV (lenA v12_22) fun v13_23 =>
    bindV (binA Try.prog .lss 3 v11_21 v13_23) fun v14_24 =>
    condA v14_24 (bindV (ret v0_in) fun v17_10 =>
    bindV (ret v5_5) fun v18_11 =>
    bindV (indexAddrA 2 v17_10 v18_11) fun v19_12 =>
    bindV (loadA (some 2) v19_12) fun v20_13 =>
    bindV (ret v1_in) fun v21_14 =>
    bindV (ret v5_5) fun v22_15 =>
    bindV (indexAddrA 2 v21_14 v22_15) fun v23_16 =>
    bindV (loadA (some 2) v23_16) fun v24_17 =>
    bindV (binA Try.prog .neq 24 v20_13 v24_17) fun v25_18 =>
    condA v25_18 (bindV (ret (.bool false)) fun v4_19 =>
    ret v4_19)
    (bindV (ret v5_5) fun v15_6 =>
    bindV (binA Try.prog .add 3 v15_6 (.int .i64 1)) fun v16_7 =>
    bindV (ret v16_7) fun v5_8 =>
    rec_1_4 v5_8))
    (bindV (ret (.bool true)) fun v4_1 =>
    ret v4_1)

noncomputable def R24.top (call : FuncId → List Value → AM Value) (k : Nat) (v0_in : Value) (v1_in : Value) : AM Value :=
  bindV (ret (.bool false)) fun v4_0 =>
    bindV (ret v0_in) fun v6_27 =>
    bindV (lenA v6_27) fun v7_28 =>
    bindV (ret v1_in) fun v8_29 =>
    bindV (lenA v8_29) fun v9_30 =>
    bindV (binA Try.prog .neq 3 v7_28 v9_30) fun v10_31 =>
    condA v10_31 (bindV (ret (.bool false)) fun v4_32 =>
    ret v4_32)
    (bindV (ret (.int .i64 0)) fun v5_3 =>
    loop1 (R24.b_25 call k v0_in v1_in) k v5_3)

theorem R24.eq (call : FuncId → List Value → AM Value) (k : Nat) (v0_in : Value) (v1_in : Value) : funcA Try.prog call k 24 [v0_in, v1_in] = R24.top call k v0_in v1_in := by kernel_rfl

/-! ### 25: aqueduct/aqueductref09.New (0 arguments) -/
noncomputable def R25.top (call : FuncId → List Value → AM Value) (k : Nat) : AM Value :=
  bindV (ret (.pointer none)) fun v0_0 =>
    bindV (buildSliceA 22 1 9 [(.int .u32 0)] [(0, (.int .u32 0)), (1, (.int .u32 4096)), (2, (.int .u32 1)), (3, (.int .u32 4294967295)), (4, (.int .u32 65535)), (5, (.int .u32 16384)), (6, (.int .u32 4294967295)), (7, (.int .u32 0)), (8, (.int .u32 0))]) fun v1_1 =>
    bindV (buildA [(0, 1), (1, 1)] [(.slice none 0 0), (.slice none 0 0)] [(0, v1_1)]) fun v2_2 =>
    bindV (boxA 61 v2_2) fun v3_3 =>
    bindV (ret v3_3) fun v0_4 =>
    ret v0_4

theorem R25.eq (call : FuncId → List Value → AM Value) (k : Nat) : funcA Try.prog call k 25 [] = R25.top call k := by kernel_rfl

/-! ### 26: (*aqueduct/aqueductref09.Settings).Apply (2 arguments) -/
noncomputable def R26.j_29 (call : FuncId → List Value → AM Value) (k : Nat) (rec_1_24 : Value → AM Value) (v7_25 : Value) : AM Value :=
  bindV (ret v7_25) fun v20_26 =>
    bindV (binA Try.prog .add 3 v20_26 (.int .i64 1)) fun v21_27 =>
    bindV (ret v21_27) fun v7_28 =>
    rec_1_24 v7_28

noncomputable def R26.j_66 (call : FuncId → List Value → AM Value) (k : Nat) (rec_1_24 : Value → AM Value) (v0_in : Value) (v1_in : Value) (v5_1 : Value) (v7_25 : Value) (v8_36 : Value) : AM Value :=
  bindV (ret v8_36) fun v50_60 =>
    bindV (binA Try.prog .neq 3 v50_60 (.int .i64 0)) fun v51_61 =>
    condA v51_61 (bindV (ret v8_36) fun v52_62 =>
    bindV (buildA [(0, 1), (1, 1), (2, 1)] [(.bool false), (.int .i64 0), (.int .i64 0)] [(0, (.bool true)), (2, v52_62)]) fun v53_63 =>
    bindV (ret (.int .i64 0)) fun v4_64 =>
    bindV (storeA 3 v5_1 v53_63) fun _ =>
    bindV (loadA (some 3) v5_1) fun v5_65 =>
    ret (.tuple #[v4_64, v5_65]))
    (bindV (ret v1_in) fun v54_37 =>
    bindV (ret v7_25) fun v55_38 =>
    bindV (indexAddrA 2 v54_37 v55_38) fun v56_39 =>
    bindV (fieldAddrA 0 v56_39) fun v57_40 =>
    bindV (loadA none v57_40) fun v58_41 =>
    bindV (call 54 [v58_41]) fun v59_42 =>
    condA v59_42 (bindV (ret v0_in) fun v60_43 =>
    bindV (nilCheckA v60_43) fun v61_44 =>
    bindV (fieldAddrA 0 v61_44) fun v62_45 =>
    bindV (loadA none v62_45) fun v63_46 =>
    bindV (ret v1_in) fun v64_47 =>
    bindV (ret v7_25) fun v65_48 =>
    bindV (indexAddrA 2 v64_47 v65_48) fun v66_49 =>
    bindV (fieldAddrA 0 v66_49) fun v67_50 =>
    bindV (loadA none v67_50) fun v68_51 =>
    bindV (ret v1_in) fun v69_52 =>
    bindV (ret v7_25) fun v70_53 =>
    bindV (indexAddrA 2 v69_52 v70_53) fun v71_54 =>
    bindV (fieldAddrA 1 v71_54) fun v72_55 =>
    bindV (loadA none v72_55) fun v73_56 =>
    bindV (indexAddrA 1 v63_46 v68_51) fun v74_57 =>
    bindV (storeA 1 v74_57 v73_56) fun _ =>
    R26.j_29 call k rec_1_24 v7_25)
    (R26.j_29 call k rec_1_24 v7_25))

noncomputable def R26.g_82 (call : FuncId → List Value → AM Value) (k : Nat) (rec_1_24 : Value → AM Value) (v0_in : Value) (v1_in : Value) (v41_79 : Value) (v5_1 : Value) (v7_25 : Value) (v8_35 : Value) (v48_80 : Value) : AM Value :=
  bindV (pickA v41_79 v48_80 (.bool false)) fun v49_81 =>
    condA v49_81 (bindV (ret (.int .i64 1)) fun v8_68 =>
    R26.j_66 call k rec_1_24 v0_in v1_in v5_1 v7_25 v8_68)
    (R26.j_66 call k rec_1_24 v0_in v1_in v5_1 v7_25 v8_35)

noncomputable def R26.g_90 (call : FuncId → List Value → AM Value) (k : Nat) (rec_1_24 : Value → AM Value) (v0_in : Value) (v1_in : Value) (v33_76 : Value) (v5_1 : Value) (v7_25 : Value) (v8_35 : Value) (v39_77 : Value) : AM Value :=
  bindV (pickA v33_76 v39_77 (.bool false)) fun v40_78 =>
    bindV (ret v40_78) fun v41_79 =>
    guardA true v41_79 (bindV (ret v0_in) fun v42_83 =>
    bindV (nilCheckA v42_83) fun v43_84 =>
    bindV (fieldAddrA 0 v43_84) fun v44_85 =>
    bindV (loadA none v44_85) fun v45_86 =>
    bindV (indexAddrA 1 v45_86 (.int .i64 8)) fun v46_87 =>
    bindV (loadA none v46_87) fun v47_88 =>
    bindV (binA Try.prog .eql 22 v47_88 (.int .u32 1)) fun v48_89 =>
    R26.g_82 call k rec_1_24 v0_in v1_in v41_79 v5_1 v7_25 v8_35 v48_89)
    (R26.g_82 call k rec_1_24 v0_in v1_in v41_79 v5_1 v7_25 v8_35 (.tuple #[]))

noncomputable def R26.b_102 (call : FuncId → List Value → AM Value) (k : Nat) (v0_in : Value) (v1_in : Value) (v5_1 : Value) (v6_9 : Value) (rec_1_24 : Value → AM Value) (v7_25 : Value) : AM Value :=
  bindV (ret v7_25) fun v16_98 =>
    bindV (ret v1_in) fun v17_99 =>
    bindV (lenA v17_99) fun v18_100 =>
    bindV (binA Try.prog .lss 3 v16_98 v18_100) fun v19_101 =>
    condA v19_101 (bindV (ret v1_in) fun v22_30 =>
    bindV (ret v7_25) fun v23_31 =>
    bindV (indexAddrA 2 v22_30 v23_31) fun v24_32 =>
    bindV (loadA (some 2) v24_32) fun v25_33 =>
    bindV (call 16 [v25_33]) fun v26_34 =>
    bindV (ret v26_34) fun v8_35 =>
    bindV (ret v1_in) fun v27_70 =>
    bindV (ret v7_25) fun v28_71 =>
    bindV (indexAddrA 2 v27_70 v28_71) fun v29_72 =>
    bindV (fieldAddrA 0 v29_72) fun v30_73 =>
    bindV (loadA none v30_73) fun v31_74 =>
    bindV (binA Try.prog .eql 3 v31_74 (.int .i64 8)) fun v32_75 =>
    bindV (ret v32_75) fun v33_76 =>
    guardA true v33_76 (bindV (ret v1_in) fun v34_91 =>
    bindV (ret v7_25) fun v35_92 =>
    bindV (indexAddrA 2 v34_91 v35_92) fun v36_93 =>
    bindV (fieldAddrA 1 v36_93) fun v37_94 =>
    bindV (loadA none v37_94) fun v38_95 =>
    bindV (binA Try.prog .eql 22 v38_95 (.int .u32 0)) fun v39_96 =>
    R26.g_90 call k rec_1_24 v0_in v1_in v33_76 v5_1 v7_25 v8_35 v39_96)
    (R26.g_90 call k rec_1_24 v0_in v1_in v33_76 v5_1 v7_25 v8_35 (.tuple #[])))
    (bindV (ret v0_in) fun v75_10 =>
    bindV (nilCheckA v75_10) fun v76_11 =>
    bindV (fieldAddrA 0 v76_11) fun v77_12 =>
    bindV (loadA none v77_12) fun v78_13 =>
    bindV (indexAddrA 1 v78_13 (.int .i64 4)) fun v79_14 =>
    bindV (loadA none v79_14) fun v80_15 =>
    bindV (convIntA .i64 v80_15) fun v81_16 =>
    bindV (ret v6_9) fun v82_17 =>
    bindV (binA Try.prog .sub 3 v81_16 v82_17) fun v83_18 =>
    bindV (buildA [(0, 1), (1, 1), (2, 1)] [(.bool false), (.int .i64 0), (.int .i64 0)] []) fun v84_19 =>
    bindV (ret v83_18) fun v4_20 =>
    bindV (storeA 3 v5_1 v84_19) fun _ =>
    bindV (loadA (some 3) v5_1) fun v5_21 =>
    ret (.tuple #[v4_20, v5_21]))

noncomputable def R26.top (call : FuncId → List Value → AM Value) (k : Nat) (v0_in : Value) (v1_in : Value) : AM Value :=
  bindV (ret (.int .i64 0)) fun v4_0 =>
    bindV (newA [(.bool false), (.int .i64 0), (.int .i64 0)] 33) fun v5_1 =>
    bindV (ret v0_in) fun v9_2 =>
    bindV (nilCheckA v9_2) fun v10_3 =>
    bindV (fieldAddrA 0 v10_3) fun v11_4 =>
    bindV (loadA none v11_4) fun v12_5 =>
    bindV (indexAddrA 1 v12_5 (.int .i64 4)) fun v13_6 =>
    bindV (loadA none v13_6) fun v14_7 =>
    bindV (convIntA .i64 v14_7) fun v15_8 =>
    bindV (ret v15_8) fun v6_9 =>
    bindV (ret (.int .i64 0)) fun v7_23 =>
    loop1 (R26.b_102 call k v0_in v1_in v5_1 v6_9) k v7_23

theorem R26.eq (call : FuncId → List Value → AM Value) (k : Nat) (v0_in : Value) (v1_in : Value) : funcA Try.prog call k 26 [v0_in, v1_in] = R26.top call k v0_in v1_in := by kernel_rfl

/-! ### 27: (*aqueduct/aqueductref09.Settings).Offer (2 arguments) -/
noncomputable def R27.top (call : FuncId → List Value → AM Value) (k : Nat) (v0_in : Value) (v1_in : Value) : AM Value :=
  bindV (ret v0_in) fun v4_0 =>
    bindV (ret v0_in) fun v5_1 =>
    bindV (nilCheckA v5_1) fun v6_2 =>
    bindV (fieldAddrA 1 v6_2) fun v7_3 =>
    bindV (loadA none v7_3) fun v8_4 =>
    bindV (buildSliceA 24 2 0 [(.int .i64 0), (.int .u32 0)] []) fun v9_6 =>
    hereV [((loadA none v7_3 : AM Value), (v8_4 : Value))] (
    bindV (ret v1_in) fun v10_7 =>
    bindV (appendA 24 2 16 v9_6 v10_7) fun v11_9 =>
    hereV [((loadA none v7_3 : AM Value), (v8_4 : Value))] (
    bindV (buildSliceA 36 1 1 [(.slice none 0 0)] [(0, v11_9)]) fun v12_11 =>
    hereV [((loadA none v7_3 : AM Value), (v8_4 : Value))] (
    bindV (appendA 36 1 24 v8_4 v12_11) fun v13_13 =>
    bindV (nilCheckA v4_0) fun v14_14 =>
    bindV (fieldAddrA 1 v14_14) fun v15_15 =>
    bindV (storeA 1 v15_15 v13_13) fun _ =>
    ret (.tuple #[]))))

theorem R27.eq (call : FuncId → List Value → AM Value) (k : Nat) (v0_in : Value) (v1_in : Value) : funcA Try.prog call k 27 [v0_in, v1_in] = R27.top call k v0_in v1_in := by kernel_rfl

/-! ### 28: (*aqueduct/aqueductref09.Settings).Ack (1 arguments) -/
noncomputable def R28.top (call : FuncId → List Value → AM Value) (k : Nat) (v0_in : Value) : AM Value :=
  bindV (ret (.slice none 0 0)) fun v2_0 =>
    bindV (ret (.int .i64 0)) fun v3_1 =>
    bindV (ret v0_in) fun v5_21 =>
    bindV (nilCheckA v5_21) fun v6_22 =>
    bindV (fieldAddrA 1 v6_22) fun v7_23 =>
    bindV (loadA none v7_23) fun v8_24 =>
    bindV (lenA v8_24) fun v9_25 =>
    bindV (binA Try.prog .eql 3 v9_25 (.int .i64 0)) fun v10_26 =>
    condA v10_26 (bindV (ret (.slice none 0 0)) fun v2_27 =>
    bindV (ret (.int .i64 5)) fun v3_28 =>
    ret (.tuple #[v2_27, v3_28]))
    (bindV (ret v0_in) fun v11_2 =>
    bindV (nilCheckA v11_2) fun v12_3 =>
    bindV (fieldAddrA 1 v12_3) fun v13_4 =>
    bindV (loadA none v13_4) fun v14_5 =>
    bindV (indexAddrA 1 v14_5 (.int .i64 0)) fun v15_6 =>
    bindV (loadA none v15_6) fun v16_7 =>
    bindV (ret v16_7) fun v4_8 =>
    bindV (ret v0_in) fun v17_9 =>
    bindV (ret v0_in) fun v18_10 =>
    bindV (nilCheckA v18_10) fun v19_11 =>
    bindV (fieldAddrA 1 v19_11) fun v20_12 =>
    bindV (loadA none v20_12) fun v21_13 =>
    bindV (sliceA 1 v21_13 (some (.int .i64 1)) none) fun v22_14 =>
    bindV (nilCheckA v17_9) fun v23_15 =>
    bindV (fieldAddrA 1 v23_15) fun v24_16 =>
    bindV (storeA 1 v24_16 v22_14) fun _ =>
    bindV (ret v4_8) fun v25_17 =>
    bindV (ret v25_17) fun v2_18 =>
    bindV (ret (.int .i64 0)) fun v3_19 =>
    ret (.tuple #[v2_18, v3_19]))

theorem R28.eq (call : FuncId → List Value → AM Value) (k : Nat) (v0_in : Value) : funcA Try.prog call k 28 [v0_in] = R28.top call k v0_in := by kernel_rfl

/-! ### 29: (*aqueduct/aqueductref09.Settings).Get (2 arguments) -/
noncomputable def R29.top (call : FuncId → List Value → AM Value) (k : Nat) (v0_in : Value) (v1_in : Value) : AM Value :=
  bindV (ret (.int .u32 0)) fun v4_0 =>
    bindV (ret v1_in) fun v5_10 =>
    bindV (call 54 [v5_10]) fun v6_11 =>
    bindV (unA .not v6_11) fun v7_12 =>
    condA v7_12 (bindV (ret (.int .u32 0)) fun v4_13 =>
    ret v4_13)
    (bindV (ret v0_in) fun v8_1 =>
    bindV (nilCheckA v8_1) fun v9_2 =>
    bindV (fieldAddrA 0 v9_2) fun v10_3 =>
    bindV (loadA none v10_3) fun v11_4 =>
    bindV (ret v1_in) fun v12_5 =>
    bindV (indexAddrA 1 v11_4 v12_5) fun v13_6 =>
    bindV (loadA none v13_6) fun v14_7 =>
    bindV (ret v14_7) fun v4_8 =>
    ret v4_8)

theorem R29.eq (call : FuncId → List Value → AM Value) (k : Nat) (v0_in : Value) (v1_in : Value) : funcA Try.prog call k 29 [v0_in, v1_in] = R29.top call k v0_in v1_in := by kernel_rfl

/-! ### 50: aqueduct/setting.rules (0 arguments) -/
noncomputable def R50.top (call : FuncId → List Value → AM Value) (k : Nat) : AM Value :=
  bindV (ret (.map none)) fun v0_0 =>
    bindV (ret (.func (.func 61) #[] #[])) fun v1_1 =>
    bindV (ret (.func (.func 62) #[] #[])) fun v2_2 =>
    bindV (newMapA) fun v3_3 =>
    bindV (ret v1_1) fun v4_4 =>
    bindV (buildA [(0, 1), (1, 1)] [(.int .u32 0), .nilFunc] [(0, (.int .u32 4096)), (1, v4_4)]) fun v5_5 =>
    bindV (mapSetA v3_3 (.int .i64 1) v5_5) fun _ =>
    bindV (ret v2_2) fun v6_6 =>
    bindV (callA call v6_6 [(.int .u32 0), (.int .u32 1), (.int .i64 1)]) fun v7_7 =>
    bindV (buildA [(0, 1), (1, 1)] [(.int .u32 0), .nilFunc] [(0, (.int .u32 1)), (1, v7_7)]) fun v8_8 =>
    bindV (mapSetA v3_3 (.int .i64 2) v8_8) fun _ =>
    bindV (ret v1_1) fun v9_9 =>
    bindV (buildA [(0, 1), (1, 1)] [(.int .u32 0), .nilFunc] [(0, (.int .u32 4294967295)), (1, v9_9)]) fun v10_10 =>
    bindV (mapSetA v3_3 (.int .i64 3) v10_10) fun _ =>
    bindV (ret v2_2) fun v11_11 =>
    bindV (callA call v11_11 [(.int .u32 0), (.int .u32 2147483647), (.int .i64 3)]) fun v12_12 =>
    bindV (buildA [(0, 1), (1, 1)] [(.int .u32 0), .nilFunc] [(0, (.int .u32 65535)), (1, v12_12)]) fun v13_13 =>
    bindV (mapSetA v3_3 (.int .i64 4) v13_13) fun _ =>
    bindV (ret v2_2) fun v14_14 =>
    bindV (callA call v14_14 [(.int .u32 16384), (.int .u32 16777215), (.int .i64 1)]) fun v15_15 =>
    bindV (buildA [(0, 1), (1, 1)] [(.int .u32 0), .nilFunc] [(0, (.int .u32 16384)), (1, v15_15)]) fun v16_16 =>
    bindV (mapSetA v3_3 (.int .i64 5) v16_16) fun _ =>
    bindV (ret v1_1) fun v17_17 =>
    bindV (buildA [(0, 1), (1, 1)] [(.int .u32 0), .nilFunc] [(0, (.int .u32 4294967295)), (1, v17_17)]) fun v18_18 =>
    bindV (mapSetA v3_3 (.int .i64 6) v18_18) fun _ =>
    bindV (ret v2_2) fun v19_19 =>
    bindV (callA call v19_19 [(.int .u32 0), (.int .u32 1), (.int .i64 1)]) fun v20_20 =>
    bindV (buildA [(0, 1), (1, 1)] [(.int .u32 0), .nilFunc] [(0, (.int .u32 0)), (1, v20_20)]) fun v21_21 =>
    bindV (mapSetA v3_3 (.int .i64 8) v21_21) fun _ =>
    bindV (ret v3_3) fun v22_22 =>
    bindV (ret v22_22) fun v0_23 =>
    ret v0_23

theorem R50.eq (call : FuncId → List Value → AM Value) (k : Nat) : funcA Try.prog call k 50 [] = R50.top call k := by kernel_rfl

/-! ### 51: (*aqueduct/setting.Settings).none (1 arguments) -/
noncomputable def R51.g_9 (call : FuncId → List Value → AM Value) (k : Nat) (v5_5 : Value) (v10_6 : Value) : AM Value :=
  bindV (pickA v5_5 (.bool true) v10_6) fun v11_7 =>
    bindV (ret v11_7) fun v2_8 =>
    ret v2_8

noncomputable def R51.top (call : FuncId → List Value → AM Value) (k : Nat) (v0_in : Value) : AM Value :=
  bindV (ret (.bool false)) fun v2_0 =>
    bindV (ret v0_in) fun v3_3 =>
    bindV (binA Try.prog .eql 29 v3_3 (.pointer none)) fun v4_4 =>
    bindV (ret v4_4) fun v5_5 =>
    guardA false v5_5 (bindV (ret v0_in) fun v6_10 =>
    bindV (nilCheckA v6_10) fun v7_11 =>
    bindV (fieldAddrA 0 v7_11) fun v8_12 =>
    bindV (loadA none v8_12) fun v9_13 =>
    bindV (binA Try.prog .eql 45 v9_13 (.map none)) fun v10_14 =>
    R51.g_9 call k v5_5 v10_14)
    (R51.g_9 call k v5_5 (.tuple #[]))

theorem R51.eq (call : FuncId → List Value → AM Value) (k : Nat) (v0_in : Value) : funcA Try.prog call k 51 [v0_in] = R51.top call k v0_in := by kernel_rfl

/-! ### 52: (*aqueduct/setting.line[[]aqueduct/api.Setting]).put (2 arguments) -/
noncomputable def R52.top (call : FuncId → List Value → AM Value) (k : Nat) (v0_in : Value) (v1_in : Value) : AM Value :=
  bindV (ret v0_in) fun v4_0 =>
    bindV (ret v0_in) fun v5_1 =>
    bindV (nilCheckA v5_1) fun v6_2 =>
    bindV (fieldAddrA 0 v6_2) fun v7_3 =>
    bindV (loadA none v7_3) fun v8_4 =>
    bindV (ret v1_in) fun v9_5 =>
    bindV (buildSliceA 36 1 1 [(.slice none 0 0)] [(0, v9_5)]) fun v10_6 =>
    bindV (appendA 36 1 24 v8_4 v10_6) fun v11_7 =>
    bindV (nilCheckA v4_0) fun v12_8 =>
    bindV (fieldAddrA 0 v12_8) fun v13_9 =>
    bindV (storeA 1 v13_9 v11_7) fun _ =>
    ret (.tuple #[])

theorem R52.eq (call : FuncId → List Value → AM Value) (k : Nat) (v0_in : Value) (v1_in : Value) : funcA Try.prog call k 52 [v0_in, v1_in] = R52.top call k v0_in v1_in := by kernel_rfl

/-! ### 53: (*aqueduct/setting.line[[]aqueduct/api.Setting]).take (1 arguments) -/
noncomputable def R53.top (call : FuncId → List Value → AM Value) (k : Nat) (v0_in : Value) : AM Value :=
  bindV (ret (.slice none 0 0)) fun v2_0 =>
    bindV (ret (.bool false)) fun v3_1 =>
    bindV (ret (.slice none 0 0)) fun v4_2 =>
    bindV (ret v0_in) fun v5_22 =>
    bindV (nilCheckA v5_22) fun v6_23 =>
    bindV (fieldAddrA 0 v6_23) fun v7_24 =>
    bindV (loadA none v7_24) fun v8_25 =>
    bindV (lenA v8_25) fun v9_26 =>
    bindV (binA Try.prog .eql 3 v9_26 (.int .i64 0)) fun v10_27 =>
    condA v10_27 (bindV (ret v4_2) fun v11_28 =>
    bindV (ret v11_28) fun v2_29 =>
    bindV (ret (.bool false)) fun v3_30 =>
    ret (.tuple #[v2_29, v3_30]))
    (bindV (ret v0_in) fun v12_3 =>
    bindV (nilCheckA v12_3) fun v13_4 =>
    bindV (fieldAddrA 0 v13_4) fun v14_5 =>
    bindV (loadA none v14_5) fun v15_6 =>
    bindV (indexAddrA 1 v15_6 (.int .i64 0)) fun v16_7 =>
    bindV (loadA none v16_7) fun v17_8 =>
    bindV (ret v17_8) fun v4_9 =>
    bindV (ret v0_in) fun v18_10 =>
    bindV (ret v0_in) fun v19_11 =>
    bindV (nilCheckA v19_11) fun v20_12 =>
    bindV (fieldAddrA 0 v20_12) fun v21_13 =>
    bindV (loadA none v21_13) fun v22_14 =>
    bindV (sliceA 1 v22_14 (some (.int .i64 1)) none) fun v23_15 =>
    bindV (nilCheckA v18_10) fun v24_16 =>
    bindV (fieldAddrA 0 v24_16) fun v25_17 =>
    bindV (storeA 1 v25_17 v23_15) fun _ =>
    bindV (ret v4_9) fun v26_18 =>
    bindV (ret v26_18) fun v2_19 =>
    bindV (ret (.bool true)) fun v3_20 =>
    ret (.tuple #[v2_19, v3_20]))

theorem R53.eq (call : FuncId → List Value → AM Value) (k : Nat) (v0_in : Value) : funcA Try.prog call k 53 [v0_in] = R53.top call k v0_in := by kernel_rfl

/-! ### 54: aqueduct/aqueductref09.known (1 arguments) -/
noncomputable def R54.g_12 (call : FuncId → List Value → AM Value) (k : Nat) (v9_8 : Value) (v11_9 : Value) : AM Value :=
  bindV (pickA v9_8 v11_9 (.bool false)) fun v12_10 =>
    bindV (ret v12_10) fun v2_11 =>
    ret v2_11

noncomputable def R54.g_15 (call : FuncId → List Value → AM Value) (k : Nat) (v0_in : Value) (v5_5 : Value) (v7_6 : Value) : AM Value :=
  bindV (pickA v5_5 v7_6 (.bool false)) fun v8_7 =>
    bindV (ret v8_7) fun v9_8 =>
    guardA true v9_8 (bindV (ret v0_in) fun v10_13 =>
    bindV (binA Try.prog .neq 3 v10_13 (.int .i64 7)) fun v11_14 =>
    R54.g_12 call k v9_8 v11_14)
    (R54.g_12 call k v9_8 (.tuple #[]))

noncomputable def R54.top (call : FuncId → List Value → AM Value) (k : Nat) (v0_in : Value) : AM Value :=
  bindV (ret (.bool false)) fun v2_0 =>
    bindV (ret v0_in) fun v3_3 =>
    bindV (binA Try.prog .geq 3 v3_3 (.int .i64 1)) fun v4_4 =>
    bindV (ret v4_4) fun v5_5 =>
    guardA true v5_5 (bindV (ret v0_in) fun v6_16 =>
    bindV (binA Try.prog .leq 3 v6_16 (.int .i64 8)) fun v7_17 =>
    R54.g_15 call k v0_in v5_5 v7_17)
    (R54.g_15 call k v0_in v5_5 (.tuple #[]))

theorem R54.eq (call : FuncId → List Value → AM Value) (k : Nat) (v0_in : Value) : funcA Try.prog call k 54 [v0_in] = R54.top call k v0_in := by kernel_rfl

/-! ### 61: aqueduct/setting.rules$1 (1 arguments) -/
noncomputable def R61.top (call : FuncId → List Value → AM Value) (k : Nat) (v0_in : Value) : AM Value :=
  bindV (ret (.int .i64 0)) fun v2_0 =>
    bindV (ret (.int .i64 0)) fun v2_1 =>
    ret v2_1

theorem R61.eq (call : FuncId → List Value → AM Value) (k : Nat) (v0_in : Value) : funcA Try.prog call k 61 [v0_in] = R61.top call k v0_in := by kernel_rfl

/-! ### 62: aqueduct/setting.rules$2 (3 arguments) -/
noncomputable def R62.top (call : FuncId → List Value → AM Value) (k : Nat) (v0_in : Value) (v1_in : Value) (v2_in : Value) : AM Value :=
  bindV (boxA 22 v0_in) fun v3_0 =>
    bindV (boxA 22 v1_in) fun v4_1 =>
    bindV (boxA 3 v2_in) fun v5_2 =>
    bindV (ret .nilFunc) fun v6_3 =>
    bindV (ret (.func (.func 63) #[] #[v3_0, v4_1, v5_2])) fun v7_4 =>
    bindV (ret v7_4) fun v6_5 =>
    ret v6_5

theorem R62.eq (call : FuncId → List Value → AM Value) (k : Nat) (v0_in : Value) (v1_in : Value) (v2_in : Value) : funcA Try.prog call k 62 [v0_in, v1_in, v2_in] = R62.top call k v0_in v1_in v2_in := by kernel_rfl

/-! ### 63: aqueduct/setting.rules$2$1 (4 arguments) -/
noncomputable def R63.g_13 (call : FuncId → List Value → AM Value) (k : Nat) (v3_in : Value) (v9_10 : Value) (v12_11 : Value) : AM Value :=
  bindV (pickA v9_10 (.bool true) v12_11) fun v13_12 =>
    condA v13_12 (bindV (loadA none v3_in) fun v14_4 =>
    bindV (ret v14_4) fun v5_5 =>
    ret v5_5)
    (bindV (ret (.int .i64 0)) fun v5_1 =>
    ret v5_1)

noncomputable def R63.top (call : FuncId → List Value → AM Value) (k : Nat) (v0_in : Value) (v1_in : Value) (v2_in : Value) (v3_in : Value) : AM Value :=
  bindV (ret (.int .i64 0)) fun v5_0 =>
    bindV (ret v0_in) fun v6_7 =>
    bindV (loadA none v1_in) fun v7_8 =>
    bindV (binA Try.prog .lss 22 v6_7 v7_8) fun v8_9 =>
    bindV (ret v8_9) fun v9_10 =>
    guardA false v9_10 (bindV (ret v0_in) fun v10_14 =>
    bindV (loadA none v2_in) fun v11_15 =>
    bindV (binA Try.prog .gtr 22 v10_14 v11_15) fun v12_16 =>
    R63.g_13 call k v3_in v9_10 v12_16)
    (R63.g_13 call k v3_in v9_10 (.tuple #[]))

theorem R63.eq (call : FuncId → List Value → AM Value) (k : Nat) (v0_in : Value) (v1_in : Value) (v2_in : Value) (v3_in : Value) : funcA Try.prog call k 63 [v0_in, v1_in, v2_in, v3_in] = R63.top call k v0_in v1_in v2_in v3_in := by kernel_rfl

end Go.Proofs.Ytlgeeibaohdjhaa
